/-
  Lemmas for T, part 5.
  Conditions: as each lemma says.
-/
import Derived.Test.YtnhheaffnpflfaaGreatCu4
import Derived.WideKeyEntry
set_option maxRecDepth 100000
set_option maxHeartbeats 4000000
set_option linter.unusedSimpArgs false
set_option linter.unusedVariables false
open Array renaming ext'->aA,getElem?_eq_some_iff->aB,mem_append->aC,mem_toList_iff->aD,toList_map->aE,toList_modify->aF,toList_push->aG
open Bool renaming and_eq_false_iff->aH,and_eq_true->aI,beq_comm->aJ,eq_iff_iff->aK,false->aL,false_and->aM,false_eq_true->aN,false_or->aO,not_eq_false'->aP,not_eq_true'->aR,not_false->aS,not_not->aT,not_true->aU,or_eq_false_iff->aV,or_eq_true->aW,or_false->aX,or_true->aY,true->aZ,true_and->a6
open Classical renaming byContradiction->a7
open Decidable renaming decide->a8
open Go renaming MapEntry->bJ,Oper->bN,Operand->bO,Program->bP,TypeId->bW,Value->bX,World->cA,execOp->cB,maxLen->cC,run_underlying->cD
open Go.Instr renaming entryStore->bA,mapEntry->bB,mapUpdate->bC
open Go.IntKind renaming bits->bD,i64->bE,max->bF,min->bG,signed->bH
open Go.IntWalk renaming i64_in->bI
open Go.MapKept renaming run_getObj_map->bK,run_setObj_map->bL
open Go.Op renaming operands->bM
open Go.Proofs.Tryz renaming func9->bR,ntmps9->bS,prog->bT,underlying77->bU
open Go.Result renaming andThen->bV
open Go.Value renaming int->bY
open Go.WideElems renaming findIdx_arr->bZ,findIdx_born->b9
open Int renaming le_refl->cE,toNat_natCast->cF,toNat_of_nonneg->cG
open List renaming all_eq_true->cL,any_cons->cM,any_eq_false->cN,any_eq_true->cO,append_assoc->cP,append_inj'->cQ,append_nil->cR,concat_eq_append->cT,cons_append->cU,contains_iff_mem->cV,countP_cons_of_pos->cW,countP_eq_length_filter->cX,countP_eq_zero->cY,countP_le_length->cZ,drop_zero->dA,eq_nil_of_length_eq_zero->dB,eq_nil_or_concat->dC,exists_mem_of_ne_nil->dD,ext_getElem?->dE,filter_append->dF,filter_congr->dG,filter_cons->dH,filter_cons_of_neg->dI,filter_cons_of_pos->dJ,filter_eq_nil_iff->dK,filter_eq_self->dL,filter_nil->dM,find?_eq_none->dN,flatMap_cons->dO,foldl_append->dP,foldl_cons->dQ,getD->dR,getD_eq_getElem?_getD->dT,getElem?_append_left->dU,getElem?_append_right->dV,getElem?_eq_getElem->dW,getElem?_eq_none->dX,getElem?_eq_some_iff->dY,getElem?_map->dZ,getElem?_of_mem->eA,getElem?_range->eB,getElem?_replicate->eC,getElem?_set->eD,getElem?_set_ne->eE,getElem?_set_self->eF,getElem?_zip_eq_some->eG,getElem_mem->eH,head?_drop->eI,length_append->eJ,length_cons->eK,length_filter_le->eL,length_map->eM,length_range->eN,length_replicate->eO,length_reverse->eP,length_set->eQ,length_take->eR,map_append->eS,map_cons->eT,map_map->eU,map_nil->eV,mem_append->eW,mem_append_left->eX,mem_append_right->eY,mem_cons->eZ,mem_cons_of_mem->fA,mem_cons_self->fB,mem_erase_of_ne->fC,mem_filter->fD,mem_flatMap->fE,mem_iff_getElem?->fF,mem_map->fG,mem_of_getElem?->fH,mem_of_mem_take->fI,mem_or_eq_of_mem_set->fJ,mem_range->fK,mem_replicate->fL,mem_reverse->fM,mem_singleton->fN,ne_nil_of_mem->fO,nil_append->fP,nodup_append->fQ,nodup_cons->fR,nodup_nil->fS,not_mem_nil->fT,pairwise_cons->fU,pairwise_iff_getElem->fV,pairwise_map->fW,prefix_append_right_inj->fX,range->fY,range'->fZ,range'_succ->gB,range_eq_range'->gC,range_succ->gD,replicate->gE,reverse_append->gF,reverse_cons->gG,sum_cons->gH,take_add_one->gI,take_length->gJ,take_of_length_le->gK,take_one->gL,take_sublist->gN
open List.Pairwise renaming filter->cH,imp->cI,nil->cJ
open Mu renaming ABlk->gO,Block->gU,CGraph->gV,FStep->gY,FineF->g8,Func->g9,Hint->hZ,OkGr->iN,Pair->iS,Plan->iT
open Mu.ABlk renaming res->gP
open Mu.AOp renaming turn->gQ
open Mu.AV renaming rel->gR
open Mu.Awp renaming region->gT
open Mu.Cut renaming dead->gW,nil->gX
open Mu.Fin renaming cl->gZ
open Mu.M renaming bnd->iA,chk->iB,cnd->iC,els->iD,els_l->iE,els_r->iF,loop->iG,loop_in->iH,loop_inv->iI,loop_out->iJ,ok->iK,to_whn->iL,whn_f->iM
open Mu.OpnB renaming any->iO,keep->iP,nil->iQ,ptr->iR
open Mu.St.le renaming refl->iU
open Nat renaming le_antisymm->iV,le_of_ble_eq_true->iW,le_of_not_lt->iX,le_refl->iY,le_trans->iZ,lt_or_ge->i6,lt_succ_self->i7,lt_trichotomy->i8,mul_add->i9,mul_le_mul->jA,mul_le_mul_left->jB,mul_one->jC,not_lt_zero->jD,zero_add->jE,zero_le->jF
open Option renaming getD_some->jG,isSome_iff_exists->jH,isSome_map->jI,map_eq_some_iff->jJ,none->jK,some->jL,toList_some->jM
abbrev Mu.zap:=And.intro @aI (And.intro @aR (And.intro @aV (@decide_eq_false_iff_not)))
namespace Mu
open Go Go.RowKit Go.Proofs Go.Maps
variable{A:List (Int×Int)}{C:Ctx}{G:gV}{Q:Int->Prop}{h:List gO}{l:List Int}{out:List (Int×Int)}{p r:Int}{t:List AV}{x:Int}
def Azu(A:List (Int×Int))(a:List Int)(p:Nat×bX):Res:=Res.and (EI (bY .i64) A p.1) (rowR p.2 3 tInt a)
def AAv(p:Nat×bX):bX:=.tuple #[.map (jL p.1),p.2]
theorem Qb.at{H:List gO}{a b:AV}{new:List AV}(e:a=b)(p:Qb H b new):Qb H a new:=e▸p
theorem Od{a:List Int}(p:Nat×bX)(w:cA)(S S':Nat->Prop)(h:(Azu A a p).R w S):(Azu A a p).R w S':=⟨h.1,XW h.2.1,h.2.2⟩
theorem O9(G:gV)(out:List (Int×Int))(q:iN G):Nd bT 26 [.bp Bc G 0,.tv tMapI out] (Azu (BH G out).1 (BH G out).2) AAv:=by
 have L:=Akr G out q.toOkG;obtain⟨l,Z⟩:∃l,l=CY G out:=⟨_,rfl⟩
 have aq:l.length<=1073741824:=by rw[Z];exact Ra q.toOkG
 rw[<-Z]at L;refine Qe (uy:=27) (ty:=51) Tryz.func26 V (by kernel_rfl) V (by kernel_rfl) (by kernel_rfl) Tryz.ntmps26 Od λC hC ao=>?_
 simp only[Nat.reduceAdd,Nat.reduceSub,zaa];refine wR (hx:=by((repeat(first|(refine AF V (AOp.boxI 1 V V (Qb.one One.bp).weak ?_);refine sNt ?_)|refine sA ?_|refine AO ?_|refine sAG ?_|refine Bq ?_));exact CV V)) (hk:=?_);refine AK _ (EQ hC 1 2 V V Zb.bp) ?_;refine nT ?_;refine Awp.scope ?_;refine wRK λK2 ay=>?_
 refine AF V (Ke (bY .i64) V λm=>?_);refine DU ?_ (Aq IK);refine AF V (CU (new:=[_]) V V V (Qb.one (One.lit V)) V (iW V) ?_);refine DU ?_ Qx;refine Au (ay _ ?_);refine Ab λK3 h3=>?_
 refine Awp.label ?_;refine h3 _ ?_;refine nT ?_;refine Ab λK4 h4=>?_
 refine Bu 2 V V V (λa=>(.any::.tv tMapI out::.bp (Kg Bc) G 0::.any::.lit (.pointer (jL ⟨a,0,jK⟩))::.ptr 3 0::A20 (A9 []))) (λg=>(by(repeat(first|exact iQ|refine iR ?_|refine iO ?_|refine iP V ?_)))) λa=>?_
 refine Bu 3 V V V (λc=>(.any::.tv tMapI out::.bp (Kg Bc) G 0::.any::.lit (.pointer (jL ⟨a,0,jK⟩))::.lit (.pointer (jL ⟨c,0,jK⟩))::A20 (A9 []))) (λg=>(by(repeat(first|exact iQ|refine iR ?_|refine iO ?_|refine iP V ?_)))) λc=>?_
 refine AK _ (J9 3 tInt (by decide)) ?_;refine nT ?_;refine wRK λK5 ax=>?_
 refine sA ?_ (AC V Fm V) (Aq KK);refine sA ?_ (AT.move V Gi) (Aq IF);refine sA ?_ (AE V V L V V) (Aq I5);refine AF V (Cs V (SG l) (λ_=>rfl) V V λbp=>?_);refine DU ?_ (Aq GK);refine Au (ax _ ?_);refine Ad ?_;refine AK ⟨(A2 (.bp (Kg Bc) G 0::.any::.lit (.pointer (jL ⟨a,0,jK⟩))::.lit (.pointer (jL ⟨c,0,jK⟩))::A7 (.lit (Azz bp)::A20 [.any]))),[.res (Bl []),.dead,.res (Bf a [.lit (.map (jL m))]),.res (Bf c [.lit (.slice jK 0 0)]),.res (EI (bY .i64) [] m),.res (rowR (.slice jK 0 0) 3 tInt []),.res (At9 l bp)]⟩ (AS) ?_;refine HN (J:=bX) 6 0 (λk v=>[.dead,.dead,.res (Bf a [.lit (.map (jL m))]),.res (Bf c [.lit v]),.res (EI (bY .i64) (Jh G out k).1 m),.res (rowR v 3 tInt (Jh G out k).2),.dead]) (.slice jK 0 0) ao V (by decide) V V V ?_ V (λ_ _=>rfl) (λ_ _=>rfl) V (λk _ _ ⟨_,h,_⟩=>h▸⟨Arp l k,Amm l k⟩) (Qd (N:=l.length) (encs:=Ajh l) (by kernel_rfl) λw S hS hF hR=>QJ l (iZ aq (by decide)) bp w S hS hF hR) ?_ ?_
 ·exact⟨.dead (.cons (.cons (.cons (.cons (.cons (.dead (.nil _))))))),λb z=>cL.1 (show bdH [.dead,.dead,.res (Bf a [.lit (.map (jL m))]),.res (Bf c [.lit (.slice jK 0 0)]),.res (EI (bY .i64) (Jh G out 0).1 m),.res (rowR (.slice jK 0 0) 3 tInt (Jh G out 0).2),.dead]=aZ from V) b z⟩
 ·rintro k v _ _ ⟨hk,rfl,rfl⟩ C' bi;have ar:k < (CY G out).length:=by rw[<-Z];exact hk
  obtain⟨r,hr⟩:∃r,l[l.length - 1 - k]? =jL r:=⟨_,dW (by omega)⟩
  have ap:(CY G out)[(CY G out).length - 1 - k]? =jL r:=by rw[<-Z];exact hr
  have an:r∈G.regs:=ZV q.toOkG r (by rw[<-Z];exact fH hr);have B:wfB .i64 r=aZ:=q.regs r an;have hI:=JT q out k (by omega);have ac:=Pa ap ar;have ag:Ajh l k= [.lit (.int .i64 ((l.length - 1 - k:Nat):Int)),.lit (.int .i64 r)]:=by unfold Ajh;rw[hr]
  rw[ag];obtain⟨⟨A,d⟩,hs⟩:∃s,s=Jh G out k:=⟨_,rfl⟩
  rw[<-hs]at hI ac⊢;rw[ac];obtain⟨bb,ak,al⟩:=hI;dsimp only at bb ak al;refine C6 (t':=(A2 (.bp (Kg Bc) G 0::.any::.lit (.pointer (jL ⟨a,0,jK⟩))::.lit (.pointer (jL ⟨c,0,jK⟩))::A7 (.lit (Azz bp)::.lit (.int .i64 ((l.length - 1 - k:Nat):Int))::.lit (.int .i64 r)::A10 (A9 []))))) (h':=[.dead,.dead,.res (Bf a [.lit (.map (jL m))]),.res (Bf c [.lit v]),.res (EI (bY .i64) A m),.res (rowR v 3 tInt d),.dead]) V V ?_;refine wRE (hx:=by((refine AF V (S5 7 V V ?_);refine DU ?_ GY);(refine AF V (CU (new:=[_]) V V V (Qb.one (One.lit V)) V (Nat.le_of_ble_eq_true V) ?_);refine DU ?_ Qx);exact CV V)) (hk:=?_);refine Ap λC7 az=>?_
  refine Ad ?_;refine Ab λK8 h8=>?_
  refine Bu 7 V V V (λf=>(A2 (.bp (Kg Bc) G 0::.any::.lit (.pointer (jL ⟨a,0,jK⟩))::.lit (.pointer (jL ⟨c,0,jK⟩))::.any::.lit (.pointer (jL ⟨f,0,jK⟩))::A20 (A7 [])))) (λg=>(by(repeat(first|exact iQ|refine iR ?_|refine iO ?_|refine iP V ?_)))) λf=>?_
  refine nT ?_;refine wR (hx:=by(refine sA ?_ (AC V Fm V) (Aq (Aq G9));refine sA ?_ (AY (i:=7) (g:=f) V GP V V V) (Aq (Aq IK));refine sA ?_ (AY (i:=2) (g:=a) V Gz V V V) (Aq (Aq KK));refine sA ?_ (AE V V (Ajn G r m B) V V) (Aq (Aq IF));exact CV V)) ?_;refine Ad ?_;refine AK ⟨(A2 (.bp (Kg Bc) G 0::.any::.lit (.pointer (jL ⟨a,0,jK⟩))::.lit (.pointer (jL ⟨c,0,jK⟩))::.any::.lit (.pointer (jL ⟨f,0,jK⟩))::A10 (.any::XO G r m::A10 (A5 [])))),[.dead,.dead,.res (Bf a [.lit (.map (jL m))]),.res (Bf c [.lit v]),.res (EI (bY .i64) A m),.res (rowR v 3 tInt d),.dead,.res (Bf f [.lit (.int .i64 r)])]⟩ (AS) ?_;have aw:OkT G A r:=⟨B,(q.mov r).1,(q.mov r).2,(q.lik r).1,(q.lik r).2,(q.cl r).1,(q.cl r).2,ak⟩
  obtain⟨U,af,ae⟩:=YF (Gm G A r) (Eb G A r);obtain⟨stop,O⟩:∃x,x=(Eb G A r).findIdx (Gm G A r):=⟨_,rfl⟩
  rw[<-O]at U af ae;obtain⟨Y,ab⟩:∃x,x=(Eb G A r).getD stop 0:=⟨_,rfl⟩
  have ba:A.length < cC:=by have:=al;unfold cC;omega
  refine Acg (N:=(Eb G A r).length) (stop:=stop) (Φ:=λR=>Am1 R m (mapK (bY .i64) A)) (encs:=λk=>[.lit (.int .i64 ((Eb G A r).getD k 0))]) 1 (λ_=>[.dead,.dead,.res (Bf a [.lit (.map (jL m))]),.res (Bf c [.lit v]),.res (EI (bY .i64) A m),.res (rowR v 3 tInt d),.dead,.res (Bf f [.lit (.int .i64 r)])]) [.dead,.dead,.res (Bf a [.lit (.map (jL m))]),.res (Bf c [.lit v]),.res (EI (bY .i64) (Cb A r Y) m),.res (rowR v 3 tInt d),.dead,.res (Bf f [.lit (.int .i64 r)])] az V V V ?_ (λ_=>rfl) V V (λ_=>rfl) (λ_=>rfl) (Zn G A r m stop aw) (λS bg w bf p=>Aib (Φ:=λW=>Nb W m (mapK (bY .i64) A)) 4 V (λ_ _ h=>h) p) ?_ ?_ ?_ ?_
  ·exact⟨.dead (.dead (.cons (.cons (.cons (.cons (.dead (.cons (.nil _)))))))),λb z=>cL.1 (show bdH [.dead,.dead,.res (Bf a [.lit (.map (jL m))]),.res (Bf c [.lit v]),.res (EI (bY .i64) A m),.res (rowR v 3 tInt d),.dead,.res (Bf f [.lit (.int .i64 r)])]=aZ from V) b z⟩
  ·intro j av au be aj;obtain⟨u,e⟩:∃x,(Eb G A r)[j]? =jL x:=⟨_,dW av⟩
   have X:Cm u:=Xh q (fH e);have ad:Gm G A r u=aL:=ae j u au e;rw[show(Eb G A r).getD j 0=u by rw[dT,e];rfl];refine C6 (t':=(A2 (.bp (Kg Bc) G 0::.any::.lit (.pointer (jL ⟨a,0,jK⟩))::.lit (.pointer (jL ⟨c,0,jK⟩))::.any::.lit (.pointer (jL ⟨f,0,jK⟩))::A10 (.any::XO G r m::.lit (.int .i64 u)::A10 (A4 []))))) (h':=[.dead,.dead,.res (Bf a [.lit (.map (jL m))]),.res (Bf c [.lit v]),.res (EI (bY .i64) A m),.res (rowR v 3 tInt d),.dead,.res (Bf f [.lit (.int .i64 r)])]) V V ?_;refine wRE (hx:=by(refine sA ?_ (AT.assign V (Ao (Ao Gz))) (Aq G9);exact CV V)) ?_;refine Ap λbc ai=>?_
   refine Ad ?_;refine wR (hx:=by(refine sA ?_ (AC V Fm V) (Aq (Aq GK));refine sA ?_ (AY (i:=7) (g:=f) V GP V V V) (Aq (Aq GZ));refine sA ?_ (AT.move V (Ao IP)) (Aq (Aq GY));refine sA ?_ (AY (i:=2) (g:=a) V Gz V V V) (Aq (Aq (Aq G9)));refine sA (hq:=CM V (Sq G A r u B X (q.near r) (q.nearl r)) (.cons (.cl V) (.cons (.cl V) (.cons (.cl V) (.cons (Nc.map (i:=4) V) .nil))))) (ht:=(Aq (Aq (Aq IK)))) (hk:=?_);exact CV V)) (hk:=?_);refine Ah V (λo=>?_) (λo=>?_)
   ·exfalso;rw[show Gm G A r u=aZ from o]at ad;cases ad
   ·refine Al ?_;refine abN ?_;exact⟨rfl,(),⟨.dead (.dead (.cons (.cons (.cons (.cons (.dead (.cons (.nil _)))))))),λb z=>cL.1 (show bdH [.dead,.dead,.res (Bf a [.lit (.map (jL m))]),.res (Bf c [.lit v]),.res (EI (bY .i64) A m),.res (rowR v 3 tInt d),.dead,.res (Bf f [.lit (.int .i64 r)])]=aZ from V) b z⟩⟩
  ·intro F be aj;obtain⟨u,e,E,H⟩:=U F;have X:Cm u:=Xh q (fH e);have P:Y=u:=by rw[ab,dT,e];rfl
   rw[show(Eb G A r).getD stop 0=u by rw[dT,e];rfl];refine C6 (t':=(A2 (.bp (Kg Bc) G 0::.any::.lit (.pointer (jL ⟨a,0,jK⟩))::.lit (.pointer (jL ⟨c,0,jK⟩))::.any::.lit (.pointer (jL ⟨f,0,jK⟩))::A10 (.any::XO G r m::.lit (.int .i64 u)::A10 (A4 []))))) (h':=[.dead,.dead,.res (Bf a [.lit (.map (jL m))]),.res (Bf c [.lit v]),.res (EI (bY .i64) A m),.res (rowR v 3 tInt d),.dead,.res (Bf f [.lit (.int .i64 r)])]) V V ?_;refine wRE (hx:=by(refine sA ?_ (AT.assign V (Ao (Ao Gz))) (Aq G9);exact CV V)) ?_;refine Ap λbc ai=>?_
   refine Ad ?_;refine wR (hx:=by(refine sA ?_ (AC V Fm V) (Aq (Aq GK));refine sA ?_ (AY (i:=7) (g:=f) V GP V V V) (Aq (Aq GZ));refine sA ?_ (AT.move V (Ao IP)) (Aq (Aq GY));refine sA ?_ (AY (i:=2) (g:=a) V Gz V V V) (Aq (Aq (Aq G9)));refine sA (hq:=CM V (Sq G A r u B X (q.near r) (q.nearl r)) (.cons (.cl V) (.cons (.cl V) (.cons (.cl V) (.cons (Nc.map (i:=4) V) .nil))))) (ht:=(Aq (Aq (Aq IK)))) (hk:=?_);exact CV V)) (hk:=?_);refine Ah V (λo=>?_) (λo=>?_)
   ·refine wR (hx:=by(refine sA ?_ (AY (i:=2) (g:=a) V Gz V V V) (Aq (Aq (Aq KK)));refine sA ?_ (AY (i:=7) (g:=f) V GP V V V) (Aq (Aq (Aq IF)));refine sA ?_ (AT.move V (Ao IP)) (Aq (Aq (Aq I5)));(refine AF V (Kd 4 V Tryz.underlying51 V V V B ba V ?_);refine DU ?_ Qx);exact CV V)) (hk:=?_);refine Ay ?_;refine exO (by decide) ?_;rw[P];exact⟨rfl,(),⟨.dead (.dead (.cons (.cons (.cons (.cons (.dead (.cons (.nil _)))))))),λb z=>cL.1 (show bdH [.dead,.dead,.res (Bf a [.lit (.map (jL m))]),.res (Bf c [.lit v]),.res (EI (bY .i64) (Cb A r u) m),.res (rowR v 3 tInt d),.dead,.res (Bf f [.lit (.int .i64 r)])]=aZ from V) b z⟩⟩
   ·exfalso;rw[show Gm G A r u=aL from o]at E;cases E
  ·intro F;have y:MG G A r=jK:=af F;have I:EG G (A,d) r=(A,d++[r]):=by
    show(match MG G A r with|some p=>(Cb A r p,d)|none=>(A,d++[r]))=_;rw[y]
   rw[I];have am:EZ (d.length+ [r].length) 8=aZ:=by
    unfold EZ;simp only[zag,zai];unfold cC;omega
   refine h8 _ ?_;refine nT ?_;refine AAc λbj ah=>?_
   refine sA ?_ (AY (i:=3) (g:=c) V Fc V V V) (Aq (Aq (Aq GK)));refine sA ?_ (AY (i:=7) (g:=f) V GP V V V) (Aq (Aq (Aq GZ)));refine sA ?_ (Cj (T:=tInt) V V V (by rfl) (by decide) (Fit.int B)) (Aq (Aq (Aq GY)));refine AF V (VV 5 V V (Ao (Ao (Ao Fc))) V (Ao (Ao (Ao GP))) am λv'=>?_);refine DU ?_ (Ar G9);refine AF V (IB (i:=3) (g:=c) (new:=[.lit v']) V Fc V (Qb.one (Mo (i:=5) V)) V V (iW V) ?_);refine DU ?_ Qx;refine Au (ah _ ?_);refine abN ?_;refine⟨rfl,v',?_⟩;simp only[I];exact⟨.dead (.dead (.cons (.cons (.cons (.cons (.dead (.nil _))))))),λb z=>cL.1 (show bdH [.dead,.dead,.res (Bf a [.lit (.map (jL m))]),.res (Bf c [.lit v']),.res (EI (bY .i64) A m),.res (rowR v' 3 tInt (d++[r])),.dead]=aZ from V) b z⟩
  ·intro F;obtain⟨u,e,E,H⟩:=U F;have P:Y=u:=by rw[ab,dT,e];rfl
   have y:MG G A r=jL Y:=by rw[P];exact H
   have I:EG G (A,d) r=(Cb A r Y,d):=by
    show(match MG G A r with|some p=>(Cb A r p,d)|none=>(A,d++[r]))=_;rw[y]
   rw[I];repeat(first|refine BF ?_|refine exO (by decide) ?_|refine asE ?_)
   refine exN ?_;exact⟨rfl,v,⟨.dead (.dead (.cons (.cons (.cons (.cons (.dead (.nil _))))))),λb z=>cL.1 (show bdH [.dead,.dead,.res (Bf a [.lit (.map (jL m))]),.res (Bf c [.lit v]),.res (EI (bY .i64) (Cb A r Y) m),.res (rowR v 3 tInt d),.dead]=aZ from V) b z⟩⟩
 ·rintro _ rfl v D;have K:=MH G out;rw[<-Z]at K;rw[K];refine h4 _ ?_;refine AK ⟨(A2 (.bp (Kg Bc) G 0::.any::.lit (.pointer (jL ⟨a,0,jK⟩))::.lit (.pointer (jL ⟨c,0,jK⟩))::A20 (A9 []))),[.res (Bl [D]),.dead,.res (Bf a [.lit (.map (jL m))]),.res (Bf c [.lit v]),.res (EI (bY .i64) (BH G out).1 m),.res (rowR v 3 tInt (BH G out).2),.dead]⟩ (AS) ?_;refine AK ⟨[.any,.any,.bp (Kg Bc) G 0,.any,.lit (.pointer (jL ⟨a,0,jK⟩)),.lit (.pointer (jL ⟨c,0,jK⟩)),.any,.any,.any,.any,.any,.any,.any,.any,.any,.any,.any,.any,.any,.any,.any,.any,.any,.any,.any,.any,.any,.any,.any,.any,.any,.any,.any,.any,.any],[.res (Bl [D]),.dead,.res (Bf a [.lit (.map (jL m))]),.res (Bf c [.lit v]),.res (EI (bY .i64) (BH G out).1 m),.res (rowR v 3 tInt (BH G out).2),.dead]⟩ AS ?_;refine Ab λbh aa=>?_
  refine Fk (n:=4) () (λ(i:Unit) (b:Nat->Bool)=>⟨[.any,.any,.bp (Kg Bc) G 0,.any,.lit (.pointer (jL ⟨a,0,jK⟩)),.lit (.pointer (jL ⟨c,0,jK⟩)),.any,.any,.any,.any,.any,.any,.any,.any,.any,.any,.any,.any,.any,.any,.any,.any,.any,.any,.any,.any,.any,.any,.any,.any,.any,.any,.any,(bif b 0 then .lit (.map (jL m))else .any),(bif b 1 then .lit v else .any)],[.res (Bl [D]),.dead,.res (Bf a [.lit (.map (jL m))]),.res (Bf c [.lit v]),.res (EI (bY .i64) (BH G out).1 m),.res (rowR v 3 tInt (BH G out).2),.dead]⟩) ?_ ?_ ?_ ?_ ?_
  ·rfl
  ·kernel_rfl
  ·kernel_rfl
  ·refine AM (λi b z ha hc=>?_) ?_
   ·try dsimp only
    refine AX (AY (i:=2) (g:=a) V Gz V V V) ?_;exact⟨i,iU⟩
   refine AM (λi b z ha hc=>?_) ?_
   ·try dsimp only
    refine AX (AY (i:=3) (g:=c) V Fc V V V) ?_;exact⟨i,iU⟩
   refine AM (λi b z ha hc=>?_) ?_
   ·have h0:b 0=aZ:=ha 0 _ V V;try dsimp only
    refine IB (i:=2) (g:=a) (new:=[.lit (.map (jL m))]) V Gz V (Qb.at ((As Gi).trans (BD h0 _ _)) (Qb.one (One.lit V))) V V (iW V) ?_;refine⟨i,?_⟩;exact iU
   refine AM (λi b z ha hc=>?_) ?_
   ·have h1:b 1=aZ:=ha 0 _ V V;try dsimp only
    refine IB (i:=3) (g:=c) (new:=[.lit v]) V Fc V (Qb.at ((As Fm).trans (BD h1 _ _)) (Qb.one (Mo (i:=5) V))) V V (iW V) ?_;refine⟨i,?_⟩;exact iU
   exact Nx
  intro i;refine aa _ ?_;refine AK ⟨[.any,.any,.bp (Kg Bc) G 0,.any,.lit (.pointer (jL ⟨a,0,jK⟩)),.lit (.pointer (jL ⟨c,0,jK⟩)),.any,.any,.any,.any,.any,.any,.any,.any,.any,.any,.any,.any,.any,.any,.any,.any,.any,.any,.any,.any,.any,.any,.any,.any,.any,.any,.any,.lit (.map (jL m)),.lit v],[.res (Bl [D]),.dead,.res (Bf a [.lit (.map (jL m))]),.res (Bf c [.lit v]),.res (EI (bY .i64) (BH G out).1 m),.res (rowR v 3 tInt (BH G out).2),.dead]⟩ iU ?_;refine AK _ (DL 4 5 (by decide) V V) ?_;exact Aw ⟨.inr V,[D],a,c,2,3,4,(m,v),.map (jL m),v,rfl,rfl,by decide,by decide,by decide,rfl,rfl,rfl,rfl,rfl,rfl⟩
theorem Ns{G:gV}{Q:Int->Prop}:∀(n:Nat) {E:List (Int×Int)} {l:List Int},Ef E->(∀x,(getK E x).isSome=aZ->Q x)->(∀x∈l,Q x)->∀x∈DS G n E l,Q x
 |0,E,l,_,_,a=>a
 |n+1,E,l,c,hk,a=>by
  unfold DS;cases d:LK G E with
  |none=>exact a
  |some r=>
   have b:=LJ d;refine Ns n (Ln c b).1 (λx hx=>hk x ?_) λx hx=>?_
   ·rw[G2 c]at hx;simp only[aI]at hx;exact hx.1
   ·rcases eW.1 hx with h|h
    ·exact a x h
    ·rw[fN.1 h];exact hk r b
theorem MO(a:OkG G)(out:List (Int×Int))(x:Int)(h:(getK (Ih G out) x).isSome=aZ):x∈G.regs/\(getK out x).getD 0=0:=by
 have h0:=L1 out a.regs;have h2:=(F9 G h0 (keysK (EE G.regs out)) (Cq h0.1) λq hq=>hq).2.1 x;have hk:(getK (EE G.regs out) x).isSome=aZ:=by
  rw[show Ih G out=(keysK (EE G.regs out)).foldl (Sy G) (EE G.regs out)from V,h2]at h;split at h
  ·rw[jI]at h;exact h
  ·exact h
 rw[Pu out a.regs x]at hk;split at hk
 ·assumption
 ·cases hk
theorem If(a:OkG G):∀x∈CY G out,x∈G.regs/\(getK out x).getD 0=0:=
 Ns _ (Jl (out:=out) a).asc (MO a out) λx hx=>by cases hx
def Akp(G:gV)(out:List (Int×Int)):List (Int×Int):=(BH G out).2.foldl (λo r=>Cb o r 1) out
def DR(G:gV):Nat->List (Int×Int)
 |0=>[]
 |n+1=>Akp G (DR G n)
theorem Q8{G:gV}:∀(l:List Int) (s:List (Int×Int)×List Int) (x:Int),x∈(l.foldl (EG G) s).2->x∈s.2\/x∈l
 | [],s,x,h=>.inl h
 |r::l,s,x,h=>by
  rcases Q8 l (EG G s r) x h with h1|h1
  ·unfold EG at h1;cases a:MG G s.1 r with
   |some p=>rw[a]at h1;exact .inl h1
   |none=>
    rw[a]at h1;rcases eW.1 h1 with h2|h2
    ·exact .inl h2
    ·exact .inr (by rw[fN.1 h2];exact fB)
  ·exact .inr (fA _ h1)
theorem JS(a:OkG G)(h:x∈(BH G out).2):x∈G.regs/\(getK out x).getD 0=0:=by
 rcases Q8 _ _ x h with h1|h1
 ·cases h1
 ·exact If a x (fM.1 h1)
theorem LG:∀{o:List (Int×Int)},Ef o->∀x,getK (l.foldl (λo r=>Cb o r 1) o) x=if x∈l then jL 1 else getK o x:=by
 induction l with
 |nil=>intro o h x;rfl
 |cons r l a=>
  intro o h x;show getK (l.foldl (λo r=>Cb o r 1) (Cb o r 1)) x=_;rw[a (h.put r 1) x,BK h];by_cases h1:x∈l
  ·rw[if_pos h1,if_pos (fA _ h1)]
  ·rw[if_neg h1];by_cases h2:x=r
   ·rw[if_pos h2,if_pos (by rw[h2];exact fB)]
   ·rw[if_neg h2,if_neg λh3=>by
     rcases eZ.1 h3 with h3|h3
     ·exact h2 h3
     ·exact h1 h3]
def NW(G:gV)(out:List (Int×Int)):Nat:=(G.regs.filter λx=>(getK out x).getD 0 ==0).length
theorem UQ{b:Type}{p q:b->Bool}:∀{l:List b},(∀x∈l,q x=aZ->p x=aZ)->(∃x∈l,p x=aZ/\q x=aL)->(l.filter q).length < (l.filter p).length
 | [],_,⟨x,hx,_⟩=>by cases hx
 |y::l,h,⟨x,hx,h1,h2⟩=>by
  have f:(l.filter q).length<=(l.filter p).length:=by
   rw[<-cX,<-cX];exact List.countP_mono_left λz a=>h z (fA _ a)
  rcases eZ.1 hx with e|hx
  ·subst e;rw[dJ h1,dI (by rw[h2];decide),eK];omega
  ·have d:=UQ (p:=p) (q:=q) (l:=l) (λz a=>h z (fA _ a)) ⟨x,hx,h1,h2⟩;cases hq:q y with
   |true=>
    rw[dJ hq,dJ (h y fB hq),eK,eK];omega
   |false=>
    rw[dI (by rw[hq];decide)];refine Nat.lt_of_lt_of_le d ?_;cases c:p y with
    |true=>rw[dJ c,eK];omega
    |false=>rw[dI (by rw[c];decide)];exact iY _
theorem Afj(b:OkG G)(a:Ef out)(h:(BH G out).2≠[]):NW G (Akp G out) < NW G out:=by
 unfold NW Akp;refine UQ (λx hx hq=>?_) ?_
 ·rw[LG a]at hq;split at hq
  ·cases hq
  ·exact hq
 ·obtain⟨x,hx⟩:=dD _ h;obtain⟨h1,h2⟩:=JS b hx;refine⟨x,h1,by rw[h2];rfl,?_⟩;rw[LG a,if_pos hx];rfl
theorem Ae7:∀{o:List (Int×Int)},okK o->(∀r∈l,Cm r)->okK (l.foldl (λo r=>Cb o r 1) o):=by
 induction l with
 |nil=>intro o h _;exact h
 |cons r l b=>intro o h a;exact b (h.put (a r fB) 1) λx hx=>a x (fA _ hx)
theorem Apr(a:OkG G)(c:okK out):okK (Akp G out):=Ae7 c λr b=>a.regs r (JS a b).1
theorem Gq{G:gV}(a:OkG G):∀n,okK (DR G n)
 |0=>okK.nil
 |n+1=>Apr a (Gq a n)
theorem Afi(b:OkG G)(a:Ef out)(h:∀x∈keysK out,x∈G.regs):∀x∈keysK (Akp G out),x∈G.regs:=λx hx=>by
 have h1:=CQ.1 hx;unfold Akp at h1;rw[LG a]at h1;split at h1
 ·rename_i h2;exact(JS b h2).1
 ·exact h x (CQ.2 h1)
theorem Xe(b:OkG G):∃n,(BH G (DR G n)).2= []/\n<=NW G []:=by
 have a:∀n,(∀k,k < n->(BH G (DR G k)).2≠[])->NW G (DR G n)+n<=NW G []:=by
  intro n;induction n with
  |zero=>intro _;exact iY _
  |succ n c=>
   intro h;have h1:=c λk hk=>h k (by omega)
   have h2:=Afj b (Gq b n).1 (h n (i7 n));show NW G (Akp G (DR G n))+(n+1)<=_;omega
 refine a7 λd=>?_
 have:=a (NW G []+1) λk hk e=>d ⟨k,e,by omega⟩
 omega
def LT(G:gV)(r:Int):List Int:=(getK G.near r).getD []
def QH(G:gV)(r:Int):List Int:=(getK G.cls r).getD []
structure SymG(G:CGraph):Prop where
 sym:∀a b,b∈LT G a->a∈LT G b
 irr:∀a,a∉LT G a
def Azn(G:gV)(A:List (Int×Int)):Prop:=∀a p,getK A a=jL p->∀b,b∈LT G a->getK A b≠jL p
theorem Jt:Gm G A r p=aZ↔∀k∈LT G r,getK A k≠jL p:=by
 unfold Gm;rw[aR,cN];constructor
 ·intro h k hk e;refine h k hk ?_;unfold freeP;rw[e];simp
 ·intro h k hk a;unfold freeP at a;rw[aI]at a;obtain⟨v,b⟩:=jH.1 a.1;refine h k hk ?_;rw[b]at a⊢;rw[eq_of_beq a.2];rfl
theorem Azn.put(g:SymG G)(k:Ef A)(h:Azn G A)(f:Gm G A r p=aZ):Azn G (Cb A r p):=by
 rw[Jt]at f;intro a q c b d;rw[BK k]at c⊢;by_cases j:a=r
 ·subst j;rw[if_pos V]at c;cases c;rw[if_neg λe:b=a=>g.irr a (by rw[e]at d;exact d)];exact f b d
 ·rw[if_neg j]at c;by_cases i:b=r
  ·subst i;rw[if_pos V];intro e;cases e;exact f a (g.sym a b d) c
  ·rw[if_neg i];exact h a q c b d
structure PntQ(G:CGraph)(s:List (Int×Int)×List Int)(Q:Int->Prop):Prop where
 asc:Ef s.1
 nocl:Azn G s.1
 cl:∀r p,getK s.1 r=some p->p∈QH G r
 key:∀r,(getK s.1 r).isSome=true->Q r
 all:∀r,Q r->(getK s.1 r).isSome=true\/r∈s.2
theorem PntQ.next(f:SymG G){s:List (Int×Int)×List Int}(h:PntQ G s Q)(r:Int):PntQ G (EG G s r) λx=>Q x\/x=r:=by
 unfold EG;cases b:MG G s.1 r with
 |none=>
  refine⟨h.asc,h.nocl,h.cl,λx hx=>.inl (h.key x hx),λx hx=>?_⟩;rcases hx with hx|rfl
  ·rcases h.all x hx with h1|h1
   ·exact .inl h1
   ·exact .inr (eX _ h1)
  ·exact .inr (eY _ (fN.2 V))
 |some p=>
  have d:Gm G s.1 r p=aZ:=List.find?_some b;have c:=TZ b;unfold Eb at c;have hc:=(fD.1 c).2;rw[cV]at hc;have hg:∀x,getK (Cb s.1 r p) x=if x=r then jL p else getK s.1 x:=λx=>BK h.asc _ _ _
  refine⟨h.asc.put r p,h.nocl.put f h.asc d,λx q hx=>?_,λx hx=>?_,λx hx=>?_⟩
  ·have a:getK (Cb s.1 r p) x=jL q:=hx;clear hx;rw[hg x]at a;split at a
   ·rename_i e;subst e;cases a;exact hc
   ·exact h.cl x q a
  ·have hx:(getK (Cb s.1 r p) x).isSome=aZ:=hx;rw[hg]at hx;split at hx
   ·rename_i e;exact .inr e
   ·exact .inl (h.key x hx)
  ·show(getK (Cb s.1 r p) x).isSome=aZ\/x∈s.2;rw[hg];split
   ·exact .inl V
   ·rename_i e;exact h.all x (hx.resolve_right e)
theorem Ano{G:gV}(b:SymG G):∀(l:List Int) {s:List (Int×Int)×List Int} {Q:Int->Prop},PntQ G s Q->PntQ G (l.foldl (EG G) s) λx=>Q x\/x∈l
 | [],s,Q,h=>⟨h.asc,h.nocl,h.cl,λr a=>.inl (h.key r a),λr a=>h.all r (a.resolve_right λh=>by cases h)⟩
 |r::l,s,Q,h=>by
  have h1:=Ano b l (h.next b r);exact⟨h1.asc,h1.nocl,h1.cl,λx hx=>by
   rcases h1.key x hx with(h2|h2)|h2
   ·exact .inl h2
   ·exact .inr (h2▸fB)
   ·exact .inr (fA _ h2),λx hx=>h1.all x (by
   rcases hx with hx|hx
   ·exact .inl (.inl hx)
   ·rcases eZ.1 hx with hx|hx
    ·exact .inl (.inr hx)
    ·exact .inr hx)⟩
theorem Akm{E:List (Int×Int)}(hk:∀x,(getK E x).isSome=aZ->x∈G.regs)(c:E≠[])(d:Ef E):∃r,LK G E=jL r:=by
 unfold LK;cases h1:G.regs.find? (Rc G E)with
 |some r=>exact⟨r,rfl⟩
 |none=>
  show∃r,(G.cheap++G.regs).find? (λr=>(getK E r).isSome)=jL r;obtain⟨p,b⟩:=dD _ c;have a:(getK E p.1).isSome=aZ:=by rw[(CN d).2 b];rfl
  cases h2:(G.cheap++G.regs).find? λr=>(getK E r).isSome with
  |some r=>exact⟨r,rfl⟩
  |none=>
   rw[dN]at h2;exact absurd a (h2 p.1 (eY _ (hk _ a)))
theorem Pb{G:gV}:∀(n:Nat) (E:List (Int×Int)) (l:List Int) (x:Int),x∈l->x∈DS G n E l
 |0,E,l,x,h=>h
 |n+1,E,l,x,h=>by
  unfold DS;cases LK G E with
  |none=>exact h
  |some r=>exact Pb n _ _ x (eX _ h)
theorem Pd{G:gV}:∀(n:Nat) {E:List (Int×Int)} {l:List Int},E.length=n->Ef E->(∀x,(getK E x).isSome=aZ->x∈G.regs)->∀x,(getK E x).isSome=aZ->x∈DS G n E l
 |0,E,l,a,_,_,x,hx=>by
  rw[dB a]at hx;cases hx
 |n+1,E,l,a,b,hk,x,hx=>by
  obtain⟨r,d⟩:=Akm hk (λe=>by rw[e]at a;cases a) b;have f:=LJ d;obtain⟨h1,h2⟩:=Ln (G:=G) b f;unfold DS;rw[d];by_cases e:x=r
  ·exact Pb n _ _ x (by rw[e];simp)
  ·refine Pd n (by omega) h1 (λy c=>hk y ?_) x ?_
   ·rw[G2 b,aI]at c;exact c.1
   ·rw[G2 b,hx];simpa using e
theorem Agf(b:OkG G)(out:List (Int×Int))(hx:x∈G.regs)(h0:(getK out x).getD 0=0):(getK (Ih G out) x).isSome=aZ:=by
 have h1:=L1 out b.regs;have h2:=(F9 G h1 (keysK (EE G.regs out)) (Cq h1.1) λq hq=>hq).2.1 x;have a:=Pu out b.regs x;rw[if_pos ⟨hx,h0⟩]at a;rw[show Ih G out=(keysK (EE G.regs out)).foldl (Sy G) (EE G.regs out)from V,h2];split
 ·rw[a];rfl
 ·rw[a];rfl
theorem Rb(a:OkG G):x∈CY G out↔x∈G.regs/\(getK out x).getD 0=0:=
 ⟨If a x,λh=>Pd _ V (Jl (out:=out) a).asc (λy b=>(MO a out y b).1) x (Agf a out h.1 h.2)⟩
theorem Yc(c:OkG G)(d:SymG G)(out:List (Int×Int)):PntQ G (BH G out) λx=>x∈G.regs/\(getK out x).getD 0=0:=by
 have h:=Ano d (CY G out).reverse (s:=([],[])) (Q:=λ_=>False) ⟨Ef.nil,λa p h=>(by cases h),λr p h=>(by cases h),λr h=>(by cases h),λr h=>h.elim⟩;refine⟨h.asc,h.nocl,h.cl,λr b=>?_,λr b=>?_⟩
 ·rcases h.key r b with h1|h1
  ·exact h1.elim
  ·exact(Rb c).1 (fM.1 h1)
 ·exact h.all r (.inr (fM.2 ((Rb c).2 b)))
structure SltQ(G:CGraph)(s:List (Int×Int)×Int)(Q:Int->Prop):Prop where
 asc:Ef s.1
 nocl:Azn G s.1
 cl:∀r p,getK s.1 r=some p->p∈QH G r\/(32<=p/\p < 32+s.2)
 key:∀r,(getK s.1 r).isSome=true↔Q r
 pos:0<=s.2
 use:∀z:Int,32<=z->z < 32+s.2->∃r,getK s.1 r=some z
theorem SltQ.next(o:SymG G){s:List (Int×Int)×Int}(h:SltQ G s Q)(j:¬Q r):SltQ G (IZ G s r) λx=>Q x\/x=r:=by
 obtain⟨h1,h2,i⟩:=Mx G s.1 r;have m:getK s.1 r=jK:=by
  cases e:getK s.1 r with
  |none=>rfl
  |some v=>exact absurd ((h.key r).1 (by rw[e];rfl)) j
 unfold IZ;obtain⟨n,g⟩:∃n,n=slotN G s.1 r:=⟨_,rfl⟩
 rw[<-g]at h1 h2 i⊢;have hg:∀x,getK (Cb s.1 r (32+(n:Int))) x=if x=r then jL (32+(n:Int))else getK s.1 x:=λx=>BK h.asc _ _ _
 have y:=h.pos;refine⟨h.asc.put _ _,h.nocl.put o h.asc h2,λx q hx=>?_,λx=>?_,?_,λz d b=>?_⟩
 ·have c:getK (Cb s.1 r (32+(n:Int))) x=jL q:=hx;clear hx;rw[hg]at c;show q∈QH G x\/(32<=q/\q < 32+max s.2 ((n:Int)+1));split at c
  ·cases c;exact .inr (by omega)
  ·rcases h.cl x q c with h4|h4
   ·exact .inl h4
   ·exact .inr (by omega)
 ·show(getK (Cb s.1 r (32+(n:Int))) x).isSome=aZ↔_;rw[hg];split
  ·rename_i e;exact⟨λ_=>.inr e,λ_=>rfl⟩
  ·rename_i e;rw[h.key x];exact⟨.inl,λk=>k.resolve_right e⟩
 ·show 0<=max s.2 ((n:Int)+1);omega
 ·show∃x,getK (Cb s.1 r (32+(n:Int))) x=jL z;have b:z < 32+max s.2 ((n:Int)+1):=b;have a:(∃x,getK s.1 x=jL z)->∃x,getK (Cb s.1 r (32+(n:Int))) x=jL z:=λ⟨x,hx⟩=>⟨x,by rw[hg,if_neg λe=>by rw[e,m]at hx;cases hx];exact hx⟩
  by_cases w:z < 32+s.2
  ·exact a (h.use z d w)
  ·by_cases u:z=32+(n:Int)
   ·exact⟨r,by rw[hg,if_pos V,u]⟩
   ·have h4:=i (z - 32).toNat (by omega);rw[show 32+(((z - 32).toNat:Nat):Int)=z by omega]at h4;refine a ?_;refine a7 λf=>?_
    rw[Jt.2 λk _ e=>f ⟨k,e⟩]at h4;cases h4
theorem Auc{G:gV}(b:SymG G):∀(l:List Int) {s:List (Int×Int)×Int} {Q:Int->Prop},SltQ G s Q->l.Nodup->(∀x∈l,¬Q x)->SltQ G (l.foldl (IZ G) s) λx=>Q x\/x∈l
 | [],s,Q,h,_,_=>⟨h.asc,h.nocl,h.cl,λr=>by simpa using h.key r,h.pos,h.use⟩
 |r::l,s,Q,h,a,hq=>by
  rw[fR]at a;have h1:=Auc b l (h.next b (hq r fB)) a.2 λx hx hh=>by
   rcases hh with hh|hh
   ·exact hq x (fA _ hx) hh
   ·exact a.1 (hh▸hx)
  refine⟨h1.asc,h1.nocl,h1.cl,λx=>?_,h1.pos,h1.use⟩;rw[dQ,h1.key x,eZ,or_assoc]
theorem Ad9(i:OkG G)(c:SymG G)(g:Ef out)(h1:∀x v,getK out x=jL v->v=1)(f:∀x∈keysK out,x∈G.regs)(h0:(BH G out).2= []):SltQ G (IX G out (BH G out).1) λx=>x∈G.regs:=by
 have a:=Yc i c out;have hq:SltQ G ((BH G out).1,0) λx=>x∈G.regs/\(getK out x).getD 0=0:=⟨a.asc,a.nocl,λr p h=>.inl (a.cl r p h),λr=>⟨a.key r,λh=>(a.all r h).resolve_right λh=>by rw[h0]at h;cases h⟩,cE 0,λz h2 d=>by have d:z < 32+0:=d;omega⟩
 have hk:∀x,x∈keysK out->(getK out x).getD 0≠0:=λx hx=>by
  obtain⟨v,b⟩:=jH.1 (CQ.1 hx);rw[b,h1 x v b];decide
 have h:=Auc c (keysK out) hq (Cq g) λx hx hh=>hk x hx hh.2
 refine⟨h.asc,h.nocl,h.cl,λx=>?_,h.pos,h.use⟩;show(getK (((keysK out).foldl (IZ G) ((BH G out).1,0))).1 x).isSome=aZ↔_;rw[h.key x];constructor
 ·rintro(h2|h2)
  ·exact h2.1
  ·exact f x h2
 ·intro h2;by_cases e:x∈keysK out
  ·exact .inr e
  ·refine .inl ⟨h2,?_⟩;cases j:getK out x with
   |none=>rfl
   |some v=>exact absurd (CQ.2 (by rw[j];rfl)) e
theorem LP{G:gV}(a:OkG G):∀n x v,getK (DR G n) x=jL v->v=1
 |0,x,v,h=>by cases h
 |n+1,x,v,h=>by
  have h:getK (Akp G (DR G n)) x=jL v:=h;unfold Akp at h;rw[LG (Gq a n).1]at h;split at h
  ·cases h;rfl
  ·exact LP a n x v h
theorem JU{G:gV}(a:OkG G):∀n,∀x∈keysK (DR G n),x∈G.regs
 |0,x,h=>by cases h
 |n+1,x,h=>Afi a (Gq a n).1 (JU a n) x h
theorem X9(e:OkG G)(b:okK out)(d:∀x∈keysK out,x∈G.regs)(c:∀x∈l,x∈G.regs):(l.foldl (λo r=>Cb o r 1) out).length<=G.regs.length:=by
 have h1:=Ae7 (l:=l) b λx hx=>e.regs x (c x hx)
 have h2:=Dl (Cq h1.1) (m:=G.regs) λx hx=>by
  have a:=CQ.1 hx;rw[LG b.1]at a;split at a
  ·rename_i f;exact c x f
  ·exact d x (CQ.2 a)
 simpa[keysK]using h2
theorem Akl(f:(QH G r).Nodup)(g:(LT G r).length < (QH G r).length):∃p,MG G A r=jL p:=by
 unfold MG;cases d:(Eb G A r).find? (Gm G A r)with
 |some p=>exact⟨p,rfl⟩
 |none=>
  rw[dN]at d;have c:=E9 (m:=(LT G r).map λx=>(getK A x).getD 0) f λp a=>by
   have hc:p∈Eb G A r:=by
    unfold Eb Zm;refine fD.2 ⟨?_,cV.2 a⟩;simp only[eW];exact .inr a
   have h1:=d p hc;refine a7 λb=>h1 (Jt.2 λk hk e=>b ?_)
   exact fG.2 ⟨k,hk,by rw[e];rfl⟩
  rw[eM]at c;omega
theorem T4{G:gV}(b:∀r∈G.regs,(QH G r).Nodup/\(LT G r).length < (QH G r).length):∀(l:List Int),(∀x∈l,x∈G.regs)->∀(s:List (Int×Int)×List Int),(l.foldl (EG G) s).2=s.2
 | [],_,s=>rfl
 |r::l,a,s=>by
  obtain⟨h1,h2⟩:=b r (a r fB);obtain⟨p,c⟩:=Akl (A:=s.1) h1 h2;rw[dQ,T4 b l (λx hx=>a x (fA _ hx))];unfold EG;rw[c]
theorem ZU(b:OkG G)(a:∀r∈G.regs,(QH G r).Nodup/\(LT G r).length < (QH G r).length)(out:List (Int×Int)):(BH G out).2= []:=
 T4 a _ (λx hx=>(If b x (fM.1 hx)).1) _
theorem La(d:C.std)(i j:Nat){l:List (Int×Int)}{g:Nat}(hi:h[i]? =jL (.res (EI (bY .i64) l g)))(c:t[j]? =jL (.lit (.map (jL g)))):St.le C ⟨t,h⟩ ⟨t.set j (.tv tMapI l),h.set i .dead⟩:=
 Hz i j hi V V c (UE d hi V) λS ψ w v H b=>by
  obtain⟨_,a⟩:=H.blk i _ hi;unfold gR at b⊢;rw[b];exact tMapI.keepS (Rd (S:=λk=>k=g) a V) (λ_ _=>rfl) λk hk=>.inr hk
theorem JG(f:C.std)(i j:Nat){v:bX}(hi:h[i]? =jL (.res (rowR v 3 tInt l)))(e:t[j]? =jL (.lit v)):St.le C ⟨t,h⟩ ⟨t.set j (.bs tInt l),h.set i .dead⟩:=
 Hz i j hi V V e (UE f hi V) λS ψ w u H b=>by
  obtain⟨_,a⟩:=H.blk i _ hi;unfold gR at b⊢;rw[b];obtain⟨h1,h2⟩:=N7 a;refine C9 (T:=tInt) h1 (λj d c=>?_) λg hg=>.inr (AU hg)
  show tInt.RS w _ (((l.map (bY .i64)).drop (j * 1)).take 1) d;have hi:(l.map (bY .i64))[j]? =jL (.int .i64 d):=by rw[dZ,c];rfl
  rw[jC,gL,eI,hi];exact DN.2 ⟨rfl,h2 d (fH c)⟩
end Mu
namespace Mu
open Go Go.RowKit Go.Proofs
section
variable{P:bP}{C:Ctx}{t:List AV}{h:List gO}{o:bN}{ι:Type}{Rs:ι->Res}{val:ι->bX}
theorem JN{f:FuncId}{args:Array bO}{b:Array bW}{xs:List AV}{K:St->Prop}
 (d:o.op= .call {callee:=.value (.func f),args:=args,argTypes:=b})(i:Nd P f xs Rs val)(n:∀p w S S',(Rs p).R w S->(Rs p).R w S')(k:∀p,(Rs p).mrk= [])(hx:LendWs h (args.toList.map (evA t)) xs)
 (s:∀p,K ⟨Bn t o.dst (.lit (val p)),h++[.res (Rs p)]⟩):AOp P C o ⟨t,h⟩ K:=by
 refine C1 k (λS ψ w ρ H a=>?_) s;have h1:ρ (.func f)= .func (.func f) #[] #[]:=by
  have:=a (.func f) (by rw[d];exact aC.2 (.inl (by simp)));simpa[evA,gR]using this
 rw[Cx d i.1 ρ w h1];refine⟨rfl,?_⟩;have h2:Af w S h ψ (args.toList.map (evA t)) (args.toList.map ρ):=Cf λx c=>a x (by rw[d];exact aC.2 (.inr (aD.1 c)))
 have u:=i.2 w _ (args.toList.map ρ) (λ_ h=>h) (hx.rel H h2);rw[show(args.map ρ)=(args.toList.map ρ).toArray from(by rw[<-aE])];refine u.mono ?_;rintro e w' ⟨v,m,hg,p,j,q,g⟩;exact⟨v,m,hg,p,j,n p w' _ _ q,g⟩
end
open Go.Maps
variable{l:List Int}
theorem Agd(h:l= []):((l.length:Int) ==0)=aZ:=by subst h;rfl
theorem Ys(h:l≠[]):((l.length:Int) ==0)=aL:=by
 cases l with
 |nil=>exact absurd V h
 |cons x l=>rw[eK];exact beq_false_of_ne (by omega)
theorem Xc(f:g9)(b:Fn bT 11 [.agg (Ak f)] (.lit (.bool aL))):
 Fn bT 9 [.agg (Ak f)] (.tup [.agg (BE ⟨aL,0,[]⟩),.lit (.int .i64 2)]):=by
 refine Lf bR V (by kernel_rfl) V (by kernel_rfl:Rw bT 29=jL (aZ,3)) bS λC c=>?_
 simp only[Nat.reduceAdd,Nat.reduceSub,zaa];refine wR ?_;refine Ab λd h2=>?_
 refine wR (hx:=by((repeat(first|refine sA ?_ (AE V V b V V)|refine sA ?_|refine AO ?_|refine sAG ?_|refine Bq ?_));exact CV V)) ?_;refine Ah V (λa=>?_) (λa=>?_)
 ·refine wR (hx:=by((repeat(first|refine sA ?_ (BT (rs:=[.lit (.bool false),.lit (.int .i64 0),.lit (.slice none 0 0)]) V Anm V V)|refine sA ?_|refine AO ?_|refine sAG ?_|refine Bq ?_));exact CV V)) (hk:=?_);exact Aw ⟨.inr V,1,_,rfl,rfl,rfl,Fin.weak V (λ_ _ _ H=>Up.rel (Az4 (.cons (QK (.cons (.refl _) (.cons (.refl _) (.cons (.nil _) .nil)))) (.cons (.refl _) .nil))) H)⟩
 ·exact absurd a (by decide)
theorem Xd(f:g9)(e:Fn bT 11 [.agg (Ak f)] (.lit (.bool aZ)))(i:gV)(n:iT)(b:Fn bT 24 [.agg (Ak f)] (.lit (.bool aZ)))
 (k:Fn bT 25 [.agg (Ak f),.lit (.bool aZ)] (.bp Bc i 0))(m:iN i)(h0:(BH i []).2= [])
 (j:Fn bT 27 [.agg (Ak f),.tv tMapI (BH i []).1,.lit (.bool aZ),.lit (.int .i64 0)] (.agg (BE n))):
 Fn bT 9 [.agg (Ak f)] (.tup [.agg (BE n),.lit (.int .i64 0)]):=by
 refine Lf bR V (by kernel_rfl) V (by kernel_rfl:Rw bT 29=jL (aZ,3)) bS λC q=>?_
 simp only[Nat.reduceAdd,Nat.reduceSub,zaa];refine wR ?_;refine Ab λw h2=>?_
 refine wR (hx:=by((repeat(first|refine sA ?_ (AE V V e V V)|refine sA ?_|refine AO ?_|refine sAG ?_|refine Bq ?_));exact CV V)) ?_;refine Ah V (λd=>?_) (λd=>?_)
 ·exact absurd d (by decide)
 ·refine Al ?_;refine h2 _ ?_;refine nT ?_;refine Ab λv u=>?_
  refine wR (hx:=by((repeat(first|refine sA ?_ (AE V V b V V)|refine sA ?_|refine AO ?_|refine sAG ?_|refine Bq ?_));exact CV V)) ?_;refine Ah V (λc=>?_) (λc=>?_)
  ·refine wRK λs g=>?_
   refine sA ?_ (AR V Gi V V) (Aq (Aq (I5)));refine sA ?_ (AE V (Pq (Ao (Ao (Gz))) V) k V V) (Aq (Aq (GK)));refine AF V (JN V (O9 i [] m) Od (λ_=>rfl) (.cons (.cl V) (.cons NL .nil)) λp=>?_);refine DU ?_ (Aq (Aq (GZ)));refine sA ?_ (AT.move V V) (Aq (Aq (IF)));refine sA ?_ (BU V V V) (Aq (Aq (GY)));refine sA ?_ (BU V V V) (Aq (Aq (Aq (G9))));refine sA ?_ (AT.assign V V) (I5);refine sA ?_ (AT.assign V V) (GK);refine Au (g _ ?_);refine AK _ (EP 2 V) ?_;refine nT ?_;refine AK _ (JG q 3 5 V V) ?_;refine nT ?_;refine wR ?_;refine Ah V (λa=>?_) (λa=>?_)
   ·refine AK _ (La q 2 4 V V) ?_;refine nT ?_;refine wR (hx:=by((repeat(first|refine sA ?_ (AE V V j V V)|refine sA ?_|refine AO ?_|refine sAG ?_|refine Bq ?_));exact CV V)) ?_;exact Aw ⟨.inr V,1,_,rfl,rfl,rfl,gZ V⟩
   ·rw[h0]at a;exact absurd a (by decide)
  ·exact absurd c (by decide)
theorem U5(f:g9)(K:Fn bT 11 [.agg (Ak f)] (.lit (.bool aZ)))(X a:gV)(lf:Bool)(n:Nat)(p0:iT)(D:Fn bT 24 [.agg (Ak f)] (.lit (.bool lf)))
 (y:lf=aZ->Fn bT 25 [.agg (Ak f),.lit (.bool aZ)] (.bp Bc X 0))(af:iN X)(h1:lf=aZ->(BH X []).2≠[])
 (ae:Fn bT 25 [.agg (Ak f),.lit (.bool aL)] (.bp Bc a 0))(b:iN a)
 (hn:(BH a (DR a n)).2= [])(ac:∀k,k < n->(BH a (DR a k)).2≠[])
 (E:Fn bT 27 [.agg (Ak f),.tv tMapI (IX a (DR a n) (BH a (DR a n)).1).1,.lit (.bool aL),.lit (.int .i64 (IX a (DR a n) (BH a (DR a n)).1).2)] (.agg (BE p0))):
 Fn bT 9 [.agg (Ak f)] (.tup [.agg (BE p0),.lit (.int .i64 0)]):=by
 refine Lf bR V (by kernel_rfl) V (by kernel_rfl:Rw bT 29=jL (aZ,3)) bS λC W=>?_
 simp only[Nat.reduceAdd,Nat.reduceSub,zaa];refine wR ?_;refine Ab λK2 h2=>?_
 refine wR (hx:=by((repeat(first|refine sA ?_ (AE V V K V V)|refine sA ?_|refine AO ?_|refine sAG ?_|refine Bq ?_));exact CV V)) ?_;refine Ah V (λJ=>?_) (λJ=>?_)
 ·exact absurd J (by decide)
 ·refine Al ?_;refine h2 _ ?_;refine nT ?_;refine SW ⟨(.agg (Ak f)::.ptr 0 0::.ptr 1 0::A40 (A10 (A7 []))),[.box (Ak f),.box [.lit (.bool aL),.lit (.int .i64 0),.lit (.slice jK 0 0)]]⟩ ?_ ?_
  ·refine wR (hx:=by((repeat(first|refine sA ?_ (AE V V D V V)|refine sA ?_|refine AO ?_|refine sAG ?_|refine Bq ?_));exact CV V)) ?_;refine Ah V (λI=>?_) (λI=>?_)
   ·have H:lf=aZ:=I;have y:=y H;refine wRK λau T=>?_
    refine sA ?_ (AR V Gi V V) (Aq (Aq (I5)));refine sA ?_ (AE V (Pq (Ao (Ao (Gz))) V) y V V) (Aq (Aq (GK)));refine AF V (JN V (O9 X [] af) Od (λ_=>rfl) (.cons (.cl V) (.cons NL .nil)) λp=>?_);refine DU ?_ (Aq (Aq (GZ)));refine sA ?_ (AT.move V V) (Aq (Aq (IF)));refine sA ?_ (BU V V V) (Aq (Aq (GY)));refine sA ?_ (BU V V V) (Aq (Aq (Aq (G9))));refine sA ?_ (AT.assign V V) (I5);refine sA ?_ (AT.assign V V) (GK);refine Au (T _ ?_);refine AK _ (EP 2 V) ?_;refine nT ?_;refine AK _ (JG W 3 5 V V) ?_;refine nT ?_;refine wR ?_;refine Ah V (λu=>?_) (λu=>?_)
    ·exact absurd u (by rw[Ys (h1 H)];decide)
    ·refine Al ?_;exact Kr (hc:=.cons (.cons (.nil _)))
   ·refine Al ?_;exact Kr (hc:=.cons (.cons (.nil _)))
  ·refine wRK λar S=>?_
   refine sA ?_ (AR V Gi V V) (Aq (Aq (Aq (GY))));refine sA (hq:=AE V (Pq (Ao (Ao (Ao (GP)))) V) ae V V) (ht:=(Ar (G9))) (hk:=?_);refine AF V (Ke (bY .i64) V λm=>?_);refine DU ?_ (Ar (IK));refine sA ?_ (AT.assign V V) (GZ);refine sA ?_ (AT.assign V V) (GY);refine Au (S _ ?_);refine Ad ?_;refine AH (λk:Nat=>⟨(.agg (Ak f)::.ptr 0 0::.ptr 1 0::A3 (.bp Bc a 0::.lit (.map (jL m))::A40 (A10 (A2 [])))),[.box (Ak f),.box [.lit (.bool aL),.lit (.int .i64 0),.lit (.slice jK 0 0)],.res (EI (bY .i64) (DR a k) m)]⟩) (λk=>k<=n) (λk=>n - k) 0 (jF _) (AS) ?_;rintro k hk;have hk:k<=n:=hk;obtain⟨out,c⟩:∃x,x=DR a k:=⟨_,rfl⟩
   have w:okK out:=by rw[c];exact Gq b.toOkG k
   have F:∀x∈keysK out,x∈a.regs:=by rw[c];exact JU b.toOkG k
   have aa:out.length<=1073741824:=iZ (X9 b.toOkG w F (l:=[]) λx hx=>by cases hx) b.len;have v:=JT b out _ (iY _);rw[MH]at v;have ak:=Ra b.toOkG (out:=out);have Z:=v.len;have z:∀x∈(BH a out).2,x∈a.regs:=λx hx=>(JS b.toOkG hx).1
   rw[<-c];refine Ad ?_;refine wRK λaq O=>?_
   refine sA ?_ (AT.move V V) (Ar (IF));refine sA ?_ (AT.move V V) (Ar (I5));refine AF V (JN V (O9 a out b) Od (λ_=>rfl) (.cons (.cl V) (.cons (Nc.map (i:=2) V) .nil)) λp=>?_);refine DU ?_ (Ar (GK));refine sA ?_ (AT.move V V) (Ar (KK));refine sA ?_ (BU V V V) (Ar (GZ));refine sA ?_ (BU V V V) (Ar (GY));refine sA ?_ (AT.assign V V) (Aq (G9));refine sA ?_ (AT.assign V V) (Aq (IK));refine Au (O _ ?_);refine AK _ (EP 3 V) ?_;refine nT ?_;refine AK _ (JG W 4 9 V V) ?_;refine nT ?_;refine Ab λap aj=>?_
   refine wR ?_;refine Ah V (λg=>?_) (λg=>?_)
   ·have B:(BH a out).2= []:=by
     refine a7 λab=>?_
     have U:(((BH a out).2.length:Int) ==0)=aZ:=g;rw[Ys ab]at U;cases U
    obtain rfl:k=n:=by
     refine iV hk (Nat.not_lt.1 λs=>ac k s ?_);rw[<-c];exact B
    refine AK _ (La W 2 7 V V) ?_;refine nT ?_;refine wRK λao L=>?_
    refine sA ?_ (AT.move V V) (Aq (Ar (IF)));refine sA ?_ (AT.move V V) (Aq (Ar (I5)));refine sA ?_ (AT.move V V) (Aq (Ar (GK)));refine AF V (BR (i:=3) V V (ZA a out (BH a out).1 p.1 b w aa v.asc (by omega)) (λ_=>rfl) V V λ_=>?_);refine DU ?_ (Aq (Ar (GZ)));refine sA ?_ (AT.assign V V) (Aq (KK));refine Au (L _ ?_);refine AK _ (La W 3 8 V V) ?_;refine nT ?_;rw[<-c]at E;refine wR (hx:=by((repeat(first|refine sA ?_ (AE V V E V V)|refine sA ?_|refine AO ?_|refine sAG ?_|refine Bq ?_));exact CV V)) ?_;exact Aw ⟨.inr V,1,_,rfl,rfl,rfl,gZ V⟩
   ·have B:(BH a out).2≠[]:=λe=>by
     have U:(((BH a out).2.length:Int) ==0)=aL:=g;rw[Agd e]at U;cases U
    have ad:k < n:=Nat.lt_of_le_of_ne hk λe=>B (by rw[c,e];exact hn)
    obtain⟨N,hN⟩:∃x,x=(BH a out).2:=⟨_,rfl⟩
    rw[<-hN]at z Z;rw[<-hN];refine Al ?_;refine aj _ ?_;refine nT ?_;refine wR ?_;refine Ad ?_;refine AH (λj:Nat=>⟨(.agg (Ak f)::.ptr 0 0::.ptr 1 0::A3 (.bp Bc a 0::.lit (.map (jL m))::A40 (A3 (.bs tInt N::.lit (.int .i64 (N.length:Int))::.lit (.int .i64 (j:Int))::A6 [])))),[.box (Ak f),.box [.lit (.bool aL),.lit (.int .i64 0),.lit (.slice jK 0 0)],.res (EI (bY .i64) ((N.take j).foldl (λo r=>Cb o r 1) out) m)]⟩) (λj=>j<=N.length) (λj=>N.length - j) 0 (jF _) (Kr (hc:=.cons (.cons (.cons (.nil _))))) ?_;rintro j hj;refine wR ?_;refine Ab λan ai=>?_
    refine Ah V (λd=>?_) (λd=>?_)
    ·have s:j < N.length:=by simpa using d
     obtain⟨r,hr⟩:∃q,N[j]? =jL q:=⟨_,dW s⟩
     have Y:wfB .i64 r=aZ:=b.regs r (z r (fH hr));have al:=X9 b.toOkG w F (l:=N.take j) λx hx=>z x (fI hx)
     have ag:((N.take j).foldl (λo r=>Cb o r 1) out).length < cC:=by
      have:=b.len;unfold cC;omega
     refine Al ?_;refine ai _ ?_;refine nT ?_;refine Ab λam ah=>?_
     refine Ad ?_;refine wR ?_;refine wRE (hx:=by((repeat(first|(refine AF V (Kd 2 V Tryz.underlying51 V V V Y ag V ?_);refine sNt ?_)|refine sA ?_|refine AO ?_|refine sAG ?_|refine Bq ?_));exact CV V)) (hk:=?_);refine ah _ ?_;refine nT ?_;refine wRE ?_;refine Ap ⟨j+1,s,by omega,?_⟩;try dsimp only
     rw[gI,hr,dP];exact AS
    ·obtain rfl:j=N.length:=by have:¬j < N.length:=(by simpa using d);have hj:j<=N.length:=hj;omega
     refine Ay ?_;repeat(first|refine BF ?_|refine exO (by decide) ?_|refine asE ?_)
     refine exN ?_;repeat(first|refine abN ?_|refine asN ?_)
     refine Ap ⟨k+1,ad,by omega,?_⟩;try dsimp only
     rw[show DR a (k+1)=(N.take N.length).foldl (λo r=>Cb o r 1) out by rw[gJ,hN,c];rfl];exact AS
open Go.Shelf
variable{cv:List (Int×bX)}{l:List Int}{vs:List (Int×(bX×List Int))}
structure MRowsH(m:Nat)(cv:List (Int×Value))(vs:List (Int×(Value×List Int)))(w:World):Prop where
 map:Nb w m cv
 ok:okK vs
 row:∀(k:Int) (v:Value) (l:List Int),getK vs k=some (v,l)->Gj w 0 v l/\Bg l
 dis:∀(j k:Int) (v v':Value) (l l':List Int) (g:Nat),j≠k->getK vs j=some (v,l)->getK vs k=some (v',l')->v.ownBlock=some g->v'.ownBlock≠some g
 out:∀(k:Int) (v:Value) (l:List Int),getK vs k=some (v,l)->v.ownBlock≠some m
def mrF(m:Nat)(vs:List (Int×(bX×List Int)))(g:Nat):Prop:=g=m\/∃k v l,getK vs k=jL (v,l)/\v.ownBlock=jL g
def Ba(m:Nat)(cv:List (Int×bX))(vs:List (Int×(bX×List Int))):Res where
 mrk:=[]
 F:=mrF m vs
 R:=λw _=>MRowsH m cv vs w
 keep:=λH hk _ _=>⟨H.map.keep (hk m (.inl V)),H.ok,λk v l h=>⟨(H.row k v l h).1.keepB λg hg=>hk g (.inr ⟨k,v,l,h,hg⟩),(H.row k v l h).2⟩,H.dis,H.out⟩
def Dt(m:Nat)(E:List (Int×List Int)):Res where
 mrk:=[]
 F:=λg=>g=m
 R:=λw S=>okK E/\∃vs,Nb w m vs/\Aox tInt.slice w S vs E
 keep:=λ⟨h0,vs,h1,h2,c⟩ hk b a=>⟨h0,vs,h1.keep (hk m V),h2,λk v x e d=>tInt.slice.keepS (c k v x e d) b a⟩
def nilR:Res:=⟨[],λ_=>False,λ_ _=>True,λ_ _ _ _=>trivial⟩
theorem Hy{C:Ctx}{t:List AV}{h:List gO}:St.le C ⟨t,h⟩ ⟨t,h++[.res nilR]⟩:=λa w ⟨c,S,ψ,H,b⟩=>by
 have X:Ext w S h ψ w S (h++[.res nilR]) (Bp ψ h.length undef):=Ext.push _ _ λ_ _=>rfl
 have d:HI C.N w S (h++[.res nilR]) (Bp ψ h.length undef) undef (.res nilR):=⟨λg hg=>hg.elim,trivial⟩
 refine⟨?_,S,_,H.push (Below.refl _ _) d (λg hg=>hg.elim),AA X _ _ b⟩;rw[c];show mkD h=mkD (h++[_]);rw[Ig];rfl
section
variable{C:Ctx}{t:List AV}{h:List gO}{o:bN}{K:St->Prop}{ty e:bW}{x y z:bO}{m:Nat}{k:Int}
theorem IC(i:Nat)(Rs:Nat->Res)(d:∀m,(Rs m).mrk= [])(q:∀m g,(Rs m).F g->g=m)(j:∀(w:cA) S,(Rs w.heap.size).R (w.alloc (.map #[] 0)) S)(c:o.op= .makeMap ty jK)(hi:h[i]? =jL (.res nilR))
 (n:∀m,K ⟨Bn t o.dst (.lit (.map (jL m))),h.set i (.res (Rs m))⟩):AOp bT C o ⟨t,h⟩ K:=by
 refine gQ (ι:=Nat) (Rs:=Rs) (val:=λm=>.map (jL m)) hi (λm=>d m) (λS ψ w ρ H _ _ b=>?_) n;have f:(cB ρ o).run bT w= .ok (.value (.map (jL w.heap.size))) (w.alloc (.map #[] 0)):=by simp[cB,c,run_makeMap]
 rw[f];have a:=(Below.refl w.heap.size w).alloc (iY _) (.map #[] 0);refine⟨⟨a.os,a.tape,a.output,a.size,λk hk _=>a.block k hk⟩,w.heap.size,rfl,j w S,λk hk=>?_⟩;have hk:=q _ _ hk;subst hk;exact⟨.inr (iY _),by simp⟩
theorem Sd(w:cA)(S:Nat->Prop):(Ba w.heap.size [] []).R (w.alloc (.map #[] 0)) S:=⟨MN w,okK.nil,λk v l h=>(by cases h),λj k v v' l l' g _ h=>(by cases h),λk v l h=>(by cases h)⟩
theorem Pn(m g:Nat)(h:(Ba m [] []).F g):g=m:=by
 rcases h with h|⟨k,v,l,h,_⟩
 ·exact h
 ·cases h
theorem WD(w:cA)(S:Nat->Prop):(Dt w.heap.size []).R (w.alloc (.map #[] 0)) S:=⟨okK.nil,[],MN w,λ_=>rfl,λk v x h=>by cases h⟩
theorem Ab4(i:Nat)(c:o.op= .lookup ty x y aL)(a:bT.underlying ty=jL (.map 3 27))(hx:evA t x= .lit (.map (jL m)))(b:evA t y= .lit (.int .i64 k))(hk:wfB .i64 k=aZ)(hi:h[i]? =jL (.res (Ba m cv vs))):
 AT bT C t h o (.lit ((getK cv k).getD (.slice jK 0 0))):=Lc i c a Oz hx b hk hi λ_ _ H=>H.map
theorem VP(i:Nat){v:bX}(f:o.op= .mapUpdate ty x y z)(a:bT.underlying ty=jL (.map 3 27))(hx:evA t x= .lit (.map (jL m)))(d:evA t y= .lit (.int .i64 k))(c:evA t z= .lit v)(hk:wfB .i64 k=aZ)(j:cv.length < cC)(hi:h[i]? =jL (.res (Ba m cv vs)))
 (n:K ⟨Bn t o.dst (.lit undef),h.set i (.res (Ba m (Cb cv k v) vs))⟩):AOp bT C o ⟨t,h⟩ K:=
 Zd (l:=cv) (R':=Ba m (Cb cv k v) vs) i f a hx d c hk j hi ⟨λ_ _ H=>H.map,rfl,.inl V,λ_ h=>h,λw w' T H hq b=>⟨b,H.ok,λk v l h=>⟨(H.row k v l h).1.keepB λg hg=>hq g (λe=>H.out k v l h (e▸hg)) ((H.row k v l h).1.lt g hg).2,(H.row k v l h).2⟩,H.dis,H.out⟩⟩ n
theorem Ai6(i:Nat){E:List (Int×List Int)}(D:o.op= .mapUpdate ty x y z)(F:bT.underlying ty=jL (.map 3 27))(hx:evA t x= .lit (.map (jL m)))(X:evA t y= .lit (.int .i64 k))(W:evA t z= .bs tInt l)(hk:wfB .i64 k=aZ)(S:E.length < cC)(hi:h[i]? =jL (.res (Dt m E)))
 (hK:K ⟨Bn t o.dst (.lit undef),h.set i (.res (Dt m (Cb E k l)))⟩):AOp bT C o ⟨t,h⟩ K:=by
 refine gQ (ι:=Unit) (Rs:=λ_=>Dt m (Cb E k l)) (val:=λ_=>undef) hi (λ_=>rfl) (λT ψ w ρ H N L a=>?_) (λ_=>hK);have h1:=a x (by simp[D,bM]);have h2:=a y (by simp[D,bM]);have O:=a z (by simp[D,bM]);rw[hx]at h1;rw[X]at h2;rw[W]at O;unfold gR at h1 h2 O;obtain⟨h0,vs,f,c,I⟩:=N;have Y:vs.length=E.length:=by
  have hs:∀q,q∈keysK vs↔q∈keysK E:=λq=>by
   have:∀{β:Type} (l:List (Int×β)),(getK l q).isSome=aZ↔q∈keysK l:=λl=>by
    unfold keysK getK;rw[jI,List.find?_isSome];simp
   rw[<-this vs,<-this E,c q]
  have d:∀{β:Type} {l:List (Int×β)},Ef l->(keysK l).Nodup:=λh=>fW.2 (h.imp λab e=>by omega)
  have:=((List.perm_ext_iff_of_nodup (d f.1.1) (d h0.1)).2 hs).length_eq;simpa[keysK]using this
 obtain⟨w',b,J,hg,Z⟩:=f.put F (by omega) hk (ρ z);have he:(cB ρ o).run bT w= .ok .skip w':=by
  simp[cB,D,h1,h2,b,bV]
 rw[he];have aa:=f.lt;refine⟨⟨hg.os,hg.tape,hg.output,hg.size,λq hq S=>hg.block q hq λe=>S (by cases e;rfl)⟩,(),rfl,⟨h0.put hk l,_,J,λq=>?_,λq v u B s=>?_⟩,λg n=>⟨.inl n,by have:=L g n;omega⟩⟩
 ·rw[BK f.1.1,BK h0.1];split
  ·rfl
  ·exact c q
 ·rw[BK f.1.1]at B;rw[BK h0.1]at s;have U:∀g,T g->w'.heap[g]? =w.heap[g]?:=λg j=>hg.block g (H.lt g j) λe=>by
   cases e;exact((H.blk i _ hi).1 m V).2.1 j
  by_cases hq:q=k
  ·rw[if_pos hq]at B s;cases B;cases s;exact tInt.slice.keepS O U λ_ h=>h
  ·rw[if_neg hq]at B s;exact tInt.slice.keepS (I q v u B s) U λ_ h=>h
theorem Qp(i:Nat){bytes:Nat}{u:bX}{D:List Int}(ho:o.op= .call {callee:=.builtin .append,args:=#[x,y],argTypes:=#[ty,ty]})(hT:NT bT ty=jL (3,1,bytes))
 (hx:evA t x= .lit u)(hi:h[i]? =jL (.res (Ba m cv vs)))(hy:evA t y= .bs tInt D)(hk:wfB .i64 k=aZ)(hu:(getK vs k).getD (.slice jK 0 0,[])=(u,l))(hb:EZ (l.length+D.length) bytes=aZ)
 (hK:∀v':bX,K ⟨Bn t o.dst (.lit v'),h.set i (.res (Ba m cv (Cb vs k (v',l++D))))⟩):AOp bT C o ⟨t,h⟩ K:=by
 refine gQ (ι:=bX) (Rs:=λv'=>Ba m cv (Cb vs k (v',l++D))) (val:=λv'=>v') hi (λ_=>rfl) (λS ψ w ρ H hR ad Y=>?_) hK;have B:MRowsH m cv vs w:=hR;have O:=Y x (by rw[ho];exact aC.2 (.inr (by simp)));have E:=Y y (by rw[ho];exact aC.2 (.inr (by simp)));rw[hx]at O;rw[hy]at E;unfold gR at O E;have N:(getK vs k=jL (u,l))\/(getK vs k=jK/\u= .slice jK 0 0/\l= []):=by
  cases hg:getK vs k with
  |none=>rw[hg]at hu;cases hu;exact .inr ⟨rfl,rfl,rfl⟩
  |some p=>rw[hg]at hu;cases hu;exact .inl V
 obtain⟨ac,ai⟩:Gj w 0 u l/\Bg l:=by
  rcases N with h1|⟨_,rfl,rfl⟩
  ·exact B.row k u l h1
  ·exact⟨Gj.nil _ _,λx hx=>by cases hx⟩
 obtain⟨h1,ti,zz,h2,h3,h4,h5,h6⟩:=Dc hT;obtain⟨A,c,Z⟩:=Ck E;rw[Z]at E;obtain⟨news,aj,aa,al,am⟩:=I3 E λcs d ar=>JW _ _ _ _ ar
 have I:news=D.map (bY .i64)/\Bg D:=by
  have ae:news.length=D.length:=by rw[aj];exact jC _
  have hg:∀j d,D[j]? =jL d->news[j]? =jL (bY .i64 d)/\wfI .i64 d:=λj d hd=>by
   have:=al j d hd;rw[show tInt.size=1 from V,jC,gL,eI]at this;have ao:j < news.length:=by rw[ae];exact(dY.1 hd).1
   rw[dW ao]at this⊢;obtain⟨W,h8⟩:=DN.1 this;exact⟨by simpa using W,h8⟩
  refine⟨dE λj=>?_,λr hr=>?_⟩
  ·rw[dZ];cases hd:D[j]? with
   |none=>rw[dX (by rw[ae];exact List.getElem?_eq_none_iff.1 hd)];rfl
   |some d=>exact(hg j d hd).1
  ·obtain⟨j,hj⟩:=eA hr;exact(hg j r hj).2
 have J:=hb;unfold EZ at J;simp only[zag]at J;obtain⟨v',w',ab,T,f,au⟩:=Lw (P:=bT) (ty:=o.type) (c:=c) (base:=0) h1 h2 h3 h4 h5 h6 (Nat.zero_lt_one) ac (aa w λ_ _=>rfl) am J.1 J.2 (jF _);have aq:(cB ρ o).run bT w= .ok (.value v') w':=by
  unfold cB;simp only[ho,resolve,invoke,builtin,List.map_toArray,eT,eV,O,Z,ab,zan]
 rw[aq];have F:Gj w' 0 v' (l++D):=Gj.of (n:=l.length+D.length) T (by simp) (by rw[eS,I.1]);have s:∀g,u.ownBlock=jL g->getK vs k=jL (u,l):=λg hg=>by
  rcases N with W|⟨_,rfl,_⟩
  ·exact W
  ·cases hg
 have an:m < w.heap.size:=ad m (.inl V);have b:∀g,v'.ownBlock=jL g->u.ownBlock=jL g\/g=w.heap.size:=λg hg=>by
  rcases au with e1|e1
  ·exact .inl (e1▸hg)
  ·rw[e1]at hg;cases hg;exact .inr V
 have a:∀(q:Int) (v:bX) (r:List Int),getK (Cb vs k (v',l++D)) q=jL (v,r)->(q=k/\v=v'/\r=l++D)\/(q≠k/\getK vs q=jL (v,r)):=λq v r hq=>by
  rw[BK B.ok.1]at hq;by_cases e:q=k
  ·rw[if_pos e]at hq;cases hq;exact .inl ⟨e,rfl,rfl⟩
  ·rw[if_neg e]at hq;exact .inr ⟨e,hq⟩
 refine⟨⟨f.os,f.tape,f.output,f.size,λq hq hn=>f.block q hq λe=>hn (.inr ⟨k,u,l,s q e.symm,e.symm⟩)⟩,v',rfl,⟨?_,B.ok.put hk _,λq v r hq=>?_,λj q v X r r2 g ag hj hq hg=>?_,λq v r hq=>?_⟩,λg hg=>?_⟩
 ·exact B.map.keep (f.block m an λe=>B.out k u l (s m e.symm) e.symm)
 ·rcases a q v r hq with⟨rfl,rfl,rfl⟩|⟨ak,hq⟩
  ·exact⟨F,λr hr=>(eW.1 hr).elim (ai r) (I.2 r)⟩
  ·obtain⟨W,h8⟩:=B.row q v r hq;exact⟨W.keepB λg hg=>f.block g (W.lt g hg).2 λe=>B.dis q k v u r l g ak hq (s g e.symm) hg e.symm,h8⟩
 ·rcases a j v r hj with⟨rfl,rfl,rfl⟩|⟨ap,U⟩
  ·rcases a q X r2 hq with⟨rfl,_⟩|⟨af,L⟩
   ·exact absurd V ag
   ·rcases b g hg with e1|e1
    ·exact B.dis j q u X l r2 g (Ne.symm af) (s g e1) L e1
    ·intro e2;have:=((B.row q X r2 L).1.lt g e2).2;omega
  ·rcases a q X r2 hq with⟨rfl,rfl,rfl⟩|⟨af,L⟩
   ·intro e2;rcases b g e2 with e1|e1
    ·exact B.dis j q v u r l g ap U (s g e1) hg e1
    ·have:=((B.row j v r U).1.lt g hg).2;omega
   ·exact B.dis j q v X r r2 g ag U L hg
 ·rcases a q v r hq with⟨rfl,rfl,rfl⟩|⟨_,hq⟩
  ·intro e2;rcases b m e2 with e1|e1
   ·exact B.out q u l (s m e1) e1
   ·omega
  ·exact B.out q v r hq
 ·have av:w.heap.size<=w'.heap.size:=f.size;rcases hg with hg|⟨q,v,r,hq,hg⟩
  ·subst hg;exact⟨.inl (.inl V),by omega⟩
  ·rcases a q v r hq with⟨rfl,rfl,rfl⟩|⟨_,hq⟩
   ·have ah:=(F.lt g hg).2;rcases b g hg with e1|e1
    ·exact⟨.inl (.inr ⟨q,u,l,s g e1,e1⟩),ah⟩
    ·exact⟨.inr (by omega),ah⟩
   ·exact⟨.inl (.inr ⟨q,v,r,hq,hg⟩),by have:=ad g (.inr ⟨q,v,r,hq,hg⟩);omega⟩
end
open Go.ChangeMaps
variable{E:List (Int×List Int)}{S:Nat->Prop}{g i:Nat}{ob:Obj}
section
variable{H:Type}{P:bP}{w:cA}{t k e:bW}{R:bX->Option (DataW H×List MemPlace)}{b:Nat}{es:Array bJ}{clock:Nat}
theorem Arg(K:Keyed P k)(ht:P.underlying t=jL (.map k e)){z:bX}(hz:∀u:cA,(zeroValue e).run P u= .ok z u)(v:w.heap[b]? =jL (.map es clock))(F:WideElems.Fit P k R es clock){key:bX}{kl:Lit}(a:keyOf P k key=jL kl):
 ∃(Y:bX) (U:Nat) (L:Array bJ) (c:Nat),(bB t (.map (jL b)) key).run P w= .ok (.tuple #[Y,goInt U]) (setBlock w b (.map L c))/\
  ∀(I:cA) (val:bX),I.heap[b]? =jL (.map L c)->∃N d,(bA t (.map (jL b)) (goInt U) val).run P I= .ok () (setBlock I b (.map N d))/\(bC t (.map (jL b)) key val).run P w= .ok () (setBlock w b (.map N d)):=by
 obtain⟨Z,W,_⟩:=F.stamped;rcases K.find w a es.toList F.keys with⟨J,D⟩|⟨j,e0,J,D,O⟩
 ·refine⟨z,clock,es.push ⟨key,z,clock⟩,clock+1,?_,λI val f=>⟨es.push ⟨key,val,clock⟩,clock+1,?_,?_⟩⟩
  ·simp[bB,cD ht,bK v,K.check w aL a,J,hz,bL _ v,bV,setBlock]
  ·have hn:(((es.push ⟨key,z,clock⟩).toList).map (·.born)).Nodup:=by
    rw[aG,eS,fQ];refine⟨W,by simp,λp hp q hq e1=>?_⟩;obtain⟨x,hx,rfl⟩:=fG.1 hp;have:=Z x hx;have:q=clock:=by simpa using hq
    omega
   have s:(es.push ⟨key,z,clock⟩).findIdx? (λe=>((e.born:Nat):Int) ==((clock:Nat):Int))=jL es.size:=by
    rw[bZ];exact b9 (e0:=⟨key,z,clock⟩) hn (by simp)
   have n:(es.push ⟨key,z,clock⟩).modify es.size (λe=>{e with val:=val})=es.push ⟨key,val,clock⟩:=by
    apply aA;rw[aF,aG,aG,<-Array.length_toList,WideElems.modify_last]
   simp[bA,bK f,asInt,asIntOf,goInt,s,n,bL _ f,bV,setBlock]
  ·simp[bC,cD ht,bK v,K.check w aL a,J,bL _ v,bV,setBlock]
 ·have X:es[j]? =jL e0:=by simpa using D
  have B:es.modify j (λe=>{e with key:=key})=es:=by
   apply aA;rw[aF,modify_eq_set _ _ _ _ D];have:({e0 with key:=key}:bJ)=e0:=by rw[<-O]
   rw[this];exact WideElems.set_self _ _ _ D
  refine⟨e0.val,e0.born,es,clock,?_,λI val f=>⟨es.modify j (λT=>{T with key:=key,val:=val}),clock,?_,?_⟩⟩
  ·simp[bB,cD ht,bK v,K.check w aL a,J,X,O,K.stays w a,B,bL _ v,bV,setBlock]
  ·have s:es.findIdx? (λe=>((e.born:Nat):Int) ==((e0.born:Nat):Int))=jL j:=by
    rw[bZ];exact b9 W D
   have n:es.modify j (λe=>{e with val:=val})=es.modify j (λT=>{T with key:=key,val:=val}):=by
    apply aA;rw[aF,aF,modify_eq_set _ _ _ _ D,modify_eq_set _ _ _ _ D,<-O]
   simp[bA,bK f,asInt,asIntOf,goInt,s,n,bL _ f,bV,setBlock]
  ·simp[bC,cD ht,bK v,K.check w aL a,J,X,O,K.stays w a,bL _ v,bV,setBlock]
end
structure RowsK(m:Nat)(vs:List (Int×(Value×List Int)))(w:World):Prop where
 ok:okK vs
 row:∀(k:Int) (v:Value) (l:List Int),getK vs k=some (v,l)->Gj w 0 v l/\Bg l
 dis:∀(j k:Int) (v v':Value) (l l':List Int) (g:Nat),j≠k->getK vs j=some (v,l)->getK vs k=some (v',l')->v.ownBlock=some g->v'.ownBlock≠some g
 out:∀(k:Int) (v:Value) (l:List Int),getK vs k=some (v,l)->v.ownBlock≠some m
theorem RowsK.keep{m:Nat}{vs:List (Int×(bX×List Int))}{w w':cA}(H:RowsK m vs w)(hk:∀g,mrF m vs g->g≠m->w'.heap[g]? =w.heap[g]?):RowsK m vs w':=
 ⟨H.ok,λk v l h=>⟨(H.row k v l h).1.keepB λg hg=>hk g (.inr ⟨k,v,l,h,hg⟩) λe=>H.out k v l h (e▸hg),(H.row k v l h).2⟩,H.dis,H.out⟩
def Ak3(m:Nat)(cv:List (Int×bX))(vs:List (Int×(bX×List Int)))(ty:bW)(k:Int)(c:Nat):Res where
 mrk:=[]
 F:=mrF m vs
 R:=λw _=>RowsK m vs w/\∃es clock,w.heap[m]? =jL (.map es clock)/\∀(a:cA) (v:bX),a.heap[m]? =jL (.map es clock)->∃ob,(bA ty (.map (jL m)) (goInt c) v).run bT a= .ok () (setBlock a m ob)/\Nb (setBlock a m ob) m (Cb cv k v)
 keep:=λ⟨H,es,clock,h1,h2⟩ hk _ _=>⟨H.keep λg hg _=>hk g hg,es,clock,(hk m (.inl V)).trans h1,h2⟩
theorem Ia{w:cA}{m:Nat}(a:m < w.heap.size):(setBlock w m ob).heap[m]? =jL ob:=by simp[setBlock,a]
theorem EY{w:cA}{m:Nat}(hg:g≠m):(setBlock w m ob).heap[g]? =w.heap[g]?:=by simp[setBlock,Array.getElem?_setIfInBounds,Ne.symm hg]
section
variable{C:Ctx}{t:List AV}{h:List gO}{o:bN}{K:St->Prop}{ty e:bW}{x y z:bO}{m:Nat}{k:Int}{cv:List (Int×bX)}{vs:List (Int×(bX×List Int))}
theorem Ajb(i:Nat)(L:o.op= .mapEntry ty x y)(n:bT.underlying ty=jL (.map 3 27))(hx:evA t x= .lit (.map (jL m)))(Z:evA t y= .lit (.int .i64 k))(hk:wfB .i64 k=aZ)(hn:cv.length < cC)(hi:h[i]? =jL (.res (Ba m cv vs)))
 (hK:∀(D:bX) (d:Nat),K ⟨Bn t o.dst (.lit (.tuple #[D,goInt d])),h.set i (.res (Ak3 m cv vs ty k d))⟩):AOp bT C o ⟨t,h⟩ K:=by
 refine gQ (ι:=bX×Nat) (Rs:=λp=>Ak3 m cv vs ty k p.2) (val:=λp=>.tuple #[p.1,goInt p.2]) hi (λ_=>rfl) (λT ψ w ρ H W U f=>?_) (λp=>hK p.1 p.2);have h1:=f x (by simp[L,bM]);have h2:=f y (by simp[L,bM]);rw[hx]at h1;rw[Z]at h2;unfold gR at h1 h2;have c:MRowsH m cv vs w:=W;have u:=c.map.lt;obtain⟨h0,es,clock,hb,F,_⟩:=id c.map;obtain⟨D,d,B,a,s,J⟩:=Arg Qz n Oz hb F (keyOf_int_mk Tryz.underlying3 hk);have he:(cB ρ o).run bT w= .ok (.value (.tuple #[D,goInt d])) (setBlock w m (.map B a)):=by
  simp[cB,L,h1,h2,s,bV]
 rw[he];refine⟨⟨rfl,rfl,rfl,by simp[setBlock],λq hq N=>EY λe=>N (.inl e)⟩,(D,d),rfl,⟨RowsK.keep ⟨c.ok,c.row,c.dis,c.out⟩ λg _ hg=>EY hg,B,a,Ia u,λX v j=>?_⟩,λg hg=>⟨.inl hg,by have:=U g hg;simpa[setBlock]using this⟩⟩;obtain⟨aa,I,h3,h4⟩:=J X v j;obtain⟨w',Y,h6,_⟩:=c.map.put n hn hk v;rw[h4]at Y;cases Y;have O:m < X.heap.size:=(aB.1 j).1;exact⟨_,h3,h6.keep ((Ia O).trans (Ia u).symm)⟩
theorem Aja(i:Nat){v:bX}{D:Nat}(f:o.op= .entryStore ty x y z)(hx:evA t x= .lit (.map (jL m)))(I:evA t y= .lit (goInt D))(F:evA t z= .lit v)(hi:h[i]? =jL (.res (Ak3 m cv vs ty k D)))
 (O:K ⟨Bn t o.dst (.lit undef),h.set i (.res (Ba m (Cb cv k v) vs))⟩):AOp bT C o ⟨t,h⟩ K:=by
 refine gQ (ι:=Unit) (Rs:=λ_=>Ba m (Cb cv k v) vs) (val:=λ_=>undef) hi (λ_=>rfl) (λT ψ w ρ H u s c=>?_) (λ_=>O);have h1:=c x (by simp[f,bM]);have h2:=c y (by simp[f,bM]);have B:=c z (by simp[f,bM]);rw[hx]at h1;rw[I]at h2;rw[F]at B;unfold gR at h1 h2 B;obtain⟨U,es,clock,N,j⟩:=u;obtain⟨ob,d,J⟩:=j w v N;have L:(cB ρ o).run bT w= .ok .skip (setBlock w m ob):=by
  simp[cB,f,h1,h2,B,d,bV]
 rw[L];have a:RowsK m vs (setBlock w m ob):=U.keep λg _ hg=>EY hg
 exact⟨⟨rfl,rfl,rfl,by simp[setBlock],λq hq n=>EY λe=>n (.inl e)⟩,(),rfl,⟨J,a.ok,a.row,a.dis,a.out⟩,λg hg=>⟨.inl hg,by have:=s g hg;simpa[setBlock]using this⟩⟩
end
theorem MJ{w:cA}{m:Nat}{vs:List (Int×(bX×List Int))}(H:MRowsH m (mapK (·.1) vs) vs w)(f:∀g,mrF m vs g->S g):KG.RS w S [.map (jL m)] (mapK (·.2) vs):=by
 refine⟨H.ok.map _,.inr ⟨m,_,rfl,f m (.inl V),H.map,λk=>by rw[CD,CD,jI,jI],λk v x h1 h2=>?_⟩⟩;rw[CD]at h1 h2;obtain⟨p,a,rfl⟩:=jJ.1 h1;rw[a]at h2;cases h2;obtain⟨q,n⟩:=H.row k p.1 p.2 a;refine C9 (T:=tInt) q (λj d c=>?_) λg hg=>f g (.inr ⟨k,p.1,p.2,a,hg⟩)
 show tInt.RS w S (((p.2.map (bY .i64)).drop (j * 1)).take 1) d;have hi:(p.2.map (bY .i64))[j]? =jL (.int .i64 d):=by rw[dZ,c];rfl
 rw[jC,gL,eI,hi];exact DN.2 ⟨rfl,n d (fH c)⟩
theorem Aaa{w:cA}{S':Nat->Prop}{m:Nat}(H:(Dt m E).R w S)(a:S' m)(c:∀g,S g->S' g):KG.RS w S' [.map (jL m)] E:=by
 obtain⟨h0,vs,h1,h2,d⟩:=H;exact⟨h0,.inr ⟨m,vs,rfl,a,h1,h2,λk v x j f=>tInt.slice.keepS (d k v x j f) (λ_ _=>rfl) c⟩⟩
theorem Acd{h:List gO}{j1 j2 j3 j4 J I F D:Nat}{regs d:List Int}{B s n:List (Int×(bX×List Int))}(hm:mkD h= [])
 (hi:h[i]? =jL (.res (Bf g [.bs tInt regs,.lit (.map (jL J)),.lit (.map (jL I)),.lit (.map (jL F)),.lit (.map (jL D)),.bs tInt d])))(h1:h[j1]? =jL (.res (Dt J E)))
 (h2:h[j2]? =jL (.res (Ba I (mapK (·.1) B) B)))(h3:h[j3]? =jL (.res (Ba F (mapK (·.1) s) s)))(h4:h[j4]? =jL (.res (Ba D (mapK (·.1) n) n))):
 Fin h (.lit (.pointer (jL ⟨g,0,jK⟩))) (.bp Bc ⟨regs,E,mapK (·.2) B,mapK (·.2) s,mapK (·.2) n,d⟩ 0):=⟨hm,λC S ψ w v j H Y=>by
 unfold gR at Y;subst Y;have Z:=H.blk i _ hi;obtain⟨cs,e,X,W⟩:=Z.2;have U:=H.blk j1 _ h1;have T:=H.blk j2 _ h2;have O:=H.blk j3 _ h3;have N:=H.blk j4 _ h4;obtain⟨S',c⟩:∃S':Nat->Prop,S'=λk=>S k\/k=g\/(Dt J E).F k\/mrF I B k\/mrF F s k\/mrF D n k:=⟨_,rfl⟩
 have f:∀k,S k->S' k:=λk hk=>by rw[c];exact .inl hk
 have L:g < w.heap.size:=(aB.1 X).1;refine⟨S',f,λk hk=>?_,λk hk=>?_,?_⟩
 ·rw[c]at hk;rcases hk with hk|rfl|hk|hk|hk|hk
  ·exact .inl hk
  ·exact .inr (iX λa=>(Z.1 k V).1 (j _ a))
  ·exact .inr (iX λa=>(U.1 k hk).1 (j k a))
  ·exact .inr (iX λa=>(T.1 k hk).1 (j k a))
  ·exact .inr (iX λa=>(O.1 k hk).1 (j k a))
  ·exact .inr (iX λa=>(N.1 k hk).1 (j k a))
 ·rw[c]at hk;rcases hk with hk|rfl|hk|hk|hk|hk
  ·exact H.lt k hk
  ·exact L
  ·exact(U.1 k hk).2.2
  ·exact(T.1 k hk).2.2
  ·exact(O.1 k hk).2.2
  ·exact(N.1 k hk).2.2
 ·unfold gR;simp only[Af,gR]at W;obtain⟨c0,_,rfl,r0,c1,_,rfl,rfl,c2,_,rfl,rfl,c3,_,rfl,rfl,c4,_,rfl,rfl,c5,_,rfl,r5,rfl⟩:=W;refine⟨g,0,rfl,by rw[c];exact .inr (.inl V),_,OF.2 ⟨c0,_,_,_,_,c5,rfl,tInt.slice.keepS r0 (λ_ _=>rfl) f,Aaa U.2 (by rw[c];exact .inr (.inr (.inl V))) f,MJ T.2 (λq hq=>by rw[c];exact .inr (.inr (.inr (.inl hq)))),MJ O.2 (λq hq=>by rw[c];exact .inr (.inr (.inr (.inr (.inl hq))))),MJ N.2 (λq hq=>by rw[c];exact .inr (.inr (.inr (.inr (.inr hq))))),tInt.slice.keepS r5 (λ_ _=>rfl) f⟩,λq u hq=>?_⟩;unfold World.cell?;simp[X,hq]⟩
section
variable{P:bP}{C:Ctx}{t:List AV}{h:List gO}{o:bN}{K:St->Prop}
theorem Aco(i:Nat){a:bW}{x:bO}{cells:List AV}(j:o.op= .box a x)(hi:h[i]? =jL (.res nilR))(hx:evA t x= .agg cells)(hc:Bh cells=aZ)
 (q:∀g,K ⟨Bn t o.dst (.lit (.pointer (jL ⟨g,0,jK⟩))),h.set i (.res (Bf g cells))⟩):AOp P C o ⟨t,h⟩ K:=by
 refine gQ (ι:=Nat) (Rs:=λg=>Bf g cells) (val:=λg=>.pointer (jL ⟨g,0,jK⟩)) hi (λ_=>rfl) (λS ψ w ρ H _ _ d=>?_) q;have h1:=d x (by simp[j,bM]);rw[hx]at h1;unfold gR at h1;obtain⟨cs,e,f⟩:=h1;have n:(cB ρ o).run P w= .ok (.value (.pointer (jL ⟨w.heap.size,0,jK⟩))) (w.alloc (.cells cs.toArray a)):=by
  simp[cB,j,Instr.box,Go.newVar,Go.newRow,e,Value.cells]
 rw[n];have c:=(Below.refl w.heap.size w).alloc (iY _) (.cells cs.toArray a);refine⟨⟨c.os,c.tape,c.output,c.size,λk hk _=>c.block k hk⟩,w.heap.size,rfl,⟨cs,a,heap_alloc_new w _,?_⟩,λk hk=>?_⟩
 ·exact AA (Ext.grow [] ψ0 (λk hk=>c.block k (H.lt k hk)) λ_ h=>h) _ _ (Bj _ _ hc f)
 ·have hk:k=w.heap.size:=hk;subst hk;exact⟨.inr (iY _),by simp⟩
theorem Mt{ι:Type}{Rs:ι->Res}{val:ι->bX}{R:Res}{f:FuncId}{x:bO}{args:Array bO}{c:Array bW}{xs:List AV}(hi:h[i]? =jL (.res R))
 (j:o.op= .call {callee:=.value x,args:=args,argTypes:=c})(s:evA t x= .lit (.func (.func f) #[] #[]))(q:DO P f R xs Rs val)(u:∀p,(Rs p).mrk=R.mrk)(hx:args.toList.map (evA t)=xs)(hc:Bh xs=aZ)
 (D:∀p,K ⟨Bn t o.dst (.lit (val p)),h.set i (.res (Rs p))⟩):AOp P C o ⟨t,h⟩ K:=by
 refine gQ hi u (λS ψ w ρ H B n a=>?_) D;have h1:=a x (by rw[j];exact aC.2 (.inl (by simp)));rw[s]at h1;unfold gR at h1;rw[OR (cs:=#[]) j q.1 ρ w h1];refine⟨rfl,?_⟩;have h2:Af w S h ψ xs (args.toList.map ρ):=by
  rw[<-hx];exact Cf λx d=>a x (by rw[j];exact aC.2 (.inr (aD.1 d)))
 rw[show(args.map ρ++(#[]:Array bX))=(args.toList.map ρ).toArray from(by rw[Array.append_empty,<-aE])];exact q.2 w S (args.toList.map ρ) (λk hk=>⟨H.lt k hk,λv=>((H.blk i _ hi).1 k v).2.1 hk⟩) n B (Bj _ _ hc h2)
end
end Mu
namespace Mu
open Go Go.RowKit Go.Proofs Go.Maps
variable{E:List (Int×List Int)}{X:gO}{cv:List (Int×bX)}{l:List iS}{m:Nat}{x:iS}{α:Type}
def Qu(E:List (Int×List Int))(x:iS):List (Int×List Int):=Cb (Cb E x.a (((getK E x.a).getD [])++[x.b])) x.b (((getK E x.b).getD [])++[x.a])
def Mi(l:List iS):List (Int×List Int):=l.foldl Qu []
theorem Af1(vs:List (Int×(bX×List Int)))(k:Int):(getK vs k).getD (.slice jK 0 0,[])=((getK (mapK (·.1) vs) k).getD (.slice jK 0 0),(getK (mapK (·.2) vs) k).getD []):=by
 rw[CD,CD];cases getK vs k <;> rfl
theorem Aq8{l:List (Int×α)}(h:Ef l){a b:Int}(c:a≠b)(v:α):getK (Cb l a v) b=getK l b:=by
 rw[BK h,if_neg (Ne.symm c)]
theorem mr3{a b c d e:Bool}{Y Z:gO}{n j f:List (Int×(bX×List Int))}(hc:c=aL)(q:b=aL)(s:a=aL):
 ∃vs,(bif a then X else(bif b then Y else(bif c then Z else(bif d then(gP (Ba m cv n))else(bif e then(gP (Ba m cv j))else .res (Ba m cv f))))))=gP (Ba m cv vs):=by
 subst s q hc;cases d <;> cases e <;> exact⟨_,rfl⟩
theorem Ld{C:Ctx}{t:List AV}{h:List gO}{o:bN}{ty:bW}{x y:bO}{k:Int}{u:bX}(i:Nat)(f:o.op= .lookup ty x y aL)(a:bT.underlying ty=jL (.map 3 27))(hx:evA t x= .lit (.map (jL m)))(c:evA t y= .lit (.int .i64 k))(hk:wfB .i64 k=aZ)(j:∃vs,X= .res (Ba m cv vs))(hi:h[i]? =jL X)(d:(getK cv k).getD (.slice none 0 0)=u:=by rfl):
 AT bT C t h o (.lit u):=by
 obtain⟨vs,rfl⟩:=j;subst d;exact Ab4 i f a hx c hk hi
theorem Adw(E:List (Int×List Int))(x:iS):(Qu E x).length<=E.length+2:=by
 unfold Qu;have h1:=E3 (l:=E) x.a (((getK E x.a).getD [])++[x.b]);have h2:=E3 (l:=Cb E x.a (((getK E x.a).getD [])++[x.b])) x.b (((getK E x.b).getD [])++[x.a]);omega
theorem Ady(h:Ef E)(x:iS):Ef (Qu E x):=(h.put _ _).put _ _
theorem Adx(h:Ef E)(hx:x.a≠x.b)(k:Int):(getK (Qu E x) k).getD []=(getK E k).getD []++(if k=x.a then [x.b]else if k=x.b then [x.a]else []):=by
 unfold Qu;rw[BK (h.put _ _),BK h];by_cases c:k=x.b
 ·have a:¬k=x.a:=λe=>hx (e.symm.trans c)
  rw[if_pos c,if_neg a,if_pos c,c];rfl
 ·by_cases a:k=x.a
  ·rw[if_neg c,if_pos a,if_pos a,a];rfl
  ·rw[if_neg c,if_neg a,if_neg a,if_neg c,cR]
theorem Alt(l:List iS)(a:∀x∈l,x.a≠x.b)(k:Int):∀{E:List (Int×List Int)},Ef E->(getK (l.foldl Qu E) k).getD []=(getK E k).getD []++l.flatMap λx=>if k=x.a then [x.b]else if k=x.b then [x.a]else []:=by
 induction l with
 |nil=>intro E h;simp
 |cons x l c=>
  intro E h;rw[dQ,c (λy d=>a y (fA _ d)) (Ady h x),Adx h (a x fB),dO,cP]
theorem PR(a:∀x∈l,x.a≠x.b)(k:Int):(getK (Mi l) k).getD []=l.flatMap λx=>if k=x.a then [x.b]else if k=x.b then [x.a]else []:=by
 have:=Alt l a k Ef.nil;rw[show(getK ([]:List (Int×List Int)) k).getD []= []from V,fP]at this;exact this
theorem Vf(a:∀x∈l,x.a≠x.b)(k:Int):((getK (Mi l) k).getD []).length<=l.length:=by
 rw[PR a];clear a;induction l with
 |nil=>simp
 |cons x l c=>
  rw[dO,eJ,eK];have:(if k=x.a then [x.b]else if k=x.b then [x.a]else []).length<=1:=by
   split
   ·simp
   ·split <;> simp
  omega
theorem Abt(l:List iS):(Mi l).length<=2 * l.length:=by
 have:∀E:List (Int×List Int),(l.foldl Qu E).length<=E.length+2 * l.length:=by
  induction l with
  |nil=>intro E;simp
  |cons x l a=>
   intro E;rw[dQ,eK];have h1:=a (Qu E x);have h2:=Adw E x;omega
 have:=this [];simpa[Mi]using this
theorem Abs{k:Nat}(h:l[k]? =jL x):Mi (l.take (k+1))=Qu (Mi (l.take k)) x:=by
 unfold Mi;rw[gI,h];simp[dP]
theorem LX{β:Type}(e:α->β)(l:List (Int×α)):(mapK e l).length=l.length:=by simp[mapK]
abbrev Am2(l:List iS):Prop:=∀x∈l,Cm x.a/\Cm x.b/\x.a≠x.b
theorem Ve(l:List iS)(m:Nat)(hl:l.length<=1073741824)(hg:Am2 l):DO bT 49 (Ba m [] []) [.bs Dp l,.lit (.map (jL m))] (λp:{vs:List (Int×(bX×List Int)) // mapK (·.2) vs=Mi l}=>Ba m (mapK (·.1) p.1) p.1) (λ_=>.tuple #[]):=by
 refine D3 Tryz.func49 V (by kernel_rfl) V Tryz.ntmps49 V (λ_ _ _ _ h=>h) λC=>?_
 simp only[Nat.reduceAdd,Nat.reduceSub,zaa];refine wR ?_;refine Ad ?_;refine AH (λp:Nat×List (Int×(bX×List Int))=>⟨(.any::.lit (.map (jL m))::A4 (.bs Dp l::.lit (.int .i64 (l.length:Int))::.lit (.int .i64 (p.1:Int))::A20 (A8 []))),[.res (Ba m (mapK (·.1) p.2) p.2)]⟩) (λp=>p.1<=l.length/\okK p.2/\mapK (·.2) p.2=Mi (l.take p.1)) (λp=>l.length - p.1) (0,[]) ⟨jF _,okK.nil,rfl⟩ (AS) ?_;rintro⟨k,vs⟩ ⟨hk,U,Z⟩;have Z:mapK (·.2) vs=Mi (l.take k):=Z;have U:okK vs:=U;have hk:k<=l.length:=hk;refine wR ?_;refine Ab λK4 h4=>?_
 refine Ah V (λY=>?_) (λY=>?_)
 ·have aa:k < l.length:=by simpa using Y
  obtain⟨x,hx⟩:∃x,l[k]? =jL x:=⟨_,dW aa⟩
  obtain⟨N,L,ai⟩:=hg x (fH hx);have ad:Ef vs:=U.1;have ab:∀y∈l.take k,y.a≠y.b:=λy hy=>(hg y (fI hy)).2.2
  have ag:EZ (((getK (mapK (·.2) vs) x.a).getD []).length+ [x.b].length) 8=aZ:=by
   have h1:=Vf ab x.a;have h2:(l.take k).length<=l.length:=by rw[eR];omega
   rw[Z];unfold EZ;simp only[zag,zai];unfold cC;omega
  have af:EZ (((getK (mapK (·.2) vs) x.b).getD []).length+ [x.a].length) 8=aZ:=by
   have h1:=Vf ab x.b;have h2:(l.take k).length<=l.length:=by rw[eR];omega
   rw[Z];unfold EZ;simp only[zag,zai];unfold cC;omega
  have av:vs.length<=2 * l.length:=by
   have h1:=Abt (l.take k);have h2:(l.take k).length<=l.length:=by rw[eR];omega
   rw[<-Z,LX]at h1;omega
  have ah:(mapK (·.1) vs).length < cC:=by rw[LX];unfold cC;omega
  have ac:∀v:bX,(Cb (mapK (·.1) vs) x.a v).length < cC:=λv=>by have:=E3 (l:=mapK (·.1) vs) x.a v;rw[LX]at this;unfold cC;omega
  refine Al ?_;refine h4 _ ?_;refine nT ?_;refine Ab λK6 h6=>?_
  refine Ad ?_;refine wR ?_;refine AK ⟨.any::.lit (.map (jL m))::A3 (.ptr 1 0::.bs Dp l::.lit (.int .i64 (l.length:Int))::.lit (.int .i64 (k:Int))::A20 (A8 [])),[.res (Ba m (mapK (·.1) vs) vs),.box (CS x)]⟩ AS ?_;refine Fk (n:=26) (undef,undef,0,undef) (λ(i:bX×bX×Nat×bX) (b:Nat->Bool)=>⟨.any::.lit (.map (jL m))::A3 (.ptr 1 0::.bs Dp l::.lit (.int .i64 (l.length:Int))::.lit (.int .i64 (k:Int))::A3 [(bif b 0 then .lit (.map (jL m))else .any),(bif b 1 then .ptr 1 0 else .any),(bif b 2 then .lit (.int .i64 x.a)else .any),(bif b 3 then .lit (.map (jL m))else .any),(bif b 4 then .ptr 1 1 else .any),(bif b 5 then .lit (.int .i64 x.b)else .any),(bif b 6 then .lit (.map (jL m))else .any),(bif b 7 then .ptr 1 0 else .any),(bif b 8 then .lit (.int .i64 x.a)else .any),(bif b 9 then .lit ((getK (mapK (·.1) vs) x.a).getD (.slice jK 0 0))else .any),(bif b 10 then .ptr 1 1 else .any),(bif b 11 then .lit (.int .i64 x.b)else .any),(bif b 12 then .bs tInt [x.b]else .any),(bif b 13 then .lit i.1 else .any),(bif b 14 then .lit (.map (jL m))else .any),(bif b 15 then .ptr 1 1 else .any),(bif b 16 then .lit (.int .i64 x.b)else .any),(bif b 17 then .lit ((getK (mapK (·.1) vs) x.b).getD (.slice jK 0 0))else .any),(bif b 18 then .ptr 1 0 else .any),(bif b 19 then .lit (.int .i64 x.a)else .any),(bif b 20 then .bs tInt [x.a]else .any),(bif b 21 then .lit i.2.1 else .any),(bif b 22 then .lit (.tuple #[i.2.2.2,goInt i.2.2.1])else .any),(bif b 23 then .lit (goInt i.2.2.1)else .any),.any]),[(bif b 25 then(gP (Ba m (Cb (Cb (mapK (·.1) vs) x.a i.1) x.b i.2.1) (Cb (Cb vs x.a (i.1,((getK (mapK (·.2) vs) x.a).getD [])++[x.b])) x.b (i.2.1,((getK (mapK (·.2) vs) x.b).getD [])++[x.a]))))else(bif b 24 then(gP (Ba m (Cb (mapK (·.1) vs) x.a i.1) (Cb (Cb vs x.a (i.1,((getK (mapK (·.2) vs) x.a).getD [])++[x.b])) x.b (i.2.1,((getK (mapK (·.2) vs) x.b).getD [])++[x.a]))))else(bif b 22 then(gP (Ak3 m (mapK (·.1) vs) (Cb (Cb vs x.a (i.1,((getK (mapK (·.2) vs) x.a).getD [])++[x.b])) x.b (i.2.1,((getK (mapK (·.2) vs) x.b).getD [])++[x.a])) 77 x.a i.2.2.1))else(bif b 21 then(gP (Ba m (mapK (·.1) vs) (Cb (Cb vs x.a (i.1,((getK (mapK (·.2) vs) x.a).getD [])++[x.b])) x.b (i.2.1,((getK (mapK (·.2) vs) x.b).getD [])++[x.a]))))else(bif b 13 then(gP (Ba m (mapK (·.1) vs) (Cb vs x.a (i.1,((getK (mapK (·.2) vs) x.a).getD [])++[x.b]))))else .res (Ba m (mapK (·.1) vs) vs)))))),.box (CS x)]⟩) ?_ ?_ ?_ ?_ ?_
  ·rfl
  ·kernel_rfl
  ·kernel_rfl
  ·refine AM (λi b c a hc=>?_) ?_
   ·try dsimp only
    refine AX (AT.move V Gi) ?_;exact⟨i,iU⟩
   refine AM (λi b c a hc=>?_) ?_
   ·try dsimp only
    refine AX (Bo V Fc V) ?_;exact⟨i,iU⟩
   refine AM (λi b c a hc=>?_) ?_
   ·have h1:b 1=aZ:=a 0 _ V V;try dsimp only
    refine AX (Be V ((Ao Fc).trans (BD h1 _ _)) V V) ?_;exact⟨i,iU⟩
   refine AM (λi b c a hc=>?_) ?_
   ·try dsimp only
    refine AX (AT.move V Gi) ?_;exact⟨i,iU⟩
   refine AM (λi b c a hc=>?_) ?_
   ·try dsimp only
    refine AX (Bo V Fc V) ?_;exact⟨i,iU⟩
   refine AM (λi b c a hc=>?_) ?_
   ·have h4:b 4=aZ:=a 0 _ V V;try dsimp only
    refine AX (Be V ((Ao (Ao IP)).trans (BD h4 _ _)) V V) ?_;exact⟨i,iU⟩
   refine AM (λi b c a hc=>?_) ?_
   ·try dsimp only
    refine AX (AT.move V Gi) ?_;exact⟨i,iU⟩
   refine AM (λi b c a hc=>?_) ?_
   ·try dsimp only
    refine AX (Bo V Fc V) ?_;exact⟨i,iU⟩
   refine AM (λi b c a hc=>?_) ?_
   ·have h7:b 7=aZ:=a 0 _ V V;try dsimp only
    refine AX (Be V ((Ao (Ao Fw)).trans (BD h7 _ _)) V V) ?_;exact⟨i,iU⟩
   refine AM (λi b c a hc=>?_) ?_
   ·have h6:b 6=aZ:=a 0 _ V V;have h8:b 8=aZ:=a 1 _ V V;have O:b 13=aL:=AW hc (i:=9) (j:=13) (k:=0) V V V V c;have s:b 22=aL:=AW hc (i:=13) (j:=22) (k:=16) V V V V O;have f:b 24=aL:=AW hc (i:=9) (j:=24) (k:=13) V V V V c;have d:b 25=aL:=AW hc (i:=9) (j:=25) (k:=13) V V V V c;try dsimp only
    refine AX (Ld (u:=((getK (mapK (·.1) vs) x.a).getD (.slice jK 0 0))) 0 V bU ((Ao (Ao Fm)).trans (BD h6 _ _)) ((Ao (Ao Gz)).trans (BD h8 _ _)) N (mr3 s f d) V) ?_;exact⟨i,iU⟩
   refine AM (λi b c a hc=>?_) ?_
   ·try dsimp only
    refine AX (Bo V Fc V) ?_;exact⟨i,iU⟩
   refine AM (λi b c a hc=>?_) ?_
   ·have au:b 10=aZ:=a 0 _ V V;try dsimp only
    refine AX (Be V ((Ao (Ao HW)).trans (BD au _ _)) V V) ?_;exact⟨i,iU⟩
   refine AM (λi b c a hc=>?_) ?_
   ·have ar:b 11=aZ:=a 0 _ V V;try dsimp only
    refine AX (Cj (T:=tInt) V V V (by rfl) (by decide) (Fit.of_eq ((Ao (Ao GP)).trans (BD ar _ _)) (Fit.int L))) ?_;exact⟨i,iU⟩
   refine AM (λi b c a hc=>?_) ?_
   ·have h9:b 9=aZ:=a 0 _ V V;have aq:b 12=aZ:=a 1 _ V V;have d:b 25=aL:=AW hc (i:=13) (j:=25) (k:=17) V V V V c;have f:b 24=aL:=AW hc (i:=13) (j:=24) (k:=2) V V V V c;have s:b 22=aL:=AW hc (i:=13) (j:=22) (k:=16) V V V V c;have F:b 21=aL:=AW hc (i:=13) (j:=21) (k:=2) V V V V c;have B:b 23=aL:=AW hc (i:=22) (j:=23) (k:=0) V V V V s;have ae:upd b 13 21=aL:=F;have W:upd b 13 22=aL:=s;have I:upd b 13 24=aL:=f;have D:upd b 13 25=aL:=d;have J:upd b 13 23=aL:=B;try dsimp only
    refine Qp (k:=x.a) 0 V V ((Ao (Ao Fc)).trans (BD h9 _ _)) (congrArg jL (((((CW d _ _).trans (CW f _ _)).trans (CW s _ _)).trans (CW F _ _)).trans (CW c _ _))) ((Ao (Ao (Ao IP))).trans (BD aq _ _)) N (Af1 vs x.a) ag λv=>?_
    refine⟨(v,i.2),?_⟩;simp only[F,ae,cond_false,s,W,cond_false,B,J,cond_false,f,I,cond_false,d,D,cond_false];exact iU
   refine AM (λi b c a hc=>?_) ?_
   ·try dsimp only
    refine AX (AT.move V Gi) ?_;exact⟨i,iU⟩
   refine AM (λi b c a hc=>?_) ?_
   ·try dsimp only
    refine AX (Bo V Fc V) ?_;exact⟨i,iU⟩
   refine AM (λi b c a hc=>?_) ?_
   ·have ao:b 15=aZ:=a 0 _ V V;try dsimp only
    refine AX (Be V ((Ao (Ao (Ao Fw))).trans (BD ao _ _)) V V) ?_;exact⟨i,iU⟩
   refine AM (λi b c a hc=>?_) ?_
   ·have ap:b 14=aZ:=a 0 _ V V;have an:b 16=aZ:=a 1 _ V V;have s:b 22=aL:=AW hc (i:=17) (j:=22) (k:=20) V V V V c;have f:b 24=aL:=AW hc (i:=17) (j:=24) (k:=21) V V V V c;have d:b 25=aL:=AW hc (i:=17) (j:=25) (k:=21) V V V V c;try dsimp only
    refine AX (Ld (u:=((getK (mapK (·.1) vs) x.b).getD (.slice jK 0 0))) 0 V bU ((Ao (Ao (Ao Fm))).trans (BD ap _ _)) ((Ao (Ao (Ao Gz))).trans (BD an _ _)) L (mr3 s f d) V) ?_;exact⟨i,iU⟩
   refine AM (λi b c a hc=>?_) ?_
   ·try dsimp only
    refine AX (Bo V Fc V) ?_;exact⟨i,iU⟩
   refine AM (λi b c a hc=>?_) ?_
   ·have al:b 18=aZ:=a 0 _ V V;try dsimp only
    refine AX (Be V ((Ao (Ao (Ao HW))).trans (BD al _ _)) V V) ?_;exact⟨i,iU⟩
   refine AM (λi b c a hc=>?_) ?_
   ·have ak:b 19=aZ:=a 0 _ V V;try dsimp only
    refine AX (Cj (T:=tInt) V V V (by rfl) (by decide) (Fit.of_eq ((Ao (Ao (Ao GP))).trans (BD ak _ _)) (Fit.int N))) ?_;exact⟨i,iU⟩
   refine AM (λi b c a hc=>?_) ?_
   ·have am:b 17=aZ:=a 0 _ V V;have aj:b 20=aZ:=a 1 _ V V;have d:b 25=aL:=AW hc (i:=21) (j:=25) (k:=2) V V V V c;have f:b 24=aL:=AW hc (i:=21) (j:=24) (k:=25) V V V V c;have s:b 22=aL:=AW hc (i:=21) (j:=22) (k:=2) V V V V c;have O:b 13=aZ:=a 2 _ V V;have B:b 23=aL:=AW hc (i:=22) (j:=23) (k:=0) V V V V s;have W:upd b 21 22=aL:=s;have I:upd b 21 24=aL:=f;have D:upd b 21 25=aL:=d;have J:upd b 21 23=aL:=B;try dsimp only
    refine Qp (k:=x.b) 0 V V ((Ao (Ao (Ao Fc))).trans (BD am _ _)) (congrArg jL (((((CW d _ _).trans (CW f _ _)).trans (CW s _ _)).trans (CW c _ _)).trans (Sz O _ _))) ((As IP).trans (BD aj _ _)) L ((congrArg (λq=>Option.getD q (.slice jK 0 0,[])) (Aq8 ad ai _)).trans (Af1 vs x.b)) af λv=>?_
    refine⟨(i.1,v,i.2.2),?_⟩;simp only[s,W,cond_false,B,J,cond_false,f,I,cond_false,d,D,cond_false];exact iU
   refine AM (λi b c a hc=>?_) ?_
   ·have h0:b 0=aZ:=a 0 _ V V;have h2:b 2=aZ:=a 1 _ V V;have d:b 25=aL:=AW hc (i:=22) (j:=25) (k:=26) V V V V c;have f:b 24=aL:=AW hc (i:=22) (j:=24) (k:=3) V V V V c;have F:b 21=aZ:=a 2 _ V V;have B:b 23=aL:=AW hc (i:=22) (j:=23) (k:=0) V V V V c;have I:upd b 22 24=aL:=f;have D:upd b 22 25=aL:=d;have J:upd b 22 23=aL:=B;try dsimp only
    refine Ajb 0 V bU ((Ao Gz).trans (BD h0 _ _)) ((Ao HW).trans (BD h2 _ _)) N ah (congrArg jL ((((CW d _ _).trans (CW f _ _)).trans (CW c _ _)).trans (Sz F _ _))) λv st=>?_
    refine⟨(i.1,i.2.1,st,v),?_⟩;simp only[B,J,cond_false,f,I,cond_false,d,D,cond_false];exact iU
   refine AM (λi b c a hc=>?_) ?_
   ·have s:b 22=aZ:=a 0 _ V V;try dsimp only
    refine AX (BU V ((As Fm).trans (BD s _ _)) V) ?_;exact⟨i,iU⟩
   refine AM (λi b c a hc=>?_) ?_
   ·have h0:b 0=aZ:=a 0 _ V V;have O:b 13=aZ:=a 2 _ V V;have B:b 23=aZ:=a 1 _ V V;have d:b 25=aL:=AW hc (i:=24) (j:=25) (k:=3) V V V V c;have s:b 22=aZ:=a 3 _ V V;have D:upd b 24 25=aL:=d;try dsimp only
    refine Aja 0 V ((Ao Gz).trans (BD h0 _ _)) ((As Fw).trans (BD B _ _)) ((Ao (Ao (Ao Gi))).trans (BD O _ _)) (congrArg jL (((CW d _ _).trans (CW c _ _)).trans (Sz s _ _))) ?_;refine⟨i,?_⟩;simp only[d,D,cond_false];exact iU
   refine AM (λi b c a hc=>?_) ?_
   ·have h3:b 3=aZ:=a 0 _ V V;have h5:b 5=aZ:=a 1 _ V V;have F:b 21=aZ:=a 2 _ V V;have f:b 24=aZ:=a 3 _ V V;try dsimp only
    refine VP 0 V bU ((Ao GP).trans (BD h3 _ _)) ((Ao (Ao Gi)).trans (BD h5 _ _)) ((As Gi).trans (BD F _ _)) L (ac _) (congrArg jL ((CW c _ _).trans (Sz f _ _))) ?_;refine⟨i,?_⟩;exact iU
   exact Nx
  intro i;refine qVia ⟨.any::.lit (.map (jL m))::A3 (.ptr 1 0::.bs Dp l::.lit (.int .i64 (l.length:Int))::.lit (.int .i64 (k:Int))::A3 [.lit (.map (jL m)),.ptr 1 0,.lit (.int .i64 x.a),.lit (.map (jL m)),.ptr 1 1,.lit (.int .i64 x.b),.lit (.map (jL m)),.ptr 1 0,.lit (.int .i64 x.a),.lit ((getK (mapK (·.1) vs) x.a).getD (.slice jK 0 0)),.ptr 1 1,.lit (.int .i64 x.b),.bs tInt [x.b],.lit i.1,.lit (.map (jL m)),.ptr 1 1,.lit (.int .i64 x.b),.lit ((getK (mapK (·.1) vs) x.b).getD (.slice jK 0 0)),.ptr 1 0,.lit (.int .i64 x.a),.bs tInt [x.a],.lit i.2.1,.lit (.tuple #[i.2.2.2,goInt i.2.2.1]),.lit (goInt i.2.2.1),.any]),[.res (Ba m (Cb (Cb (mapK (·.1) vs) x.a i.1) x.b i.2.1) (Cb (Cb vs x.a (i.1,((getK (mapK (·.2) vs) x.a).getD [])++[x.b])) x.b (i.2.1,((getK (mapK (·.2) vs) x.b).getD [])++[x.a]))),.box (CS x)]⟩ V ?_;refine h6 _ ?_;refine nT ?_;refine AK ⟨(.any::.lit (.map (jL m))::A4 (.bs Dp l::.lit (.int .i64 (l.length:Int))::.lit (.int .i64 (k:Int))::A20 (A8 []))),[.res (Ba m (mapK (·.1) (Cb (Cb vs x.a (i.1,((getK (mapK (·.2) vs) x.a).getD [])++[x.b])) x.b (i.2.1,((getK (mapK (·.2) vs) x.b).getD [])++[x.a]))) (Cb (Cb vs x.a (i.1,((getK (mapK (·.2) vs) x.a).getD [])++[x.b])) x.b (i.2.1,((getK (mapK (·.2) vs) x.b).getD [])++[x.a])))]⟩ (by rw[Gv,Gv];exact Kr (.cons (gX _))) ?_;refine wRE ?_;refine Ap ⟨(k+1,Cb (Cb vs x.a (i.1,((getK (mapK (·.2) vs) x.a).getD [])++[x.b])) x.b (i.2.1,((getK (mapK (·.2) vs) x.b).getD [])++[x.a])),⟨aa,(U.put N _).put L _,?_⟩,by show l.length - (k+1) < l.length - k;omega,AS⟩;dsimp only;rw[Gv,Gv,Abs hx,Z];rfl
 ·obtain rfl:k=l.length:=by have:¬k < l.length:=(by simpa using Y);omega
  refine Ay ?_;exact⟨.inl V,⟨vs,by rw[Z,gJ]⟩,rfl,rfl⟩
end Mu
namespace Mu
open Go Go.RowKit Go.Proofs
def R5(leaf:Bool):Int:=if leaf then 8 else 24
def Aij(own:Int)(n:Nat):List hZ:=(fY n).map λ(r:Nat)=>⟨(r:Int),own+(r:Int)⟩
def M5(l:List Int)(k:Nat):List hZ:=(fY k).map λ(j:Nat)=>⟨l.getD j 0,8+(j:Int)⟩
def EJ(own:Int)(x:Ins):List hZ:=if x.op ==10 then [⟨x.a,own⟩]else if x.op ==5 then⟨x.d,8⟩::M5 x.args (x.args.take 6).length else []
def Jn(own:Int)(b:gU):List hZ:=b.ins.flatMap (EJ own)
def Cc(f:g9)(leaf:Bool):List hZ:=Aij (R5 leaf) (argsK f)++f.blocks.flatMap (Jn (R5 leaf))
theorem Aii(own:Int)(n:Nat):Aij own (n+1)=Aij own n++[⟨(n:Int),own+(n:Int)⟩]:=by unfold Aij;rw[gD,eS];rfl
theorem SK(own:Int)(n:Nat):(Aij own n).length=n:=by simp[Aij]
theorem Abr{l:List Int}{k:Nat}{a:Int}(h:l[k]? =jL a):M5 l (k+1)=M5 l k++[⟨a,8+(k:Int)⟩]:=by
 unfold M5;rw[gD,eS];simp only[eT,eV,dT,h,jG]
theorem U9(l:List Int)(k:Nat):(M5 l k).length=k:=by simp[M5]
theorem Ag0(own:Int)(x:Ins):(EJ own x).length<=7:=by
 unfold EJ;split
 ·simp
 ·split
  ·rw[eK,U9,eR];omega
  ·simp
theorem Aav(own:Int)(l:List Ins):(l.flatMap (EJ own)).length<=7 * l.length:=by
 induction l with
 |nil=>simp
 |cons x l a=>
  have:=Ag0 own x;rw[dO,eJ,eK];omega
def Rv(f:g9):List Ins:=f.blocks.flatMap (·.ins)
theorem Aal(own:Int)(f:g9):(f.blocks.flatMap (Jn own)).length<=7 *(Rv f).length:=by
 have:=Aav own (Rv f);unfold Rv at *;rw[List.flatMap_assoc]at this;exact this
theorem Aak(f:g9)(leaf:Bool)(ho:okFunc f)(hs:smallF f)(hI:(Rv f).length<=2097152):Fn bT 51 [.agg (Ak f),.lit (.bool leaf)] (.bs Gk (Cc f leaf)):=by
 have cd:=hs.blocks;have cb:=(GG f).2;refine AQ Tryz.func51 V (by kernel_rfl) V Tryz.ntmps51 λC hC=>?_
 refine nS ?_;refine rCS ?_;refine rCS ?_;refine Ab λK3 h3=>?_
 have aa:∀s':St,St.le C s' ⟨(A2 (.ptr 0 0::A2 (.lit (.int .i64 (R5 leaf))::A80 []))),[.box (Ak f)]⟩->K3 s':=by
  intro s' al;refine h3 _ (AK _ al ?_);have aw:8<=R5 leaf/\R5 leaf<=24:=by unfold R5;split <;> omega
  have Y:∀j:Nat,j<=6->wfI .i64 (R5 leaf+(j:Int)):=λj hj=>by
   have:wfI .i64 (((R5 leaf).toNat+j:Nat):Int):=LU (by omega);rwa [show(((R5 leaf).toNat+j:Nat):Int)=R5 leaf+(j:Int)by omega]at this
  have L:wfI .i64 (R5 leaf):=by have:=Y 0 (by omega);rwa [show R5 leaf+((0:Nat):Int)=R5 leaf by omega]at this
  have ac:=Aal (R5 leaf) f;generalize af:R5 leaf=own at aw Y L ac;have an:Cc f leaf=Aij own (argsK f)++f.blocks.flatMap (Jn own):=by unfold Cc;rw[af]
  rw[an];have w8:wfI .i64 8:=(by decide:(Lit.int .i64 (8:Int)).wf=aZ)
  refine rCS ?_;refine Ab λK7 h7=>?_
  refine Ab λK8 h8=>?_
  (refine gT ?_;(repeat(first|refine sQ ?_ (AT.call V (Vo f) V V V)|refine sQ ?_ (Ax V V V V)|refine sQ ?_ (Av V V V V)|refine sQ ?_|refine AO ?_|refine sG ?_|refine Bq ?_));refine Au ?_)
  refine h8 _ ?_;refine nT ?_;refine Ad ?_;refine AH (λp:Nat×Nat=>⟨(A2 (.ptr 0 0::A2 (.lit (.int .i64 own)::.own 1 p.2::A9 (.lit (.int .i64 (argsK f:Int))::.lit (.int .i64 (p.1:Int))::A40 (A20 (A8 [])))))),[.box (Ak f),.row p.2 84 Gk (Aij own p.1)]⟩) (λp=>p.1<=argsK f) (λp=>argsK f - p.1) (0,0) (jF _) ((CC 6 84 Gk V (by decide)).trans (BX)) ?_;rintro⟨k,ver⟩ hk
  (try dsimp only at hk);(try dsimp only)
  refine rCS ?_;refine Ab λct bv=>?_
  refine Ah V (λF=>?_) (λF=>?_)
  ·have ak:k < argsK f:=by simpa using F
   have hw:=LU (k:=k) (by omega);have ar:=Y k (by omega);have I:=SK own k;have ad:=Aii own k;generalize bh:Aij own k=L0 at I ad⊢;have ah:L0.length+ [(⟨(k:Int),own+(k:Int)⟩:hZ)].length<=cC:=by simp[cC];omega
   have ag:(L0.length+ [(⟨(k:Int),own+(k:Int)⟩:hZ)].length) * 16<=140737488355328:=by simp;omega
   refine Al ?_;refine bv _ ?_;refine nT ?_;refine Ab λcs bu=>?_
   refine Ad ?_;refine rCS ?_
   (refine gT ?_;(repeat(first|refine sQ ?_ (Mn (rs:=[.lit (.int .i64 (k:Int)),.lit (.int .i64 (own+(k:Int)))]) V Yb V V)|refine sQ ?_ (Cj (T:=Gk) V V V (by rfl) (by decide) (Ol hw ar))|refine sQ ?_ (Ax V V V V)|refine sQ ?_ (Av V V V V)|refine sQ ?_|refine AO ?_|refine sG ?_|refine Bq ?_));refine Au ?_)
   refine bu _ ?_;refine nT ?_;refine rC ?_;refine Ap ⟨(k+1,ver+1),by dsimp only;omega,by dsimp only;omega,?_⟩;try dsimp only
   rw[ad];exact BX
  ·have az:k=argsK f:=by
    have:¬k < argsK f:=by simpa using F
    omega
   subst az;have I:=SK own (argsK f);generalize bi:Aij own (argsK f)=A0 at I⊢;refine Ay ?_;refine h7 _ ?_;refine nT ?_;refine Ab λcr bt=>?_
   refine rCS ?_;refine Ad ?_;refine AH (λp:Nat×Nat=>⟨(A2 (.ptr 0 0::A2 (.lit (.int .i64 own)::.own 1 p.2::A20 (A3 (.bs Cy f.blocks::.lit (.int .i64 (f.blocks.length:Int))::.lit (.int .i64 (p.1:Int))::A40 (A10 (A3 []))))))),[.box (Ak f),.row p.2 84 Gk (A0++(f.blocks.take p.1).flatMap (Jn own))]⟩) (λp=>p.1<=f.blocks.length) (λp=>f.blocks.length - p.1) (0,ver) (jF _) (by rw[show A0++(f.blocks.take (0,ver).1).flatMap (Jn own)=A0 by simp];exact BX) ?_;rintro⟨b,ver⟩ hb
   (try dsimp only at hb);(try dsimp only)
   refine rCS ?_;refine Ab λcq br=>?_
   refine Ah V (λD=>?_) (λD=>?_)
   ·have ak:b < f.blocks.length:=by simpa using D
    obtain⟨d,s⟩:∃d,f.blocks[b]? =jL d:=⟨_,dW ak⟩
    have J:=fH s;have ax:=ho.blocks d J;have ae:=hs.all d J;have cc:=ae.ins;have be:=Dv (g:=Jn own) s;refine Al ?_;refine br _ ?_;refine nT ?_;refine Ab λcp bq=>?_
    refine Ad ?_;refine rCS ?_;refine rCS ?_;refine Ad ?_;refine AH (λp:Nat×Nat=>⟨(A2 (.ptr 0 0::A2 (.lit (.int .i64 own)::.own 1 p.2::A20 (A3 (.bs Cy f.blocks::.lit (.int .i64 (f.blocks.length:Int))::.lit (.int .i64 (b:Int))::A4 (.bs Em d.ins::.lit (.int .i64 (d.ins.length:Int))::.lit (.int .i64 (p.1:Int))::A40 (A6 []))))))),[.box (Ak f),.row p.2 84 Gk (A0++(f.blocks.take b).flatMap (Jn own)++(d.ins.take p.1).flatMap (EJ own))]⟩) (λp=>p.1<=d.ins.length) (λp=>d.ins.length - p.1) (0,ver) (jF _) (by rw[show A0++(f.blocks.take b).flatMap (Jn own)++(d.ins.take (0,ver).1).flatMap (EJ own)=A0++(f.blocks.take b).flatMap (Jn own)by simp];exact Kr (.cons (.cons (gX _)))) ?_;rintro⟨i,ver⟩ hi
    (try dsimp only at hi);(try dsimp only)
    refine rCS ?_;refine Ab λco bo=>?_
    refine Ah V (λB=>?_) (λB=>?_)
    ·have am:i < d.ins.length:=by simpa using B
     obtain⟨x,hx⟩:∃x,d.ins[i]? =jL x:=⟨_,dW am⟩
     have ab:=fH hx;have N:=ax.ins x ab;have bw:x.args.length<=2097152:=by have:=ae.all x ab;omega
     have aq:=Dv (g:=EJ own) hx;have al:=Sv (g:=EJ own) s hx;have ce:(f.blocks.flatMap λc=>c.ins.flatMap (EJ own)).length<=14680064:=by
      have:(f.blocks.flatMap λc=>c.ins.flatMap (EJ own))=f.blocks.flatMap (Jn own):=rfl;rw[this];omega
     have hL:(A0++(f.blocks.take b).flatMap (Jn own)++(d.ins.take i).flatMap (EJ own)).length+(EJ own x).length<=14680070:=by
      rw[eJ,eJ,I];have:((f.blocks.take b).flatMap (Jn own)).length=((f.blocks.take b).flatMap λc=>c.ins.flatMap (EJ own)).length:=rfl;omega
     have n:A0++(f.blocks.take b).flatMap (Jn own)++(d.ins.take (i+1)).flatMap (EJ own)=(A0++(f.blocks.take b).flatMap (Jn own)++(d.ins.take i).flatMap (EJ own))++EJ own x:=by rw[aq,cP _ _ (EJ own x)]
     generalize bh:A0++(f.blocks.take b).flatMap (Jn own)++(d.ins.take i).flatMap (EJ own)=L0 at hL n⊢;have cg:L0.length<=14680070:=by omega
     refine Al ?_;refine bo _ ?_;refine nT ?_;refine Ab λcn Z=>?_
     refine Ad ?_;refine rCS ?_;refine rCS ?_;refine Ad ?_;refine rCS ?_;refine Ah V (λq=>?_) (λq=>?_)
     ·have e:EJ own x= [⟨x.a,own⟩]:=by unfold EJ;rw[if_pos q]
      have ah:L0.length+ [(⟨x.a,own⟩:hZ)].length<=cC:=by simp[cC];omega
      have ag:(L0.length+ [(⟨x.a,own⟩:hZ)].length) * 16<=140737488355328:=by simp;omega
      (refine gT ?_;(repeat(first|refine sQ ?_ (Mn (rs:=[.lit (.int .i64 x.a),.lit (.int .i64 own)]) V Yb V V)|refine sQ ?_ (Cj (T:=Gk) V V V (by rfl) (by decide) (Ol N.a L))|refine sQ ?_ (Ax V V V V)|refine sQ ?_ (Av V V V V)|refine sQ ?_|refine AO ?_|refine sG ?_|refine Bq ?_));refine Au ?_)
      refine Z _ ?_;refine nT ?_;refine rC ?_;refine Ap ⟨(i+1,ver+1),by dsimp only;omega,by dsimp only;omega,?_⟩;try dsimp only
      rw[n,e];exact Kr (.cons (.cons (gX _)))
     ·refine rCS ?_;refine Ah V (λv=>?_) (λv=>?_)
      ·have e:EJ own x=⟨x.d,8⟩::M5 x.args (x.args.take 6).length:=by unfold EJ;rw[if_neg (by rw[q];simp),if_pos v]
       have ah:L0.length+ [(⟨x.d,8⟩:hZ)].length<=cC:=by simp[cC];omega
       have ag:(L0.length+ [(⟨x.d,8⟩:hZ)].length) * 16<=140737488355328:=by simp;omega
       refine Ab λcm bn=>?_
       (refine gT ?_;(repeat(first|refine sQ ?_ (Mn (rs:=[.lit (.int .i64 x.d),.lit (.int .i64 8)]) V Yb V V)|refine sQ ?_ (Cj (T:=Gk) V V V (by rfl) (by decide) (Ol N.d w8))|refine sQ ?_ (Ax V V V V)|refine sQ ?_ (Av V V V V)|refine sQ ?_|refine AO ?_|refine sG ?_|refine Bq ?_));refine Au ?_)
       refine bn _ ?_;refine nT ?_;refine Ab λck bm=>?_
       have aj:(if(6:Int) < (x.args.length:Int)then(6:Int)else(x.args.length:Int))=((x.args.take 6).length:Int):=by rw[eR];split <;> omega
       have ai:(x.args.take 6).length<=x.args.length:=by rw[eR];omega
       have ay:(x.args.take 6).length<=6:=by rw[eR];omega
       (refine gT ?_;(repeat(first|refine sQ ?_ (P7 (l:=0) (m:=(x.args.take 6).length) V V V V ⟨_,congrArg (λz=>AV.lit (bY .i64 z)) aj⟩ (jF _) ai)|refine sQ ?_ (Ax V V V V)|refine sQ ?_ (Av V V V V)|refine sQ ?_|refine AO ?_|refine sG ?_|refine Bq ?_));refine Au ?_)
       have U:((x.args.take (x.args.take 6).length).drop 0).length=(x.args.take 6).length:=by rw[List.length_drop,eR];omega
       have W:∀j,j < (x.args.take 6).length->((x.args.take (x.args.take 6).length).drop 0)[j]? =x.args[j]?:=λj hj=>by rw[dA,List.getElem?_take_of_lt hj]
       generalize ca:(x.args.take 6).length=m at ai ay U W e⊢;generalize cf:(x.args.take m).drop 0=S at U W⊢;refine bm _ ?_;refine nT ?_;refine Ad ?_;refine AH (λp:Nat×Nat=>⟨(A2 (.ptr 0 0::A2 (.lit (.int .i64 own)::.own 1 p.2::A20 (A3 (.bs Cy f.blocks::.lit (.int .i64 (f.blocks.length:Int))::.lit (.int .i64 (b:Int))::A4 (.bs Em d.ins::.lit (.int .i64 (d.ins.length:Int))::.lit (.int .i64 (i:Int))::A20 (A8 (.bs tInt S::.lit (.int .i64 (S.length:Int))::.lit (.int .i64 (p.1:Int))::A10 (A5 []))))))))),[.box (Ak f),.row p.2 84 Gk (L0++[⟨x.d,8⟩]++M5 x.args p.1)]⟩) (λp=>p.1<=S.length) (λp=>S.length - p.1) (0,ver+1) (jF _) (by rw[show L0++[⟨x.d,8⟩]++M5 x.args (0,ver+1).1=L0++[⟨x.d,8⟩]by simp[M5]];exact Kr (.cons (.cons (gX _)))) ?_;rintro⟨j,ver⟩ hj
       (try dsimp only at hj);(try dsimp only)
       refine rCS ?_;refine Ab λcj bk=>?_
       refine Ah V (λu=>?_) (λu=>?_)
       ·have ba:j < S.length:=by simpa using u
        obtain⟨a,ha⟩:∃a,S[j]? =jL a:=⟨_,dW ba⟩
        have ap:x.args[j]? =jL a:=by rw[<-W j (by omega)];exact ha
        have au:=N.args a (fH ap);have av:wfI .i64 (8+(j:Int)):=by
         have:wfI .i64 ((8+j:Nat):Int):=LU (by omega);rwa [show((8+j:Nat):Int)=8+(j:Int)by omega]at this
        have ao:=Abr ap;have bf:=U9 x.args j;generalize ch:M5 x.args j=C0 at ao bf⊢;have bz:(L0++[(⟨x.d,8⟩:hZ)]++C0).length+ [(⟨a,8+(j:Int)⟩:hZ)].length<=cC:=by simp[cC];omega
        have bx:((L0++[(⟨x.d,8⟩:hZ)]++C0).length+ [(⟨a,8+(j:Int)⟩:hZ)].length) * 16<=140737488355328:=by simp;omega
        refine Al ?_;refine bk _ ?_;refine nT ?_;refine Ab λci bj=>?_
        refine Ad ?_;refine rCS ?_
        (refine gT ?_;(repeat(first|refine sQ ?_ (Mn (rs:=[.lit (.int .i64 a),.lit (.int .i64 (8+(j:Int)))]) V Yb V V)|refine sQ ?_ (Cj (T:=Gk) V V V (by rfl) (by decide) (Ol au av))|refine sQ ?_ (Ax V V V V)|refine sQ ?_ (Av V V V V)|refine sQ ?_|refine AO ?_|refine sG ?_|refine Bq ?_));refine Au ?_)
        refine bj _ ?_;refine nT ?_;refine rC ?_;refine Ap ⟨(j+1,ver+1),by dsimp only;omega,by dsimp only;omega,?_⟩;try dsimp only
        rw[ao,<-cP];exact BX
       ·have bb:j=S.length:=by
         have:¬j < S.length:=by simpa using u
         omega
        subst bb;refine Ay ?_;refine Z _ ?_;refine nT ?_;refine rC ?_;refine Ap ⟨(i+1,ver),by dsimp only;omega,by dsimp only;omega,?_⟩;try dsimp only
        rw[n,e,U,cP L0];exact BX
      ·have e:EJ own x= []:=by unfold EJ;rw[if_neg (by rw[q];simp),if_neg (by rw[v];simp)]
       refine Al ?_;refine Z _ ?_;refine nT ?_;refine rC ?_;refine Ap ⟨(i+1,ver),by dsimp only;omega,by dsimp only;omega,?_⟩;try dsimp only
       rw[n,e,cR];exact Kr (.cons (.cons (gX _)))
    ·have bc:i=d.ins.length:=by
      have:¬i < d.ins.length:=by simpa using B
      omega
     subst bc;rw[gJ];refine Ay ?_;refine bq _ ?_;refine nT ?_;refine rC ?_;refine Ap ⟨(b+1,ver),by dsimp only;omega,by dsimp only;omega,?_⟩;try dsimp only
     rw[be,<-cP];exact BX
   ·have bg:b=f.blocks.length:=by
     have:¬b < f.blocks.length:=by simpa using D
     omega
    subst bg;rw[gJ];refine Ay ?_;refine bt _ ?_;refine nT ?_;refine rCS ?_;refine Aw ?_;subst bi;exact⟨.inr V,Fin.own V⟩
 refine rCS ?_;refine Ah V (λO=>?_) (λO=>?_)
 ·subst O;refine rC ?_;refine aa _ ?_;exact BX
 ·subst O;refine Al ?_;refine aa _ ?_;exact BX
open Go.Maps
def clsE(z:List (Int×List Int)):List (Int×List Int):=z.foldl (λE p=>Cb E p.1 p.2) []
def NQ(E:List (Int×List Int))(h:hZ):List (Int×List Int):=Cb E h.r (((getK E h.r).getD [])++[h.at_])
def NX(l:List hZ):List (Int×List Int):=l.foldl NQ []
def Cu(f:g9)(leaf:Bool)(ch:List Int):gV:=⟨regsB f,clsE ((regsB f).zip (CG f leaf (regsB f))),Mi (CE f),NX (Cc f leaf),Mi (mvL f),ch⟩
theorem Ah2{z:List (Int×List Int)}{k:Nat}{p:Int×List Int}(h:z[k]? =jL p):clsE (z.take (k+1))=Cb (clsE (z.take k)) p.1 p.2:=by
 unfold clsE;rw[gI,h];simp[dP]
theorem Amd(z:List (Int×List Int)):(clsE z).length<=z.length:=by
 have:∀E:List (Int×List Int),(z.foldl (λE p=>Cb E p.1 p.2) E).length<=E.length+z.length:=by
  induction z with
  |nil=>intro E;simp
  |cons x l a=>
   intro E;rw[dQ,eK];have h1:=a (Cb E x.1 x.2);have h2:=E3 (l:=E) x.1 x.2;omega
 have:=this [];simpa[clsE]using this
theorem Aam{l:List hZ}{k:Nat}{x:hZ}(h:l[k]? =jL x):NX (l.take (k+1))=NQ (NX (l.take k)) x:=by
 unfold NX;rw[gI,h];simp[dP]
theorem Ag1(l:List hZ):(NX l).length<=l.length:=by
 have:∀E:List (Int×List Int),(l.foldl NQ E).length<=E.length+l.length:=by
  induction l with
  |nil=>intro E;simp
  |cons x l a=>
   intro E;rw[dQ,eK];have h1:=a (NQ E x);have h2:=E3 (l:=E) x.r (((getK E x.r).getD [])++[x.at_]);unfold NQ at h1⊢;omega
 have:=this [];simpa[NX]using this
theorem Uz(l:List hZ)(k:Int):((getK (NX l) k).getD []).length<=l.length:=by
 have:∀E:List (Int×List Int),Ef E->((getK (l.foldl NQ E) k).getD []).length<=((getK E k).getD []).length+l.length:=by
  induction l with
  |nil=>intro E _;simp
  |cons x l a=>
   intro E h;rw[dQ,eK];have h1:=a (NQ E x) (h.put _ _);have h2:((getK (NQ E x) k).getD []).length<=((getK E k).getD []).length+1:=by
    unfold NQ;rw[BK h];by_cases e:k=x.r
    ·rw[if_pos e,e];simp
    ·rw[if_neg e];omega
   omega
 have:=this [] Ef.nil;simpa[NX,getK]using this
def AAl(E:List (Int×List Int)):{vs:List (Int×(bX×List Int)) // mapK (·.2) vs=E}:=⟨mapK (λl=>(undef,l)) E,by unfold mapK;rw[eU];exact(List.map_congr_left (g:=id) λ_ _=>rfl).trans (List.map_id E)⟩
theorem mr2{m:Nat}{cv:List (Int×bX)}{a b:Bool}{X Y:gO}{c:List (Int×(bX×List Int))}(d:b=aL)(f:a=aL):
 ∃vs,(bif a then X else(bif b then Y else .res (Ba m cv c)))=gP (Ba m cv vs):=by
 subst f d;exact⟨_,rfl⟩
theorem Akk:Eu bT 79=jL [(0,1),(1,1),(2,1),(3,1),(4,1),(5,1)]:=by kernel_rfl
instance Aya:ZC bT 79 [.slice jK 0 0,.map jK,.map jK,.map jK,.map jK,.slice jK 0 0]:=⟨by kernel_rfl⟩
theorem Aaq(f:g9)(leaf:Bool)(ch:List Int)(J:g8 f)(hr:(regsB f).length<=1073741824)(bc:Fn bT 48 [.agg (Ak f)] (.bs tInt ch))(av:(CE f).length<=1073741824)(aq:(mvL f).length<=1073741824)(au:Am2 (CE f))(ar:Am2 (mvL f))
 (hI:(Rv f).length<=2097152)(bq:(Cc f leaf).length<=1073741824)(hh:∀x∈Cc f leaf,Cm x.r/\Cm x.at_)(an:∀r∈regsB f,Cm r):Fn bT 25 [.agg (Ak f),.lit (.bool leaf)] (.bp Bc (Cu f leaf ch) 0):=by
 have ad:=LB f J.ok J.small J.all;have bb:=NA f leaf J.ok J.small J.reads J.ins J.all;have ba:=YP f J.ok J.small J.reads J.all J.ins;have ay:=Ak1 f J.ok J.small J.reads J.all J.ins;have az:=Aak f leaf J.ok J.small hI;refine AQ Tryz.func25 V (by kernel_rfl) V Tryz.ntmps25 λC hC=>?_
 simp only[Nat.reduceAdd,Nat.reduceSub,zaa];refine wR ?_;refine AK _ (Hy.trans (Hy.trans (Hy.trans (Hy.trans Hy)))) ?_;refine AK ⟨.agg (Ak f)::.lit (.bool leaf)::.ptr 0 0::.any::.lit (.pointer jK)::A80 (A3 []),[.box (Ak f),.res nilR,.res nilR,.res nilR,.res nilR,.res nilR]⟩ AS ?_;refine Ab λbr ap=>?_
 refine Fk (n:=11) (0,0,0,0,0) (λ(i:Nat×Nat×Nat×Nat×Nat) (b:Nat->Bool)=>⟨.agg (Ak f)::.lit (.bool leaf)::.ptr 0 0::.any::.lit (.pointer jK)::(bif b 10 then .lit (.pointer (jL ⟨i.2.2.2.2,0,jK⟩))else .any)::A6 ((bif b 0 then .agg (Ak f)else .any)::(bif b 1 then .bs tInt (regsB f)else .any)::(bif b 2 then .lit (.map (jL i.1))else .any)::(bif b 3 then .lit (.map (jL i.2.1))else .any)::(bif b 4 then .lit (.map (jL i.2.2.1))else .any)::(bif b 5 then .lit (.map (jL i.2.2.2.1))else .any)::(bif b 6 then .agg (Ak f)else .any)::(bif b 7 then .bs tInt ch else .any)::(bif b 8 then .agg [.bs tInt (regsB f),.lit (.map (jL i.1)),.lit (.map (jL i.2.1)),.lit (.map (jL i.2.2.1)),.lit (.map (jL i.2.2.2.1)),.bs tInt ch]else .any)::(bif b 9 then .lit (.pointer (jL ⟨i.2.2.2.2,0,jK⟩))else .any)::.any::.any::.any::.any::.any::.any::.any::.any::.any::.any::.any::.any::.any::.any::.any::.any::.any::.any::.any::.any::.any::.any::.any::.any::.any::.any::.any::.any::.any::.any::.any::.any::.any::.any::.any::.any::.any::.any::.any::.any::.any::.any::.any::.any::.any::.any::.any::.any::.any::.any::.any::.any::.any::.any::.any::.any::.any::.any::.any::.any::.any::.any::.any::.any::.any::.any::[]),[.box (Ak f),(bif b 2 then(gP (Dt i.1 []))else .res nilR),(bif b 3 then(gP (Ba i.2.1 [] []))else .res nilR),(bif b 4 then(gP (Ba i.2.2.1 [] []))else .res nilR),(bif b 5 then(gP (Ba i.2.2.2.1 [] []))else .res nilR),(bif b 9 then(gP (Bf i.2.2.2.2 [.bs tInt (regsB f),.lit (.map (jL i.1)),.lit (.map (jL i.2.1)),.lit (.map (jL i.2.2.1)),.lit (.map (jL i.2.2.2.1)),.bs tInt ch]))else .res nilR)]⟩) ?_ ?_ ?_ ?_ ?_
 ·rfl
 ·kernel_rfl
 ·kernel_rfl
 ·refine AM (λi b d a hc=>?_) ?_
  ·try dsimp only
   refine AX (AR V Fm V V) ?_;exact⟨i,iU⟩
  refine AM (λi b d a hc=>?_) ?_
  ·have h0:b 0=aZ:=a 0 _ V V;try dsimp only
   refine AX (AE V (Pq ((Ao Gz).trans (BD h0 _ _)) V) ad V V) ?_;exact⟨i,iU⟩
  refine AM (λi b d a hc=>?_) ?_
  ·have F:b 8=aL:=AW hc (i:=2) (j:=8) (k:=1) V V V V d;have L:b 9=aL:=AW hc (i:=8) (j:=9) (k:=0) V V V V F;have u8:upd b 2 8=aL:=F;have u9:upd b 2 9=aL:=L;try dsimp only
   refine IC 1 (λm=>Dt m []) (λ_=>rfl) (λ_ _ h=>h) WD V (congrArg jL (CW d _ _)) λm=>?_
   refine⟨(m,i.2),?_⟩;simp only[F,u8,cond_false,L,u9,cond_false];exact iU
  refine AM (λi b d a hc=>?_) ?_
  ·have F:b 8=aL:=AW hc (i:=3) (j:=8) (k:=2) V V V V d;have L:b 9=aL:=AW hc (i:=8) (j:=9) (k:=0) V V V V F;have u8:upd b 3 8=aL:=F;have u9:upd b 3 9=aL:=L;try dsimp only
   refine IC 2 (λm=>Ba m [] []) (λ_=>rfl) Pn Sd V (congrArg jL (CW d _ _)) λm=>?_
   refine⟨(i.1,m,i.2.2),?_⟩;simp only[F,u8,cond_false,L,u9,cond_false];exact iU
  refine AM (λi b d a hc=>?_) ?_
  ·have F:b 8=aL:=AW hc (i:=4) (j:=8) (k:=3) V V V V d;have L:b 9=aL:=AW hc (i:=8) (j:=9) (k:=0) V V V V F;have u8:upd b 4 8=aL:=F;have u9:upd b 4 9=aL:=L;try dsimp only
   refine IC 3 (λm=>Ba m [] []) (λ_=>rfl) Pn Sd V (congrArg jL (CW d _ _)) λm=>?_
   refine⟨(i.1,i.2.1,m,i.2.2.2),?_⟩;simp only[F,u8,cond_false,L,u9,cond_false];exact iU
  refine AM (λi b d a hc=>?_) ?_
  ·have F:b 8=aL:=AW hc (i:=5) (j:=8) (k:=4) V V V V d;have L:b 9=aL:=AW hc (i:=8) (j:=9) (k:=0) V V V V F;have u8:upd b 5 8=aL:=F;have u9:upd b 5 9=aL:=L;try dsimp only
   refine IC 4 (λm=>Ba m [] []) (λ_=>rfl) Pn Sd V (congrArg jL (CW d _ _)) λm=>?_
   refine⟨(i.1,i.2.1,i.2.2.1,m,i.2.2.2.2),?_⟩;simp only[F,u8,cond_false,L,u9,cond_false];exact iU
  refine AM (λi b d a hc=>?_) ?_
  ·try dsimp only
   refine AX (AR V Fm V V) ?_;exact⟨i,iU⟩
  refine AM (λi b d a hc=>?_) ?_
  ·have h6:b 6=aZ:=a 0 _ V V;try dsimp only
   refine AX (AE V (Pq ((Ao (Ao Fm)).trans (BD h6 _ _)) V) bc V V) ?_;exact⟨i,iU⟩
  refine AM (λi b d a hc=>?_) ?_
  ·have h1:b 1=aZ:=a 0 _ V V;have h2:b 2=aZ:=a 1 _ V V;have h3:b 3=aZ:=a 2 _ V V;have h4:b 4=aZ:=a 3 _ V V;have h5:b 5=aZ:=a 4 _ V V;have h7:b 7=aZ:=a 5 _ V V;try dsimp only
   refine AX (XC V Akk (Pq ((Ao Fc).trans (BD h1 _ _)) (Pq ((Ao HW).trans (BD h2 _ _)) (Pq ((Ao GP).trans (BD h3 _ _)) (Pq ((Ao (Ao IP)).trans (BD h4 _ _)) (Pq ((Ao (Ao Gi)).trans (BD h5 _ _)) (Pq ((Ao (Ao Fw)).trans (BD h7 _ _)) V)))))) V V) ?_;exact⟨i,iU⟩
  refine AM (λi b d a hc=>?_) ?_
  ·have F:b 8=aZ:=a 0 _ V V;have W:b 10=aL:=AW hc (i:=9) (j:=10) (k:=0) V V V V d;have ak:upd b 9 10=aL:=W;try dsimp only
   refine Aco 5 V (congrArg jL (CW d _ _)) ((Ao (Ao Gz)).trans (BD F _ _)) V λg=>?_
   refine⟨(i.1,i.2.1,i.2.2.1,i.2.2.2.1,g),?_⟩;simp only[W,ak,cond_false];exact iU
  refine AM (λi b d a hc=>?_) ?_
  ·have L:b 9=aZ:=a 0 _ V V;try dsimp only
   refine AX (AT.assign V ((Ao (Ao Fc)).trans (BD L _ _))) ?_;exact⟨i,iU⟩
  exact Nx
 intro i;refine ap _ ?_;refine AK ⟨.agg (Ak f)::.lit (.bool leaf)::.ptr 0 0::.any::.lit (.pointer jK)::.lit (.pointer (jL ⟨i.2.2.2.2,0,jK⟩))::A6 (.agg (Ak f)::.bs tInt (regsB f)::.lit (.map (jL i.1))::.lit (.map (jL i.2.1))::.lit (.map (jL i.2.2.1))::.lit (.map (jL i.2.2.2.1))::.agg (Ak f)::.bs tInt ch::.agg [.bs tInt (regsB f),.lit (.map (jL i.1)),.lit (.map (jL i.2.1)),.lit (.map (jL i.2.2.1)),.lit (.map (jL i.2.2.2.1)),.bs tInt ch]::.lit (.pointer (jL ⟨i.2.2.2.2,0,jK⟩))::.any::.any::.any::.any::.any::.any::.any::.any::.any::.any::.any::.any::.any::.any::.any::.any::.any::.any::.any::.any::.any::.any::.any::.any::.any::.any::.any::.any::.any::.any::.any::.any::.any::.any::.any::.any::.any::.any::.any::.any::.any::.any::.any::.any::.any::.any::.any::.any::.any::.any::.any::.any::.any::.any::.any::.any::.any::.any::.any::.any::.any::.any::.any::.any::.any::.any::[]),[.box (Ak f),.res (Dt i.1 []),.res (Ba i.2.1 [] []),.res (Ba i.2.2.1 [] []),.res (Ba i.2.2.2.1 [] []),.res (Bf i.2.2.2.2 [.bs tInt (regsB f),.lit (.map (jL i.1)),.lit (.map (jL i.2.1)),.lit (.map (jL i.2.2.1)),.lit (.map (jL i.2.2.2.1)),.bs tInt ch])]⟩ iU ?_;obtain⟨D,B,q,s,g⟩:=i;dsimp only;refine AK ⟨(.any::.lit (.bool leaf)::.ptr 0 0::A2 (.lit (.pointer (jL ⟨g,0,jK⟩))::A80 (A2 []))),[.box (Ak f),.res (Dt D []),.res (Ba B [] []),.res (Ba q [] []),.res (Ba s [] []),.res (Bf g [.bs tInt (regsB f),.lit (.map (jL D)),.lit (.map (jL B)),.lit (.map (jL q)),.lit (.map (jL s)),.bs tInt ch])]⟩ (AS) ?_;obtain⟨G,hG⟩:∃G,G= [AV.bs tInt (regsB f),.lit (.map (jL D)),.lit (.map (jL B)),.lit (.map (jL q)),.lit (.map (jL s)),.bs tInt ch]:=⟨_,rfl⟩
 obtain⟨z,hz⟩:∃z,z=(regsB f).zip (CG f leaf (regsB f)):=⟨_,rfl⟩
 have bn:z.length=(regsB f).length:=by rw[hz,List.length_zip];simp[CG]
 refine wR (hx:=by((repeat(first|refine sA ?_ (AE V V bb V V)|refine sA ?_|refine AO ?_|refine sAG ?_|refine Bq ?_));exact CV V)) ?_;refine Ab λK4 h4=>?_
 refine wR (hx:=by((repeat(first|refine sA ?_ (ET V V)|refine sA ?_ (Dz V V)|refine sA ?_ (AY (i:=5) (g:=g) V V V V V)|refine sA ?_|refine AO ?_|refine sAG ?_|refine Bq ?_));exact CV V)) (hk:=?_);refine Ad ?_;refine AH (λk:Nat=>⟨(.any::.lit (.bool leaf)::.ptr 0 0::A2 (.lit (.pointer (jL ⟨g,0,jK⟩))::.bs tInt.slice (CG f leaf (regsB f))::A20 (.any::.bs tInt (regsB f)::.lit (.int .i64 ((regsB f).length:Int))::.lit (.int .i64 (k:Int))::A40 (A10 (A7 []))))),[.box (Ak f),.res (Dt D (clsE (z.take k))),.res (Ba B [] []),.res (Ba q [] []),.res (Ba s [] []),.res (Bf g [.bs tInt (regsB f),.lit (.map (jL D)),.lit (.map (jL B)),.lit (.map (jL q)),.lit (.map (jL s)),.bs tInt ch])]⟩) (λk=>k<=(regsB f).length) (λk=>(regsB f).length - k) 0 (jF _) (AS) ?_;rintro k hk;refine wR ?_;refine Ab λK8 F=>?_
 refine Ah V (λac=>?_) (λac=>?_)
 ·have U:k < (regsB f).length:=by simpa using ac
  obtain⟨r,ah⟩:∃r,(regsB f)[k]? =jL r:=⟨_,dW U⟩
  have ae:=an r (fH ah);obtain⟨c,ax⟩:∃c,(CG f leaf (regsB f))[k]? =jL c:=⟨_,dW (by simpa[CG]using U)⟩
  have al:z[k]? =jL (r,c):=by rw[hz,eG];exact⟨ah,ax⟩
  have ai:(clsE (z.take k)).length < cC:=by have h1:=Amd (z.take k);have h2:(z.take k).length<=z.length:=(by rw[eR];omega);unfold cC;omega
  refine Al ?_;refine F _ ?_;refine nT ?_;refine Ab λbw W=>?_
  refine Ad ?_;refine wR ?_;refine wDE 9 (hq:=by((repeat(first|refine qA ?_ (ET V V)|refine qA ?_ (Dz V V)|refine qA ?_ (AY (i:=5) (g:=g) V V V V V)|refine qA ?_|refine Hf ?_|refine qAG (hk:=?_)));exact Auh V)) (hx:=by((repeat(first|refine sA ?_ (ET V V)|refine sA ?_ (Dz V V)|refine sA ?_ (AY (i:=5) (g:=g) V V V V V)|(refine AF V (Ai6 1 V Tryz.underlying77 V V V ae ai V ?_);refine sNt ?_)|refine sA ?_|refine AO ?_|refine sAG ?_|refine Bq ?_));exact CV V)) (hk:=?_);refine W _ ?_;refine nT ?_;refine wRE ?_;refine Ap ⟨k+1,U,by omega,?_⟩;rw[Ah2 al];exact AS
 ·obtain rfl:k=(regsB f).length:=by have:¬k < (regsB f).length:=(by simpa using ac);omega
  rw[gK (by omega)];refine Ay ?_;refine h4 _ ?_;refine nT ?_;refine wR ?_;refine AK ⟨.any::.lit (.bool leaf)::.ptr 0 0::A2 (.lit (.pointer (jL ⟨g,0,jK⟩))::A3 (.lit (.func (.func 49) #[] #[])::A40 (A20 (A10 (A8 []))))),[.box (Ak f),.res (Dt D (clsE z)),.res (Ba B [] []),.res (Ba q [] []),.res (Ba s [] []),.res (Bf g [.bs tInt (regsB f),.lit (.map (jL D)),.lit (.map (jL B)),.lit (.map (jL q)),.lit (.map (jL s)),.bs tInt ch])]⟩ AS ?_;refine Ab λbm ag=>?_
  refine Fk (n:=8) (AAl _) (λ(i:{vs:List (Int×(bX×List Int)) // mapK (·.2) vs=Mi (CE f)}) (b:Nat->Bool)=>⟨.any::.lit (.bool leaf)::.ptr 0 0::A2 (.lit (.pointer (jL ⟨g,0,jK⟩))::A3 (.lit (.func (.func 49) #[] #[])::A20 (A10 (A5 ((bif b 0 then .lit (.func (.func 49) #[] #[])else .any)::(bif b 1 then .agg (Ak f)else .any)::(bif b 2 then .bs Dp (CE f)else .any)::(bif b 3 then .lit (.pointer (jL ⟨g,0,jK⟩))else .any)::(bif b 4 then .lit (.pointer (jL ⟨g,0,jK⟩))else .any)::(bif b 5 then .lit (.pointer (jL ⟨g,2,jK⟩))else .any)::(bif b 6 then .lit (.map (jL B))else .any)::(bif b 7 then .lit (.tuple #[])else .any)::A20 (A10 (A5 []))))))),[.box (Ak f),.res (Dt D (clsE z)),(bif b 7 then(gP (Ba B (mapK (·.1) i.1) i.1))else .res (Ba B [] [])),.res (Ba q [] []),.res (Ba s [] []),.res (Bf g [.bs tInt (regsB f),.lit (.map (jL D)),.lit (.map (jL B)),.lit (.map (jL q)),.lit (.map (jL s)),.bs tInt ch])]⟩) ?_ ?_ ?_ ?_ ?_
  ·rfl
  ·kernel_rfl
  ·kernel_rfl
  ·refine AM (λi b d a hc=>?_) ?_
   ·try dsimp only
    refine AX (AT.move V (Ao Gi)) ?_;exact⟨i,iU⟩
   refine AM (λi b d a hc=>?_) ?_
   ·try dsimp only
    refine AX (AR V Fm V V) ?_;exact⟨i,iU⟩
   refine AM (λi b d a hc=>?_) ?_
   ·have h1:b 1=aZ:=a 0 _ V V;try dsimp only
    refine AX (AE V (Pq ((As (Ao HW)).trans (BD h1 _ _)) V) ba V V) ?_;exact⟨i,iU⟩
   refine AM (λi b d a hc=>?_) ?_
   ·try dsimp only
    refine AX (AT.move V Fc) ?_;exact⟨i,iU⟩
   refine AM (λi b d a hc=>?_) ?_
   ·have h3:b 3=aZ:=a 0 _ V V;try dsimp only
    refine AX (ET V ((As (Ao (Ao IP))).trans (BD h3 _ _))) ?_;exact⟨i,iU⟩
   refine AM (λi b d a hc=>?_) ?_
   ·have h4:b 4=aZ:=a 0 _ V V;try dsimp only
    refine AX (Dz V ((As (Ao (Ao Gi))).trans (BD h4 _ _))) ?_;exact⟨i,iU⟩
   refine AM (λi b d a hc=>?_) ?_
   ·have h5:b 5=aZ:=a 0 _ V V;try dsimp only
    refine AX (AY (i:=5) (g:=g) V ((As (Ao (Ao Fm))).trans (BD h5 _ _)) V V V) ?_;exact⟨i,iU⟩
   refine AM (λi b d a hc=>?_) ?_
   ·have h0:b 0=aZ:=a 0 _ V V;have h2:b 2=aZ:=a 1 _ V V;have h6:b 6=aZ:=a 2 _ V V;try dsimp only
    refine Mt (i:=2) (congrArg jL (CW d _ _)) V ((As (Ao Fc)).trans (BD h0 _ _)) (Ve (CE f) B av au) (λ_=>rfl) (Pq ((As (Ao GP)).trans (BD h2 _ _)) (Pq ((As (Ao (Ao Fw))).trans (BD h6 _ _)) V)) V λv=>?_
    refine⟨v,?_⟩;exact iU
   exact Nx
  intro I;refine ag _ ?_;refine AK ⟨.any::.lit (.bool leaf)::.ptr 0 0::A2 (.lit (.pointer (jL ⟨g,0,jK⟩))::A3 (.lit (.func (.func 49) #[] #[])::A20 (A10 (A5 (.lit (.func (.func 49) #[] #[])::.agg (Ak f)::.bs Dp (CE f)::.lit (.pointer (jL ⟨g,0,jK⟩))::.lit (.pointer (jL ⟨g,0,jK⟩))::.lit (.pointer (jL ⟨g,2,jK⟩))::.lit (.map (jL B))::.lit (.tuple #[])::A20 (A10 (A5 []))))))),[.box (Ak f),.res (Dt D (clsE z)),.res (Ba B (mapK (·.1) I.1) I.1),.res (Ba q [] []),.res (Ba s [] []),.res (Bf g [.bs tInt (regsB f),.lit (.map (jL D)),.lit (.map (jL B)),.lit (.map (jL q)),.lit (.map (jL s)),.bs tInt ch])]⟩ iU ?_;refine AK ⟨.any::.lit (.bool leaf)::.ptr 0 0::A2 (.lit (.pointer (jL ⟨g,0,jK⟩))::A3 (.lit (.func (.func 49) #[] #[])::A40 (A20 (A10 (A8 []))))),[.box (Ak f),.res (Dt D (clsE z)),.res (Ba B (mapK (·.1) I.1) I.1),.res (Ba q [] []),.res (Ba s [] []),.res (Bf g [.bs tInt (regsB f),.lit (.map (jL D)),.lit (.map (jL B)),.lit (.map (jL q)),.lit (.map (jL s)),.bs tInt ch])]⟩ AS ?_;refine Ab λbl af=>?_
  refine Fk (n:=8) (AAl _) (λ(i:{vs:List (Int×(bX×List Int)) // mapK (·.2) vs=Mi (mvL f)}) (b:Nat->Bool)=>⟨.any::.lit (.bool leaf)::.ptr 0 0::A2 (.lit (.pointer (jL ⟨g,0,jK⟩))::A3 (.lit (.func (.func 49) #[] #[])::A40 (A3 ((bif b 0 then .lit (.func (.func 49) #[] #[])else .any)::(bif b 1 then .agg (Ak f)else .any)::(bif b 2 then .bs Dp (mvL f)else .any)::(bif b 3 then .lit (.pointer (jL ⟨g,0,jK⟩))else .any)::(bif b 4 then .lit (.pointer (jL ⟨g,0,jK⟩))else .any)::(bif b 5 then .lit (.pointer (jL ⟨g,4,jK⟩))else .any)::(bif b 6 then .lit (.map (jL s))else .any)::(bif b 7 then .lit (.tuple #[])else .any)::A20 (A7 []))))),[.box (Ak f),.res (Dt D (clsE z)),.res (Ba B (mapK (·.1) I.1) I.1),.res (Ba q [] []),(bif b 7 then(gP (Ba s (mapK (·.1) i.1) i.1))else .res (Ba s [] [])),.res (Bf g [.bs tInt (regsB f),.lit (.map (jL D)),.lit (.map (jL B)),.lit (.map (jL q)),.lit (.map (jL s)),.bs tInt ch])]⟩) ?_ ?_ ?_ ?_ ?_
  ·rfl
  ·kernel_rfl
  ·kernel_rfl
  ·refine AM (λi b d a hc=>?_) ?_
   ·try dsimp only
    refine AX (AT.move V (Ao Gi)) ?_;exact⟨i,iU⟩
   refine AM (λi b d a hc=>?_) ?_
   ·try dsimp only
    refine AX (AR V Fm V V) ?_;exact⟨i,iU⟩
   refine AM (λi b d a hc=>?_) ?_
   ·have h1:b 1=aZ:=a 0 _ V V;try dsimp only
    refine AX (AE V (Pq ((As (Ao (Ao HW))).trans (BD h1 _ _)) V) ay V V) ?_;exact⟨i,iU⟩
   refine AM (λi b d a hc=>?_) ?_
   ·try dsimp only
    refine AX (AT.move V Fc) ?_;exact⟨i,iU⟩
   refine AM (λi b d a hc=>?_) ?_
   ·have h3:b 3=aZ:=a 0 _ V V;try dsimp only
    refine AX (ET V ((As (Ao (Ao (Ao IP)))).trans (BD h3 _ _))) ?_;exact⟨i,iU⟩
   refine AM (λi b d a hc=>?_) ?_
   ·have h4:b 4=aZ:=a 0 _ V V;try dsimp only
    refine AX (Dz V ((As (Ao (Ao (Ao Gi)))).trans (BD h4 _ _))) ?_;exact⟨i,iU⟩
   refine AM (λi b d a hc=>?_) ?_
   ·have h5:b 5=aZ:=a 0 _ V V;try dsimp only
    refine AX (AY (i:=5) (g:=g) V ((As (Ao (Ao (Ao Fm)))).trans (BD h5 _ _)) V V V) ?_;exact⟨i,iU⟩
   refine AM (λi b d a hc=>?_) ?_
   ·have h0:b 0=aZ:=a 0 _ V V;have h2:b 2=aZ:=a 1 _ V V;have h6:b 6=aZ:=a 2 _ V V;try dsimp only
    refine Mt (i:=4) (congrArg jL (CW d _ _)) V ((As (Ao (Ao Fc))).trans (BD h0 _ _)) (Ve (mvL f) s aq ar) (λ_=>rfl) (Pq ((As (Ao (Ao GP))).trans (BD h2 _ _)) (Pq ((As (Ao (Ao (Ao Fw)))).trans (BD h6 _ _)) V)) V λv=>?_
    refine⟨v,?_⟩;exact iU
   exact Nx
  intro O;refine af _ ?_;refine AK ⟨.any::.lit (.bool leaf)::.ptr 0 0::A2 (.lit (.pointer (jL ⟨g,0,jK⟩))::A3 (.lit (.func (.func 49) #[] #[])::A40 (A3 (.lit (.func (.func 49) #[] #[])::.agg (Ak f)::.bs Dp (mvL f)::.lit (.pointer (jL ⟨g,0,jK⟩))::.lit (.pointer (jL ⟨g,0,jK⟩))::.lit (.pointer (jL ⟨g,4,jK⟩))::.lit (.map (jL s))::.lit (.tuple #[])::A20 (A7 []))))),[.box (Ak f),.res (Dt D (clsE z)),.res (Ba B (mapK (·.1) I.1) I.1),.res (Ba q [] []),.res (Ba s (mapK (·.1) O.1) O.1),.res (Bf g [.bs tInt (regsB f),.lit (.map (jL D)),.lit (.map (jL B)),.lit (.map (jL q)),.lit (.map (jL s)),.bs tInt ch])]⟩ iU ?_;refine Ab λbv N=>?_
  refine wR (hx:=by((repeat(first|refine sA ?_ (AE V V az V V)|refine sA ?_|refine AO ?_|refine sAG ?_|refine Bq ?_));exact CV V)) ?_;refine Ad ?_;refine AH (λp:Nat×List (Int×(bX×List Int))=>⟨(A5 (.lit (.pointer (jL ⟨g,0,jK⟩))::A40 (A10 (A7 (.bs Gk (Cc f leaf)::.lit (.int .i64 ((Cc f leaf).length:Int))::.lit (.int .i64 (p.1:Int))::A20 (A2 [])))))),[.box (Ak f),.res (Dt D (clsE z)),.res (Ba B (mapK (·.1) I.1) I.1),.res (Ba q (mapK (·.1) p.2) p.2),.res (Ba s (mapK (·.1) O.1) O.1),.res (Bf g [.bs tInt (regsB f),.lit (.map (jL D)),.lit (.map (jL B)),.lit (.map (jL q)),.lit (.map (jL s)),.bs tInt ch])]⟩) (λp=>p.1<=(Cc f leaf).length/\okK p.2/\mapK (·.2) p.2=NX ((Cc f leaf).take p.1)) (λp=>(Cc f leaf).length - p.1) (0,[]) ⟨jF _,okK.nil,rfl⟩ (AS) ?_;rintro⟨k,vs⟩ ⟨hk,ab,hE⟩;have hE:mapK (·.2) vs=NX ((Cc f leaf).take k):=hE;have ab:okK vs:=ab;have hk:k<=(Cc f leaf).length:=hk;refine wR ?_;refine Ab λbu bf=>?_
  refine Ah V (λY=>?_) (λY=>?_)
  ·have U:k < (Cc f leaf).length:=by simpa using Y
   obtain⟨x,hx⟩:∃x,(Cc f leaf)[k]? =jL x:=⟨_,dW U⟩
   obtain⟨Z,am⟩:=hh x (fH hx);have bo:((Cc f leaf).take k).length<=(Cc f leaf).length:=by rw[eR];omega
   have ao:EZ (((getK (mapK (·.2) vs) x.r).getD []).length+ [x.at_].length) 8=aZ:=by
    have h1:=Uz ((Cc f leaf).take k) x.r;rw[hE];unfold EZ;simp only[zag,zai];unfold cC;omega
   have aw:(mapK (·.1) vs).length < cC:=by
    have h1:=Ag1 ((Cc f leaf).take k);rw[<-hE,LX]at h1;rw[LX];unfold cC;omega
   refine Al ?_;refine bf _ ?_;refine nT ?_;refine Ab λbt be=>?_
   refine Ad ?_;refine wR ?_;refine AK ⟨A5 (.lit (.pointer (jL ⟨g,0,jK⟩))::A5 (.ptr 6 0::A40 (A10 (.any::.bs Gk (Cc f leaf)::.lit (.int .i64 ((Cc f leaf).length:Int))::.lit (.int .i64 (k:Int))::A20 (A2 []))))),[.box (Ak f),.res (Dt D (clsE z)),.res (Ba B (mapK (·.1) I.1) I.1),.res (Ba q (mapK (·.1) vs) vs),.res (Ba s (mapK (·.1) O.1) O.1),.res (Bf g [.bs tInt (regsB f),.lit (.map (jL D)),.lit (.map (jL B)),.lit (.map (jL q)),.lit (.map (jL s)),.bs tInt ch]),.box (GT x)]⟩ AS ?_;refine Fk (n:=18) undef (λ(i:bX) (b:Nat->Bool)=>⟨A5 (.lit (.pointer (jL ⟨g,0,jK⟩))::A5 (.ptr 6 0::A40 (A10 (.any::.bs Gk (Cc f leaf)::.lit (.int .i64 ((Cc f leaf).length:Int))::.lit (.int .i64 (k:Int))::A3 ((bif b 0 then .lit (.pointer (jL ⟨g,0,jK⟩))else .any)::(bif b 1 then .lit (.pointer (jL ⟨g,0,jK⟩))else .any)::(bif b 2 then .lit (.pointer (jL ⟨g,3,jK⟩))else .any)::(bif b 3 then .lit (.map (jL q))else .any)::(bif b 4 then .ptr 6 0 else .any)::(bif b 5 then .lit (.int .i64 x.r)else .any)::(bif b 6 then .lit (.pointer (jL ⟨g,0,jK⟩))else .any)::(bif b 7 then .lit (.pointer (jL ⟨g,0,jK⟩))else .any)::(bif b 8 then .lit (.pointer (jL ⟨g,3,jK⟩))else .any)::(bif b 9 then .lit (.map (jL q))else .any)::(bif b 10 then .ptr 6 0 else .any)::(bif b 11 then .lit (.int .i64 x.r)else .any)::(bif b 12 then .lit ((getK (mapK (·.1) vs) x.r).getD (.slice jK 0 0))else .any)::(bif b 13 then .ptr 6 1 else .any)::(bif b 14 then .lit (.int .i64 x.at_)else .any)::(bif b 15 then .bs tInt [x.at_]else .any)::(bif b 16 then .lit i else .any)::A2 []))))),[.box (Ak f),.res (Dt D (clsE z)),.res (Ba B (mapK (·.1) I.1) I.1),(bif b 17 then(gP (Ba q (Cb (mapK (·.1) vs) x.r i) (Cb vs x.r (i,((getK (mapK (·.2) vs) x.r).getD [])++[x.at_]))))else(bif b 16 then(gP (Ba q (mapK (·.1) vs) (Cb vs x.r (i,((getK (mapK (·.2) vs) x.r).getD [])++[x.at_]))))else .res (Ba q (mapK (·.1) vs) vs))),.res (Ba s (mapK (·.1) O.1) O.1),.res (Bf g [.bs tInt (regsB f),.lit (.map (jL D)),.lit (.map (jL B)),.lit (.map (jL q)),.lit (.map (jL s)),.bs tInt ch]),.box (GT x)]⟩) ?_ ?_ ?_ ?_ ?_
   ·rfl
   ·kernel_rfl
   ·kernel_rfl
   ·refine AM (λi b d a hc=>?_) ?_
    ·try dsimp only
     refine AX (AT.move V Fc) ?_;exact⟨i,iU⟩
    refine AM (λi b d a hc=>?_) ?_
    ·have h0:b 0=aZ:=a 0 _ V V;try dsimp only
     refine AX (ET V ((As (As Fc)).trans (BD h0 _ _))) ?_;exact⟨i,iU⟩
    refine AM (λi b d a hc=>?_) ?_
    ·have h1:b 1=aZ:=a 0 _ V V;try dsimp only
     refine AX (Dz V ((As (As HW)).trans (BD h1 _ _))) ?_;exact⟨i,iU⟩
    refine AM (λi b d a hc=>?_) ?_
    ·have h2:b 2=aZ:=a 0 _ V V;try dsimp only
     refine AX (AY (i:=5) (g:=g) V ((As (As GP)).trans (BD h2 _ _)) V V V) ?_;exact⟨i,iU⟩
    refine AM (λi b d a hc=>?_) ?_
    ·try dsimp only
     refine AX (Bo V (Ao Fw) V) ?_;exact⟨i,iU⟩
    refine AM (λi b d a hc=>?_) ?_
    ·have h4:b 4=aZ:=a 0 _ V V;try dsimp only
     refine AX (Be V ((As (As (Ao Gi))).trans (BD h4 _ _)) V V) ?_;exact⟨i,iU⟩
    refine AM (λi b d a hc=>?_) ?_
    ·try dsimp only
     refine AX (AT.move V Fc) ?_;exact⟨i,iU⟩
    refine AM (λi b d a hc=>?_) ?_
    ·have h6:b 6=aZ:=a 0 _ V V;try dsimp only
     refine AX (ET V ((As (As (Ao Fw))).trans (BD h6 _ _))) ?_;exact⟨i,iU⟩
    refine AM (λi b d a hc=>?_) ?_
    ·have h7:b 7=aZ:=a 0 _ V V;try dsimp only
     refine AX (Dz V ((As (As (Ao Gz))).trans (BD h7 _ _))) ?_;exact⟨i,iU⟩
    refine AM (λi b d a hc=>?_) ?_
    ·have F:b 8=aZ:=a 0 _ V V;try dsimp only
     refine AX (AY (i:=5) (g:=g) V ((As (As (Ao Fc))).trans (BD F _ _)) V V V) ?_;exact⟨i,iU⟩
    refine AM (λi b d a hc=>?_) ?_
    ·try dsimp only
     refine AX (Bo V (Ao Fw) V) ?_;exact⟨i,iU⟩
    refine AM (λi b d a hc=>?_) ?_
    ·have W:b 10=aZ:=a 0 _ V V;try dsimp only
     refine AX (Be V ((As (As (Ao GP))).trans (BD W _ _)) V V) ?_;exact⟨i,iU⟩
    refine AM (λi b d a hc=>?_) ?_
    ·have L:b 9=aZ:=a 0 _ V V;have bk:b 11=aZ:=a 1 _ V V;have aa:b 16=aL:=AW hc (i:=12) (j:=16) (k:=0) V V V V d;have N:b 17=aL:=AW hc (i:=12) (j:=17) (k:=16) V V V V d;try dsimp only
     refine AX (Ld (u:=((getK (mapK (·.1) vs) x.r).getD (.slice jK 0 0))) 3 V bU ((As (As (Ao HW))).trans (BD L _ _)) ((As (As (Ao (Ao IP)))).trans (BD bk _ _)) Z (mr2 aa N) V) ?_;exact⟨i,iU⟩
    refine AM (λi b d a hc=>?_) ?_
    ·try dsimp only
     refine AX (Bo V (Ao Fw) V) ?_;exact⟨i,iU⟩
    refine AM (λi b d a hc=>?_) ?_
    ·have bi:b 13=aZ:=a 0 _ V V;try dsimp only
     refine AX (Be V ((As (As (Ao (Ao Fm)))).trans (BD bi _ _)) V V) ?_;exact⟨i,iU⟩
    refine AM (λi b d a hc=>?_) ?_
    ·have bh:b 14=aZ:=a 0 _ V V;try dsimp only
     refine AX (Cj (T:=tInt) V V V (by rfl) (by decide) (Fit.of_eq ((As (As (Ao (Ao Fw)))).trans (BD bh _ _)) (Fit.int am))) ?_;exact⟨i,iU⟩
    refine AM (λi b d a hc=>?_) ?_
    ·have bj:b 12=aZ:=a 0 _ V V;have bg:b 15=aZ:=a 1 _ V V;have N:b 17=aL:=AW hc (i:=16) (j:=17) (k:=2) V V V V d;have aj:upd b 16 17=aL:=N;try dsimp only
     refine Qp (k:=x.r) 3 V V ((As (As (Ao (Ao Gi)))).trans (BD bj _ _)) (congrArg jL ((CW N _ _).trans (CW d _ _))) ((As (As (Ao (Ao Gz)))).trans (BD bg _ _)) Z (Af1 vs x.r) ao λv=>?_
     refine⟨v,?_⟩;simp only[N,aj,cond_false];exact iU
    refine AM (λi b d a hc=>?_) ?_
    ·have h3:b 3=aZ:=a 0 _ V V;have h5:b 5=aZ:=a 1 _ V V;have aa:b 16=aZ:=a 2 _ V V;try dsimp only
     refine VP 3 V bU ((As (As (Ao IP))).trans (BD h3 _ _)) ((As (As (Ao Fm))).trans (BD h5 _ _)) ((As (As (Ao (Ao Fc)))).trans (BD aa _ _)) Z aw (congrArg jL ((CW d _ _).trans (Sz aa _ _))) ?_;refine⟨i,?_⟩;exact iU
    exact Nx
   intro i;refine qVia ⟨A5 (.lit (.pointer (jL ⟨g,0,jK⟩))::A5 (.ptr 6 0::A40 (A10 (.any::.bs Gk (Cc f leaf)::.lit (.int .i64 ((Cc f leaf).length:Int))::.lit (.int .i64 (k:Int))::A3 (.lit (.pointer (jL ⟨g,0,jK⟩))::.lit (.pointer (jL ⟨g,0,jK⟩))::.lit (.pointer (jL ⟨g,3,jK⟩))::.lit (.map (jL q))::.ptr 6 0::.lit (.int .i64 x.r)::.lit (.pointer (jL ⟨g,0,jK⟩))::.lit (.pointer (jL ⟨g,0,jK⟩))::.lit (.pointer (jL ⟨g,3,jK⟩))::.lit (.map (jL q))::.ptr 6 0::.lit (.int .i64 x.r)::.lit ((getK (mapK (·.1) vs) x.r).getD (.slice jK 0 0))::.ptr 6 1::.lit (.int .i64 x.at_)::.bs tInt [x.at_]::.lit i::A2 []))))),[.box (Ak f),.res (Dt D (clsE z)),.res (Ba B (mapK (·.1) I.1) I.1),.res (Ba q (Cb (mapK (·.1) vs) x.r i) (Cb vs x.r (i,((getK (mapK (·.2) vs) x.r).getD [])++[x.at_]))),.res (Ba s (mapK (·.1) O.1) O.1),.res (Bf g [.bs tInt (regsB f),.lit (.map (jL D)),.lit (.map (jL B)),.lit (.map (jL q)),.lit (.map (jL s)),.bs tInt ch]),.box (GT x)]⟩ V ?_;refine be _ ?_;refine nT ?_;refine AK ⟨(A5 (.lit (.pointer (jL ⟨g,0,jK⟩))::A40 (A10 (A7 (.bs Gk (Cc f leaf)::.lit (.int .i64 ((Cc f leaf).length:Int))::.lit (.int .i64 (k:Int))::A20 (A2 [])))))),[.box (Ak f),.res (Dt D (clsE z)),.res (Ba B (mapK (·.1) I.1) I.1),.res (Ba q (mapK (·.1) (Cb vs x.r (i,((getK (mapK (·.2) vs) x.r).getD [])++[x.at_]))) (Cb vs x.r (i,((getK (mapK (·.2) vs) x.r).getD [])++[x.at_]))),.res (Ba s (mapK (·.1) O.1) O.1),.res (Bf g [.bs tInt (regsB f),.lit (.map (jL D)),.lit (.map (jL B)),.lit (.map (jL q)),.lit (.map (jL s)),.bs tInt ch])]⟩ (by rw[Gv];exact Kr (.cons (.cons (.cons (.cons (.cons (.cons (gX _)))))))) ?_;refine wRE ?_;refine Ap ⟨(k+1,Cb vs x.r (i,((getK (mapK (·.2) vs) x.r).getD [])++[x.at_])),⟨U,ab.put Z _,?_⟩,by show(Cc f leaf).length - (k+1) < (Cc f leaf).length - k;omega,AS⟩;dsimp only;rw[Gv,Aam hx,hE];rfl
  ·obtain rfl:k=(Cc f leaf).length:=by have:¬k < (Cc f leaf).length:=(by simpa using Y);omega
   rw[gJ]at hE;refine Ay ?_;refine N _ ?_;refine nT ?_;refine wR ?_;have e:Cu f leaf ch=⟨regsB f,clsE z,mapK (·.2) I.1,mapK (·.2) vs,mapK (·.2) O.1,ch⟩:=by unfold Cu;rw[I.2,O.2,hE,hz]
   rw[e];exact Aw ⟨.inr V,Acd (i:=5) (j1:=1) (j2:=2) (j3:=3) (j4:=4) V V V V V V⟩
end Mu
namespace Mu
open Go Go.RowKit Go.Proofs
variable{f:g9}{k:Nat}{l:List Int}{p:iT}{r:Bool}{x:Int}
def I1(p:iT)(z:Int):Bool:=a8 (z≥32)&&a8 (bE.wrap (z - 32) < p.slots)
def GI(p:iT)(k:Nat):Int->Bool:=λz=>((p.at_.take k).filter (I1 p)).contains z
theorem Ao1(p:iT):GI p 0=λ_=>aL:=by
 funext z;simp[GI]
theorem Zj(hx:p.at_[k]? =jL x)(h:I1 p x=aZ):GI p (k+1)=Ain (GI p k) x:=by
 funext z;unfold GI Ain;rw[gI,hx];simp[dF,h,List.contains_eq_mem];try grind
theorem XJ(hx:p.at_[k]? =jL x)(h:I1 p x=aL):GI p (k+1)=GI p k:=by
 funext z;unfold GI;rw[gI,hx];simp[dF,h]
theorem RM(p:iT)(k:Nat):InR (CB p.at_) (GI p k):=⟨λx _ a=>by
 refine((EH _).2 x).2 ?_;unfold GI at a;rw[cV]at a;exact fI (fD.1 a).1⟩
def cardC(p:iT):Nat:=((CB p.at_).filter (GI p p.at_.length)).length
def atC(f:g9)(p:iT)(k:Nat)(x:Int):Bool:=if(regsB f).contains (k:Int)then I1 p x||((CG f p.leaf (regsB f)).getD ((regsB f).countP (· < (k:Int))) []).contains x else x == -1
def Ub(f:g9)(p:iT):Bool:=((((!HU f)||((p.at_.length:Int) !=f.regs))||decide (p.slots < 0))||(p.leaf&&((!leaf f.blocks)||decide (p.slots > 0))))
def Nm(p:iT)(x:iS):Bool:=ixD p.at_ x.a ==ixD p.at_ x.b
def C8(f:g9)(p:iT):Bool:=!Ub f p&&((fY p.at_.length).all λj=>atC f p j (p.at_.getD j 0))&&(((cardC p:Int) ==p.slots)&&!((CE f).any (Nm p)))
theorem QX(hx:p.at_[k]? =jL x)(h:atC f p k x=aL):C8 f p=aL:=by
 have hk:=(dY.1 hx).1;have:((fY p.at_.length).all λj=>atC f p j (p.at_.getD j 0))=aL:=by
  rw[List.all_eq_false];refine⟨k,fK.2 hk,?_⟩;rw[dT,hx];simpa using h
 unfold C8;rw[this];simp
theorem OU(h0:Ub f p=aL)(h:∀j x,p.at_[j]? =jL x->atC f p j x=aZ):C8 f p=(((cardC p:Int) ==p.slots)&&!((CE f).any (Nm p))):=by
 have:((fY p.at_.length).all λj=>atC f p j (p.at_.getD j 0))=aZ:=by
  rw[cL];intro j c;have a:=fK.1 c;exact h j _ (by rw[dT,dW a];rfl)
 unfold C8;rw[this,h0];simp
theorem Vm(h:Asc l)(hx:x∈l):l[l.countP (· < x)]? =jL x:=by
 induction l with
 |nil=>cases hx
 |cons y l a=>
  unfold Asc at h;rw[fU]at h;rcases eZ.1 hx with rfl|hx
  ·have:(x::l).countP (· < x)=0:=by
    rw[cY];intro z hz;rcases eZ.1 hz with rfl|hz
    ·simp
    ·have:=h.1 z hz;simp;omega
   rw[this];rfl
  ·have c:=h.1 x hx;rw[cW (by simpa using c)];simpa using a h.2 hx
theorem Aj7(f:g9)(p:iT)(q:g8 f)(am:Dh.bulk f<=2097152)(hp:okPlan p)(hw:∀x∈p.at_,Cm x)(ai:p.at_.length<=2147483648)(hr:(regsB f).length<=2147483648)(al:∀c∈CG f p.leaf (regsB f),c.length<=2147483648)(ak:(CE f).length<=2147483648)
 (hE:HU f=aZ->∀x∈CE f,(0<=x.a/\x.a < f.regs)/\(0<=x.b/\x.b < f.regs)):Fn bT 16 [.agg (Ak f),.agg (BE p)] (.lit (.bool (C8 f p))):=by
 have ar:=Af4 f q hr;have an:=NB (f:=f) (Ae (by rw[aI];exact⟨BM.2 q,decide_eq_true am⟩) (Ag _));have Y:=LB f q.ok q.small q.all;have ao:=NA f p.leaf q.ok q.small q.reads q.ins q.all;have ag:=YP f q.ok q.small q.reads q.all q.ins;have Z:RegsR (CB p.at_):=⟨(EH _).1,λx hx=>hw x (((EH _).2 x).1 hx),iZ (Dr _) ai⟩
 refine AQ Tryz.func16 V (by kernel_rfl) V Tryz.ntmps16 λC hC=>?_
 simp only[Nat.reduceAdd,Nat.reduceSub,zaa];refine wR ?_;refine Ab λK2 h2=>?_
 refine wR ?_;refine Ah V (λW=>?_) (λW=>?_)
 ·refine wR ?_;have e:C8 f p=aL:=by unfold C8;rw[show Ub f p=aZ from W];rfl
  rw[e];exact Aw ⟨.inr V,gZ V⟩
 ·have h0:Ub f p=aL:=W;refine Al ?_;refine h2 _ ?_;refine nT ?_;refine AK ⟨.agg (Ak f)::.agg (BE p)::.ptr 0 0::.ptr 1 0::.lit (.bool aL)::A80 (A10 (A6 [])),[.box (Ak f),.box (BE p)]⟩ (AS) ?_;refine Ab λK7 h7=>?_
  refine Fk (n:=10) 0 (λ(m:Nat) (b:Nat->Bool)=>⟨.agg (Ak f)::.agg (BE p)::.ptr 0 0::.ptr 1 0::.lit (.bool aL)::(bif b 7 then .bs tInt (regsB f)else .any)::(bif b 8 then .bs tInt.slice (CG f p.leaf (regsB f))else .any)::(bif b 9 then .lit (.map (jL m))else .any)::A20 (A10 (A4 ((bif b 0 then .agg (Ak f)else .any)::(bif b 1 then .bs tInt (regsB f)else .any)::(bif b 2 then .agg (Ak f)else .any)::(bif b 3 then .ptr 1 0 else .any)::(bif b 4 then .lit (.bool p.leaf)else .any)::(bif b 5 then .bs tInt.slice (CG f p.leaf (regsB f))else .any)::(bif b 6 then .lit (.map (jL m))else .any)::A40 (A10 (A2 []))))),bif b 6 then [.box (Ak f),.box (BE p),.res (IN (λ_=>aL) m)]else [.box (Ak f),.box (BE p)]⟩) V (by kernel_rfl) (by kernel_rfl) ?_ (λm=>h7 _ ?_)
  ·refine AM (λm b N d hc=>?_) ?_
   ·try dsimp only
    refine AX (AR V Fm (by cases b 6 <;> rfl) V) ?_;exact⟨m,iU⟩
   refine AM (λm b N d hc=>?_) ?_
   ·try dsimp only
    have h0:b 0=aZ:=d 0 _ V V;refine AX (AE V (Pq ((As (Ao Fm)).trans (BD h0 _ _)) V) Y V V) ?_;exact⟨m,iU⟩
   refine AM (λm b N d hc=>?_) ?_
   ·try dsimp only
    refine AX (AR V Fm (by cases b 6 <;> rfl) V) ?_;exact⟨m,iU⟩
   refine AM (λm b N d hc=>?_) ?_
   ·try dsimp only
    refine AX (Bo V Fw (by cases b 6 <;> rfl)) ?_;exact⟨m,iU⟩
   refine AM (λm b N d hc=>?_) ?_
   ·try dsimp only
    have h3:b 3=aZ:=d 0 _ V V;refine AX (Be V ((As (Ao Fc)).trans (BD h3 _ _)) (by cases b 6 <;> rfl) V) ?_;exact⟨m,iU⟩
   refine AM (λm b N d hc=>?_) ?_
   ·try dsimp only
    have h2:b 2=aZ:=d 0 _ V V;have h4:b 4=aZ:=d 1 _ V V;refine AX (AE V (Pq ((As (Ao Gz)).trans (BD h2 _ _)) (Pq ((As (Ao HW)).trans (BD h4 _ _)) V)) ao V V) ?_;exact⟨m,iU⟩
   refine AM (λm b N d hc=>?_) ?_
   ·try dsimp only
    have h9:b 9=aL:=AW hc (i:=6) (j:=9) (k:=0) V V V V N;have e7:∀m1:Nat,(bif b 9 then AV.lit (.map (jL m))else .any)=(bif upd b 6 9 then AV.lit (.map (jL m1))else .any):=λm1=>by rw[show upd b 6 9=b 9 from V,h9];rfl
    rw[N];refine Qk V λm1=>⟨m1,?_⟩
    rw[e7 m1];exact iU
   refine AM (λm b N d hc=>?_) ?_
   ·try dsimp only
    have h1:b 1=aZ:=d 0 _ V V;refine AX (AT.assign V ((As (Ao Fw)).trans (BD h1 _ _))) ?_;exact⟨m,iU⟩
   refine AM (λm b N d hc=>?_) ?_
   ·try dsimp only
    have h5:b 5=aZ:=d 0 _ V V;refine AX (AT.assign V ((As (Ao GP)).trans (BD h5 _ _))) ?_;exact⟨m,iU⟩
   refine AM (λm b N d hc=>?_) ?_
   ·try dsimp only
    have h6:b 6=aZ:=d 0 _ V V;refine AX (AT.assign V ((As (Ao (Ao IP))).trans (BD h6 _ _))) ?_;exact⟨m,iU⟩
   exact Nx
  refine Ab λK8 h8=>?_
  refine wR ?_;refine Ad ?_;refine AH (λk:Nat=>⟨(A2 (.ptr 0 0::.ptr 1 0::.any::.bs tInt (regsB f)::.bs tInt.slice (CG f p.leaf (regsB f))::.lit (.map (jL m))::A40 (A2 (.bs tInt p.at_::.lit (.int .i64 (p.at_.length:Int))::.lit (.int .i64 (k:Int))::A40 (A8 []))))),[.box (Ak f),.box (BE p),.res (IN (GI p k) m)]⟩) (λk=>k<=p.at_.length/\∀j x,j < k->p.at_[j]? =jL x->atC f p j x=aZ) (λk=>p.at_.length - k) 0 ⟨jF _,λj x h=>by omega⟩ (by rw[Ao1];exact AS) ?_;rintro k ⟨hk,a⟩;refine wR ?_;refine Ab λav ap=>?_
  refine Ah V (λJ=>?_) (λJ=>?_)
  ·have aj:k < p.at_.length:=by simpa using J
   obtain⟨x,hx⟩:∃x,p.at_[k]? =jL x:=⟨_,dW aj⟩
   have hS:=OP (regsB f) (k:Int) (Jd f) hr;have ah:=hw x (fH hx);refine Al ?_;refine ap _ ?_;refine nT ?_;refine Ab λau aa=>?_
   refine Ad ?_;refine wR ?_;refine wR (hx:=by((repeat(first|refine sA ?_ (AE V V hS V V)|refine sA ?_|refine AO ?_|refine sAG (hq:=by(intro hg;(try simp only[zah]at hg);(try simp only[hg,zal,zaj]);exact AE V V hS V V)) ?_|refine sAG ?_|refine Bq ?_));exact CV V)) (hk:=?_);refine Ad ?_;refine wR ?_;refine Ah V (λI=>?_) (λI=>?_)
   ·have ab:(regsB f).contains (k:Int)=aL:=by simpa using I
    refine wR ?_;refine Ah V (λs=>?_) (λs=>?_)
    ·refine wR ?_;have e:C8 f p=aL:=QX hx (by unfold atC;rw[if_neg (by rw[ab];simp)];simpa using s);rw[e];exact Aw ⟨.inr V,gZ V⟩
    ·have O:atC f p k x=aZ:=by unfold atC;rw[if_neg (by rw[ab];simp)];simpa using s
     have B:GI p (k+1)=GI p k:=XJ hx (by
      have:x= -1:=by simpa using s
      subst this;unfold I1;rfl)
     refine Al ?_;refine aa _ ?_;refine nT ?_;refine wRE ?_;refine Ap ⟨k+1,⟨by omega,λj y hj v=>?_⟩,by omega,?_⟩
     ·rcases i6 j k with hj'|hj'
      ·exact a j y hj' v
      ·obtain rfl:j=k:=by omega
       rw[hx]at v;cases v;exact O
     ·rw[B];exact AS
   ·have T:(regsB f).contains (k:Int)=aZ:=by simpa using I
    refine wR ?_;refine Ah V (λF=>?_) (λF=>?_)
    ·have u:I1 p x=aZ:=F;have O:atC f p k x=aZ:=by unfold atC;rw[if_pos T,u];rfl
     have B:=Zj hx u;refine wRE (hx:=by((repeat(first|(refine AF V (Zc (R:=CB p.at_) 2 V Tryz.underlying51 V V V V Z (RM p k) ah ?_);refine sNt ?_)|refine sA ?_|refine AO ?_|refine sAG ?_|refine Bq ?_));exact CV V)) (hk:=?_);refine aa _ ?_;refine nT ?_;refine wRE ?_;refine Ap ⟨k+1,⟨by omega,λj y hj v=>?_⟩,by omega,?_⟩
     ·rcases i6 j k with hj'|hj'
      ·exact a j y hj' v
      ·obtain rfl:j=k:=by omega
       rw[hx]at v;cases v;exact O
     ·rw[B];exact AS
    ·have u:I1 p x=aL:=F;have B:=XJ hx u;have ad:=Vm (Jd f) (cV.1 T);have hc:(CG f p.leaf (regsB f))[(regsB f).countP (· < (k:Int))]? =jL (Br (B9 f) k p.leaf):=by unfold CG;rw[dZ,ad];rfl
     have ae:=Jz (Br (B9 f) k p.leaf) x (al _ (fH hc));have af:(CG f p.leaf (regsB f)).getD ((regsB f).countP (· < (k:Int))) []=Br (B9 f) k p.leaf:=by rw[dT,hc];rfl
     refine wR (hx:=by((repeat(first|refine sA ?_ (AE V V ae V V)|refine sA ?_|refine AO ?_|refine sAG (hq:=by(intro hg;(try simp only[zah]at hg);(try simp only[hg,zal,zaj]);exact AE V V ae V V)) ?_|refine sAG ?_|refine Bq ?_));exact CV V)) (hk:=?_);refine Ah V (λD=>?_) (λD=>?_)
     ·refine wR ?_;have e:C8 f p=aL:=QX hx (by unfold atC;rw[if_pos T,u,af];simpa using D);rw[e];exact Aw ⟨.inr V,gZ V⟩
     ·have O:atC f p k x=aZ:=by unfold atC;rw[if_pos T,u,af];simpa using D
      refine Al ?_;refine aa _ ?_;refine nT ?_;refine wRE ?_;refine Ap ⟨k+1,⟨by omega,λj y hj v=>?_⟩,by omega,?_⟩
      ·rcases i6 j k with hj'|hj'
       ·exact a j y hj' v
       ·obtain rfl:j=k:=by omega
        rw[hx]at v;cases v;exact O
      ·rw[B];exact AS
  ·refine Ay ?_;refine h8 _ ?_;refine nT ?_;obtain rfl:k=p.at_.length:=by have:¬k < p.at_.length:=(by simpa using J);omega
   have ac:HU f=aZ:=by
    have h1:=h0;unfold Ub at h1;simp only[aV]at h1;simpa using h1.1.1.1
   have aq:(p.at_.length:Int)=f.regs:=by
    have h1:=h0;unfold Ub at h1;simp only[aV]at h1;simpa using h1.1.1.2
   have U:=Aru (CE f) ak 42 [.bp Tf p 0] V (Nm p) λx hx=>by
    obtain⟨⟨h1,h2⟩,h3,h4⟩:=hE ac x hx;exact NZ (Ae (BJ.2 ⟨h1,by omega⟩) (Ae (BJ.2 ⟨h3,by omega⟩) (Ag _)))
   refine wR (hx:=by((repeat(first|refine sA ?_ (HE (i:=2) (L:=CB p.at_) V Tryz.underlying51 V V (λ_ _ h=>h) Z (RM p _))|refine sA ?_ (AE V V ag V V)|refine sA (hq:=CM V U (.cons (.cl V) (.cons (.fn (.cons (Yr V hp) .nil)) .nil))) (hk:=?_)|refine sA ?_|refine AO ?_|refine sAG (hq:=by(intro hg;(try simp only[zah]at hg);(try simp only[hg,zal,zaj]);exact HE (i:=2) (L:=CB p.at_) V Tryz.underlying51 V V (λ_ _ h=>h) Z (RM p _))) ?_|refine sAG (hq:=by(intro hg;(try simp only[zah]at hg);(try simp only[hg,zal,zaj]);exact AE V V ag V V)) ?_|refine sAG (hq:=by(intro hg;(try simp only[zah]at hg);(try simp only[hg,zal,zaj]);exact CM V U (.cons (.cl V) (.cons (.fn (.cons (Yr V hp) .nil)) .nil)))) (hk:=?_)|refine sAG ?_|refine Bq ?_));exact CV V)) (hk:=?_);rw[OU h0 λj x h=>a j x (dY.1 h).1 h];exact Aw ⟨.inr V,gZ V⟩
noncomputable section
def Jf(l:List Int)(n:Int):Int->M (Int⊕((Unit)⊕(Bool))):=λa=>iC (a8 (a < (l.length:Int))) (iB (Ci l a) (iC ((ixD l a) ==n) (iK (.inr (.inr aZ))) (iK (.inl (bE.wrap (a+1)))))) (iK (.inr (.inl ())))
def O0(l:List Int)(n:Int):M Bool:=iD (iG (Jf l n) 0) λ_=>iK aL
theorem Ob{n:Int}(H:(O0 l n).to r):Fn bT 35 [.bs tInt l,.lit (.int .i64 n)] (.lit (.bool r)):=by
 delta O0 at H;try dsimp only at H
 refine AQ Tryz.func35 V (by kernel_rfl) V Tryz.ntmps35 λC W=>?_
 simp only[Nat.reduceAdd,Nat.reduceSub,zaa];refine wS (sT (wN ?_));obtain⟨L,D,B,v⟩:=CK H;refine Bi (β:=(Unit)×(Unit)) (λF=>L= .inl F.1) (λF=>⟨A10 (A8 []),[]⟩) ?_ ?_
 ·refine wS (sT (wN ?_));refine Ad ?_;refine BB D (λN Y=>⟨.bs tInt l::.lit (.int .i64 n)::A3 (.lit (.int .i64 N)::A10 (A2 [])),[]⟩) () (?_) ?_
  ·try dsimp only
   exact AS
  ·rintro U _ T H j;try dsimp only
   dsimp only[Jf]at H;refine Ab λJ s=>?_
   refine wS (sT (sT (sT (sT (wN ?_)))));refine Ah V (λc=>?_) (λc=>?_)
   ·have H:=AI c H;refine Al ?_;refine s _ ?_;refine nT ?_;refine Ab λI q=>?_
    refine Ad ?_;obtain⟨O,H⟩:=Aj.1 H;refine wS (sT (sT (sX O (sT (sT (sT (wN ?_)))))));refine Ah V (λa=>?_) (λa=>?_)
    ·have H:=AI a H;refine wS (sT (wN ?_));have H:=Ac.2 (v _ (j _ (Ac.1 H).symm).symm);obtain rfl:=Ac.1 H;exact Aw ⟨.inr V,gZ V⟩
    ·have H:=AJ a H;refine Al ?_;refine q _ ?_;refine nT ?_;refine wSE (sT (sT (sT (wN ?_))));have u:=Ac.1 H;repeat(first|refine abN ?_|refine asN ?_)
     refine Ap ⟨_,(),u.symm,?_⟩;try dsimp only
     exact AS
   ·have H:=AJ c H;refine Ay ?_;repeat(first|refine BF ?_|refine exO (by decide) ?_|refine asE ?_)
    refine exN ?_;have u:=j _ (Ac.1 H).symm;repeat(first|refine abN ?_|refine asN ?_)
    refine Ap ⟨(_,()),u.symm,?_⟩;try dsimp only
    exact AS
 ·rintro⟨_,_⟩ d;try dsimp only at d
  have H:=B _ d;try dsimp only
  refine wS (sT (wN ?_));obtain rfl:=Ac.1 H;exact Aw ⟨.inr V,gZ V⟩
def FX(f:g9)(r3:List Int):Int->M (Int⊕((Unit)⊕(Bool))):=λa=>iC (a8 (a < (r3.length:Int))) (iB (Ci r3 a) (iB (!(!(a8 ((ixD r3 a) < 0)))||(Ci r3 a)) (iC ((a8 ((ixD r3 a) < 0))||(a8 ((ixD r3 a)≥f.regs))) (iK (.inr (.inr aL))) (iK (.inl (bE.wrap (a+1))))))) (iK (.inr (.inl ())))
def O2(f:g9):M Bool:=iC (((((a8 (f.regs < 0))||(a8 (f.regs > 4096)))||(a8 (f.args < 0)))||(a8 (f.args > 6)))||(a8 (f.args > f.regs))) (iK aL) (iA (Oc f) λr3=>iD (iG (FX f r3) 0) λ_=>iK aZ)
theorem Ae1(H:(O2 f).to r):Fn bT 12 [.agg (Ak f)] (.lit (.bool r)):=by
 delta O2 at H;try dsimp only at H
 refine AQ Tryz.func12 V (by kernel_rfl) V Tryz.ntmps12 λC hC=>?_
 simp only[Nat.reduceAdd,Nat.reduceSub,zaa];refine wS (sB (sT (wN ?_)));refine Ab λT v=>?_
 refine wS (sT (sT (sT (sT ?_))));refine sGf V ?_;refine sGf V ?_;refine sGf V (sT (sT ?_));refine sGf V ?_;refine sGf V ?_;refine sGf V (sT (sT ?_));refine sGf V ?_;refine sGf V ?_;refine sGf V (sT (sT ?_));refine sGf V ?_;refine sGf V ?_;refine sGf V ?_;refine sGf V ?_;refine sGf V (sT (wN ?_));refine Ah V (λd=>?_) (λd=>?_)
 ·have H:=AI d H;refine wS (sT (wN ?_));obtain rfl:=Ac.1 H;exact Aw ⟨.inr V,gZ V⟩
 ·have H:=AJ d H;refine Al ?_;refine v _ ?_;refine nT ?_;obtain⟨r3,q,H⟩:=An.1 H;have q:=Q0 q;refine wS (sT (sC q (sT (wN ?_))));obtain⟨U,J,I,F⟩:=CK H;refine Bi (β:=(Unit)×(Unit)) (λL=>U= .inl L.1) (λL=>⟨A40 (A10 (A2 [])),[.dead]⟩) ?_ ?_
  ·refine wS (sT (wN ?_));refine Ad ?_;refine BB J (λW b5=>⟨.any::.ptr 0 0::.any::.bs tInt r3::.lit (.int .i64 W)::A40 (A7 []),[.box (Ak f)]⟩) () (?_) ?_
   ·try dsimp only
    exact AS
   ·rintro Y _ x5 H n;try dsimp only
    dsimp only[FX]at H;refine Ab λO u=>?_
    refine wS (sT (sT (sT (sT (wN ?_)))));refine Ah V (λc=>?_) (λc=>?_)
    ·have H:=AI c H;refine Al ?_;refine u _ ?_;refine nT ?_;refine Ab λN s=>?_
     refine Ad ?_;obtain⟨Z,H⟩:=Aj.1 H;obtain⟨D,H⟩:=Aj.1 H;refine dS 14 (hq:=?_);refine qT (qT (qX Z (qT (qT (qT ?_)))));refine qGf V ?_;refine qGf V ?_;refine qG (g:=(!(a8 ((ixD r3 Y) < 0)))) (hg:=Aar V) (hq:=λhg=>Fj V ((As (Ao Gz)).trans (BD hg _ _)) ((As (Ao Fc)).trans (BD hg _ _)) V (Uy D hg)) (ht:=(Ar (Aq GZ))) ?_;refine qGf V ?_;refine qGf V ?_;refine qGf V ?_;refine qGf V (qT (qN (wN ?_)));refine Ah V (λa=>?_) (λa=>?_)
     ·have H:=AI a H;refine wS (sT (wN ?_));have H:=Ac.2 (F _ (n _ (Ac.1 H).symm).symm);obtain rfl:=Ac.1 H;exact Aw ⟨.inr V,gZ V⟩
     ·have H:=AJ a H;refine Al ?_;refine s _ ?_;refine nT ?_;refine wSE (sT (sT (sT (wN ?_))));have B:=Ac.1 H;repeat(first|refine abN ?_|refine asN ?_)
      refine Ap ⟨_,(),B.symm,?_⟩;try dsimp only
      exact AS
    ·have H:=AJ c H;refine Ay ?_;repeat(first|refine BF ?_|refine exO (by decide) ?_|refine asE ?_)
     refine exN ?_;have B:=n _ (Ac.1 H).symm;repeat(first|refine abN ?_|refine asN ?_)
     refine Ap ⟨(_,()),B.symm,?_⟩;try dsimp only
     exact leC (gW (gX _))
  ·rintro⟨_,_⟩ j;try dsimp only at j
   have H:=I _ j;try dsimp only
   refine wS (sT (wN ?_));obtain rfl:=Ac.1 H;exact Aw ⟨.inr V,gZ V⟩
def Je(f:g9)(p:iT)(a:Int):M Bool:=iB (Ci p.at_ a) (iC (a8 ((ixD p.at_ a)≥32)) (iK ((!p.leaf)&&(a8 ((bE.wrap ((ixD p.at_ a) - 32)) < p.slots)))) (iA (Q1 f a p.leaf) λr4=>iA (O0 r4 (ixD p.at_ a)) λc=>iK c))
theorem Wl{c:Int}(H:(Je f p c).to r):Fn bT 36 [.agg (Ak f),.agg (BE p),.lit (.int .i64 c)] (.lit (.bool r)):=by
 delta Je at H;try dsimp only at H
 refine AQ Tryz.func36 V (by kernel_rfl) V Tryz.ntmps36 λC v=>?_
 simp only[Nat.reduceAdd,Nat.reduceSub,zaa];refine wS (sB (sB (sT (wN ?_))));obtain⟨s,H⟩:=Aj.1 H;refine wS (sT (sT (sT (sX s (sT (sT (wN ?_)))))));refine Ab λq n=>?_
 refine wS (sT (sT (wN ?_)));refine Ah V (λa=>?_) (λa=>?_)
 ·have H:=AI a H;refine wS (sT (sT (sT (sT ?_))));refine sGt V ?_;refine sGt V ?_;refine sGt V ?_;refine sGt V ?_;refine sGt V (sT (sT (wN ?_)));obtain rfl:=Ac.1 H;exact Aw ⟨.inr V,gZ V⟩
 ·have H:=AJ a H;refine Al ?_;refine n _ ?_;refine nT ?_;obtain⟨r4,j,H⟩:=An.1 H;have j:=TM j;obtain⟨u,d,H⟩:=An.1 H;have d:=Ob d;refine wS (sT (sT (sT (sT (sC j (sT (sC d (sT (wN ?_)))))))));obtain rfl:=Ac.1 H;exact Aw ⟨.inr V,gZ V⟩
def Es(f:g9)(p:iT)(n:List Int):Int->M (Int⊕((Unit)⊕(Bool))):=λa=>iC (a8 (a < f.regs)) (iA (O0 n a) λc=>iB (!(!c)||(Ci p.at_ a)) (iA (M.whn (!((!c)&&((ixD p.at_ a) !=(-1)))) aL (O0 n a)) λd=>iA (M.whn ((!((!c)&&((ixD p.at_ a) !=(-1))))&&d) aL (Je f p a)) λj=>iC (((!c)&&((ixD p.at_ a) !=(-1)))||(d&&(!j))) (iK (.inr (.inr aL))) (iK (.inl (bE.wrap (a+1)))))) (iK (.inr (.inl ())))
def Er(p:iT):Int->M (Int⊕((Unit)⊕(Bool))):=λa=>iC (a8 (a < p.slots)) (iA (O0 p.at_ (bE.wrap (32+a))) λc=>iC (!c) (iK (.inr (.inr aL))) (iK (.inl (bE.wrap (a+1))))) (iK (.inr (.inl ())))
def Ep(f:g9)(p:iT)(d:List Int)(n:List (List (List Int)))(c:Int):Int->M (Int⊕((Unit)⊕((Int)⊕((Unit)⊕(Bool))))):=λa=>iC (a8 (a < c)) (iB (Ci d c) (iB (Ci p.at_ (ixD d c)) (iB (Ci d a) (iB (Ci p.at_ (ixD d a)) (iB (!((ixD p.at_ (ixD d c)) ==(ixD p.at_ (ixD d a)))||(Ci d c)) (iB (!((ixD p.at_ (ixD d c)) ==(ixD p.at_ (ixD d a)))||(Ci d a)) (iA (M.whn ((ixD p.at_ (ixD d c)) ==(ixD p.at_ (ixD d a))) aL (LE f n (ixD d c) (ixD d a))) λj=>iC (((ixD p.at_ (ixD d c)) ==(ixD p.at_ (ixD d a)))&&j) (iK (.inr (.inr (.inr (.inr aL))))) (iK (.inl (bE.wrap (a+1))))))))))) (iK (.inr (.inl ())))
def Eq(f:g9)(p:iT)(c:List Int)(d:List (List (List Int))):Int->M (Int⊕((Unit)⊕(Bool))):=λa=>iC (a8 (a < (c.length:Int))) (iD (iG (Ep f p c d a) 0) λ_=>iK (.inl (bE.wrap (a+1)))) (iK (.inr (.inl ())))
def FW(f:g9)(p:iT):M Bool:=iA (O2 f) λr2=>iA (M.whn ((!((((!r2)||((p.at_.length:Int) !=f.regs))||(a8 (p.slots < 0)))||(a8 (p.slots > f.regs))))&&p.leaf) aL (RW f)) λr3=>iC (((((!r2)||((p.at_.length:Int) !=f.regs))||(a8 (p.slots < 0)))||(a8 (p.slots > f.regs)))||(p.leaf&&((!r3)||(p.slots !=0)))) (iK aL) (iA (Oc f) λa=>iA (Ae3 f) λc=>iD (iG (Es f p a) 0) λ_=>iD (iG (Er p) 0) λ_=>iD (iG (Eq f p a c) 0) λ_=>iK aZ)
theorem O1(H:(FW f p).to r):Fn bT 15 [.agg (Ak f),.agg (BE p)] (.lit (.bool r)):=by
 delta FW at H;try dsimp only at H
 refine AQ Tryz.func15 V (by kernel_rfl) V Tryz.ntmps15 λC hC=>?_
 simp only[Nat.reduceAdd,Nat.reduceSub,zaa];refine wS (sB (sB (sT (wN ?_))));refine Ab λci bn=>?_
 obtain⟨r2,k2,H⟩:=An.1 H;have k2:=Ae1 k2;obtain⟨r3,k3,H⟩:=An.1 H;refine wS (sT (sC k2 (sT (sT ?_))));refine sGf V ?_;refine sGf V ?_;refine sGf V ?_;refine sGf V ?_;refine sGf V ?_;refine sGf V (sT (sT ?_));refine sGf V ?_;refine sGf V ?_;refine sGf V (sT (sT ?_));refine sGf V ?_;refine sGf V ?_;refine sGf V ?_;refine sGf V ?_;refine sGf V (sT (sT ?_));refine sGf V ?_;refine sGf V ?_;refine sGf V ?_;refine sG (g:=((!((((!r2)||((p.at_.length:Int) !=f.regs))||(a8 (p.slots < 0)))||(a8 (p.slots > f.regs))))&&p.leaf)) (hg:=GQ V V) (hq:=λhg=>by(have a:=EN hg;exact AR V Fm V V)) (ht:=(Ar GZ)) (hk:=?_);refine sG (g:=((!((((!r2)||((p.at_.length:Int) !=f.regs))||(a8 (p.slots < 0)))||(a8 (p.slots > f.regs))))&&p.leaf)) (hg:=GQ V V) (hq:=λhg=>by(have a:=EN hg;(try simp only[BD hg,BD a]);(try simp only[M3 hg,M3 a]);exact AE V V (ZN (iL k3 hg)) V V)) (ht:=(Ar GY)) (hk:=?_);refine sG (g:=((!((((!r2)||((p.at_.length:Int) !=f.regs))||(a8 (p.slots < 0)))||(a8 (p.slots > f.regs))))&&p.leaf)) (hg:=GQ V V) (hq:=λhg=>by(have a:=EN hg;exact Cp V ((As GP).trans (BD hg _ _)))) (ht:=(Ar (Aq G9))) (hk:=?_);refine sG (g:=((!((((!r2)||((p.at_.length:Int) !=f.regs))||(a8 (p.slots < 0)))||(a8 (p.slots > f.regs))))&&p.leaf)) (hg:=GQ V V) (hq:=λhg=>by(have a:=EN hg;exact AT.move V ((As (Ao IP)).trans (BD hg _ _)))) (ht:=(Ar (Aq IK))) (hk:=?_);refine sG (g:=(((!((((!r2)||((p.at_.length:Int) !=f.regs))||(a8 (p.slots < 0)))||(a8 (p.slots > f.regs))))&&p.leaf)&&(!(!r3)))) (hg:=Aq9 V V) (hq:=λhg=>by(have a:=EN hg;have N:=EN a;exact Bo V Fw V)) (ht:=(Ar (Aq KK))) (hk:=?_);refine sG (g:=(((!((((!r2)||((p.at_.length:Int) !=f.regs))||(a8 (p.slots < 0)))||(a8 (p.slots > f.regs))))&&p.leaf)&&(!(!r3)))) (hg:=Aq9 V V) (hq:=λhg=>by(have a:=EN hg;have N:=EN a;exact Be V ((As (Ao Fm)).trans (BD hg _ _)) V V)) (ht:=(Ar (Aq IF))) (hk:=?_);refine sG (g:=(((!((((!r2)||((p.at_.length:Int) !=f.regs))||(a8 (p.slots < 0)))||(a8 (p.slots > f.regs))))&&p.leaf)&&(!(!r3)))) (hg:=Aq9 V V) (hq:=λhg=>by(have a:=EN hg;have N:=EN a;exact Cw V ((As (Ao Fw)).trans (BD hg _ _)) VX V)) (ht:=(Ar (Aq I5))) (hk:=?_);refine sG (g:=((!((((!r2)||((p.at_.length:Int) !=f.regs))||(a8 (p.slots < 0)))||(a8 (p.slots > f.regs))))&&p.leaf)) (hg:=GQ V V) (hq:=λhg=>by(have a:=EN hg;exact Iw V ((As (Ao Gi)).trans (BD hg _ _)) VX ((As (Ao Gz)).trans (M3 hg _ _)))) (ht:=(Ar (Aq GK))) (hk:=?_);refine sG (g:=(!((((!r2)||((p.at_.length:Int) !=f.regs))||(a8 (p.slots < 0)))||(a8 (p.slots > f.regs))))) (hg:=Aar V) (hq:=λhg=>Dg V ((As Fc).trans (BD hg _ _)) ((As (Ao Fc)).trans (M3 hg _ _)) VX) (ht:=(Ar (Aq GZ))) (hk:=?_);refine sT (wN ?_);refine Ah V (λab=>?_) (λab=>?_)
 ·have H:=AI ab H;refine wS (sT (wN ?_));obtain rfl:=Ac.1 H;exact Aw ⟨.inr V,gZ V⟩
 ·have H:=AJ ab H;refine Al ?_;refine bn _ ?_;refine nT ?_;obtain⟨d,k5,H⟩:=An.1 H;have k5:=Q0 k5;obtain⟨Y,k6,H⟩:=An.1 H;have k6:=Ae2 k6;refine dS 6 (hq:=?_);refine qT (qC k5 (qT (qC k6 (qT (qT (qN (wN ?_)))))));obtain⟨z8,cg,cf,ce⟩:=CK H;refine Bi (β:=(Unit)×(Unit)) (λq8=>z8= .inl q8.1) (λq8=>⟨A2 (.ptr 0 0::.ptr 1 0::.any::.bs tInt d::.bs tInt.slice.slice Y::A80 (A40 (A8 []))),[.box (Ak f),.box (BE p)]⟩) ?_ ?_
  ·refine wS (sT (wN ?_));refine Ad ?_;refine BB cg (λs8 b8=>⟨A2 (.ptr 0 0::.ptr 1 0::.any::.bs tInt d::.bs tInt.slice.slice Y::.lit (.int .i64 s8)::A80 (A40 (A7 []))),[.box (Ak f),.box (BE p)]⟩) () (?_) ?_
   ·try dsimp only
    exact AS
   ·rintro W _ x8 H aq;try dsimp only
    dsimp only[Es]at H;refine Ab λch bm=>?_
    refine wS (sT (sT (sT (sT (wN ?_)))));refine Ah V (λD=>?_) (λD=>?_)
    ·have H:=AI D H;refine Al ?_;refine bm _ ?_;refine nT ?_;refine Ab λcd ap=>?_
     refine Ad ?_;obtain⟨c,aa,H⟩:=An.1 H;have aa:=Ob aa;obtain⟨bw,H⟩:=Aj.1 H;obtain⟨j,bl,H⟩:=An.1 H;obtain⟨cq,bk,H⟩:=An.1 H;refine wS (sT (sT (sC aa (sT (sT ?_)))));refine sGt V ?_;refine sGt V ?_;refine sGt V ?_;refine Ao9 V bw ?_;refine sGt V ?_;refine sGt V (sT (sT ?_));refine sGf V ?_;refine sGf V ?_;refine sG (g:=(!((!c)&&((ixD p.at_ W) !=(-1))))) (hg:=Aar V) (hq:=λhg=>by((try simp only[BD hg]);(try simp only[M3 hg]);exact AE V V (Ob (iL bl hg)) V V)) (ht:=(Ar (Ar (Aq IK)))) ?_;refine sGf V ?_;refine sG (g:=((!((!c)&&((ixD p.at_ W) !=(-1))))&&j)) (hg:=GQ V V) (hq:=λhg=>by(have a:=EN hg;exact AR V Fm V V)) (ht:=(Ar (Ar (Aq IF)))) (hk:=?_);refine sG (g:=((!((!c)&&((ixD p.at_ W) !=(-1))))&&j)) (hg:=GQ V V) (hq:=λhg=>by(have a:=EN hg;exact AR V Fw V V)) (ht:=(Ar (Ar (Aq I5)))) (hk:=?_);refine sG (g:=((!((!c)&&((ixD p.at_ W) !=(-1))))&&j)) (hg:=GQ V V) (hq:=λhg=>by(have a:=EN hg;exact AT.move V GP)) (ht:=(Ar (Ar (Aq GK)))) (hk:=?_);refine sG (g:=((!((!c)&&((ixD p.at_ W) !=(-1))))&&j)) (hg:=GQ V V) (hq:=λhg=>by(have a:=EN hg;(try simp only[BD hg,BD a]);(try simp only[M3 hg,M3 a]);exact AE V V (Wl (iL bk hg)) V V)) (ht:=(Ar (Ar (Aq GZ)))) (hk:=?_);refine sG (g:=((!((!c)&&((ixD p.at_ W) !=(-1))))&&j)) (hg:=GQ V V) (hq:=λhg=>by(have a:=EN hg;exact Cp V ((As (As (Ao HW))).trans (BD hg _ _)))) (ht:=(Ar (Ar (Aq GY)))) (hk:=?_);refine sG (g:=(!((!c)&&((ixD p.at_ W) !=(-1))))) (hg:=Aar V) (hq:=λhg=>Dg V ((As (As (Ao Fm))).trans (BD hg _ _)) ((As (As (Ao GP))).trans (M3 hg _ _)) VX) (ht:=(Ar (Ar (Aq (Aq G9))))) ?_;refine sT (wN ?_);refine Ah V (λB=>?_) (λB=>?_)
     ·have H:=AI B H;refine wS (sT (wN ?_));have H:=Ac.2 (ce _ (aq _ (Ac.1 H).symm).symm);obtain rfl:=Ac.1 H;exact Aw ⟨.inr V,gZ V⟩
     ·have H:=AJ B H;refine Al ?_;refine ap _ ?_;refine nT ?_;refine wSE (sT (sT (sT (wN ?_))));have e8:=Ac.1 H;repeat(first|refine abN ?_|refine asN ?_)
      refine Ap ⟨_,(),e8.symm,?_⟩;try dsimp only
      exact AS
    ·have H:=AJ D H;refine Ay ?_;repeat(first|refine BF ?_|refine exO (by decide) ?_|refine asE ?_)
     refine exN ?_;have e8:=aq _ (Ac.1 H).symm;repeat(first|refine abN ?_|refine asN ?_)
     refine Ap ⟨(_,()),e8.symm,?_⟩;try dsimp only
     exact AS
  ·rintro⟨_,_⟩ aj;try dsimp only at aj
   have H:=cf _ aj;try dsimp only
   obtain⟨bf,bb,ay,av⟩:=CK H;refine Bi (β:=(Unit)×(Unit)) (λah=>bf= .inl ah.1) (λah=>⟨A2 (.ptr 0 0::.ptr 1 0::.any::.bs tInt d::.bs tInt.slice.slice Y::A80 (A40 (A8 []))),[.box (Ak f),.box (BE p)]⟩) ?_ ?_
   ·refine wS (sT (wN ?_));refine Ad ?_;refine BB bb (λbi ct=>⟨A2 (.ptr 0 0::.ptr 1 0::.any::.bs tInt d::.bs tInt.slice.slice Y::.any::.lit (.int .i64 bi)::A80 (A40 (A6 []))),[.box (Ak f),.box (BE p)]⟩) () (?_) ?_
    ·try dsimp only
     exact AS
    ·rintro cn _ cm H U;try dsimp only
     dsimp only[Er]at H;refine Ab λcc ao=>?_
     refine wS (sT (sT (sT (sT (wN ?_)))));refine Ah V (λv=>?_) (λv=>?_)
     ·have H:=AI v H;refine Al ?_;refine ao _ ?_;refine nT ?_;refine Ab λcb an=>?_
      refine Ad ?_;obtain⟨cp,Z,H⟩:=An.1 H;have Z:=Ob Z;refine wS (sT (sT (sT (sT (sC Z (sT (wN ?_)))))));refine Ah V (λu=>?_) (λu=>?_)
      ·have H:=AI u H;refine wS (sT (wN ?_));have H:=Ac.2 (av _ (U _ (Ac.1 H).symm).symm);obtain rfl:=Ac.1 H;exact Aw ⟨.inr V,gZ V⟩
      ·have H:=AJ u H;refine Al ?_;refine an _ ?_;refine nT ?_;refine wSE (sT (sT (sT (wN ?_))));have ae:=Ac.1 H;repeat(first|refine abN ?_|refine asN ?_)
       refine Ap ⟨_,(),ae.symm,?_⟩;try dsimp only
       exact AS
     ·have H:=AJ v H;refine Ay ?_;repeat(first|refine BF ?_|refine exO (by decide) ?_|refine asE ?_)
      refine exN ?_;have ae:=U _ (Ac.1 H).symm;repeat(first|refine abN ?_|refine asN ?_)
      refine Ap ⟨(_,()),ae.symm,?_⟩;try dsimp only
      exact AS
   ·rintro⟨_,_⟩ L;try dsimp only at L
    have H:=ay _ L;try dsimp only
    obtain⟨be,ba,ax,au⟩:=CK H;refine Bi (β:=(Unit)×(Unit)) (λag=>be= .inl ag.1) (λag=>⟨A80 (A40 (A10 (A5 []))),[.dead,.dead]⟩) ?_ ?_
    ·refine wS (sT (wN ?_));refine Ad ?_;refine BB ba (λbh cs=>⟨A2 (.ptr 0 0::.ptr 1 0::.any::.bs tInt d::.bs tInt.slice.slice Y::A2 (.lit (.int .i64 bh)::A80 (A40 (A5 [])))),[.box (Ak f),.box (BE p)]⟩) () (?_) ?_
     ·try dsimp only
      exact AS
     ·rintro F _ ck H T;try dsimp only
      dsimp only[Eq]at H;refine Ab λca am=>?_
      refine wS (sT (sT (sT (sT (wN ?_)))));refine Ah V (λs=>?_) (λs=>?_)
      ·have H:=AI s H;refine Al ?_;refine am _ ?_;refine nT ?_;obtain⟨bc,az,aw,ar⟩:=CK H;refine Bi (β:=(Unit)×(Unit)) (λaf=>bc= .inl af.1) (λaf=>⟨A2 (.ptr 0 0::.ptr 1 0::.any::.bs tInt d::.bs tInt.slice.slice Y::A2 (.lit (.int .i64 F)::A80 (A40 (A5 [])))),[.box (Ak f),.box (BE p)]⟩) ?_ ?_
       ·refine Ad ?_;refine wS (sT (wN ?_));refine Ad ?_;refine BB az (λbg cr=>⟨A2 (.ptr 0 0::.ptr 1 0::.any::.bs tInt d::.bs tInt.slice.slice Y::A2 (.lit (.int .i64 F)::.lit (.int .i64 bg)::A80 (A40 (A4 [])))),[.box (Ak f),.box (BE p)]⟩) () (?_) ?_
        ·try dsimp only
         exact AS
        ·rintro ai _ cj H O;try dsimp only
         dsimp only[Ep]at H;refine Ab λbz al=>?_
         refine wS (sT (sT (sT (wN ?_))));refine Ah V (λq=>?_) (λq=>?_)
         ·have H:=AI q H;refine Al ?_;refine al _ ?_;refine nT ?_;refine Ab λbx ak=>?_
          refine Ad ?_;obtain⟨bv,H⟩:=Aj.1 H;obtain⟨bu,H⟩:=Aj.1 H;obtain⟨bt,H⟩:=Aj.1 H;obtain⟨br,H⟩:=Aj.1 H;obtain⟨bq,H⟩:=Aj.1 H;obtain⟨bo,H⟩:=Aj.1 H;obtain⟨co,bj,H⟩:=An.1 H;refine dS 30 (hq:=?_);refine qT (qT (qT (qT (qX bv (qT (qX bu (qT (qT (qT (qT (qT ?_)))))))))));refine qX bt (qT (qX br (qT (qT (qT ?_)))));refine qG (g:=((ixD p.at_ (ixD d F)) ==(ixD p.at_ (ixD d ai)))) (hg:=MV V) (hq:=λhg=>AR V Fm V V) (ht:=(Ar (Ar (Ar (Aq (Aq (Aq IF))))))) (hk:=?_);refine qGt V ?_;refine qGt V ?_;refine qGt V ?_;refine Ar6 V bq ?_;refine qGt V ?_;refine qGt V ?_;refine qGt V ?_;refine Ar6 V bo ?_;refine qGt V ?_;refine qG (g:=((ixD p.at_ (ixD d F)) ==(ixD p.at_ (ixD d ai)))) (hg:=MV V) (hq:=λhg=>by((try simp only[BD hg]);(try simp only[M3 hg]);exact AE V V (ZO (iL bj hg)) V V)) (ht:=(Ar (Ar (Ar (Ar GK))))) ?_;refine qT (qN (wN ?_));refine Ah V (λn=>?_) (λn=>?_)
          ·have H:=AI n H;refine wS (sT (wN ?_));have H:=Ac.2 (ar _ (O _ (Ac.1 H).symm).symm);have H:=Ac.2 (au _ (T _ (Ac.1 H).symm).symm);obtain rfl:=Ac.1 H;exact Aw ⟨.inr V,gZ V⟩
          ·have H:=AJ n H;refine Al ?_;refine ak _ ?_;refine nT ?_;refine wSE (sT (sT (sT (wN ?_))));have ac:=Ac.1 H;repeat(first|refine abN ?_|refine asN ?_)
           refine Ap ⟨_,(),ac.symm,?_⟩;try dsimp only
           exact AS
         ·have H:=AJ q H;refine Ay ?_;repeat(first|refine BF ?_|refine exO (by decide) ?_|refine asE ?_)
          refine exN ?_;have ac:=O _ (Ac.1 H).symm;repeat(first|refine abN ?_|refine asN ?_)
          refine Ap ⟨(_,()),ac.symm,?_⟩;try dsimp only
          exact AS
       ·rintro⟨_,_⟩ I;try dsimp only at I
        have H:=aw _ I;try dsimp only
        refine wSE (sT (sT (sT (wN ?_))));have ad:=Ac.1 H;repeat(first|refine abN ?_|refine asN ?_)
        refine Ap ⟨_,(),ad.symm,?_⟩;try dsimp only
        exact AS
      ·have H:=AJ s H;refine Ay ?_;repeat(first|refine BF ?_|refine exO (by decide) ?_|refine asE ?_)
       refine exN ?_;have ad:=T _ (Ac.1 H).symm;repeat(first|refine abN ?_|refine asN ?_)
       refine Ap ⟨(_,()),ad.symm,?_⟩;try dsimp only
       exact leC (gW (gW (gX _)))
    ·rintro⟨_,_⟩ J;try dsimp only at J
     have H:=ax _ J;try dsimp only
     refine wS (sT (wN ?_));obtain rfl:=Ac.1 H;exact Aw ⟨.inr V,gZ V⟩
end
noncomputable section
end
end Mu
namespace Mu
open Go Go.RowKit
theorem GS{h:List gO}{x:Ins}(hk:E8 x=aZ):Fit h Em (.agg (BZ x)) x:=Ow (enc:=BZ) λ_ _ _ _ H=>MF (DH.1 hk) H
theorem Ahg{h:List gO}{x:gU}(hk:LQ x=aZ):Fit h Cy (.agg (D6 x)) x:=Ow (enc:=D6) λ_ _ _ _ H=>Ae6 (Jj.1 hk).name H
section
variable{w:cA}{S:Nat->Prop}{h:List gO}{ψ:Nat->bX}{cs:List bX}
end
open Go.Proofs
variable{a:Int}{c:Bool}{ρ:Type}{d:ρ}{k:Nat}{l:List Int}{n:Nat}{p:iT}{q:Ins×List Int}{r:Int}{v:ρ}{z:Int}{α:Type}
noncomputable section
def GE(f:g9)(p:iT):M Bool:=iB (MZ f&&a8 (Dh.bulk f<=2097152)&&WA p&&p.at_.all (wfB .i64)&&a8 (p.at_.length<=2147483648)&&a8 ((regsB f).length<=2147483648)&&(CG f p.leaf (regsB f)).all (λc=>decide (c.length<=2147483648))&&a8 ((CE f).length<=2147483648)&&(!HU f||(CE f).all λx=>decide ((0<=x.a/\x.a < f.regs)/\(0<=x.b/\x.b < f.regs)))) (iK (C8 f p))
theorem Ku{f:g9}{r:Bool}(H:(GE f p).to r):Fn bT 16 [.agg (Ak f),.agg (BE p)] (.lit (.bool r)):=by
 obtain⟨c,H⟩:=Aj.1 H;obtain rfl:=Ac.1 H;simp only[aI,aW,aR,cL,decide_eq_true_eq]at c;obtain⟨⟨⟨⟨⟨⟨⟨⟨h1,h2⟩,I⟩,F⟩,D⟩,B⟩,u⟩,s⟩,h9⟩:=c;exact Aj7 f p (BM.1 h1) h2 (Z0 I) (λx hx=>XI (F x hx)) D B u s λj=>by
  rcases h9 with h9|h9
  ·rw[h9]at j;cases j
  ·exact h9
end
theorem w23(hk:k < n)(j:n<=10000000):bE.wrap ((k:Int)+1)=((k+1:Nat):Int):=by
 rw[bI _ (by omega)];rfl
theorem L7{l:List α}(h:k < l.length):Ci l (k:Int)=aZ:=BJ.2 ⟨by omega,by rw[cF];exact h⟩
theorem Aue{b:Nat}(j:n<=100000000)(s:b<=1000):EZ n b=aZ:=by
 unfold EZ cC;rw[aI,decide_eq_true_eq,decide_eq_true_eq];refine⟨by omega,?_⟩;have:=jA j s;omega
theorem Uo{step:Int->M (Int⊕(Unit⊕ρ))}{p:Nat->Bool}
 (h:∀k,k < n->(step (k:Int)).to (if p k then .inr (.inr v)else .inl ((k+1:Nat):Int)))(D:(step (n:Int)).to (.inr (.inl ()))):(iG step 0).to (if(fY n).any p then .inr v else .inl ()):=by
 have u:∀(d k:Nat),k+d=n->(iG step (k:Int)).to (if(fZ k d).any p then .inr v else .inl ()):=by
  intro d;induction d with
  |zero=>
   intro k hk;have:k=n:=by omega
   subst this;exact iJ D
  |succ d B=>
   intro k hk;have j:=h k (by omega);rw[gB,cM];by_cases s:p k=aZ
   ·rw[s]at j⊢;exact iJ j
   ·have s:p k=aL:=by simpa using s
    rw[s]at j⊢;rw[aO];exact iH j (B (k+1) (by omega))
 have:=u n 0 (by omega);rwa [<-gC]at this
theorem Ayj{x:M (Unit⊕ρ)}(h:x.to (if c then .inr v else .inl ())):(iD x λ_=>iK d).to (if c then v else d):=by
 cases c
 ·exact iE h (Ag _)
 ·exact iF h
theorem Azw(c:Bool):(if c then aZ else aL)=c:=by cases c <;> rfl
theorem Il{l:List α}(h:k < l.length):Ci l (k:Int)=aZ:=BJ.2 ⟨by omega,by rw[cF];exact h⟩
theorem Ayb(hk:k < n)(j:n<=4611686018427387904):bE.wrap ((k:Int)+1)=((k+1:Nat):Int):=by rw[bI _ ⟨by omega,by omega⟩];omega
theorem Uj{f:g9}:q∈stepsL f↔∃b i,b < f.blocks.length/\(Cn f b)[i]? =jL q.1/\q.2=Dj f (BA f) b (i+1):=by
 constructor
 ·intro h;unfold stepsL at h;obtain⟨b,j,hq⟩:=fE.1 h;obtain⟨i,hi⟩:=fF.1 hq;unfold EF at hi;obtain⟨h1,h2⟩:=eG.1 hi;rw[List.getElem?_drop,Nat.add_comm]at h2;unfold Ca at h2;rw[dZ]at h2;obtain⟨k,s,D⟩:=jJ.1 h2;have u:=(dY.1 s).1;rw[eN]at u;rw[eB u]at s;cases s;exact⟨b,i,fK.1 j,h1,D.symm⟩
 ·rintro⟨b,i,j,hx,B⟩;have hi:=(dY.1 hx).1;refine fH (Tl j hx (l:=q.2) ?_);unfold Ca;rw[dZ,eB (by omega),B];rfl
theorem Pp{x:iS}:x∈WW q↔∃r∈q.2,M0 q r=aZ/\x∈Dk q.1.d r:=by
 unfold WW;simp only[fE,fD,and_assoc]
theorem Wu(a:Int):Dk a a= []:=if_pos V
theorem Wv(a b:Int):Dk a b=Dk b a:=by
 unfold Dk;rw[Int.min_comm,Int.max_comm];by_cases h:a=b
 ·rw[if_pos h,if_pos h.symm]
 ·rw[if_neg h,if_neg (Ne.symm h)]
theorem Uk{x:iS}:x∈edgeF l↔∃a∈l,∃b∈l,x∈Dk a b:=by
 have s:∀(i j:Nat) (a b:Int),j < i->l[i]? =jL a->l[j]? =jL b->x∈Dk a b->x∈edgeF l:=λi j a b F D u hx=>by
  unfold edgeF;refine fE.2 ⟨i,fK.2 (dY.1 D).1,fE.2 ⟨b,?_,by rw[D];exact hx⟩⟩;exact fH (i:=j) (by rw[List.getElem?_take,if_pos F];exact u)
 constructor
 ·intro h;unfold edgeF at h;obtain⟨i,hi,h⟩:=fE.1 h;obtain⟨b,u,h⟩:=fE.1 h;have hi:=fK.1 hi;rw[dW hi]at h;exact⟨_,eH hi,b,fI u,h⟩
 ·rintro⟨a,D,b,u,hx⟩;obtain⟨i,hi⟩:=fF.1 D;obtain⟨j,B⟩:=fF.1 u;rcases i8 i j with h|h|h
  ·exact s j i b a h B hi (by rw[Wv];exact hx)
  ·subst h;rw[hi]at B;cases B;rw[Wu]at hx;cases hx
  ·exact s i j a b h hi B hx
theorem Aa1{f:g9}{x:iS}:Hq f x=aZ↔(∃q∈stepsL f,x∈WW q)\/x∈edgeF (CZ f):=by
 unfold Hq Hs;rw[PZ,PZ,gJ,fE];simp
theorem Aa2(f:g9):Aoz (CE f):=PW (CO f).1
section
variable{f:g9}{b:Nat}{bl:gU}{x:Ins}(hb:f.blocks[b]? =jL bl)(hne:bl.ins≠[])(hw:Bd x=aL)
include hb hne hw
end
section
variable{P:bP}{C:Ctx}{t:List AV}{h:List gO}{o:bN}
end
theorem Aka(l:List Ins):(l.flatMap Bz).length<=D1 Em.bulk l:=by
 induction l with
 |nil=>simp[D1]
 |cons x l j=>
  have h1:=KN x;have h2:=SB x;have u:=Ej Wy x.args;have s:(Bz x).length<=(readsC x).length+1:=by
   unfold Bz;rw[eJ];split <;> simp
  simp only[dO,eJ,D1];omega
theorem Wg(l:List gU):(l.flatMap λb=>b.ins.flatMap Bz).length<=D1 Cy.bulk l:=by
 induction l with
 |nil=>simp[D1]
 |cons b l j=>
  have h1:=Aka b.ins;have h2:=Hx b;simp only[dO,eJ,D1];omega
theorem Ail{f:g9}(h:Dh.bulk f<=2097152):(NE f).length<=2097152:=by
 have h1:=Wg f.blocks;have h2:=Mh f;have e:(NE f).length=(f.blocks.flatMap λb=>b.ins.flatMap Bz).length:=rfl;omega
theorem Ahh{f:g9}(j:okFunc f)(h:Dh.bulk f<=2097152):g8 f:=⟨j,Zz h,ZL h,Ail h,Ags h⟩
theorem Aim{f:g9}{b:Nat}(hb:b < f.blocks.length):ixD (PY f) (b:Int)=Ca f b:=B8 (by unfold PY;rw[dZ,eB hb];rfl)
theorem Ah9{f:g9}{b i:Nat}(hi:i < (Cn f b).length):(Ca f b)[i+1]? =jL (Dj f (BA f) b (i+1)):=by
 unfold Ca;rw[dZ,eB (by omega)];rfl
theorem Sl{step:Int->M (Int⊕(Unit⊕ρ))}{p:Nat->Bool}
 (h:∀k,k < n->(step (k:Int)).to (if p k then .inr (.inr v)else .inl ((k+1:Nat):Int)))(D:(step (n:Int)).to (.inr (.inl ()))):(iG step 0).to (if(fY n).any p then .inr v else .inl ()):=by
 have u:∀(d k:Nat),k+d=n->(iG step (k:Int)).to (if(fZ k d).any p then .inr v else .inl ()):=by
  intro d;induction d with
  |zero=>
   intro k hk;have:k=n:=by omega
   subst this;exact iJ D
  |succ d B=>
   intro k hk;have j:=h k (by omega);rw[gB,cM];by_cases s:p k=aZ
   ·rw[s]at j⊢;exact iJ j
   ·have s:p k=aL:=by simpa using s
    rw[s]at j⊢;rw[aO];exact iH j (B (k+1) (by omega))
 have:=u n 0 (by omega);rwa [<-gC]at this
theorem WV{x:M (Unit⊕ρ)}(h:x.to (if c then .inr v else .inl ())):(iD x λ_=>iK d).to (if c then v else d):=by
 cases c
 ·exact iE h (Ag _)
 ·exact iF h
theorem Art{l:List α}{p:Nat->Bool}{q:α->Bool}(h:∀k x,l[k]? =jL x->p k=q x):(fY l.length).any p=l.any q:=by
 rw[aK,cO,cO];constructor
 ·rintro⟨k,hk,j⟩;have hk:=fK.1 hk;exact⟨l[k],eH hk,by rw[<-h k _ (dW hk)];exact j⟩
 ·rintro⟨x,hx,hq⟩;obtain⟨k,hk⟩:=fF.1 hx;exact⟨k,fK.2 (dY.1 hk).1,by rw[h k x hk];exact hq⟩
theorem Aeq{n:Int}(j:l.length<=4611686018427387904):(O3 l n).to (l.contains n):=by
 have h:=Sl (step:=Jg l n) (p:=λk=>l.getD k 0 ==n) (v:=aZ) (n:=l.length) (λk hk=>?_) ?_
 ·unfold O3;have h2:=WV (d:=aL) h;rw[Art (q:=λx=>x ==n) λk x hx=>by rw[dR,hx];rfl]at h2;have e:(if(l.any λx=>x ==n)=aZ then aZ else aL)=l.contains n:=by
   rw[show l.contains n=l.any λx=>x ==n by rw[List.contains_eq_any_beq];congr 1;funext x;exact aJ ..];cases l.any λx=>x ==n <;> rfl
  rwa [e]at h2
 ·obtain⟨x,hx⟩:∃x,l[k]? =jL x:=⟨_,dW hk⟩
  have s:l.getD k 0=x:=by rw[dR,hx];rfl
  unfold Jg;rw[B8 hx,s,Ayb hk j];refine Az (decide_eq_true (by omega)) (Ae (Il hk) ?_);by_cases h:(x ==n)=aZ
  ·rw[h];exact Az V (Ag _)
  ·have h:(x ==n)=aL:=by simpa using h
   rw[h];exact AB V (Ag _)
 ·unfold Jg;exact AB (decide_eq_false (by omega)) (Ag _)
def Anq(a b:Int)(q:Ins×List Int):Bool:=Bd q.1&&(q.1.d ==a)&&q.2.contains b&&!((q.1.op ==2)&&(q.1.a ==b))
def Pf(f:g9)(a b:Int):Bool:=(stepsL f).any (Anq a b)
theorem Apt{f:g9}{b:Int}:((fY f.blocks.length).any λk=>(fY (Cn f k).length).any λi=>Anq a b ((Cn f k).getD i default,Dj f (BA f) k (i+1)))=Pf f a b:=by
 unfold Pf;rw[aK,cO,cO];constructor
 ·rintro⟨k,hk,h⟩;obtain⟨i,hi,h⟩:=cO.1 h;have hi:=fK.1 hi;refine⟨_,Uj.2 ⟨k,i,fK.1 hk,?_,rfl⟩,h⟩;try dsimp only
  rw[dR,dW hi];rfl
 ·rintro⟨q,hq,h⟩;obtain⟨k,i,hk,hx,j⟩:=Uj.1 hq;refine⟨k,fK.2 hk,cO.2 ⟨i,fK.2 (dY.1 hx).1,?_⟩⟩;rw[dR,hx,<-j];exact h
theorem Wq{f:g9}(c:g8 f)(b i:Nat):(Dj f (BA f) b i).length<=2097152:=iZ (eL _ _) (iZ (Dr _) c.reads)
theorem Acy{x:Ins}(j:okIns x):(ME x).to (if Bd x then x.d else 0,Bd x):=Ae (DH.2 j) (Ag _)
theorem Yj{f:g9}(c:g8 f)(a b:Int):(MD f (PY f) a b).to (Pf f a b):=by
 have N:=c.small.blocks;have h:=Sl (step:=He f (PY f) a b) (p:=λk=>(fY (Cn f k).length).any λi=>Anq a b ((Cn f k).getD i default,Dj f (BA f) k (i+1))) (v:=aZ) (n:=f.blocks.length) (λk hk=>?_) ?_
 ·unfold MD;have h2:=WV (d:=aL) h;rw[Apt]at h2;have e:(if Pf f a b=aZ then aZ else aL)=Pf f a b:=by cases Pf f a b <;> rfl
  rwa [e]at h2
 ·obtain⟨bl,hb⟩:∃bl,f.blocks[k]? =jL bl:=⟨_,dW hk⟩
  have s:Cn f k=bl.ins:=by unfold Cn;rw[hb]
  have J:=c.ins bl (fH hb);have F:ixD f.blocks (k:Int)=bl:=B8 hb;have D:Ci f.blocks (k:Int)=aZ:=Il hk;have hi:=Sl (step:=FY f (PY f) a b (k:Int)) (p:=λi=>Anq a b ((Cn f k).getD i default,Dj f (BA f) k (i+1))) (v:=(Sum.inr (Sum.inr aZ):Int⊕(Unit⊕Bool))) (n:=bl.ins.length) (λi hi=>?_) ?_
  ·unfold He;rw[Ayb hk (by omega)];refine Az (decide_eq_true (by omega)) ?_;rw[s];rw[s]at hi;have O:=WV (d:=(Sum.inl ((k+1:Nat):Int):Int⊕(Unit⊕Bool))) hi;exact O
  ·obtain⟨x,hx⟩:∃x,bl.ins[i]? =jL x:=⟨_,dW hi⟩
   have L:(Cn f k).getD i default=x:=by rw[s,dR,hx];rfl
   have T:ixD bl.ins (i:Int)=x:=B8 hx;have U:Ci bl.ins (i:Int)=aZ:=Il hi;have u:=(c.ok.blocks bl (fH hb)).ins x (fH hx);have h1:=Aim hk;have j:=Ah9 (f:=f) (b:=k) (i:=i) (by rw[s];exact hi);have h2:ixD (Ca f k) ((i+1:Nat):Int)=Dj f (BA f) k (i+1):=B8 j;have Y:Ci (PY f) (k:Int)=aZ:=Il (by unfold PY;simpa using hk);have W:Ci (Ca f k) ((i+1:Nat):Int)=aZ:=Il (dY.1 j).1;have I:=Aeq (l:=Dj f (BA f) k (i+1)) (n:=b) (by have:=Wq c k (i+1);omega);rw[L];unfold FY;rw[F,T,Ayb hi (by omega),h1,h2];refine Ae D (Az (decide_eq_true (by omega)) (Ae D (Ae U (Am (Acy u) ?_))));try dsimp only
   generalize hg:(Bd x&&((if Bd x=aZ then x.d else 0) ==a))=g;have B:(Bd x&&(x.d ==a))=g:=by
    rw[<-hg];cases Bd x <;> rfl
   refine Ae (by rw[Y,aY]) (Ae (by rw[W,aY]) (Am (a:=g&&(Dj f (BA f) k (i+1)).contains b) ?_ ?_))
   ·cases g
    ·exact iM V
    ·exact BC V I
   ·have e:Anq a b (x,Dj f (BA f) k (i+1))=((g&&(g&&(Dj f (BA f) k (i+1)).contains b))&&(!((x.op ==2)&&(x.a ==b)))):=by
     unfold Anq;try dsimp only
     rw[B];cases g <;> simp
    rw[e];generalize ((g&&(g&&(Dj f (BA f) k (i+1)).contains b))&&(!((x.op ==2)&&(x.a ==b))))=z;cases z
    ·exact AB V (Ag _)
    ·exact Az V (Ag _)
  ·unfold FY;rw[F];exact Ae D (AB (decide_eq_false (by omega)) (Ag _))
 ·unfold He;exact AB (decide_eq_false (by omega)) (Ag _)
def F1(f:g9)(a b:Int):Bool:=!(a ==b)&&(Pf f a b||Pf f b a||(a8 (0 < f.blocks.length)&&(CZ f).contains a&&(CZ f).contains b))
theorem UP{f:g9}(h:0 < f.blocks.length):(Ca f 0)[0]? =jL (CZ f):=by
 unfold CZ;rw[if_neg (by omega),GF];rfl
theorem Aax{f:g9}(c:g8 f):(CZ f).length<=2097152:=by
 unfold CZ;split
 ·simp
 ·rw[GF];exact iZ (eL _ _) (iZ (Dr _) c.reads)
theorem Afh{f:g9}(c:g8 f)(a b:Int):(LE f (PY f) a b).to (F1 f a b):=by
 unfold LE F1;by_cases j:(a ==b)=aZ
 ·rw[j];exact Az V (Ag _)
 ·have j:(a ==b)=aL:=by simpa using j
  rw[j];refine AB V (Am (Yj c a b) (Am (a:=!Pf f a b&&Pf f b a) ?_ ?_))
  ·cases Pf f a b
   ·exact BC V (Yj c b a)
   ·exact iM V
  ·by_cases h1:(Pf f a b||Pf f b a)=aZ
   ·rw[h1];refine Az ?_ (Ag _);revert h1;cases Pf f a b <;> cases Pf f b a <;> simp
   ·have h1:(Pf f a b||Pf f b a)=aL:=by simpa using h1
    rw[h1];refine AB ?_ ?_
    ·revert h1;cases Pf f a b <;> cases Pf f b a <;> simp
    have D:(PY f).length=f.blocks.length:=by simp[PY]
    by_cases h0:0 < f.blocks.length
    ·have e:a8 (((PY f).length:Int) > 0)=aZ:=decide_eq_true (by omega);have s:a8 (0 < f.blocks.length)=aZ:=decide_eq_true h0;have B:ixD (PY f) 0=Ca f 0:=Aim h0;have u:ixD (Ca f 0) 0=CZ f:=B8 (k:=0) (UP h0);have I:Ci (PY f) 0=aZ:=Il (k:=0) (by omega);have F:Ci (Ca f 0) 0=aZ:=Il (k:=0) (dY.1 (UP h0)).1;have J:=Aax c;rw[e,s,B,u,I,F];refine Ae V (Ae V (Am (BC V (Aeq (by omega))) (Ae (aY _) (Ae (aY _) (Am (a:=(CZ f).contains a&&(CZ f).contains b) ?_ ?_)))))
     ·cases(CZ f).contains a
      ·exact iM V
      ·exact BC V (Aeq (by omega))
     ·refine Ac.2 ?_;cases(CZ f).contains a <;> rfl
    ·have e:a8 (((PY f).length:Int) > 0)=aL:=decide_eq_false (by omega);have s:a8 (0 < f.blocks.length)=aL:=decide_eq_false h0;rw[e,s];exact Ae V (Ae V (Am (iM V) (Ae V (Ae V (Am (iM V) (Ag _))))))
theorem Akt{f:g9}{b:Int}:Pf f a b=aZ↔∃q∈stepsL f,Bd q.1=aZ/\q.1.d=a/\b∈q.2/\M0 q b=aZ:=by
 unfold Pf;rw[cO];constructor
 ·rintro⟨q,hq,h⟩;unfold Anq at h;simp only[aI,beq_iff_eq,cV,aR,aH,beq_eq_false_iff_ne]at h;obtain⟨⟨⟨h1,h2⟩,j⟩,h4⟩:=h;refine⟨q,hq,h1,h2,j,?_⟩;unfold M0;simp only[h1,a6,aW,bne_iff_ne,ne_eq];rcases h4 with h4|h4
  ·exact .inl h4
  ·exact .inr λe=>h4 e.symm
 ·rintro⟨q,hq,h1,h2,j,h4⟩;refine⟨q,hq,?_⟩;unfold Anq;simp only[aI,beq_iff_eq,cV,aR,aH,beq_eq_false_iff_ne];refine⟨⟨⟨h1,h2⟩,j⟩,?_⟩;unfold M0 at h4;simp only[h1,a6,aW,bne_iff_ne,ne_eq]at h4;rcases h4 with h4|h4
  ·exact .inl h4
  ·exact .inr λe=>h4 e.symm
theorem Hh{b:Int}{x:iS}(hx:x.a < x.b):x∈Dk a b↔(x.a=a/\x.b=b)\/(x.a=b/\x.b=a):=by
 unfold Dk;obtain⟨u,v⟩:=x
 (try dsimp only at hx);(try dsimp only)
 by_cases h:a=b
 ·rw[if_pos h];simp only[fT,false_iff];omega
 ·rw[if_neg h];simp only[or_false,Pair.mk.injEq,zak];rw[Int.min_def,Int.max_def];split <;> omega
theorem T1{f:g9}{x:iS}(hx:x.a < x.b):F1 f x.a x.b=Hq f x:=by
 have hne:x.a≠x.b:=by omega
 rw[aK,Aa1];unfold F1;have e:(x.a ==x.b)=aL:=by simpa using hne
 rw[e];simp only[aS,a6,aW,aI,decide_eq_true_eq,cV,Akt];constructor
 ·rintro((⟨q,hq,h1,h2,I,F⟩|⟨q,hq,h1,h2,I,F⟩)|⟨⟨_,h1⟩,h2⟩)
  ·exact .inl ⟨q,hq,Pp.2 ⟨x.b,I,F,(Hh hx).2 (.inl ⟨h2.symm,rfl⟩)⟩⟩
  ·exact .inl ⟨q,hq,Pp.2 ⟨x.a,I,F,(Hh hx).2 (.inr ⟨rfl,h2.symm⟩)⟩⟩
  ·exact .inr (Uk.2 ⟨x.a,h1,x.b,h2,(Hh hx).2 (.inl ⟨rfl,rfl⟩)⟩)
 ·rintro(⟨q,hq,h⟩|h)
  ·obtain⟨r,J,u,D⟩:=Pp.1 h;have hw:Bd q.1=aZ:=by unfold M0 at u;rw[aI]at u;exact u.1
   rcases(Hh hx).1 D with⟨s,j⟩|⟨s,j⟩
   ·exact .inl (.inl ⟨q,hq,hw,s.symm,by rw[j];exact J,by rw[j];exact u⟩)
   ·exact .inl (.inr ⟨q,hq,hw,j.symm,by rw[s];exact J,by rw[s];exact u⟩)
  ·obtain⟨a,B,b,hb,D⟩:=Uk.1 h;have h0:0 < f.blocks.length:=by
    rcases Nat.eq_zero_or_pos f.blocks.length with h0|h0
    ·unfold CZ at B;rw[if_pos h0]at B;cases B
    ·exact h0
   rcases(Hh hx).1 D with⟨s,j⟩|⟨s,j⟩
   ·exact .inr ⟨⟨h0,by rw[s];exact B⟩,by rw[j];exact hb⟩
   ·exact .inr ⟨⟨h0,by rw[s];exact hb⟩,by rw[j];exact B⟩
theorem Aa3(f:g9):((Fq (AL f)).filter λx=>F1 f x.a x.b)=CE f:=by
 unfold CE Ec;refine dG λx hx=>?_
 exact T1 ((D9 (CO f).1).1 hx).2.2
theorem KQ{f:g9}{b:Int}:F1 f a b=F1 f b a:=by
 unfold F1;rw[show(a ==b)=(b ==a)from aJ ..];cases(b ==a) <;> cases Pf f a b <;> cases Pf f b a <;> cases a8 (0 < f.blocks.length) <;> cases(CZ f).contains a <;> cases(CZ f).contains b <;> rfl
theorem Vq{q:Int->Bool}:((fY l.length).any λi=>q (l.getD i default))=l.any q:=by
 rw[aK,cO,cO];constructor
 ·rintro⟨k,hk,j⟩;have hk:=fK.1 hk;refine⟨l[k],eH hk,?_⟩;rw[dR,dW hk]at j;exact j
 ·rintro⟨x,hx,hq⟩;obtain⟨k,hk⟩:=fF.1 hx;refine⟨k,fK.2 (dY.1 hk).1,?_⟩;rw[dR,hk];exact hq
theorem WK(j:l.length<=10000000){n:Int}:(O0 l n).to (l.contains n):=by
 have h:=Uo (step:=Jf l n) (p:=λi=>(l.getD i default) ==n) (v:=aZ) (n:=l.length) (λi hi=>?_) ?_
 ·have h2:=Ayj (d:=aL) h;rw[Azw,Vq (q:=λy=>y ==n)]at h2;have e:(l.any λy=>y ==n)=l.contains n:=by
   rw[aK,cO,cV];constructor
   ·rintro⟨x,hx,hq⟩;rw[<-eq_of_beq hq];exact hx
   ·intro hx;exact⟨n,hx,beq_self_eq_true n⟩
  rw[e]at h2;exact h2
 ·obtain⟨x,hx⟩:∃x,l[i]? =jL x:=⟨_,dW hi⟩
  have s:l.getD i default=x:=by rw[dR,hx];rfl
  unfold Jf;rw[B8 hx,w23 hi j];simp only[s];refine Az (decide_eq_true (by omega)) (Ae (L7 hi) ?_);cases hc:(x ==n)with
  |true=>exact Az V (Ag _)
  |false=>exact AB V (Ag _)
 ·unfold Jf;exact AB (decide_eq_false (by omega)) (Ag _)
def Z3(f:g9)(r:Int):Bool:=a8 (r < 0)||decide (r≥f.regs)
theorem Ak6{f:g9}(c:g8 f)(s:(regsB f).length<=10000000):(O2 f).to (HU f):=by
 have B:(Oc f).to (regsB f):=Ae (BM.2 c) (Ag _);have j:(((((a8 (f.regs < 0))||(a8 (f.regs > 4096)))||(a8 (f.args < 0)))||(a8 (f.args > 6)))||(a8 (f.args > f.regs)))=Akx f:=by
  unfold Akx;rw[Bool.or_assoc _ (a8 (f.args > 6))];congr 1;rw[aK];simp only[zau];split <;> omega
 unfold O2 HU;rw[j];cases h:Akx f with
 |true=>exact Az V (Ag _)
 |false=>
  refine AB V (Am B ?_);have h:=Uo (step:=FX f (regsB f)) (p:=λi=>Z3 f ((regsB f).getD i default)) (v:=aL) (n:=(regsB f).length) (λi hi=>?_) ?_
  ·have h2:=Ayj (d:=aZ) h;rw[Vq (q:=Z3 f)]at h2;have e:(!false&&!((regsB f).any λr=>decide (r < 0)||decide (r≥f.regs)))=if(regsB f).any (Z3 f)then aL else aZ:=by
    show(aZ&&!((regsB f).any (Z3 f)))=_;cases(regsB f).any (Z3 f) <;> rfl
   rw[e];exact h2
  ·obtain⟨x,hx⟩:∃x,(regsB f)[i]? =jL x:=⟨_,dW hi⟩
   have u:(regsB f).getD i default=x:=by rw[dR,hx];rfl
   unfold FX;rw[B8 hx,w23 hi s];simp only[u];refine Az (decide_eq_true (by omega)) (Ae (L7 hi) (Ae (by rw[L7 hi,aY]) ?_));unfold Z3;cases hc:(a8 (x < 0)||decide (x≥f.regs))with
   |true=>exact Az V (Ag _)
   |false=>exact AB V (Ag _)
  ·unfold FX;exact AB (decide_eq_false (by omega)) (Ag _)
theorem KP(j:List Int)(r:Int)(leaf:Bool):(Br j r leaf).length<=100:=by
 rw[C4];split
 ·decide
 split
 ·decide
 ·decide
theorem ZQ{j:List Int}{leaf:Bool}(h:z∈Br j r leaf):z < 32/\z≠-1:=by
 have s:∀y∈WT++Ik,y < 32/\y≠-1:=by decide
 rw[C4]at h;refine s z ?_;split at h
 ·exact eX _ h
 split at h
 ·exact eY _ h
 ·exact h
def O6(f:g9)(p:iT)(r:Int):Bool:=if a8 (ixD p.at_ r≥32)then(!p.leaf)&&(a8 ((bE.wrap ((ixD p.at_ r) - 32)) < p.slots))else(Br (B9 f) r p.leaf).contains (ixD p.at_ r)
theorem ZS{f:g9}(c:g8 f)(j:Ci p.at_ r=aZ):(Je f p r).to (O6 f p r):=by
 unfold Je O6;refine Ae j ?_;cases h:a8 (ixD p.at_ r≥32)with
 |true=>
  rw[if_pos V];exact Az V (Ag _)
 |false=>
  rw[if_neg (by simp)];exact AB V (Am (Ae (BM.2 c) (Ag _)) (Am (WK (by have:=KP (B9 f) r p.leaf;omega)) (Ag _)))
def Aid(f:g9)(p:iT)(k:Nat):Bool:=(!(regsB f).contains (k:Int)&&(ixD p.at_ (k:Int) != -1))||((regsB f).contains (k:Int)&&!O6 f p (k:Int))
theorem Aes{f:g9}(c:g8 f)(u:(regsB f).length<=10000000)(B:(p.at_.length:Int)=f.regs)(s:p.at_.length<=10000000):(iG (Es f p (regsB f)) 0).to (if(fY p.at_.length).any (Aid f p)then .inr aL else .inl ()):=by
 refine Uo (λk hk=>?_) ?_
 ·have j:=L7 (l:=p.at_) hk;have hc:=WK u (n:=(k:Int));unfold Es;rw[w23 hk s];refine Az (decide_eq_true (by omega)) (Am hc (Ae (by rw[j,aY]) ?_));unfold Aid;cases h1:(regsB f).contains (k:Int)with
  |true=>
   rw[h1]at hc;refine Am (BC V hc) (Am (BC V (ZS c j)) ?_);cases h2:O6 f p (k:Int)with
   |true=>exact AB V (Ag _)
   |false=>exact Az V (Ag _)
  |false=>
   rw[h1]at hc;cases D:(ixD p.at_ (k:Int) != -1)with
   |true=>exact Am (iM V) (Am (iM V) (Az V (Ag _)))
   |false=>exact Am (BC V hc) (Am (iM V) (AB V (Ag _)))
 ·unfold Es;exact AB (decide_eq_false (by omega)) (Ag _)
theorem ZD(j:p.at_.length<=10000000)(h0:0<=p.slots)(u:p.slots<=10000000):(iG (Er p) 0).to (if(fY p.slots.toNat).any (λs=>!p.at_.contains (32+(s:Int)))then .inr aL else .inl ()):=by
 refine Uo (λk hk=>?_) ?_
 ·have hc:=WK j (n:=32+(k:Int));have hw:bE.wrap (32+(k:Int))=32+(k:Int):=bI _ (by omega);unfold Er;rw[w23 hk (by omega),hw];refine Az (decide_eq_true (by omega)) (Am hc ?_);cases p.at_.contains (32+(k:Int))with
  |true=>exact AB V (Ag _)
  |false=>exact Az V (Ag _)
 ·unfold Er;exact AB (decide_eq_false (by omega)) (Ag _)
def Mg(f:g9)(p:iT)(i k:Nat):Bool:=(ixD p.at_ ((regsB f).getD i 0) ==ixD p.at_ ((regsB f).getD k 0))&&F1 f ((regsB f).getD i 0) ((regsB f).getD k 0)
theorem Ap1{B:Type}{step:Int->M (Int⊕(Unit⊕(B⊕(Unit⊕ρ))))}{p:Nat->Bool}{v:Unit⊕(B⊕(Unit⊕ρ))}
 (h:∀k,k < n->(step (k:Int)).to (if p k then .inr v else .inl ((k+1:Nat):Int)))(F:(step (n:Int)).to (.inr (.inl ()))):(iG step 0).to (if(fY n).any p then v else .inl ()):=by
 have u:∀(d k:Nat),k+d=n->(iG step (k:Int)).to (if(fZ k d).any p then v else .inl ()):=by
  intro d;induction d with
  |zero=>
   intro k hk;have:k=n:=by omega
   subst this;exact iJ F
  |succ d D=>
   intro k hk;have j:=h k (by omega);rw[gB,cM];by_cases s:p k=aZ
   ·rw[s]at j⊢;exact iJ j
   ·have s:p k=aL:=by simpa using s
    rw[s]at j⊢;rw[aO];exact iH j (D (k+1) (by omega))
 have:=u n 0 (by omega);rwa [<-gC]at this
theorem Abk{f:g9}(c:g8 f)(J:(regsB f).length<=10000000)(s:∀r∈regsB f,Ci p.at_ r=aZ):(iG (Eq f p (regsB f) (PY f)) 0).to (if(fY (regsB f).length).any (λi=>(fY i).any (Mg f p i))then .inr aL else .inl ()):=by
 refine Uo (λi hi=>?_) ?_
 ·obtain⟨x,hx⟩:∃x,(regsB f)[i]? =jL x:=⟨_,dW hi⟩
  have I:(regsB f).getD i 0=x:=by rw[dT,hx];rfl
  have D:=s x (fH hx);have j:(iG (Ep f p (regsB f) (PY f) (i:Int)) 0).to (if(fY i).any (Mg f p i)then .inr (.inr (.inr aL))else .inl ()):=by
   refine Ap1 (λk hk=>?_) ?_
   ·obtain⟨y,u⟩:∃y,(regsB f)[k]? =jL y:=⟨_,dW (by omega)⟩
    have F:(regsB f).getD k 0=y:=by rw[dT,u];rfl
    have B:=s y (fH u);unfold Ep Mg;rw[B8 hx,B8 u,w23 hk (by omega),I,F];refine Az (decide_eq_true (by omega)) (Ae (L7 hi) (Ae D (Ae (L7 (by omega)) (Ae B (Ae (by rw[L7 hi,aY]) (Ae (by rw[L7 (l:=regsB f) (k:=k) (by omega),aY]) ?_))))));cases h1:(ixD p.at_ x ==ixD p.at_ y)with
    |true=>
     refine Am (BC V (Afh c x y)) ?_;cases F1 f x y with
     |true=>exact Az V (Ag _)
     |false=>exact AB V (Ag _)
    |false=>exact Am (iM V) (AB V (Ag _))
   ·unfold Ep;exact AB (decide_eq_false (by omega)) (Ag _)
  unfold Eq;rw[w23 hi J];refine Az (decide_eq_true (by omega)) ?_;cases h:(fY i).any (Mg f p i)with
  |true=>
   rw[h]at j;exact iF j
  |false=>
   rw[h]at j;exact iE j (Ag _)
 ·unfold Eq;exact AB (decide_eq_false (by omega)) (Ag _)
def Uc(f:g9)(p:iT):Bool:=((((!HU f)||((p.at_.length:Int) !=f.regs))||decide (p.slots < 0))||decide (p.slots > f.regs))
theorem Ac8:GI p p.at_.length z=aZ↔z∈p.at_/\I1 p z=aZ:=by
 unfold GI;rw[gJ,cV,fD]
theorem I0(j:Cm z):I1 p z=aZ↔32<=z/\z < 32+p.slots:=by
 have hw:wfI .i64 z:=j;simp[wfI,Lit.wf,bG,bF,bH,bD]at hw;unfold I1;simp only[zag];constructor
 ·rintro⟨h1,h2⟩;rw[bI _ (by omega)]at h2;omega
 ·rintro⟨h1,h2⟩;refine⟨h1,?_⟩;rw[bI _ (by omega)];omega
def NR(p:iT):List Int:=(fY p.slots.toNat).map λ(s:Nat)=>32+(s:Int)
theorem Lu(h0:0<=p.slots):z∈NR p↔32<=z/\z < 32+p.slots:=by
 unfold NR;rw[fG];constructor
 ·rintro⟨s,j,rfl⟩;have:=fK.1 j;omega
 ·rintro⟨h1,h2⟩;exact⟨(z - 32).toNat,fK.2 (by omega),by omega⟩
theorem V8(p:iT):(NR p).Nodup:=by
 unfold NR;exact fW.2 (cI (λh e=>h (by omega)) List.nodup_range)
theorem OC(hw:∀x∈p.at_,Cm x):z∈(CB p.at_).filter (GI p p.at_.length)↔z∈p.at_/\32<=z/\z < 32+p.slots:=by
 rw[fD,Ac8,(EH _).2 z];constructor
 ·rintro⟨h1,_,j⟩;exact⟨h1,(I0 (hw z h1)).1 j⟩
 ·rintro⟨h1,h2⟩;exact⟨h1,h1,(I0 (hw z h1)).2 h2⟩
theorem OB(p:iT):((CB p.at_).filter (GI p p.at_.length)).Nodup:=(cI (λh=>by omega) (EH p.at_).1:(CB p.at_).Nodup).filter _
theorem AAf:∀(A B:List Int),A.Nodup->(∀a∈A,a∈B)->B.length<=A.length->∀b∈B,b∈A
 | [],B,_,_,F,b,hb=>by
  have:B= []:=dB (by simpa using F);subst this;cases hb
 |a::A,B,u,I,F,b,hb=>by
  rw[fR]at u;have s:=I a (by simp);have D:=List.length_erase_of_mem s;have J:0 < B.length:=List.length_pos_of_mem s;by_cases j:b=a
  ·simp[j]
  ·have:=AAf A (B.erase a) u.2 (λx hx=>(fC (λe=>u.1 (by rw[<-e];exact hx))).2 (I x (by simp[hx]))) (by rw[D];simp only[eK]at F;omega) b ((fC j).2 hb);simp[this]
theorem SA(hw:∀x∈p.at_,Cm x)(h0:0<=p.slots):((cardC p:Int) ==p.slots)= !((fY p.slots.toNat).any λs=>!p.at_.contains (32+(s:Int))):=by
 have D:(NR p).length=p.slots.toNat:=by simp[NR]
 have j:∀z∈(CB p.at_).filter (GI p p.at_.length),z∈NR p:=λz u=>(Lu h0).2 ((OC hw).1 u).2
 rw[aK];simp only[beq_iff_eq,aR,cN,fK,Bool.not_eq_true,aP,cV];constructor
 ·intro h s B;have hc:(NR p).length<=((CB p.at_).filter (GI p p.at_.length)).length:=by
   show _<=cardC p;omega
  have:=AAf _ _ (OB p) j hc (32+(s:Int)) ((Lu h0).2 (by omega));simpa using((OC hw).1 this).1
 ·intro h;have h1:=Dl (OB p) j;have h2:=Dl (V8 p) (m:=(CB p.at_).filter (GI p p.at_.length)) λz u=>by
   have u:=(Lu h0).1 u;refine(OC hw).2 ⟨?_,u⟩;have:=h (z - 32).toNat (by omega);have e:32+(((z - 32).toNat:Nat):Int)=z:=by omega
   rw[e]at this;simpa using this
  have:cardC p=(NR p).length:=iV h1 h2;omega
theorem Y3{f:g9}(hw:∀x∈p.at_,Cm x)(s:p.leaf=aZ->p.slots=0)(hk:k < p.at_.length):atC f p k (p.at_.getD k 0)= !Aid f p k:=by
 obtain⟨x,hx⟩:∃x,p.at_[k]? =jL x:=⟨_,dW hk⟩
 have L:p.at_.getD k 0=x:=by rw[dT,hx];rfl
 have D:=hw x (fH hx);unfold atC Aid;rw[L,B8 hx];cases hc:(regsB f).contains (k:Int)with
 |false=>
  rw[if_neg (by simp)];cases hb:(x == -1) <;> simp[bne,hb]
 |true=>
  rw[if_pos V];have u:=cV.1 hc;have B:=Vm (Jd f) u;have I:(CG f p.leaf (regsB f)).getD ((regsB f).countP (· < (k:Int))) []=Br (B9 f) k p.leaf:=by
   rw[dT];unfold CG;rw[dZ,B];rfl
  rw[I];unfold O6;rw[B8 hx];by_cases j:x≥32
  ·rw[if_pos (decide_eq_true j)];have J:(Br (B9 f) k p.leaf).contains x=aL:=by
    cases h:(Br (B9 f) k p.leaf).contains x with
    |false=>rfl
    |true=>have:=(ZQ (cV.1 h)).1;omega
   rw[J];unfold I1;rw[decide_eq_true j];cases F:p.leaf with
   |false=>simp
   |true=>
    have N:=s F;have:I1 p x=aL:=by
     cases h:I1 p x with
     |false=>rfl
     |true=>have:=(I0 D).1 h;omega
    unfold I1 at this;rw[decide_eq_true j]at this;simpa using this
  ·rw[if_neg (by rw[decide_eq_false j];simp)];unfold I1;rw[decide_eq_false j];simp
theorem BY{f:g9}(h:r∈AL f):r∈regsB f:=Jc.2 (eY _ (((CO f).2 r).1 h))
theorem Hp{f:g9}{x:iS}:x∈CE f↔x.a∈AL f/\x.b∈AL f/\x.a < x.b/\F1 f x.a x.b=aZ:=by
 rw[<-Aa3,fD,D9 (CO f).1];constructor
 ·rintro⟨⟨h1,h2,s⟩,j⟩;exact⟨h1,h2,s,j⟩
 ·rintro⟨h1,h2,s,j⟩;exact⟨⟨h1,h2,s⟩,j⟩
theorem E1{f:g9}(j:okFunc f)(h:r∈regsB f):Cm r:=Aez j r (Jc.1 h)
theorem Ah5{f:g9}(c:g8 f):((CE f).any (Nm p))=(fY (regsB f).length).any λi=>(fY i).any (Mg f p i):=by
 have j:=Jd f;unfold Asc at j;rw[fV]at j;rw[aK,cO,cO];constructor
 ·rintro⟨x,hx,F⟩;obtain⟨h1,h2,N,L⟩:=Hp.1 hx;obtain⟨k,hk⟩:=fF.1 (BY h1);obtain⟨i,hi⟩:=fF.1 (BY h2);obtain⟨u,O⟩:=dY.1 hk;obtain⟨s,T⟩:=dY.1 hi;have B:k < i:=by
   rcases i6 k i with h|h
   ·exact h
   ·rcases Nat.eq_or_lt_of_le h with h|h
    ·subst h;omega
    ·have:=j i k s u h;omega
  refine⟨i,fK.2 s,cO.2 ⟨k,fK.2 B,?_⟩⟩;unfold Mg;rw[dT,dT,hk,hi];show((ixD p.at_ x.b ==ixD p.at_ x.a)&&F1 f x.b x.a)=aZ;rw[KQ,L,Bool.and_true];unfold Nm at F;rw[eq_of_beq F];exact beq_self_eq_true _
 ·rintro⟨i,hi,h⟩;obtain⟨k,hk,h⟩:=cO.1 h;have s:=fK.1 hi;have B:=fK.1 hk;have u:k < (regsB f).length:=by omega
  have D:=j k i u s B;unfold Mg at h;rw[dT,dT,dW s,dW u,aI]at h;obtain⟨h1,h2⟩:=h;have h2:F1 f (regsB f)[k] (regsB f)[i]=aZ:=by rw[KQ];exact h2
  have J:Hq f ⟨(regsB f)[k],(regsB f)[i]⟩=aZ:=by rw[<-T1 D];exact h2
  have I:=(UV c.all).mem ⟨(regsB f)[k],(regsB f)[i]⟩ J;refine⟨⟨(regsB f)[k],(regsB f)[i]⟩,Hp.2 ⟨I.1,I.2.1,D,h2⟩,?_⟩;unfold Nm;have h1:(ixD p.at_ (regsB f)[i] ==ixD p.at_ (regsB f)[k])=aZ:=h1;rw[eq_of_beq h1];exact beq_self_eq_true _
theorem Ul{f:g9}(h:HU f=aZ)(j:r∈regsB f):0<=r/\r < f.regs:=by
 unfold HU at h;rw[aI,aR,aR,cN]at h;have:=h.2 r j;simp at this;omega
theorem ZH{f:g9}(c:g8 f)(Z:Dh.bulk f<=2097152)(hw:∀x∈p.at_,Cm x)(hp:p.at_.length<=10000000)(T:(regsB f).length<=10000000):(FW f p).to (C8 f p):=by
 have W:=BM.2 c;have hM:=Ak6 c T;have aa:(RW f).to (leaf f.blocks):=Ae (by rw[W,decide_eq_true Z];rfl) (Ag _);have Y:cardC p<=p.at_.length:=iZ (eL _ _) (Dr _);unfold FW;refine Am hM ?_;cases ho:Uc f p with
 |true=>
  have e:C8 f p=aL:=by
   unfold Uc at ho;rw[aW]at ho;rcases ho with ho|ho
   ·have:Ub f p=aZ:=by unfold Ub;rw[ho];rfl
    unfold C8;rw[this];rfl
   ·have hs:=of_decide_eq_true ho;cases h0:Ub f p with
    |true=>unfold C8;rw[h0];rfl
    |false=>
     have h1:=h0;unfold Ub at h1;simp only[aV]at h1;have D:(p.at_.length:Int)=f.regs:=by simpa using h1.1.1.2
     have:((cardC p:Int) ==p.slots)=aL:=by
      cases h:((cardC p:Int) ==p.slots)with
      |false=>rfl
      |true=>have:=eq_of_beq h;omega
     unfold C8;rw[this];simp
  rw[e];unfold Uc at ho;exact Am (iM (by rw[ho];rfl)) (Az (by rw[ho];rfl) (Ag _))
 |false=>
  have F:=ho;unfold Uc at F;simp only[aV,decide_eq_false_iff_not]at F;obtain⟨⟨⟨g1,g2⟩,g3⟩,g4⟩:=F;have B:HU f=aZ:=by simpa using g1
  have D:(p.at_.length:Int)=f.regs:=by simpa using g2
  have U:∀r∈regsB f,Ci p.at_ r=aZ:=λr hr=>by
   have:=Ul B hr;exact BJ.2 ⟨this.1,by omega⟩
  unfold Uc at ho;refine Am (a:=bif p.leaf then leaf f.blocks else aL) ?_ ?_
  ·rw[ho];cases p.leaf
   ·exact iM V
   ·exact BC V aa
  rw[ho,aO];cases hq:(p.leaf&&((!bif p.leaf then leaf f.blocks else aL)||(p.slots !=0)))with
  |true=>
   have e:C8 f p=aL:=by
    have:Ub f p=aZ:=by
     rw[aI]at hq;obtain⟨q1,q2⟩:=hq;rw[q1,cond_true,aW]at q2;unfold Ub;rw[q1,a6];rcases q2 with q2|q2
     ·rw[q2];simp
     ·have:a8 (p.slots > 0)=aZ:=decide_eq_true (by simp at q2;omega);rw[this];simp
    unfold C8;rw[this];rfl
   rw[e];exact Az V (Ag _)
  |false=>
   have h0:Ub f p=aL:=by
    unfold Ub;rw[B];have e1:((p.at_.length:Int) !=f.regs)=aL:=g2;rw[e1,decide_eq_false g3];cases I:p.leaf with
    |false=>rfl
    |true=>
     rw[I,a6,aV,cond_true]at hq;rw[hq.1];have:p.slots=0:=by simpa using hq.2
     rw[this];rfl
   have u:p.leaf=aZ->p.slots=0:=λI=>by
    rw[I,a6,aV]at hq;simpa using hq.2
   refine AB V (Am (Ae W (Ag _)) (Am (Ae W (Ag _)) ?_));have e:C8 f p=(!((fY p.at_.length).any (Aid f p))&&(!((fY p.slots.toNat).any λs=>!p.at_.contains (32+(s:Int)))&&!((fY (regsB f).length).any λi=>(fY i).any (Mg f p i)))):=by
    unfold C8;rw[h0,SA hw (by omega),Ah5 c];have:((fY p.at_.length).all λj=>atC f p j (p.at_.getD j 0))= !((fY p.at_.length).any (Aid f p)):=by
     rw[List.not_any_eq_all_not];rw[aK,cL,cL];constructor
     ·intro h j J;rw[<-Y3 hw u (fK.1 J)];exact h j J
     ·intro h j J;rw[Y3 hw u (fK.1 J)];exact h j J
    rw[this];rfl
   rw[e];have O:=Aes c T D hp;have N:=ZD hp (p:=p) (by omega) (by omega);have L:=Abk c (p:=p) T U;cases b1:(fY p.at_.length).any (Aid f p)with
   |true=>rw[b1]at O;exact iF O
   |false=>
    rw[b1]at O;refine iE O ?_;cases b2:(fY p.slots.toNat).any λs=>!p.at_.contains (32+(s:Int))with
    |true=>rw[b2]at N;exact iF N
    |false=>
     rw[b2]at N;refine iE N ?_;cases b3:(fY (regsB f).length).any λi=>(fY i).any (Mg f p i)with
     |true=>rw[b3]at L;exact iF L
     |false=>
      rw[b3]at L;exact iE L (Ag _)
theorem Ads:∀{l:List Nat} {n:Nat},n∈l->n<=l.sum
 | [],_,h=>by cases h
 |m::l,n,h=>by
  rw[gH];rcases eZ.1 h with rfl|h
  ·omega
  ·have:=Ads h;omega
theorem UC{f:g9}(h:CI f=aL){b:gU}(hb:b∈f.blocks):b.ins.length<=250:=by
 unfold CI at h;rw[aV]at h;have h1:=h.1;unfold Jq at h1;rw[aV,decide_eq_false_iff_not,decide_eq_false_iff_not]at h1;have ht:f.blocks.take 60=f.blocks:=gK (by omega);have h2:=h1.2;unfold sumB at h2;rw[ht]at h2;have:=Ads (fG.2 ⟨b,hb,rfl⟩:b.ins.length+Tk b.ins 200∈f.blocks.map λbl=>bl.ins.length+Tk bl.ins 200);omega
theorem Nw{f:g9}(h:CI f=aL):f.blocks.length<=40:=by
 unfold CI at h;rw[aV]at h;have h1:=h.1;unfold Jq at h1;rw[aV,decide_eq_false_iff_not,decide_eq_false_iff_not]at h1;omega
theorem Hc{f:g9}(h:CI f=aL):(regsB f).length<=126:=by
 have h1:(AL f).length<=60:=by
  unfold CI at h;rw[aV]at h;have:=of_decide_eq_false h.2;omega
 rw[<-Hd];unfold MA;have h2:=(List.takeWhile_sublist (λr:Int=>decide (r < 0)) (l:=AL f)).length_le;have s:=Yp f 6;have j:=eL (λr:Int=>decide (r > 5)) (AL f);simp only[eJ];omega
theorem X4{f:g9}(c:g8 f)(j:Dh.bulk f<=2097152)(g:CI f=aL)(u:okPlan p)(hw:∀x∈p.at_,Cm x)(F:p.at_.length<=10000000):(GE f p).to (C8 f p):=by
 have D:=Hc g;have B:(CE f).length<=2147483648:=by
  have h1:(AL f).length<=60:=by
   have h:=g;unfold CI at h;rw[aV,decide_eq_false_iff_not]at h;omega
  refine iZ (eL _ _) (iZ (Ie _) ?_);have:(AL f).length *(AL f).length<=60 * 60:=jA h1 h1;omega
 refine Ae ?_ (Ag _);simp only[aI,aW,aR,cL,decide_eq_true_eq];refine⟨⟨⟨⟨⟨⟨⟨⟨BM.2 c,j⟩,?_⟩,λx hx=>hw x hx⟩,by omega⟩,by omega⟩,λq hq=>?_⟩,B⟩,?_⟩
 ·exact u.slots
 ·obtain⟨r,_,rfl⟩:=fG.1 hq;have:=KP (B9 f) r p.leaf;omega
 ·cases s:HU f with
  |false=>exact .inl V
  |true=>exact .inr λx hx=>⟨Ul s (BY (Hp.1 hx).1),Ul s (BY (Hp.1 hx).2.1)⟩
section
variable{P:bP}{w:cA}
end
section
variable{P:bP}{C:Ctx}{t:List AV}{h:List gO}{o:bN}
end
theorem Agz{f:g9}{leaf:Bool}{q:hZ}(hq:q∈Cc f leaf):q.r∈regsB f/\∃n:Nat,q.at_=(n:Int)/\n < 30/\(8<=n/\n<=13\/24<=n/\n<=29):=by
 have N:=(GG f).2;have s:∀k:Nat,k<=5->∃n:Nat,R5 leaf+(k:Int)=(n:Int)/\n < 30/\(8<=n/\n<=13\/24<=n/\n<=29):=λk hk=>by
  unfold R5;cases leaf
  ·exact⟨24+k,by simp,by omega,by omega⟩
  ·exact⟨8+k,by simp,by omega,by omega⟩
 unfold Cc at hq;rcases eW.1 hq with hm|hm
 ·unfold Aij at hm;obtain⟨k,hk,rfl⟩:=fG.1 hm;have hk:=fK.1 hk;exact⟨Jc.2 (eX _ (fG.2 ⟨k,fK.2 hk,rfl⟩)),s k (by omega)⟩
 ·obtain⟨b,hb,hm⟩:=fE.1 hm;obtain⟨x,hx,hm⟩:=fE.1 hm;have B:∀r∈Bz x,r∈regsB f:=λr L=>Jc.2 (eY _ (fE.2 ⟨b,hb,fE.2 ⟨x,hx,L⟩⟩))
  suffices J:q.r∈Bz x/\∃n:Nat,q.at_=(n:Int)/\n < 30/\(8<=n/\n<=13\/24<=n/\n<=29)from⟨B _ J.1,J.2⟩
  unfold EJ at hm;split at hm
  ·rename_i u;have u:x.op=10:=by simpa using u
   simp only[or_false,zak]at hm;subst hm;refine⟨?_,?_⟩
   ·unfold Bz readsC;rw[u];exact eX _ (by simp[HV])
   ·have:=s 0 (by omega);simpa using this
  ·split at hm
   ·rename_i D;have D:x.op=5:=by simpa using D
    rcases eZ.1 hm with hm|hm
    ·subst hm;refine⟨?_,8,rfl,by omega,by omega⟩;unfold Bz Bd;rw[D];exact eY _ (by simp[HV])
    ·unfold M5 at hm;obtain⟨j,I,rfl⟩:=fG.1 hm;have I:=fK.1 I;rw[eR]at I;refine⟨?_,8+j,by dsimp only;omega,by omega,by omega⟩;have F:j < x.args.length:=by omega
     show x.args.getD j 0∈Bz x;rw[dT,dW F];unfold Bz readsC;rw[D];exact eX _ (eY _ (by simp[HV]))
   ·cases hm
theorem TY(j:List Int)(r:Int)(leaf:Bool):(leaf=aZ/\Br j r leaf=II [0])\/(leaf=aL/\j.contains r=aZ/\Br j r leaf=II [1,2])\/(leaf=aL/\j.contains r=aL/\Br j r leaf=II [0,1,2]):=by
 unfold Br;cases leaf
 ·cases j.contains r
  ·exact .inr (.inr ⟨rfl,rfl,rfl⟩)
  ·exact .inr (.inl ⟨rfl,rfl,rfl⟩)
 ·exact .inl ⟨rfl,rfl⟩
theorem O5(j:List Int)(r:Int)(leaf:Bool):7<=(Br j r leaf).length/\(Br j r leaf).length<=24/\(Br j r leaf).Nodup:=by
 rcases TY j r leaf with⟨_,h2⟩|⟨_,_,h2⟩|⟨_,_,h2⟩ <;> rw[h2] <;> decide
end Mu
namespace Mu
open Go Go.RowKit Go.Proofs Go.Maps
variable{A:List (Int×Int)}{G:gV}{a b:Int}{j k:Nat}{l:List iS}{n:Nat}
def Sb(l:List iS)(k:Int):List Int:=l.flatMap λx=>if k=x.a then [x.b]else if k=x.b then [x.a]else []
theorem Pl:b∈Sb l a↔∃x∈l,(a=x.a/\b=x.b)\/(a≠x.a/\a=x.b/\b=x.a):=by
 unfold Sb;rw[fE];constructor
 ·rintro⟨x,hx,h⟩;refine⟨x,hx,?_⟩;split at h
  ·rename_i e;exact .inl ⟨e,fN.1 h⟩
  ·rename_i e;split at h
   ·rename_i s;exact .inr ⟨e,s,fN.1 h⟩
   ·cases h
 ·rintro⟨x,hx,⟨e,h⟩|⟨e,s,h⟩⟩
  ·exact⟨x,hx,by rw[if_pos e,h];exact fN.2 V⟩
  ·exact⟨x,hx,by rw[if_neg e,if_pos s,h];exact fN.2 V⟩
theorem Pm(k:Int):∀(l:List iS),(Sb l k).length<=l.length
 | []=>iY _
 |x::l=>by
  have h:=Pm k l;unfold Sb at h⊢;rw[dO,eJ,eK];have:(if k=x.a then [x.b]else if k=x.b then [x.a]else []).length<=1:=by
   split
   ·exact iY _
   ·split
    ·exact iY _
    ·exact jF _
  omega
theorem WC(I:∀x∈l,x.a < x.b)(D:Aoz l)(k:Int):(Sb l k).Nodup:=by
 induction l with
 |nil=>exact fS
 |cons x l L=>
  unfold Aoz at D;rw[fU]at D;have h1:=L (λy B=>I y (fA _ B)) D.2;have hx:=I x fB;show((if k=x.a then [x.b]else if k=x.b then [x.a]else [])++Sb l k).Nodup;refine fQ.2 ⟨?_,h1,λp s q hq e=>?_⟩
  ·split
   ·simp
   ·split <;> simp
  ·subst e;obtain⟨y,B,u⟩:=Pl.1 hq;have F:=D.1 y B;have N:=I y (fA _ B);unfold ltP at F;split at s
   ·rename_i T;have s:=fN.1 s;rcases u with⟨h2,J⟩|⟨h2,J,O⟩ <;> omega
   ·split at s
    ·have s:=fN.1 s;rcases u with⟨h2,J⟩|⟨h2,J,O⟩ <;> omega
    ·cases s
theorem IT{x:Int}(h:-1<=x/\x<=4294967296):Cm x:=by
 have h1:wfB .i64 x=aZ:=by
  unfold wfB;simp[Lit.wf,bG,bF,bH,bD];omega
 exact h1
theorem LI{s:List Int}{r:Int}{leaf:Bool}{z:Int}(h:z∈Br s r leaf):4<=z/\z < 32:=by
 have u:∀y∈WT++Ik,4<=y/\y < 32:=by decide
 rw[C4]at h;refine u z ?_;split at h
 ·exact eX _ h
 split at h
 ·exact eY _ h
 ·exact h
theorem Are{f:g9}(g:CI f=aL):(AL f).length<=60:=by
 unfold CI at g;rw[aV,decide_eq_false_iff_not]at g;omega
theorem LL{f:g9}(g:CI f=aL)(S:iS->Bool):(Ec (AL f) S).length<=3600:=by
 refine iZ (eL _ _) (iZ (Ie _) ?_);have:(AL f).length *(AL f).length<=60 * 60:=jA (Are g) (Are g);omega
theorem DF{f:g9}{S:iS->Bool}{x:iS}(hx:x∈Ec (AL f) S):x.a∈AL f/\x.b∈AL f/\x.a < x.b:=(D9 (CO f).1).1 (fD.1 hx).1
theorem Q6{f:g9}(c:g8 f)(S:iS->Bool):Am2 (Ec (AL f) S):=λx hx=>by
 obtain⟨h1,h2,s⟩:=DF hx;exact⟨E1 c.ok (BY h1),E1 c.ok (BY h2),by omega⟩
theorem Ok{α β:Type}(n:Nat)(F:α->List β):∀(l:List α),(∀x∈l,(F x).length<=n)->(l.flatMap F).length<=n * l.length
 | [],_=>jF _
 |x::l,h=>by
  rw[dO,eJ,eK,i9];have h1:=Ok n F l λy s=>h y (fA _ s)
  have h2:=h x fB;omega
theorem Rh{f:g9}(g:CI f=aL)(leaf:Bool):(Cc f leaf).length<=1000000:=by
 have hb:=Nw g;unfold Cc;rw[eJ,SK];have u:=(GG f).2;have h1:=Ok 1750 (Jn (R5 leaf)) f.blocks λb s=>by
  have hi:=UC g s;unfold Jn;have h2:=Ok 7 (EJ (R5 leaf)) b.ins λx _=>by
   unfold EJ;split
   ·exact iW V
   ·split
    ·unfold M5;rw[eK,eM,eN,eR];omega
    ·exact jF _
  omega
 omega
theorem Yz(k:Int):∀(l:List hZ) {E:List (Int×List Int)},Ef E->∀z∈(getK (l.foldl NQ E) k).getD [],z∈(getK E k).getD []\/∃h∈l,z=h.at_
 | [],_,_,z,s=>.inl s
 |h::l,E,u,z,s=>by
  rcases Yz k l (E:=NQ E h) (u.put _ _) z s with h1|⟨q,hq,e⟩
  ·unfold NQ at h1;rw[BK u]at h1;split at h1
   ·rename_i e;rcases eW.1 h1 with h2|h2
    ·exact .inl (by rw[e];exact h2)
    ·exact .inr ⟨h,fB,fN.1 h2⟩
   ·exact .inl h1
  ·exact .inr ⟨q,fA _ hq,e⟩
theorem YV(F:Int->List Int)(r:Int):∀(l:List Int) {E:List (Int×List Int)},Ef E->getK ((l.zip (l.map F)).foldl (λE p=>Cb E p.1 p.2) E) r=if r∈l then jL (F r)else getK E r
 | [],E,_=>by simp
 |x::l,E,s=>by
  rw[eT,List.zip_cons_cons,dQ,YV F r l (s.put _ _),BK s];by_cases h1:r∈l
  ·rw[if_pos h1,if_pos (fA _ h1)]
  ·rw[if_neg h1];by_cases h2:r=x
   ·rw[if_pos h2,if_pos (by rw[h2];exact fB),h2]
   ·rw[if_neg h2,if_neg λh=>by
     rcases eZ.1 h with h|h
     ·exact h2 h
     ·exact h1 h]
section
variable{f:g9}{lf:Bool}{ch:List Int}
theorem Hv(r:Int):QH (Cu f lf ch) r=if r∈regsB f then Br (B9 f) r lf else []:=by
 unfold QH;have h:=YV (λr=>Br (B9 f) r lf) r (regsB f) (E:=[]) Ef.nil;show(getK (clsE ((regsB f).zip (CG f lf (regsB f)))) r).getD []=_;unfold clsE CG;rw[h];split
 ·rfl
 ·rfl
theorem JZ(r:Int):LT (Cu f lf ch) r=Sb (CE f) r:=by
 unfold LT Sb;exact PR (λx hx=>by have:=(DF hx).2.2;omega) r
theorem JY:b∈LT (Cu f lf ch) a↔(⟨a,b⟩:iS)∈CE f\/(⟨b,a⟩:iS)∈CE f:=by
 rw[JZ,Pl];constructor
 ·rintro⟨x,hx,⟨rfl,rfl⟩|⟨_,rfl,rfl⟩⟩
  ·exact .inl hx
  ·exact .inr hx
 ·rintro(h|h)
  ·exact⟨_,h,.inl ⟨rfl,rfl⟩⟩
  ·refine⟨_,h,.inr ⟨?_,rfl,rfl⟩⟩;have:=(DF h).2.2;dsimp only at this⊢;omega
theorem Adq:SymG (Cu f lf ch) where
 sym:=λa b h=>JY.2 (JY.1 h).symm
 irr:=λa h=>by
  rcases JY.1 h with h|h <;> exact absurd (DF h).2.2 (by dsimp only;omega)
theorem Af0(r:Int):(LT (Cu f lf ch) r).length<=((regsB f).filter λy=>F1 f r y).length:=by
 rw[JZ];refine Dl (WC (λx hx=>(DF hx).2.2) (Aa2 f) r) λb hb=>?_
 rw[<-JZ (lf:=lf) (ch:=ch)]at hb;rw[fD];rcases JY.1 hb with h|h
 ·obtain⟨_,h2,_,s⟩:=Hp.1 h;exact⟨BY h2,s⟩
 ·obtain⟨h1,_,_,s⟩:=Hp.1 h;exact⟨BY h1,by rw[KQ];exact s⟩
theorem Akv(c:g8 f)(g:CI f=aL)(u:∀r∈ch,r∈AL f)(B:ch.length<=1000):iN (Cu f lf ch) where
 regs:=λr s=>E1 c.ok s
 len:=by
  have:=Hc g;show(regsB f).length<=_;omega
 cheap:=by
  show ch.length<=_;omega
 cheapw:=λr s=>E1 c.ok (BY (u r s))
 near:=λr k hk=>by
  rcases JY.1 hk with h|h
  ·exact E1 c.ok (BY (DF h).2.1)
  ·exact E1 c.ok (BY (DF h).1)
 nearl:=λr=>by
  show(LT (Cu f lf ch) r).length<=_;rw[JZ];have h1:=Pm r (CE f);have h2:=LL g (Hq f);have e:CE f=Ec (AL f) (Hq f):=rfl;rw[<-e]at h2;omega
 mov:=λr=>by
  have e:(getK (Cu f lf ch).moves r).getD []=Sb (mvL f) r:=PR (λx hx=>by have:=(DF hx).2.2;omega) r;rw[e];have h1:=Pm r (mvL f);have h2:=LL g (mvK f (stepsL f).length);have D:mvL f=Ec (AL f) (mvK f (stepsL f).length):=rfl;rw[<-D]at h2;refine⟨λk hk=>?_,by omega⟩;obtain⟨x,hx,⟨_,rfl⟩|⟨_,_,rfl⟩⟩:=Pl.1 hk
  ·exact E1 c.ok (BY (DF hx).2.1)
  ·exact E1 c.ok (BY (DF hx).1)
 lik:=λr=>by
  show(∀k∈(getK (NX (Cc f lf)) r).getD [],Cm k)/\((getK (NX (Cc f lf)) r).getD []).length<=_;refine⟨λk hk=>?_,?_⟩
  ·rcases Yz r (Cc f lf) (E:=[]) Ef.nil k hk with h|⟨q,hq,rfl⟩
   ·cases h
   ·obtain⟨_,n,e,h1,_⟩:=Agz hq;rw[e];exact IT ⟨by omega,by omega⟩
  ·have h1:=Uz (Cc f lf) r;have h2:=Rh g lf;omega
 cl:=λr=>by
  show(∀k∈QH (Cu f lf ch) r,Cm k)/\(QH (Cu f lf ch) r).length<=_;rw[Hv];split
  ·have h1:=KP (B9 f) r lf;refine⟨λk hk=>?_,by omega⟩;exact IT (by have:=LI hk;omega)
  ·exact⟨λk hk=>(by cases hk),jF _⟩
end
theorem XU{G:gV}(hc:∀r,∀p∈QH G r,p < 32)(B:SymG G):∀(l:List Int) {s:List (Int×Int)×Int} {Q:Int->Prop},SltQ G s Q->l.Nodup->(∀x∈l,¬Q x)->(l.foldl (IZ G) s).2<=s.2+(l.length:Int)
 | [],s,Q,_,_,_=>by simp
 |r::l,s,Q,h,u,hq=>by
  rw[fR]at u;have h1:=XU hc B l (h.next B (hq r fB)) u.2 λx hx hh=>by
   rcases hh with hh|hh
   ·exact hq x (fA _ hx) hh
   ·exact u.1 (hh▸hx)
  have h2:(IZ G s r).2<=s.2+1:=by
   obtain⟨_,_,I⟩:=Mx G s.1 r;have J:=h.pos;show max s.2 ((slotN G s.1 r:Int)+1)<=_;have L:(slotN G s.1 r:Int)<=s.2:=by
    refine Int.not_lt.1 λF=>?_
    have D:=I s.2.toNat (by omega);rw[Jt.2 λk _ e=>?_]at D
    ·cases D
    ·rcases h.cl k _ e with h6|h6
     ·have:=hc k _ h6;omega
     ·omega
   omega
  rw[dQ,eK];omega
theorem Aeg{l:List (Int×Int)}(h:Ef l)(r p:Int):l.length<=(Cb l r p).length:=by
 have h1:=Dl (Cq h) (m:=keysK (Cb l r p)) λx hx=>by
  refine CQ.2 ?_;rw[BK h];split
  ·rfl
  ·exact CQ.1 hx
 simpa[keysK]using h1
theorem Q7{G:gV}(L:SymG G)(m:Nat)(I:∀r∈G.regs,(QH G r).Nodup/\m<=(QH G r).length):∀(l:List Int),(∀x∈l,x∈G.regs)->∀{s:List (Int×Int)×List Int} {Q:Int->Prop},PntQ G s Q->(s.2= []\/m<=s.1.length)->((l.foldl (EG G) s).2= []\/m<=(l.foldl (EG G) s).1.length)
 | [],_,s,Q,_,h=>h
 |r::l,J,s,Q,B,h=>by
  refine Q7 L m I l (λx hx=>J x (fA _ hx)) (B.next L r) ?_;unfold EG;cases hk:MG G s.1 r with
  |some p=>
   rcases h with h|h
   ·exact .inl h
   ·exact .inr (iZ h (Aeg B.asc r p))
  |none=>
   refine .inr ?_;show m<=s.1.length;obtain⟨h1,h2⟩:=I r (J r fB);unfold MG at hk;rw[dN]at hk;have F:=Dl h1 (m:=s.1.map (·.2)) λp u=>by
    have hc:p∈Eb G s.1 r:=by
     unfold Eb Zm;refine fD.2 ⟨?_,cV.2 u⟩;simp only[eW];exact .inr u
    have N:=hk p hc;refine a7 λD=>N (Jt.2 λk _ e=>D ?_)
    exact fG.2 ⟨(k,p),(CN B.asc).1 e,rfl⟩
   rw[eM]at F;omega
theorem Ww(B:iN G)(F:SymG G)(m:Nat)(D:∀r∈G.regs,(QH G r).Nodup/\m<=(QH G r).length)(out:List (Int×Int)):(BH G out).2= []\/m+(BH G out).2.length<=(CY G out).length:=by
 have h:=Q7 F m D (CY G out).reverse (λx hx=>(If B.toOkG x (fM.1 hx)).1) (s:=([],[])) (Q:=λ_=>False) ⟨Ef.nil,λa p h=>(by cases h),λr p h=>(by cases h),λr h=>(by cases h),λr h=>h.elim⟩ (.inl V);have u:=(JT B out _ (iY _)).len;rw[MH]at u;rcases h with h|h
 ·exact .inl h
 ·have h:m<=(BH G out).1.length:=h;exact .inr (by omega)
theorem Age(s:OkG G)(out:List (Int×Int)):(Ih G out).length<=NW G out:=by
 have h0:=L1 out s.regs;have h1:=F9 G h0 (keysK (EE G.regs out)) (Cq h0.1) λq hq=>hq
 have h2:=Dl (Cq (show Ef (Ih G out)from h1.1.1)) (m:=G.regs.filter λx=>(getK out x).getD 0 ==0) λx hx=>by
  obtain⟨B,u⟩:=MO s out x (CQ.1 hx);exact fD.2 ⟨B,by rw[u];rfl⟩
 simpa[keysK,NW]using h2
theorem Ako{out:List (Int×Int)}(B:Ef out)(h1:∀x v,getK out x=jL v->v=1)(u:∀x∈keysK out,x∈G.regs):out.length+NW G out<=G.regs.length:=by
 have h2:=Dl (Cq B) (m:=G.regs.filter λx=>!((getK out x).getD 0 ==0)) λx hx=>by
  obtain⟨v,s⟩:=jH.1 (CQ.1 hx);refine fD.2 ⟨u x hx,?_⟩;rw[s,h1 x v s];rfl
 have F:out.length=(keysK out).length:=by simp[keysK]
 rw[<-F]at h2;have D:∀(l:List Int),(l.filter λx=>(getK out x).getD 0 ==0).length+(l.filter λx=>!((getK out x).getD 0 ==0)).length=l.length:=by
  intro l;induction l with
  |nil=>rfl
  |cons x l I=>
   rw[dH,dH,eK];cases(getK out x).getD 0 ==0
   ·simp only[aS,zaz];simp only[aN,if_false];omega
   ·simp only[aU,zaz];simp only[aN,if_false];omega
 have J:=D G.regs;unfold NW;omega
theorem Ae8(l:List Int):∀(o:List (Int×Int)),(l.foldl (λo r=>Cb o r 1) o).length<=o.length+l.length:=by
 induction l with
 |nil=>intro o;exact iY _
 |cons r l s=>
  intro o;have h1:=s (Cb o r 1);have h2:=E3 (l:=o) r 1;rw[dQ,eK];omega
theorem Apq(s:iN G)(B:SymG G)(m:Nat)(u:∀r∈G.regs,(QH G r).Nodup/\m<=(QH G r).length):∀n,(∀k,k < n->(BH G (DR G k)).2≠[])->DR G n= []\/(DR G n).length+m<=G.regs.length
 |0,_=>.inl V
 |n+1,h=>.inr (by
  have h1:=(Ww s B m u (DR G n)).resolve_left (h n (i7 n));have h2:=KR (G:=G) (Ih G (DR G n)).length (Ih G (DR G n)) [];have J:=Age s.toOkG (DR G n);have I:=Ako (Gq s.toOkG n).1 (LP s.toOkG n) (JU s.toOkG n);have F:(DR G (n+1)).length<=_:=Ae8 (BH G (DR G n)).2 (DR G n);have D:(CY G (DR G n)).length<=(Ih G (DR G n)).length:=by
   unfold CY;simpa using h2
  omega)
def atP(n:Nat)(A:List (Int×Int)):List Int:=(fY n).map λ(k:Nat)=>(getK A (k:Int)).getD (-1)
theorem Xn(n:Nat)(A:List (Int×Int)):(atP n A).length=n:=by simp[atP]
theorem Xo(h:k < n):(atP n A)[k]? =jL ((getK A (k:Int)).getD (-1)):=by
 unfold atP;rw[dZ,eB h];rfl
def atK(n:Nat)(A:List (Int×Int))(j:Nat):List Int:=(fY n).map λ(k:Nat)=>if k < j then(getK A (k:Int)).getD (-1)else 0
theorem KX(n:Nat)(A:List (Int×Int))(j:Nat):(atK n A j).length=n:=by simp[atK]
theorem SH(h:k < n):(atK n A j)[k]? =jL (if k < j then(getK A (k:Int)).getD (-1)else 0):=by
 unfold atK;rw[dZ,eB h];rfl
theorem Amp(n:Nat)(A:List (Int×Int)):gE n (0:Int)=atK n A 0:=by
 refine dE λk=>?_
 by_cases h:k < n
 ·rw[SH h,eC,if_pos h];rfl
 ·rw[dX (by simp;omega),dX (by rw[KX];omega)]
theorem Ars(n:Nat)(A:List (Int×Int)):atK n A n=atP n A:=by
 refine dE λk=>?_
 by_cases h:k < n
 ·rw[SH h,Xo h,if_pos h]
 ·rw[dX (by rw[KX];omega),dX (by rw[Xn];omega)]
theorem Arr(s:j < n):(atK n A j).set j ((getK A (j:Int)).getD (-1))=atK n A (j+1):=by
 refine dE λk=>?_
 by_cases h:k < n
 ·rw[SH h];by_cases e:j=k
  ·subst e;rw[eF (by rw[KX];exact s),if_pos (i7 _)]
  ·rw[eE e,SH h];by_cases h1:k < j
   ·rw[if_pos h1,if_pos (by omega)]
   ·rw[if_neg h1,if_neg (by omega)]
 ·rw[dX (by rw[eQ,KX];omega),dX (by rw[KX];omega)]
theorem Aff{f:g9}{lf:Bool}{slots:Int}(h0:0<=f.regs)(h1:f.regs<=4096)(D:∀r p,getK A r=jL p->Cm p):(Is f A lf slots).to ⟨lf,slots,atP f.regs.toNat A⟩:=by
 obtain⟨n,u⟩:∃n,n=f.regs.toNat:=⟨_,rfl⟩
 unfold Is;rw[<-u];refine Ae (by unfold VW cC;simp only[zag];omega) (Am (a:=atP n A) ?_ (Ag _));have e0:((0:Int),gE n (0:Int))=(((0:Nat):Int),atK n A 0):=by rw[<-Amp];rfl
 rw[e0];refine BV (λk:Nat=>((k:Int),atK n A k)) n (λk hk=>?_) ?_ (jF _)
 ·have B:Ci (atK n A k) (k:Int)=aZ:=L7 (by rw[KX];exact hk);have s:Ci ((atK n A k).set (Int.toNat (k:Int)) (-1)) (k:Int)=aZ:=L7 (by rw[eQ,KX];exact hk);simp only[E4];rw[<-u];refine Az (decide_eq_true (by rw[eO];omega)) (Am (a:=atK n A (k+1)) (Ae B (Ae (IT ⟨by omega,by omega⟩) ?_)) ?_)
  ·rw[cF,<-Arr hk];cases hg:getK A (k:Int)with
   |none=>exact AB V (Ag _)
   |some p=>
    refine Az V (Ae s (Ae (D _ p hg) ?_));rw[List.set_set];exact Ag _
  ·rw[w23 hk (by omega)];exact Ag _
 ·simp only[E4];rw[<-u,<-Ars];exact AB (decide_eq_false (by rw[eO];omega)) (Ag _)
structure RightP(f:Func)(p:Plan):Prop where
 may:HU f=true
 len:(p.at_.length:Int)=f.regs
 pos:0<=p.slots
 lf:p.leaf=true->leaf f.blocks=true/\p.slots=0
 reg:∀(j:Nat) x,p.at_[j]? =some x->(j:Int)∈regsB f->x∈Br (B9 f) (j:Int) p.leaf\/(32<=x/\x < 32+p.slots)
 non:∀(j:Nat) x,p.at_[j]? =some x->(j:Int)∉regsB f->x= -1
 use:∀z,32<=z->z < 32+p.slots->z∈p.at_
 apart:∀x∈CE f,ixD p.at_ x.a≠ixD p.at_ x.b
theorem OT{f:g9}{p:iT}(hw:∀x∈p.at_,Cm x):C8 f p=aZ↔RightP f p:=by
 constructor
 ·intro h;have h0:=h;unfold C8 at h0;simp only[aI,aR,cL,fK]at h0;obtain⟨⟨u,F⟩,B,T⟩:=h0;have Z:=u;unfold Ub at u;simp only[aV,aH,aP,decide_eq_false_iff_not]at u;obtain⟨⟨⟨h1,h2⟩,h3⟩,U⟩:=u;have I:0<=p.slots:=by omega
  have D:p.leaf=aZ->leaf f.blocks=aZ/\p.slots=0:=λJ=>by
   rcases U with U|⟨h5,h6⟩
   ·rw[J]at U;cases U
   ·exact⟨h5,by omega⟩
  have L:∀j,j < p.at_.length->Aid f p j=aL:=λj hj=>by
   have:=Y3 (f:=f) hw (λJ=>(D J).2) hj;rw[F j hj]at this;simpa using this.symm
  refine⟨h1,by simpa using h2,I,D,λj x hx Y=>?_,λj x hx Y=>?_,λz ac ab=>?_,λx hx e=>?_⟩
  ·have hb:=L j (dY.1 hx).1;unfold Aid O6 at hb;rw[B8 hx,cV.2 Y]at hb;simp only[aU,aM,aO,a6,aP]at hb;have W:Cm x:=hw x (fH hx);split at hb
   ·rename_i N;rw[aI,decide_eq_true_eq]at hb;have N:=of_decide_eq_true N;exact .inr ((I0 W).1 (by unfold I1;rw[aI,decide_eq_true_eq,decide_eq_true_eq];exact⟨N,hb.2⟩))
   ·exact .inl (cV.1 hb)
  ·have hb:=L j (dY.1 hx).1;unfold Aid at hb;have hc:(regsB f).contains (j:Int)=aL:=by
    cases e:(regsB f).contains (j:Int)with
    |false=>rfl
    |true=>exact absurd (cV.1 e) Y
   rw[B8 hx,hc]at hb;simpa using hb
  ·rw[SA hw I,aR,cN]at B;have:=B (z - 32).toNat (fK.2 (by omega));rw[show 32+(((z - 32).toNat:Nat):Int)=z by omega]at this;simpa using this
  ·rw[cN]at T;refine T x hx ?_;unfold Nm;rw[e];simp
 ·intro H;have u:Ub f p=aL:=by
   unfold Ub;rw[H.may,decide_eq_false (by have:=H.pos;omega:¬p.slots < 0),show((p.at_.length:Int) !=f.regs)=aL by rw[H.len];simp];cases J:p.leaf with
   |false=>rfl
   |true=>
    rw[(H.lf J).1,(H.lf J).2];rfl
  refine(OU u λj x hx=>?_).trans ?_
  ·have aa:=(dY.1 hx).1;have F:=Y3 (f:=f) hw (λJ=>(H.lf J).2) aa;rw[show p.at_.getD j 0=x by rw[dT,hx];rfl]at F;rw[F];unfold Aid O6;rw[B8 hx];cases hc:(regsB f).contains (j:Int)with
   |false=>
    rw[H.non j x hx λh=>by rw[cV.2 h]at hc;cases hc];rfl
   |true=>
    rcases H.reg j x hx (cV.1 hc)with h1|h1
    ·have:=LI h1;rw[decide_eq_false (by omega:¬x≥32)];have h1:=cV.2 h1;simp only[aU,aM,aO,a6,aN,if_false,aT];exact h1
    ·have D:p.leaf=aL:=by
      cases e:p.leaf with
      |false=>rfl
      |true=>have:=(H.lf e).2;omega
     have h2:=(I0 (hw x (fH hx))).2 h1;unfold I1 at h2;rw[aI]at h2;rw[h2.1,h2.2,D];rfl
  ·rw[SA hw H.pos,aI,aR,aR,cN,cN];refine⟨λs O=>?_,λx hx O=>?_⟩
   ·have O:=fK.1 O;have:=H.use (32+(s:Int)) (by omega) (by have:=H.pos;omega);simpa using this
   ·unfold Nm at O;exact H.apart x hx (eq_of_beq O)
theorem Q3{f:g9}{lf:Bool}{ch:List Int}{slots:Int}(W:HU f=aZ)(H:SltQ (Cu f lf ch) (A,slots) λx=>x∈regsB f)(hl:lf=aZ->leaf f.blocks=aZ/\slots=0)(hs:slots<=100000):
 C8 f ⟨lf,slots,atP f.regs.toNat A⟩=aZ/\∀x∈atP f.regs.toNat A,Cm x:=by
 have T:0<=f.regs/\f.regs<=4096:=by
  have h:=W;unfold HU Akx at h;simp only[zap]at h;omega
 have L:0<=slots:=H.pos;have J:∀r p,getK A r=jL p->-1<=p/\p<=4294967296:=λr p h=>by
  rcases H.cl r p h with h1|h1
  ·rw[Hv]at h1;split at h1
   ·have:=LI h1;omega
   ·cases h1
  ·have h1:32<=p/\p < 32+slots:=h1;omega
 have I:∀x∈atP f.regs.toNat A,Cm x:=λx hx=>by
  obtain⟨k,_,rfl⟩:=fG.1 hx;cases hg:getK A (k:Int)with
  |none=>exact IT ⟨by simp,by simp⟩
  |some p=>exact IT (J _ p hg)
 refine⟨?_,I⟩;have B:∀r,r∈regsB f->∃p,getK A r=jL p/\(atP f.regs.toNat A)[r.toNat]? =jL p/\0<=r/\r.toNat < f.regs.toNat:=λr s=>by
  obtain⟨h1,h2⟩:=Ul W s;obtain⟨p,u⟩:=jH.1 ((H.key r).2 s);refine⟨p,u,?_,h1,by omega⟩;rw[Xo (by omega),show((r.toNat:Nat):Int)=r by omega,u];rfl
 have D:∀(j:Nat) x,(atP f.regs.toNat A)[j]? =jL x->x=(getK A (j:Int)).getD (-1):=λj x hx=>by
  have Y:=(dY.1 hx).1;rw[Xn]at Y;rw[Xo Y]at hx;exact(Option.some.inj hx).symm
 refine(OT I).2 ⟨W,?_,L,hl,λj x hx s=>?_,λj x hx s=>?_,λz O N=>?_,λx hx e=>?_⟩
 ·show((atP f.regs.toNat A).length:Int)=_;rw[Xn];omega
 ·obtain⟨p,u,_⟩:=B _ s;have e:=D j x hx;rw[u]at e;have e:x=p:=e;subst e;rcases H.cl _ _ u with h1|h1
  ·rw[Hv,if_pos s]at h1;exact .inl h1
  ·exact .inr h1
 ·have e:=D j x hx;cases hg:getK A (j:Int)with
  |none=>rw[hg]at e;exact e
  |some v=>exact absurd ((H.key (j:Int)).1 (by show(getK A (j:Int)).isSome=aZ;rw[hg];rfl)) s
 ·obtain⟨r,s⟩:=H.use z O N;have s:getK A r=jL z:=s;obtain⟨p,u,F,_⟩:=B r ((H.key r).1 (by show(getK A r).isSome=aZ;rw[s];rfl));rw[s]at u;cases u;exact fH F
 ·obtain⟨h1,h2,h3⟩:=DF hx;obtain⟨p,u,F,aa,_⟩:=B x.a (BY h1);obtain⟨q,hq,U,Z,_⟩:=B x.b (BY h2);have e:ixD (atP f.regs.toNat A) x.a=ixD (atP f.regs.toNat A) x.b:=e;rw[show ixD (atP f.regs.toNat A) x.a=p by rw[show x.a=((x.a.toNat:Nat):Int)by omega];exact B8 F,show ixD (atP f.regs.toNat A) x.b=q by rw[show x.b=((x.b.toNat:Nat):Int)by omega];exact B8 U]at e;subst e;exact H.nocl x.a p u x.b (JY.2 (.inl hx)) hq
end Mu
namespace Mu
open Go Go.RowKit Go.Proofs
variable{at':Nat}{h:Int}{i:Nat}{ks l:List Int}{n:Nat}{ord:List Int}{p:Int->Bool}{q:Nat}{r1:List Int}{x:Int}{α:Type}
noncomputable section
end
inductive RchF(f:Func)(no:Int):Int->Prop
 |start:no≠0->0 < f.blocks.length->RchF f no 0
 |step {a b:Int}:RchF f no a->b∈nextL f a->b≠no->RchF f no b
theorem RchF.lt{f:g9}{no b:Int}(h:RchF f no b):0<=b/\b.toNat < f.blocks.length:=by
 cases h with
 |start _ h=>exact⟨by omega,by simpa using h⟩
 |step _ h _=>exact E2 h
theorem Yv{l:List Bool}{k b:Int}(hk:0<=k)(s:k.toNat < l.length)(hb:0<=b):ixD (l.set k.toNat aZ) b=(a8 (b=k)||ixD l b):=by
 unfold ixD;rw[dT,dT,eD];by_cases h:b=k
 ·subst h;rw[if_pos V,if_pos s];simp
 ·rw[if_neg (by omega)];simp[h]
structure Dfs(f:Func)(no:Int)(come:List Bool)(st:List FStep)(left:List Int):Prop where
 len:come.length=f.blocks.length
 els:∀e∈st,∃d,nextL f e.b=d++e.next/\∀k∈d,k=no\/ixD come k=true
 mem:∀b:Int,0<=b->(ixD come b=true↔b∈left\/b∈st.map (·.b))
 rch:∀b,b∈left\/b∈st.map (·.b)->RchF f no b
 nod:(left++st.map (·.b)).Nodup
 done:∀b∈left,∀k∈nextL f b,k=no\/ixD come k=true
 par:∀b∈left,b=0\/∃k,b∈nextL f k/\(k∈st.map (·.b)\/∃l1 l2 l3,left=l1++b::(l2++k::l3))
 chain:∀s e1 e2 s',st=s++e1::e2::s'->e2.b∈nextL f e1.b
 bot:∀e s,st=e::s->e.b=0
 zero:ixD come 0=true
variable{f:g9}{no:Int}{come:List Bool}{s:List gY}{left:List Int}{b k:Int}{r:List Int}
theorem Dfs.pop(H:Dfs f no come (s++[⟨b,[]⟩]) left):Dfs f no come s (left++[b]):=by
 have B:(s++[(⟨b,[]⟩:gY)]).map (·.b)=s.map (·.b)++[b]:=by simp
 have O:=H.mem;have J:=H.rch;have N:=H.nod;have L:=H.par;rw[B]at O J N L;refine⟨H.len,λe Y=>H.els e (eX _ Y),λc hc=>?_,λc hc=>J c ?_,?_,λc hc=>?_,λc hc=>?_,λt D Z t' e=>H.chain t D Z (t'++[⟨b,[]⟩]) (by rw[e];simp),λe t ht=>H.bot e (t++[⟨b,[]⟩]) (by rw[ht];simp),H.zero⟩
 ·rw[O c hc];simp only[eW,fN];constructor
  ·rintro(h|h|h)
   ·exact .inl (.inl h)
   ·exact .inr h
   ·exact .inl (.inr h)
  ·rintro((h|h)|h)
   ·exact .inl h
   ·exact .inr (.inr h)
   ·exact .inr (.inl h)
 ·simp only[eW,fN]at hc⊢;rcases hc with(h|h)|h
  ·exact .inl h
  ·exact .inr (.inr h)
  ·exact .inr (.inl h)
 ·rw[cP];exact(List.Perm.append_left left (List.perm_append_comm)).nodup_iff.1 N
 ·rcases eW.1 hc with h|h
  ·exact H.done c h
  ·rw[fN]at h;subst h;obtain⟨d,h1,h2⟩:=H.els ⟨c,[]⟩ (by simp);intro j T;rw[show nextL f c=d from by simpa using h1]at T;exact h2 j T
 ·rcases eW.1 hc with h|h
  ·rcases L c h with h0|⟨q,h1,h2⟩
   ·exact .inl h0
   ·refine .inr ⟨q,h1,?_⟩;rcases h2 with h2|⟨I,F,W,e⟩
    ·rcases eW.1 h2 with h2|h2
     ·exact .inl h2
     ·rw[fN]at h2;subst h2;obtain⟨I,F,e⟩:=List.append_of_mem h;exact .inr ⟨I,F,[],by rw[e];simp⟩
    ·exact .inr ⟨I,F,W++[b],by rw[e];simp⟩
  ·rw[fN]at h;subst h;rcases dC s with u|⟨U,D,u⟩
   ·exact .inl (H.bot ⟨c,[]⟩ [] (by rw[u];rfl))
   ·rw[cT]at u;refine .inr ⟨D.b,H.chain U D ⟨c,[]⟩ [] (by rw[u];simp),.inl (by rw[u];simp)⟩
theorem Dfs.skip(H:Dfs f no come (s++[⟨b,k::r⟩]) left)(hk:k=no\/ixD come k=aZ):Dfs f no come (s++[⟨b,r⟩]) left:=by
 have u:(s++[(⟨b,k::r⟩:gY)]).map (·.b)=(s++[(⟨b,r⟩:gY)]).map (·.b):=by simp
 have O:=H.mem;have J:=H.rch;have N:=H.nod;have L:=H.par;rw[u]at O J N L;refine⟨H.len,λe T=>?_,O,J,N,H.done,L,λt B D t' e=>?_,λe t ht=>?_,H.zero⟩
 ·rcases eW.1 T with h|h
  ·exact H.els e (eX _ h)
  ·rw[fN]at h;subst h;obtain⟨d,h1,h2⟩:=H.els ⟨b,k::r⟩ (by simp);refine⟨d++[k],by rw[h1];simp,λj hj=>?_⟩;rcases eW.1 hj with hj|hj
   ·exact h2 j hj
   ·rw[fN]at hj;subst hj;exact hk
 ·rcases dC t' with ht|⟨I,U,ht⟩
  ·subst ht;have F:s++[(⟨b,r⟩:gY)]=(t++[B])++[D]:=by rw[e];simp
   obtain⟨h1,h2⟩:=cQ F V;cases h2;exact H.chain t B ⟨b,k::r⟩ [] (by rw[h1];simp)
  ·rw[cT]at ht;subst ht;have F:s++[(⟨b,r⟩:gY)]=(t++B::D::I)++[U]:=by rw[e];simp
   obtain⟨h1,h2⟩:=cQ F V;exact H.chain t B D (I++[⟨b,k::r⟩]) (by rw[h1];simp)
 ·cases s with
  |nil=>
   cases ht;exact H.bot ⟨b,k::r⟩ [] V
  |cons e0 s=>
   cases ht;exact H.bot e (s++[⟨b,k::r⟩]) V
theorem Dfs.push(H:Dfs f no come (s++[⟨b,k::r⟩]) left)(hc:ixD come k=aL)(Y:k≠no):Dfs f no (come.set k.toNat aZ) (s++[⟨b,r⟩]++[⟨k,nextL f k⟩]) left:=by
 obtain⟨W,I,aa⟩:=H.els ⟨b,k::r⟩ (by simp);have F:k∈nextL f b:=by rw[show nextL f b=W++k::r from I];simp
 have hk:=E2 F;have Z:k.toNat < come.length:=by rw[H.len];exact hk.2
 have D:∀c:Int,0<=c->ixD (come.set k.toNat aZ) c=(a8 (c=k)||ixD come c):=λc h=>Yv hk.1 Z h
 have u:∀c a:Int,c∈nextL f a->(c=no\/ixD come c=aZ)->c=no\/ixD (come.set k.toNat aZ) c=aZ:=λc a ha h=>by
  rcases h with h|h
  ·exact .inl h
  ·refine .inr ?_;rw[D c (E2 ha).1,h,aY]
 have B:(s++[(⟨b,r⟩:gY)]++[(⟨k,nextL f k⟩:gY)]).map (·.b)=(s++[(⟨b,k::r⟩:gY)]).map (·.b)++[k]:=by simp
 have ab:RchF f no b:=H.rch b (.inr (by simp));refine⟨by rw[eQ];exact H.len,λe he=>?_,λc h0=>?_,λc h=>?_,?_,λc h j hj=>u j c hj (H.done c h j hj),λc h=>?_,λt L U t' e=>?_,λe t ht=>?_,?_⟩
 ·rcases eW.1 he with he|he
  ·rcases eW.1 he with he|he
   ·obtain⟨d,h1,h2⟩:=H.els e (eX _ he);exact⟨d,h1,λj hj=>u j e.b (by rw[h1];exact eX _ hj) (h2 j hj)⟩
   ·rw[fN]at he;subst he;refine⟨W++[k],by rw[show nextL f b=W++k::r from I];simp,λj hj=>?_⟩;rcases eW.1 hj with hj|hj
    ·exact u j b (by rw[show nextL f b=W++k::r from I];exact eX _ hj) (aa j hj)
    ·rw[fN]at hj;subst hj;exact .inr (by rw[D j hk.1];simp)
  ·rw[fN]at he;subst he;exact⟨[],rfl,λj hj=>by cases hj⟩
 ·rw[D c h0,B];by_cases N:c=k
  ·subst N;simp
  ·have:=H.mem c h0;simp only[N,decide_false,aO,eW,fN,or_false]at this⊢;exact this
 ·rw[B]at h;rcases h with h|h
  ·exact H.rch c (.inl h)
  ·rcases eW.1 h with h|h
   ·exact H.rch c (.inr h)
   ·rw[fN]at h;subst h;exact ab.step F Y
 ·rw[B,<-cP];refine fQ.2 ⟨H.nod,by simp,λa ha c O=>?_⟩;rw[fN]at O;subst O;intro e;subst e;have:=(H.mem a hk.1).2 (eW.1 ha);rw[hc]at this;cases this
 ·rcases H.par c h with h0|⟨q,h1,h2⟩
  ·exact .inl h0
  ·refine .inr ⟨q,h1,?_⟩;rcases h2 with h2|h2
   ·exact .inl (by rw[B];exact eX _ h2)
   ·exact .inr h2
 ·rcases dC t' with ht|⟨t0,e3,ht⟩
  ·subst ht;have e':(s++[(⟨b,r⟩:gY)])++[⟨k,nextL f k⟩]=(t++[L])++[U]:=by rw[e];simp
   obtain⟨h1,h2⟩:=cQ e' V;obtain⟨_,T⟩:=cQ h1 V;cases h2;cases T;exact F
  ·rw[cT]at ht;subst ht;have e':(s++[(⟨b,r⟩:gY)])++[⟨k,nextL f k⟩]=(t++L::U::t0)++[e3]:=by rw[e];simp
   obtain⟨h1,_⟩:=cQ e' V;rcases dC t0 with ht|⟨t1,e4,ht⟩
   ·subst ht;have J:s++[(⟨b,r⟩:gY)]=(t++[L])++[U]:=by rw[h1];simp
    obtain⟨T,h4⟩:=cQ J V;cases h4;exact H.chain t L ⟨b,k::r⟩ [] (by rw[T];simp)
   ·rw[cT]at ht;subst ht;have J:s++[(⟨b,r⟩:gY)]=(t++L::U::t1)++[e4]:=by rw[h1];simp
    obtain⟨T,_⟩:=cQ J V;exact H.chain t L U (t1++[⟨b,k::r⟩]) (by rw[T];simp)
 ·cases s with
  |nil=>
   cases ht;exact H.bot ⟨b,k::r⟩ [] V
  |cons e0 s=>
   cases ht;exact H.bot e (s++[⟨b,k::r⟩]) V
 ·rw[D 0 (cE 0),H.zero,aY]
def muD(q:List Bool×List gY×List Int):Nat:=4 *(q.1.filter λc=>!c).length+(q.2.1.map λe=>e.next.length+1).sum
theorem Hi(B:l.Nodup)(u:∀b∈l,0<=b/\b.toNat < n):l.length<=n:=by
 have:=E9 (m:=(fY n).map Int.ofNat) B λb hb=>by
  obtain⟨h0,h1⟩:=u b hb;exact fG.2 ⟨b.toNat,fK.2 h1,by show((b.toNat:Nat):Int)=b;omega⟩
 simpa using this
theorem Dfs.few(H:Dfs f no come s left):left.length+s.length<=f.blocks.length:=by
 have:=Hi H.nod λc hc=>(H.rch c (eW.1 hc)).lt
 simpa using this
theorem YG:∀{l:List Bool} {i:Nat},l[i]? =jL aL->((l.set i aZ).filter λc=>!c).length+1=(l.filter λc=>!c).length
 | [],i,h=>by simp at h
 |c::l,0,h=>by
  simp at h;subst h;simp
 |c::l,i+1,h=>by
  have u:=YG (l:=l) (i:=i) (by simpa using h);cases c <;> simp[u]
theorem Agn{l:List Bool}{k:Int}(h:k.toNat < l.length)(hc:ixD l k=aL):l[k.toNat]? =jL aL:=by
 unfold ixD at hc;rw[dT,dW h]at hc;rw[dW h];exact congrArg jL hc
structure WalkP(f:Func)(no:Int)(l:List Int):Prop where
 nod:l.Nodup
 mem:∀b,b∈l↔RchF f no b
 par:∀b∈l,b=0\/∃k,b∈nextL f k/\∃l1 l2 l3,l=l1++b::(l2++k::l3)
theorem Dfs.fin(H:Dfs f no come [] left):WalkP f no left:=by
 have u:=(H.mem 0 (cE 0)).1 H.zero;simp only[eV,fT,or_false]at u;refine⟨by simpa using H.nod,λb=>⟨λh=>H.rch b (.inl h),λh=>?_⟩,λb hb=>?_⟩
 ·induction h with
  |start _ _=>exact u
  |@step a b h1 h2 D B=>
   rcases H.done a B b h2 with e|e
   ·exact absurd e D
   ·have:=(H.mem b (E2 h2).1).1 e;simpa using this
 ·rcases H.par b hb with h|⟨k,h1,h2⟩
  ·exact .inl h
  ·rcases h2 with h2|h2
   ·simp at h2
   ·exact .inr ⟨k,h1,h2⟩
theorem Azq{s:List α}{e:α}(h:s.length<=2097152):bE.wrap ((((s++[e]).length:Nat):Int) - 1)=(s.length:Int):=by
 rw[bI _ (by simp;omega)];simp
theorem Alf[Inhabited α](s:List α)(e:α):ixD (s++[e]) (s.length:Int)=e:=B8 (k:=s.length) (by simp)
theorem Ac6(c:g8 f):∀q,Dfs f no q.1 q.2.1 q.2.2->∃r,(iG (FD f no) q).to r/\WalkP f no r:=by
 refine iI (λq=>Dfs f no q.1 q.2.1 q.2.2) muD (WalkP f no) ?_;rintro⟨come,st,left⟩ H;have H:Dfs f no come st left:=H;have hn:=c.small.blocks;rcases dC st with N|⟨s,e,N⟩
 ·subst N;refine⟨.inr left,AB (by simp) (Ag _),(λO h=>by cases h),λr h=>?_⟩;cases h;exact H.fin
 ·rw[cT]at N;subst N;have u:=H.few;have U:s.length<=2097152:=by simp at u;omega
  have hw:=Azq (s:=s) (e:=e) U;have hl:=Alf s e;have B:Ci (s++[e]) (s.length:Int)=aZ:=Fb (by simp);have J:∀e':gY,(s++[e]).set s.length e'=s++[e']:=λe'=>by simp
  obtain⟨b,nx⟩:=e;have W:RchF f no b:=H.rch b (.inr (by simp));have ad:=W.lt;have F:wfB .i64 b=aZ:=by
   unfold wfB;simp[Lit.wf,bG,bF,bH,bD];omega
  simp only[FD];rw[hw,hl,cF];simp only[J];cases nx with
  |nil=>
   refine⟨.inl (come,s,left++[b]),Az (by simp) (Ae B (Az (by simp) (Ae F (Ae ?_ (Ae ?_ ?_))))),λO h=>?_,(λr h=>by cases h)⟩
   ·unfold EZ cC;simp at u⊢;omega
   ·unfold slB;simp
   ·rw[List.take_left' V];exact Ag _
   ·cases h;refine⟨H.pop,?_⟩;simp[muD]
  |cons k r=>
   obtain⟨d0,aa,_⟩:=H.els ⟨b,k::r⟩ (by simp);have Z:k∈nextL f b:=by rw[show nextL f b=d0++k::r from aa];simp
   have hk:=E2 Z;have h0:ixD (k::r) 0=k:=rfl;have I:slD (k::r) 1 (((k::r).length:Nat):Int)=r:=by
    unfold slD;simp
   have L:Ci come k=aZ:=BJ.2 ⟨hk.1,by rw[H.len];exact hk.2⟩;have Y:Gs ⟨b,r⟩=aZ:=F;have T:wfB .i64 k=aZ:=by
    unfold wfB;simp[Lit.wf,bG,bF,bH,bD];omega
   have D:∀{x:M ((List Bool×List gY×List Int)⊕List Int)} {y},x.to y->(iB (Ci (k::r) 0) (iB (slB (k::r) 1 (((k::r).length:Nat):Int)) (iB (Gs ⟨b,r⟩) (iB (Ci come k) x)))).to y:=λhx=>
    Ae V (Ae (by unfold slB;simp;omega) (Ae Y (Ae L hx)))
   simp only[h0,I];cases hc:(!(ixD come k)&&(k !=no))with
   |false=>
    have ab:k=no\/ixD come k=aZ:=by
     cases h1:ixD come k with
     |true=>exact .inr V
     |false=>rw[h1]at hc;simp at hc;exact .inl hc
    refine⟨.inl (come,s++[⟨b,r⟩],left),Az (by simp) (Ae B (AB (by simp;omega) (D (AB V (Ag _))))),λO h=>?_,(λr h=>by cases h)⟩;cases h;refine⟨H.skip ab,?_⟩;simp[muD]
   |true=>
    simp only[bne_iff_ne,ne_eq,zat]at hc;refine⟨.inl (come.set k.toNat aZ,s++[⟨b,r⟩]++[⟨k,nextL f k⟩],left),Az (by simp) (Ae B (AB (by simp;omega) (D (Az V (Ae L (Am (Ae (BM.2 c) (Ag _)) (Ae T (Ae ?_ (Ag _))))))))),λO h=>?_,(λr h=>by cases h)⟩
    ·unfold EZ cC;simp at u⊢;omega
    ·cases h;refine⟨H.push hc.1 hc.2,?_⟩;have hf:=YG (Agn (by rw[H.len];exact hk.2) hc.1);have ac:=Ug f k;simp[muD];omega
theorem Ac5(c:g8 f)(no:Int):∃l,(Fd f no).to l/\WalkP f no l:=by
 unfold Fd;have L:=c.small.blocks;cases hc:(((f.blocks.length:Int) ==0)||(no ==0))with
 |true=>
  refine⟨[],Az V (Ag _),fS,λb=>⟨(λh=>by cases h),λh=>?_⟩,(λb hb=>by cases hb)⟩;exfalso;induction h with
  |start h1 h2=>
   simp only[aW,beq_iff_eq]at hc;rcases hc with h|h
   ·omega
   ·exact h1 h
  |step _ _ _ I=>exact I
 |false=>
  simp only[aV,beq_eq_false_iff_ne,ne_eq]at hc;have u:0 < f.blocks.length:=by omega
  have B:∀b:Int,ixD (gE f.blocks.length aL) b=aL:=λb=>by
   unfold ixD;rw[dT,eC];split <;> rfl
  have D:∀b:Int,0<=b->ixD ((gE f.blocks.length aL).set (0:Int).toNat aZ) b=a8 (b=0):=λb hb=>by
   rw[Yv (cE 0) (by simpa using u) hb,B,aX]
  obtain⟨l,h1,h2⟩:=Ac6 (no:=no) c ((gE f.blocks.length aL).set (0:Int).toNat aZ,[⟨0,nextL f 0⟩],[]) ⟨by simp,λe F=>by
   rw[fN]at F;subst F;exact⟨[],rfl,λk hk=>by cases hk⟩,(λb hb=>by rw[D b hb];simp),λb hb=>by
   simp at hb;subst hb;exact .start hc.2 u,by simp,λb hb=>by simp at hb,λb hb=>by simp at hb,λs O N J e=>by
   have:=congrArg List.length e;simp at this;omega,λe s F=>by cases F;rfl,by rw[D 0 (cE 0)];rfl⟩
  refine⟨l,AB V (Ae ?_ (Ae ?_ (Am (Ae (BM.2 c) (Ag _)) (Ae V (Am ?_ (Ag _)))))),h2⟩
  ·unfold VW cC;simp;omega
  ·exact BJ.2 ⟨by omega,by simpa using u⟩
  ·rw[cF];exact h1
def IU(n:Nat)(l:List Int)(k:Nat):List Bool:=(fY n).map λ(b:Nat)=>(l.take k).contains (b:Int)
theorem OD(n:Nat)(l:List Int)(k:Nat):(IU n l k).length=n:=by simp[IU]
theorem Ao3(n:Nat)(l:List Int):IU n l 0=gE n aL:=by
 unfold IU;refine dE λb=>?_
 rw[dZ,eC];by_cases hb:b < n
 ·rw[eB hb,if_pos hb];simp
 ·rw[dX (by simpa using hb),if_neg hb];rfl
theorem Adk{k:Nat}(hx:l[k]? =jL x)(h0:0<=x)(u:x.toNat < n):(IU n l k).set x.toNat aZ=IU n l (k+1):=by
 refine dE λb=>?_
 rw[eD,OD];have ht:l.take (k+1)=l.take k++[x]:=by rw[gI,hx];rfl
 by_cases e:x.toNat=b
 ·rw[if_pos e,if_pos (by omega)];unfold IU;rw[dZ,eB (by omega),ht];have:(b:Int)=x:=by omega
  simp[this]
 ·rw[if_neg e];unfold IU;rw[dZ,dZ,ht];by_cases hb:b < n
  ·rw[eB hb];have:(b:Int)≠x:=by omega
   simp[this]
  ·rw[dX (by simpa using hb)];rfl
theorem Ajp{b:Nat}(hb:b < n):ixD (IU n l l.length) (b:Int)=l.contains (b:Int):=by
 unfold IU;exact B8 (k:=b) (by rw[dZ,eB hb,gJ];rfl)
theorem ZM(c:g8 f):∃l,(Fd f (-1)).to l/\WalkP f (-1) l/\(GB f).to (IU f.blocks.length l l.length):=by
 obtain⟨l,h1,h2⟩:=Ac5 c (-1);have D:=c.small.blocks;have B:l.length<=f.blocks.length:=Hi h2.nod λb hb=>((h2.mem b).1 hb).lt
 refine⟨l,h1,h2,Ae (by unfold VW cC;simp;omega) (Am h1 (Am ?_ (Ag _)))⟩;rw[cF,<-Ao3 f.blocks.length l];refine BV (λk:Nat=>((k:Int),IU f.blocks.length l k)) l.length (λk hk=>?_) ?_ (jF _)
 ·obtain⟨x,hx⟩:∃x,l[k]? =jL x:=⟨_,dW hk⟩
  have u:=((h2.mem x).1 (fH hx)).lt;simp only[Ey,B8 hx];rw[bI _ (by omega),show((k:Int)+1)=((k+1:Nat):Int)by omega,Adk hx u.1 u.2];exact Az (decide_eq_true (by omega)) (Ae (Fb hk) (Ae (BJ.2 ⟨u.1,by rw[OD];exact u.2⟩) (Ag _)))
 ·simp only[Ey];exact AB (decide_eq_false (by omega)) (Ag _)
theorem Akq(c:g8 f):∃l,(Fd f (-1)).to l/\WalkP f (-1) l/\(J2 f).to l.reverse:=by
 obtain⟨l,h1,h2⟩:=Ac5 c (-1);have B:=c.small.blocks;have u:l.length<=f.blocks.length:=Hi h2.nod λb hb=>((h2.mem b).1 hb).lt
 exact⟨l,h1,h2,Am h1 (Ae (decide_eq_true (by omega)) (Ag _))⟩
def IL(o:Int->List Int)(ks:List Int):List Int:=
 match ks.filter λk=>!(o k).isEmpty with
 | []=>[]
 |k::r=>r.foldl (λl j=>l.filter λx=>(o j).contains x) (o k)
theorem Ym{o:Int->List Int}{x:Int}:∀{r l:List Int},x∈r.foldl (λl j=>l.filter λx=>(o j).contains x) l↔x∈l/\∀j∈r,x∈o j
 | [],l=>by simp
 |j::r,l=>by
  rw[dQ,Ym (r:=r),fD];simp only[cV,eZ,forall_eq_or_imp];exact and_assoc
theorem Yl{o:Int->List Int}(h:∃k∈ks,o k≠[]):x∈IL o ks↔∀k∈ks,o k≠[]->x∈o k:=by
 have u:∀k,k∈(ks.filter λk=>!(o k).isEmpty)↔k∈ks/\o k≠[]:=λk=>by
  rw[fD];simp
 unfold IL;generalize (ks.filter λk=>!(o k).isEmpty)=fs at u;cases fs with
 |nil=>
  obtain⟨k,h1,h2⟩:=h;exact absurd ((u k).2 ⟨h1,h2⟩) (by simp)
 |cons a r=>
  simp only;rw[Ym];constructor
  ·rintro⟨h1,h2⟩ k hk hne;rcases eZ.1 ((u k).2 ⟨hk,hne⟩)with rfl|h3
   ·exact h1
   ·exact h2 k h3
  ·intro h1;exact⟨h1 a ((u a).1 (by simp)).1 ((u a).1 (by simp)).2,λj B=>h1 j ((u j).1 (fA _ B)).1 ((u j).1 (fA _ B)).2⟩
def Agr(l:List Int)(b:Int):List Int:=l.filter (λx=>decide (x < b))++b::l.filter λx=>decide (b < x)
theorem LW{b:Int}:x∈Agr l b↔x=b\/x∈l:=by
 unfold Agr;simp only[eW,eZ,fD,decide_eq_true_eq];constructor
 ·rintro(⟨h,_⟩|h|⟨h,_⟩)
  ·exact .inr h
  ·exact .inl h
  ·exact .inr h
 ·rintro(h|h)
  ·exact .inr (.inl h)
  ·rcases Int.lt_trichotomy x b with h1|h1|h1
   ·exact .inl ⟨h,h1⟩
   ·exact .inr (.inl h1)
   ·exact .inr (.inr ⟨h,h1⟩)
theorem WI{b:Int}:Agr l b≠[]:=by unfold Agr;simp
def S6(o:Int->List Int)(u:Int->List Int)(b:Int):List Int:=Agr (if b=0 then []else IL o (u b)) b
structure DomI(f:Func)(bf:Int->List Int)(o:Int->List Int):Prop where
 self:∀b,o b≠[]->b∈o b
 reach:∀b,o b≠[]->RchF f (-1) b
 all:∀b,o b≠[]->∀x,¬RchF f x b->x∈o b
 low:∀b,b≠0->o b≠[]->∀x,(∀k∈bf b,o k≠[]->x∈o k)->x∈o b
 has:∀b,b≠0->o b≠[]->∃k∈bf b,o k≠[]
section
variable{f:g9}{bf:Int->List Int}{o:Int->List Int}{b:Int}
def Ao2(o:Int->List Int)(b:Int)(l:List Int):Int->List Int:=λc=>if c=b then l else o c
theorem DomI.step(H:DomI f bf o)(U:∀b k,k∈bf b↔RchF f (-1) k/\b∈nextL f k\/(k∈bf b/\¬RchF f (-1) k))(hb:RchF f (-1) b)(hk:b≠0->∃k∈bf b,o k≠[]):DomI f bf (Ao2 o b (S6 o bf b))/\(o b≠[]->∀x∈S6 o bf b,x∈o b):=by
 have O:∀k,k∈bf b->o k≠[]->b∈nextL f k:=λk h1 h2=>by
  rcases(U b k).1 h1 with h|h
  ·exact h.2
  ·exact absurd (H.reach k h2) h.2
 have u:∀x,x∈S6 o bf b↔x=b\/(b≠0/\∀k∈bf b,o k≠[]->x∈o k):=λx=>by
  unfold S6;rw[LW];by_cases h0:b=0
  ·rw[if_pos h0];simp[h0]
  ·rw[if_neg h0,Yl (hk h0)];simp[h0]
 have I:o b≠[]->∀x∈S6 o bf b,x∈o b:=λhne x hx=>by
  rcases(u x).1 hx with h|⟨h0,h⟩
  ·subst h;exact H.self x hne
  ·exact H.low b h0 hne x h
 have hne:S6 o bf b≠[]:=WI;have F:∀c,Ao2 o b (S6 o bf b) c=if c=b then S6 o bf b else o c:=λ_=>rfl
 have J:∀c,o c≠[]->Ao2 o b (S6 o bf b) c≠[]:=λc hc=>by
  rw[F];split
  ·exact hne
  ·exact hc
 refine⟨⟨λc hc=>?_,λc hc=>?_,λc hc x hx=>?_,λc h0 hc x hx=>?_,λc h0 hc=>?_⟩,I⟩
 ·rw[F]at hc⊢;split
  ·rename_i e;subst e;exact(u c).2 (.inl V)
  ·rename_i e;rw[if_neg e]at hc;exact H.self c hc
 ·rw[F]at hc;by_cases e:c=b
  ·subst e;exact hb
  ·rw[if_neg e]at hc;exact H.reach c hc
 ·rw[F]at hc⊢;by_cases e:c=b
  ·subst e;rw[if_pos V];by_cases D:x=c
   ·exact(u x).2 (.inl D)
   ·refine(u x).2 (.inr ⟨λh0=>?_,λk T B=>H.all k B x λW=>hx (W.step (O k T B) λe=>D e.symm)⟩);subst h0;cases hb with
    |start _ Y=>exact hx (.start D Y)
    |step _ Z _=>exact hx (.start D (by have:=E2 Z;omega))
  ·rw[if_neg e]at hc⊢;exact H.all c hc x hx
 ·have L:∀k,o k≠[]->∀y∈Ao2 o b (S6 o bf b) k,y∈o k:=λk B y N=>by
   rw[F]at N;split at N
   ·rename_i e;rw[e]at B⊢;exact I B y N
   ·exact N
  by_cases e:c=b
  ·subst e;rw[F,if_pos V];exact(u x).2 (.inr ⟨h0,λk h1 h2=>L k h2 x (hx k h1 (J k h2))⟩)
  ·rw[F,if_neg e]at hc⊢;exact H.low c h0 hc x λk h1 h2=>L k h2 x (hx k h1 (J k h2))
 ·rw[F]at hc;obtain⟨k,h1,h2⟩:∃k∈bf c,o k≠[]:=by
   by_cases e:c=b
   ·subst e;exact hk h0
   ·rw[if_neg e]at hc;exact H.has c h0 hc
  exact⟨k,h1,J k h2⟩
theorem DomI.fin(H:DomI f bf o)(J:∀b k,RchF f (-1) k->b∈nextL f k->k∈bf b)(u:∀b,RchF f (-1) b->o b≠[])(B:∀b,RchF f (-1) b->S6 o bf b=o b)(hb:RchF f (-1) b):∀x,x∈o b↔¬RchF f x b:=λx=>by
 refine⟨λhx O=>?_,λh=>H.all b (u b hb) x h⟩;revert hx;induction O with
 |start h0 L=>
  intro hx;rw[<-B 0 hb]at hx;unfold S6 at hx;rw[if_pos V,LW]at hx;rcases hx with h|h
  ·exact h0 h
  ·cases h
 |@step a c h1 h2 N F=>
  intro hx;have I:RchF f (-1) a:=by
   clear F hx h2 N hb;induction h1 with
   |start _ L=>exact .start (by decide) L
   |@step p q _ hq _ F=>exact F.step hq (by have:=E2 hq;omega)
  rw[<-B c hb]at hx;unfold S6 at hx;rw[LW]at hx;rcases hx with h|h
  ·exact N h.symm
  ·split at h
   ·cases h
   ·have D:=J c a I h2;exact F I ((Yl ⟨a,D,u a I⟩).1 h a D (u a I))
end
theorem PV(h:Asc l):l.Nodup:=h.imp λh=>by omega
theorem M9(h:Asc l):Asc (l.filter p):=cH p h
theorem Y4{b:Int}(h:Asc l):Asc (Agr l b):=by
 unfold Agr Asc;rw[List.pairwise_append];refine⟨M9 h,fU.2 ⟨λx hx=>by simpa using(fD.1 hx).2,M9 h⟩,λx hx y hy=>?_⟩;have h1:x < b:=by simpa using(fD.1 hx).2
 rcases eZ.1 hy with rfl|hy
 ·exact h1
 ·have h2:b < y:=by simpa using(fD.1 hy).2
  omega
theorem Ap7{b:Int}(h:Asc l)(hb:b∈l):Agr l b=l:=GW (Y4 h) h λx=>by
 rw[LW];exact⟨λe=>e.elim (λe=>e▸hb) id,.inr⟩
theorem Vl:∀{l:List Int} {b:Int},Asc l->l.take (l.countP (· < b))=l.filter (λx=>decide (x < b))/\l.drop (l.countP (· < b))=l.filter λx=>!decide (x < b)
 | [],b,_=>by simp
 |x::l,b,h=>by
  unfold Asc at h;rw[fU]at h;obtain⟨h1,h2⟩:=Vl (b:=b) h.2;by_cases hx:x < b
  ·rw[cW (by simpa using hx),List.take_succ_cons,List.drop_succ_cons,h1,h2];simp[hx]
  ·have u:∀y∈l,¬y < b:=λy hy=>by have:=h.1 y hy;omega
   rw[List.countP_cons_of_neg (by simpa using hx),cY.2 (λy hy=>by simpa using u y hy)];refine⟨?_,?_⟩
   ·rw[List.take_zero,dK.2];intro y hy;rcases eZ.1 hy with rfl|hy
    ·simpa using hx
    ·simpa using u y hy
   ·rw[dA,dL.2];intro y hy;rcases eZ.1 hy with rfl|hy
    ·simpa using hx
    ·simpa using u y hy
theorem Alk{b:Int}(h:Asc l)(hb:b∉l):l.take (l.countP (· < b))++b::l.drop (l.countP (· < b))=Agr l b:=by
 obtain⟨h1,h2⟩:=Vl (b:=b) h;rw[h1,h2];unfold Agr;congr 2;refine dG λx hx=>?_
 have:x≠b:=λe=>hb (e▸hx)
 by_cases u:x < b
 ·rw[decide_eq_true u,decide_eq_false (by omega)];rfl
 ·rw[decide_eq_false u,decide_eq_true (by omega)];rfl
theorem Xp{m:List Int}(B:Asc l)(u:Asc m)(h:∀x∈l,x∈m)(hne:l≠m):l.length < m.length:=by
 have e:l=m.filter λx=>l.contains x:=GW B (M9 u) λx=>by
  rw[fD,cV];exact⟨λhx=>⟨h x hx,hx⟩,λhx=>hx.2⟩
 have h1:=eL (λx=>l.contains x) m;rw[<-e]at h1;rcases Nat.lt_or_eq_of_le h1 with h2|h2
 ·exact h2
 ·rw[e]at h2;have D:=List.length_filter_eq_length_iff.1 h2;exact absurd (e.trans (dL.2 D)) hne
theorem Ajk{k:Nat}(h:k < n)(u:n<=2147483648):bE.wrap ((k:Int)+1)=((k+1:Nat):Int):=by
 rw[bI _ (by omega)];omega
theorem Al0(a b:List Int)(N:a.length<=2147483648):(Ct a b).to (a ==b):=by
 unfold Ct;by_cases J:a.length=b.length
 ·refine AB (by simp[J]) ?_;have I:∀k,k<=a.length->a.take k=b.take k->(∃z,(iG (BO a b) (k:Int)).to z/\((z= .inl ()/\a=b)\/(z= .inr aL/\a≠b))):=by
   intro k hk;generalize O:a.length - k=m;induction m generalizing k with
   |zero=>
    intro F;refine⟨.inl (),iJ ?_,.inl ⟨rfl,?_⟩⟩
    ·simp only[BO];exact AB (decide_eq_false (by omega)) (Ag _)
    ·rw[gK (by omega),gK (by omega)]at F;exact F
   |succ m L=>
    intro F;have B:k < a.length:=by omega
    obtain⟨x,hx⟩:∃x,a[k]? =jL x:=⟨_,dW B⟩
    obtain⟨y,D⟩:∃y,b[k]? =jL y:=⟨_,dW (by omega)⟩
    by_cases u:x=y
    ·obtain⟨z,h1,h2⟩:=L (k+1) (by omega) (by omega) (by rw[gI,gI,F,hx,D,u]);refine⟨z,iH ?_ h1,h2⟩;simp only[BO,B8 hx,B8 D];refine Az (decide_eq_true (by omega)) (Ae (Fb B) (Ae (Fb (by omega)) (AB (by simp[u]) ?_)));rw[Ajk B N];exact Ag _
    ·refine⟨.inr aL,iJ ?_,.inr ⟨rfl,λe=>u ?_⟩⟩
     ·simp only[BO,B8 hx,B8 D];exact Az (decide_eq_true (by omega)) (Ae (Fb B) (Ae (Fb (by omega)) (Az (by simp[u]) (Ag _))))
     ·subst e;rw[hx]at D;exact Option.some.inj D
  obtain⟨z,h1,h2⟩:=I 0 (jF _) V;rcases h2 with⟨rfl,e⟩|⟨rfl,e⟩
  ·rw[show(a ==b)=aZ from beq_iff_eq.2 e];exact iE h1 (Ag _)
  ·rw[show(a ==b)=aL from beq_eq_false_iff_ne.2 e];exact iF h1
 ·rw[show(a ==b)=aL from beq_eq_false_iff_ne.2 λe=>J (by rw[e])];exact Az (by simp;omega) (Ag _)
theorem Ac4(h:-9223372036854775808<=x/\x<=9223372036854775807):wfB .i64 x=aZ:=by
 unfold wfB;simp[Lit.wf,bG,bF,bH,bD];omega
theorem Tx(n:Int)(h:Asc l)(u:l.length<=2147483648):(C3 l n).to (((l.countP (· < n):Nat):Int),l.contains n):=
 Ae (by rw[aI];exact⟨SJ.2 h,decide_eq_true u⟩) (Ag _)
theorem Ahz{a b:List Int}(I:a.length<=2147483648)(hb:Asc b)(D:b.length<=2147483648)(F:∀x∈a,wfB .i64 x=aZ):(F3 a b).to (a.filter λx=>b.contains x):=by
 unfold F3;refine Am ?_ (Ag _);have B:=BV (step:=DY a b) (λk:Nat=>((k:Int),(a.take k).filter λx=>b.contains x)) a.length (r:=a.filter λx=>b.contains x) (λk hk=>?_) ?_ (j:=0) (jF _)
 ·simpa using B
 ·obtain⟨x,hx⟩:∃x,a[k]? =jL x:=⟨_,dW hk⟩
  simp only[DY,B8 hx];have u:=eL (λx=>b.contains x) (a.take k);rw[eR]at u;refine Az (decide_eq_true (by omega)) (Am (a:=(a.take (k+1)).filter λx=>b.contains x) (Ae (Fb hk) (Am (Tx x hb D) ?_)) ?_)
  ·rw[gI,hx,dF];cases hc:b.contains x with
   |true=>
    refine Az V (Ae (F x (fH hx)) (Ae ?_ ?_))
    ·generalize ((a.take k).filter λx=>b.contains x).length=q at u;unfold EZ cC;simp;omega
    ·simp only[jM,dH,hc,if_true,dM];exact Ag _
   |false=>
    refine AB V ?_;simp only[jM,dH,hc,dM,cR,aN,if_false];exact Ag _
  ·rw[Ajk hk I];exact Ag _
 ·simp only[DY,gJ];exact AB (decide_eq_false (by omega)) (Ag _)
def D7(out:List (List Int))(b:Int):List Int:=if 0<=b then out.getD b.toNat []else []
def J7(f:g9)(b:Int):List Int:=if 0<=b/\b.toNat < f.blocks.length then SE f b.toNat else []
theorem Afw{f:g9}{k:Int}{x:Blk f}(h:x∈Hg f k):0<=k:=by
 unfold Hg at h;split at h
 ·assumption
 ·cases h
theorem EC{f:g9}{b k:Int}:k∈J7 f b↔b∈nextL f k:=by
 unfold J7;constructor
 ·intro h;split at h
  ·rename_i hb;obtain⟨B,⟨x,hx,e⟩,rfl⟩:=(J6 hb.2 k).1 h;refine fG.2 ⟨x,hx,?_⟩;show(x.1:Int)=b;omega
  ·cases h
 ·intro h;have u:=E2 h;rw[if_pos u];obtain⟨x,hx,e⟩:=fG.1 h;have hk:=Afw hx;refine(J6 u.2 k).2 ⟨k.toNat,⟨x,?_,?_⟩,by omega⟩
  ·rw[cG hk];exact hx
  ·have:(x.1:Int)=b:=e;omega
structure RowsA(f:Func)(out:List (List Int)):Prop where
 len:out.length=f.blocks.length
 asc:∀r∈out,Asc r
 rng:∀r∈out,∀x∈r,0<=x/\x.toNat < f.blocks.length
section
variable{f:g9}{out:List (List Int)}
theorem Mz{b:Int}(h0:0<=b):D7 out b=ixD out b:=by unfold D7 ixD;rw[if_pos h0];rfl
theorem XY{b:Int}(h:D7 out b≠[]):D7 out b∈out:=by
 unfold D7 at h⊢;split
 ·rename_i h0;rw[if_pos h0]at h;rw[dT]at h⊢;cases e:out[b.toNat]? with
  |none=>rw[e]at h;exact absurd V h
  |some r=>exact fH e
 ·rename_i h0;rw[if_neg h0]at h;exact absurd V h
theorem Lx(H:RowsA f out)(b:Int):Asc (D7 out b):=by
 by_cases h:D7 out b= []
 ·rw[h];exact cJ
 ·exact H.asc _ (XY h)
theorem RU(H:RowsA f out){b:Int}(hx:x∈D7 out b):0<=x/\x.toNat < f.blocks.length:=H.rng _ (XY (fO hx)) x hx
theorem Aj0{b:Int}(h0:0<=b)(hb:b.toNat < out.length):D7 (out.set b.toNat l)=Ao2 (D7 out) b l:=by
 funext c;show D7 (out.set b.toNat l) c=if c=b then l else D7 out c
 unfold D7;by_cases hc:c=b
 ·subst hc;rw[if_pos h0,if_pos V,dT,eF hb];rfl
 ·rw[if_neg hc];by_cases h1:0<=c
  ·rw[if_pos h1,if_pos h1,dT,eE (by omega),<-dT]
  ·rw[if_neg h1,if_neg h1]
theorem RowsA.set(H:RowsA f out){b:Nat}(B:Asc l)(u:∀x∈l,0<=x/\x.toNat < f.blocks.length):RowsA f (out.set b l):=
 ⟨by simp[H.len],λr h=>(fJ h).elim (H.asc r) λe=>e▸B,λr h=>(fJ h).elim (H.rng r) λe=>e▸u⟩
theorem YC{o:Int->List Int}:∀(r l:List Int),(r.foldl (λl j=>l.filter λx=>(o j).contains x) l).Sublist l
 | [],_=>List.Sublist.refl _
 |_::r,_=>(YC r _).trans List.filter_sublist
theorem Yo{o:Int->List Int}(ks:List Int):IL o ks= []\/∃k∈ks,(IL o ks).Sublist (o k):=by
 unfold IL;cases e:ks.filter λk=>!(o k).isEmpty with
 |nil=>exact .inl V
 |cons k r=>exact .inr ⟨k,(fD.1 (e▸fB:k∈ks.filter λk=>!(o k).isEmpty)).1,YC r _⟩
theorem Se(H:RowsA f out)(ks:List Int):Asc (IL (D7 out) ks):=by
 rcases Yo (o:=D7 out) ks with h|⟨k,_,h⟩
 ·rw[h];exact cJ
 ·exact(Lx H k).sublist h
theorem Oi(H:RowsA f out)(hx:x∈IL (D7 out) ks):0<=x/\x.toNat < f.blocks.length:=by
 rcases Yo (o:=D7 out) ks with h|⟨k,_,h⟩
 ·rw[h]at hx;cases hx
 ·exact RU H (h.subset hx)
theorem Af3{o:Int->List Int}{k:Int}:IL o (ks++[k])=if(o k).isEmpty then IL o ks else if ks.any (λk=>!(o k).isEmpty)then(IL o ks).filter (λx=>(o k).contains x)else o k:=by
 unfold IL;rw[dF];cases hk:(o k).isEmpty with
 |true=>simp[hk]
 |false=>
  simp only[dH,hk,aS,if_true,dM,aN,if_false];cases e:ks.filter λk=>!(o k).isEmpty with
  |nil=>
   rw[show ks.any (λk=>!(o k).isEmpty)=aL from ?_]
   ·simp
   ·rw[cN];exact dK.1 e
  |cons a r=>
   rw[show ks.any (λk=>!(o k).isEmpty)=aZ from ?_]
   ·simp
   ·have:a∈ks.filter λk=>!(o k).isEmpty:=e▸fB
    exact cO.2 ⟨a,(fD.1 this).1,(fD.1 this).2⟩
theorem KY(h:Asc l)(u:∀x∈l,0<=x/\x.toNat < n):l.length<=n:=Hi (PV h) u
theorem Apy(c:g8 f)(H:RowsA f out){r2:List (List Int)}{i:Int}(I:ixD r2 (ixD r1 i)=ks)(hk:∀k∈ks,0<=k/\k.toNat < f.blocks.length)(O:ks.length<=2147483648):
 (iG (De r1 r2 out i) ([],aL,0)).to (IL (D7 out) ks):=by
 have T:=c.small.blocks;have J:=BV (step:=De r1 r2 out i) (λk:Nat=>(IL (D7 out) (ks.take k),(ks.take k).any (λk=>!(D7 out k).isEmpty),(k:Int))) ks.length (r:=IL (D7 out) ks) (λk B=>?_) ?_ (j:=0) (jF _)
 ·exact J
 ·obtain⟨x,hx⟩:∃x,ks[k]? =jL x:=⟨_,dW B⟩
  have u:=hk x (fH hx);have D:Ci out x=aZ:=BJ.2 ⟨u.1,by rw[H.len];exact u.2⟩;simp only[De,I,B8 hx,<-Mz (out:=out) u.1];refine Az (decide_eq_true (by omega)) (Am (Ae (Fb B) (Ae D (a:=(IL (D7 out) (ks.take (k+1)),(ks.take (k+1)).any (λk=>!(D7 out k).isEmpty))) ?_)) ?_)
  ·rw[gI,hx,jM,Af3,List.any_append];cases N:(D7 out x).isEmpty with
   |true=>
    refine Az V ?_;simp only[if_true,cM,N,aU,List.any_nil,aX];exact Ag _
   |false=>
    refine AB V ?_;simp only[aN,if_false,cM,N,aS,Bool.true_or,aY];cases U:(ks.take k).any (λk=>!(D7 out k).isEmpty)with
    |false=>
     simp only[aN,if_false];exact Az V (Ae D (Ag _))
    |true=>
     simp only[if_true];have L:=Se H (ks.take k);refine AB V (Ae D (Am (Ahz ?_ (Lx H x) ?_ λy F=>?_) (Ag _)))
     ·have:=KY L λy F=>Oi H F
      omega
     ·have:=KY (Lx H x) λy F=>RU H F
      omega
     ·have:=Oi H F;exact Ac4 (by omega)
  ·rw[Ajk B O];exact Ag _
 ·simp only[De,I,gJ];exact AB (decide_eq_false (by omega)) (Ag _)
def CH(f:g9)(out:List (List Int))(b:Int):List Int:=S6 (D7 out) (J7 f) b
theorem To(H:RowsA f out)(b:Int):Asc (CH f out b):=by
 unfold CH S6;refine Y4 ?_;split
 ·exact cJ
 ·exact Se H _
theorem Tn(H:RowsA f out){b:Int}(h0:0<=b/\b.toNat < f.blocks.length)(hx:x∈CH f out b):0<=x/\x.toNat < f.blocks.length:=by
 unfold CH S6 at hx;rcases LW.1 hx with h|h
 ·rw[h];exact h0
 ·split at h
  ·cases h
  ·exact Oi H h
theorem Ayl(c:g8 f)(H:RowsA f out){k:Nat}{b:Int}{more:Bool}(hb:r1[k]? =jL b)(U:r1.length<=2147483648)(h0:0<=b/\b.toNat < f.blocks.length):
 (CJ r1 (GV f f.blocks.length) (more,(k:Int),out)).to (.inl (more||(CH f out b !=D7 out b),((k+1:Nat):Int),out.set b.toNat (CH f out b))):=by
 have hn:=c.small.blocks;have hk:=(dY.1 hb).1;have O:ixD r1 (k:Int)=b:=B8 hb;have T:ixD (GV f f.blocks.length) b=J7 f b:=by
  unfold J7;rw[if_pos h0];rfl
 have B:Ci out b=aZ:=BJ.2 ⟨h0.1,by rw[H.len];exact h0.2⟩;have F:Ci (GV f f.blocks.length) b=aZ:=BJ.2 ⟨h0.1,by rw[Gb];exact h0.2⟩;have Z:∀x∈J7 f b,0<=x/\x.toNat < f.blocks.length:=λx hx=>by
  unfold J7 at hx;rw[if_pos h0]at hx;obtain⟨k',N,rfl⟩:=(J6 h0.2 x).1 hx;exact⟨by omega,by simpa using(Ir N).1⟩
 have aa:(J7 f b).length<=2147483648:=by
  have:J7 f b∈GV f f.blocks.length:=by
   rw[<-T];exact fH (BP F)
  have:=SD f f.blocks.length _ this;omega
 have Y:=Apy c H (r1:=r1) (r2:=GV f f.blocks.length) (i:=(k:Int)) (ks:=J7 f b) (by rw[O,T]) Z aa;have hL:∀l,l=(if b=0 then []else IL (D7 out) (J7 f b))->Asc l/\l.length<=2147483648:=λl U=>by
  have h1:Asc l:=by
   rw[U];split
   ·exact cJ
   ·exact Se H _
  refine⟨h1,?_⟩;have:=KY (n:=f.blocks.length) h1 λx hx=>by
   rw[U]at hx;split at hx
   ·cases hx
   ·exact Oi H hx
  omega
 obtain⟨l,u⟩:∃l,l=(if b=0 then []else IL (D7 out) (J7 f b)):=⟨_,rfl⟩
 obtain⟨L,J⟩:=hL l u;have I:CH f out b=Agr l b:=by unfold CH S6;rw[u]
 have hne:CH f out b≠[]:=by rw[I];exact WI
 have W:=To H b;have ac:=KY W λx hx=>Tn H h0 hx
 simp only[CJ,O];refine Az (decide_eq_true (by omega)) (Am (Ae (Fb hk) (Ae F (Am Y (Am (a:=l) ?_ (Am (Tx b L J) (Am (a:=CH f out b) ?_ (Ae B (Am (a:=(CH f out b ==D7 out b)) ?_ (b:=(more||(CH f out b !=D7 out b),out.set b.toNat (CH f out b))) ?_)))))))) ?_)
 ·by_cases D:b=0
  ·rw[u,if_pos D];exact Az (by simp[D]) (Ag _)
  ·rw[u,if_neg D];exact AB (by simp[D]) (Ag _)
 ·cases hc:l.contains b with
  |true=>
   refine AB V ?_;rw[I,Ap7 L (cV.1 hc)];exact Ag _
  |false=>
   have ab:l.countP (λx=>decide (x < b))<=l.length:=cZ;refine Az V (Am (Ae (decide_eq_true J) (Ag _)) (Ae (Ac4 (by omega)) (Ae ?_ (Ae (decide_eq_true J) ?_))))
   ·exact decide_eq_true ⟨by simp only;omega,by simp only[cF];exact ab⟩
   ·simp only[cF];rw[I,<-Alk L (λe=>by rw[cV.2 e]at hc;cases hc)];exact Ag _
 ·rw[Mz h0.1];exact Al0 _ _ (by omega)
 ·cases N:(CH f out b ==D7 out b)with
  |true=>
   refine AB V ?_;have e:CH f out b=D7 out b:=beq_iff_eq.1 N;rw[show(CH f out b !=D7 out b)=aL from by unfold bne;rw[N];rfl,aX];rw[show out.set b.toNat (CH f out b)=out from ?_]
   ·exact Ag _
   ·rw[e,Mz h0.1];have hg:=BP B;refine dE λj=>?_
    rw[eD];split
    ·rename_i hj;subst hj;rw[if_pos (BJ.1 B).2,hg]
    ·rfl
  |false=>
   refine Az V (Ae B (Ae ?_ ?_))
   ·cases hs:CH f out b with
    |nil=>exact absurd hs hne
    |cons _ _=>rfl
   ·rw[show(CH f out b !=D7 out b)=aZ from by unfold bne;rw[N];rfl,aY];exact Ag _
 ·rw[Ajk hk U];exact Ag _
end
theorem Adr{α:Type}{g:α->Nat}:∀{l:List α} {i:Nat} {x y:α},l[i]? =jL x->((l.set i y).map g).sum+g x=(l.map g).sum+g y
 | [],_,_,_,h=>by simp at h
 |a::l,0,x,y,h=>by
  simp at h;subst h;simp only[List.set_cons_zero,eT,gH];omega
 |a::l,i+1,x,y,h=>by
  have:=Adr (g:=g) (l:=l) (i:=i) (x:=x) (y:=y) (by simpa using h);simp only[List.set_cons_succ,eT,gH];omega
section
variable{f:g9}
def muA(f:g9)(out:List (List Int)):Nat:=(out.map λl=>if l.isEmpty then f.blocks.length+1 else l.length).sum
structure OrdP(f:Func)(ord:List Int):Prop where
 len:ord.length<=f.blocks.length
 mem:∀b,b∈ord↔RchF f (-1) b
 par:∀(j:Nat) (b:Int),ord[j]? =some b->b=0\/∃(k:Int) (i:Nat),i < j/\ord[i]? =some k/\b∈nextL f k
theorem Auk(H:WalkP f (-1) l):OrdP f l.reverse:=by
 refine⟨?_,λb=>by rw[fM];exact H.mem b,λj b L=>?_⟩
 ·rw[eP];exact Hi H.nod λb hb=>((H.mem b).1 hb).lt
 ·have hb:b∈l:=fM.1 (fH L);rcases H.par b hb with h|⟨k,h1,U,B,u,h2⟩
  ·exact .inl h
  ·refine .inr ⟨k,u.length,?_,?_,h1⟩
   ·have D:l.reverse.Nodup:=List.pairwise_reverse.2 (H.nod.imp λh=>h.symm);have T:l.reverse[u.length+1+B.length]? =jL b:=by
     rw[h2];simp only[gF,gG,cP,cU,fP];rw[dV (by simp;omega)];simp only[eP];rw[show u.length+1+B.length - u.length=B.length+1 by omega,List.getElem?_cons_succ,dV (by simp)];simp
    have W:j=u.length+1+B.length:=by
     obtain⟨I,O⟩:=dY.1 L;obtain⟨F,N⟩:=dY.1 T;have J:=fV.1 D;rcases i8 j (u.length+1+B.length)with h|h|h
     ·exact absurd (O.trans N.symm) (J _ _ I F h)
     ·exact h
     ·exact absurd (N.trans O.symm) (J _ _ F I h)
    omega
   ·rw[h2];simp only[gF,gG,cP,cU,fP];rw[dV (by simp)];simp
structure RndI(f:Func)(ord:List Int)(out0:List (List Int))(more:Bool)(k:Nat)(out:List (List Int)):Prop where
 rows:RowsA f out
 dom:DomI f (J7 f) (D7 out)
 known:∀(j:Nat) (b:Int),j < k->ord[j]? =some b->D7 out b≠[]
 same:more=false->out=out0/\∀(j:Nat) (b:Int),j < k->ord[j]? =some b->CH f out b=D7 out b
 le:muA f out<=muA f out0
 lt:more=true->muA f out < muA f out0
theorem AAx(f:g9)(b k:Int):k∈J7 f b↔RchF f (-1) k/\b∈nextL f k\/(k∈J7 f b/\¬RchF f (-1) k):=by
 by_cases h:RchF f (-1) k
 ·rw[EC];exact⟨λe=>.inl ⟨h,e⟩,λe=>e.elim (·.2) λe=>absurd h e.2⟩
 ·exact⟨λe=>.inr ⟨e,h⟩,λe=>e.elim (λe=>absurd e.1 h) (·.1)⟩
theorem RndI.next{D out:List (List Int)}{more:Bool}{k:Nat}{b:Int}(O:OrdP f ord)(H:RndI f ord D more k out)(hb:ord[k]? =jL b):RndI f ord D (more||(CH f out b !=D7 out b)) (k+1) (out.set b.toNat (CH f out b)):=by
 have hr:=(O.mem b).1 (fH hb);have W:=hr.lt;have U:b.toNat < out.length:=by rw[H.rows.len];exact W.2
 have hk:b≠0->∃k∈J7 f b,D7 out k≠[]:=λh0=>by
  rcases O.par k b hb with h|⟨q,i,hi,hq,hn⟩
  ·exact absurd h h0
  ·exact⟨q,EC.2 hn,H.known i q hi hq⟩
 obtain⟨hD,hS⟩:=H.dom.step (AAx f) hr hk;have B:=Aj0 (out:=out) (l:=CH f out b) W.1 U;have L:=To H.rows b;have N:∀x∈CH f out b,0<=x/\x.toNat < f.blocks.length:=λx hx=>Tn H.rows W hx
 have hne:CH f out b≠[]:=by unfold CH S6;exact WI
 have F:out[b.toNat]? =jL (D7 out b):=by
  rw[Mz W.1];exact BP (BJ.2 ⟨W.1,U⟩)
 have Z:=Adr (g:=λl:List Int=>if l.isEmpty then f.blocks.length+1 else l.length) (y:=CH f out b) F;have u:(if(CH f out b).isEmpty then f.blocks.length+1 else(CH f out b).length)=(CH f out b).length:=by
  cases hs:CH f out b with
  |nil=>exact absurd hs hne
  |cons _ _=>rfl
 have ab:=KY L N;simp only[u]at Z;have Y:CH f out b≠D7 out b->(CH f out b).length < (if(D7 out b).isEmpty then f.blocks.length+1 else(D7 out b).length):=λI=>by
  cases ho:D7 out b with
  |nil=>simp;omega
  |cons x l=>
   have h1:D7 out b≠[]:=by rw[ho];simp
   have:=Xp L (Lx H.rows b) (hS h1) I;rw[ho]at this;exact this
 have aa:∀c,D7 out c≠[]->D7 (out.set b.toNat (CH f out b)) c≠[]:=λc hc=>by
  rw[B];unfold Ao2;split
  ·exact hne
  ·exact hc
 have T:muA f (out.set b.toNat (CH f out b))<=muA f out/\(CH f out b≠D7 out b->muA f (out.set b.toNat (CH f out b)) < muA f out):=by
  by_cases I:CH f out b=D7 out b
  ·have:(CH f out b).length=(if(D7 out b).isEmpty then f.blocks.length+1 else(D7 out b).length):=by rw[<-I,u]
   exact⟨by unfold muA;omega,λh=>absurd I h⟩
  ·have:=Y I;exact⟨by unfold muA;omega,λ_=>by unfold muA;omega⟩
 have J:CH f out b=D7 out b->out.set b.toNat (CH f out b)=out:=λe=>by
  rw[e];refine dE λj=>?_
  rw[eD];split
  ·rename_i hj;subst hj;exact F.symm
  ·rfl
 have ac:=H.le;refine⟨H.rows.set L N,by rw[B];exact hD,λj c hj hc=>?_,λhm=>?_,by omega,λhm=>?_⟩
 ·by_cases e:j=k
  ·subst e;rw[hb]at hc;cases hc;rw[B];unfold Ao2;rw[if_pos V];exact hne
  ·exact aa c (H.known j c (by omega) hc)
 ·rw[aV]at hm;have I:CH f out b=D7 out b:=by simpa using hm.2
  obtain⟨h1,h2⟩:=H.same hm.1;rw[J I];refine⟨h1,λj c hj hc=>?_⟩;by_cases e:j=k
  ·subst e;rw[hb]at hc;cases hc;exact I
  ·exact h2 j c (by omega) hc
 ·rw[aW]at hm;rcases hm with hm|hm
  ·have:=H.lt hm;omega
  ·have:=T.2 (by simpa using hm);omega
theorem Aj3(c:g8 f)(O:OrdP f ord){u:List (List Int)}(h0:RowsA f u)(L:DomI f (J7 f) (D7 u)):
 ∃r,(iG (CJ ord (GV f f.blocks.length)) (aL,0,u)).to r/\RndI f ord u r.1 ord.length r.2:=by
 have N:=c.small.blocks;have J:=O.len;refine iI (step:=CJ ord (GV f f.blocks.length)) (λq=>∃k:Nat,q.2.1=(k:Int)/\k<=ord.length/\RndI f ord u q.1 k q.2.2) (λq=>ord.length - q.2.1.toNat) (λr=>RndI f ord u r.1 ord.length r.2) ?_ _ ⟨0,rfl,jF _,h0,L,(λj b D=>absurd D (jD _)),λ_=>⟨rfl,λj b D=>absurd D (jD _)⟩,iY _,λe=>by cases e⟩;rintro⟨more,i,out⟩ ⟨k,e,hk,H⟩;have e:i=(k:Int):=e;subst e;by_cases B:k < ord.length
 ·obtain⟨b,hb⟩:∃b,ord[k]? =jL b:=⟨_,dW B⟩
  have I:=((O.mem b).1 (fH hb)).lt;refine⟨_,Ayl c H.rows hb (by omega) I,λF h=>?_,λr h=>by cases h⟩;cases h;exact⟨⟨k+1,rfl,B,H.next O hb⟩,by simp only[cF];omega⟩
 ·have:k=ord.length:=by omega
  subst this;refine⟨.inr (more,out),?_,(λF h=>by cases h),λr h=>by cases h;exact H⟩;simp only[CJ];exact AB (decide_eq_false (by omega)) (Ag _)
structure AboveP(f:Func)(out:List (List Int)):Prop where
 rows:RowsA f out
 mem:∀b x,x∈D7 out b↔RchF f (-1) b/\¬RchF f x b
theorem Amu(c:g8 f):∃out,(Df f).to out/\AboveP f out:=by
 have hn:=c.small.blocks;obtain⟨l,_,hw,W⟩:=Akq c;have O:=Auk hw;have u:∀b,D7 (gE f.blocks.length ([]:List Int)) b= []:=λb=>by
  unfold D7;split
  ·rw[dT,eC];split <;> rfl
  ·rfl
 obtain⟨out,h1,h2⟩:=iI (step:=Io l.reverse (GV f f.blocks.length)) (λq=>RowsA f q.2/\DomI f (J7 f) (D7 q.2)/\(q.1=aL->∀b,RchF f (-1) b->D7 q.2 b≠[]/\CH f q.2 b=D7 q.2 b)) (λq=>if q.1 then muA f q.2+1 else 0) (λout=>AboveP f out) (by
  rintro⟨more,out⟩ ⟨F,I,U⟩;have F:RowsA f out:=F;cases more with
  |true=>
   obtain⟨⟨N,J⟩,Z,H⟩:=Aj3 c O F I;refine⟨.inl (N,J),Az V (Am Z (Ag _)),λT h=>?_,λr h=>by cases h⟩;cases h;refine⟨⟨H.rows,H.dom,λY b hb=>?_⟩,?_⟩
   ·obtain⟨j,L⟩:=eA ((O.mem b).2 hb);have D:=(dY.1 L).1;exact⟨H.known j b D L,(H.same Y).2 j b D L⟩
   ·cases N with
    |true=>
     have:muA f J < muA f out:=H.lt V;simp only[if_true];show muA f J+1 < muA f out+1;omega
    |false=>simp
  |false=>
   refine⟨.inr out,AB V (Ag _),(λT h=>by cases h),λr h=>?_⟩;cases h;have B:=U V;refine⟨F,λb x=>⟨λhx=>?_,λh=>?_⟩⟩
   ·have hb:=I.reach b (fO hx);exact⟨hb,(I.fin (λb k _ h=>EC.2 h) (λb hb=>(B b hb).1) (λb hb=>(B b hb).2) hb x).1 hx⟩
   ·exact(I.fin (λb k _ h=>EC.2 h) (λb hb=>(B b hb).1) (λb hb=>(B b hb).2) h.1 x).2 h.2)
  (aZ,gE f.blocks.length []) ⟨⟨by simp,λr h=>by rw[(fL.1 h).2];exact cJ,λr h x hx=>by rw[(fL.1 h).2]at hx;cases hx⟩,
   ⟨λb h=>absurd (u b) h,λb h=>absurd (u b) h,λb h=>absurd (u b) h,λb _ h=>absurd (u b) h,λb _ h=>absurd (u b) h⟩,λh=>by cases h⟩
 refine⟨out,Am W (Am (Ae (BM.2 c) (Ag _)) (Ae ?_ (Am ?_ (Ag _)))),h2⟩
 ·unfold VW cC;simp;omega
 ·rw[cF];exact h1
end
section
variable{f:g9}{out:List (List Int)}
theorem Pk{b k:Int}(h:b∈nextL f k):0<=k/\k.toNat < f.blocks.length:=by
 have hb:=E2 h;have h1:=(EC (f:=f)).2 h;unfold J7 at h1;rw[if_pos hb]at h1;obtain⟨q,h2,rfl⟩:=(J6 hb.2 k).1 h1;exact⟨by omega,by simpa using(Ir h2).1⟩
def Fy(f:g9)(out:List (List Int))(h:Int):List Int:=(J7 f h).filter λz=>(D7 out z).contains h
theorem N4(H:AboveP f out){b:Int}:b∈Fy f out h↔h∈nextL f b/\RchF f (-1) b/\¬RchF f h b:=by
 unfold Fy;rw[fD,EC,cV,H.mem]
theorem Oq(b:Int):(J7 f b).length<=2 * f.blocks.length:=by
 unfold J7;split
 ·unfold SE;rw[dT];cases h:(GV f f.blocks.length)[b.toNat]? with
  |none=>simp
  |some l=>exact SD f _ l (fH h)
 ·simp
theorem Aic(h0:0<=h)(u:h.toNat < f.blocks.length):Ci (GV f f.blocks.length) h=aZ/\ixD (GV f f.blocks.length) h=J7 f h:=by
 refine⟨BJ.2 ⟨h0,by rw[Gb];exact u⟩,?_⟩;unfold J7 SE ixD;rw[if_pos ⟨h0,u⟩];rfl
theorem Vg(c:g8 f):(F4 f).to (GV f f.blocks.length):=Ae (BM.2 c) (Ag _)
theorem KV{n:Int}(h:l.length<=2147483648):(En l n).to (l.contains n):=Ae (decide_eq_true h) (Ag _)
theorem wfN(h0:0<=h)(B:h.toNat < n)(u:n<=4611686018427387904):wfB .i64 h=aZ:=by
 unfold wfB;simp[Lit.wf,bG,bF,bH,bD];omega
theorem Aq5{k:Nat}(hk:k < n)(u:n<=4611686018427387904):bE.wrap ((k:Int)+1)=((k+1:Nat):Int):=by rw[bI _ ⟨by omega,by omega⟩];omega
theorem XP(c:g8 f)(F:(Df f).to out)(H:AboveP f out)(h:Int):(FK f h).to (Fy f out h):=by
 have I:=c.small.blocks;unfold FK;by_cases hh:0<=h/\h.toNat < f.blocks.length
 ·obtain⟨h1,h2⟩:=Aic hh.1 hh.2;have B:(J7 f h).length<=2147483648:=by have:=Oq (f:=f) h;omega
  refine AB (by simp;omega) (Am F (Am (Vg c) (Ae h1 ?_)));rw[h2];refine Am (Ae (decide_eq_true B) (Ag _)) (Ae (wfN hh.1 hh.2 (by omega)) (Ae (decide_eq_true B) (Ae (cL.2 λz u=>?_) ?_)))
  ·have:=Pk (EC.1 u);exact wfN this.1 this.2 (by omega)
  ·have e:Fy f out h=(J7 f h).filter λz=>!!((D7 out z).contains h):=by unfold Fy;simp only[aT]
   rw[e];refine Am (Ahl λz u=>?_) (Ag _);have u:=Pk (EC.1 u);rw[Mz u.1];have D:(ixD out z).length<=2147483648:=by
    rw[<-Mz u.1];have:=KY (Lx H.rows z) λx hx=>RU H.rows hx
    omega
   exact Ae (BJ.2 ⟨u.1,by rw[H.rows.len];exact u.2⟩) (Am (KV D) (Ag _))
 ·have e:Fy f out h= []:=by unfold Fy J7;rw[if_neg hh];rfl
  rw[e];refine Az ?_ (Ag _);simp only[zau];omega
def Aor(f:g9):List Int:=(fY f.blocks.length).map λk:Nat=>(k:Int)
theorem Yn{b:Int}:b∈Aor f↔0<=b/\b.toNat < f.blocks.length:=by
 unfold Aor;simp only[fG,fK];constructor
 ·rintro⟨k,hk,rfl⟩;exact⟨by omega,by simpa using hk⟩
 ·rintro⟨h0,h1⟩;exact⟨b.toNat,h1,by omega⟩
theorem Ae0(n:Nat):Asc ((fY n).map λk:Nat=>(k:Int)):=by
 unfold Asc;rw[fW];exact List.pairwise_lt_range.imp λh=>by omega
theorem Aml(f:g9):Asc (Aor f):=Ae0 _
theorem Amk(f:g9):(Aor f).length=f.blocks.length:=by simp[Aor]
def Jo(f:g9)(out:List (List Int)):List Int:=(Aor f).filter λh=>!(Fy f out h).isEmpty
theorem Ahj{k:Nat}:(((fY (k+1)).map λk:Nat=>(k:Int)).filter p)=(((fY k).map λk:Nat=>(k:Int)).filter p)++(if p (k:Int)then [(k:Int)]else []):=by
 rw[gD,eS,dF];simp[dH]
theorem Aly{k:Nat}:(((fY k).map λk:Nat=>(k:Int)).filter p).length<=k:=by
 have:=eL p ((fY k).map λk:Nat=>(k:Int));simpa using this
theorem Aj2(h:n<=8796093022208):EZ n 8=aZ:=by
 unfold EZ cC;simp;omega
theorem Alo(c:g8 f)(u:(Df f).to out)(H:AboveP f out):(Ht f).to (Jo f out):=by
 have B:=c.small.blocks;unfold Ht;refine Am (a:=Jo f out) (BV (λk:Nat=>((k:Int),((fY k).map λk:Nat=>(k:Int)).filter λh=>!(Fy f out h).isEmpty)) f.blocks.length (λk hk=>?_) ?_ (jF _)) (Ag _)
 ·simp only[FF];refine Az (decide_eq_true (by omega)) (Am (a:=((fY (k+1)).map λk:Nat=>(k:Int)).filter λh=>!(Fy f out h).isEmpty) (Am (XP c u H _) ?_) ?_)
  ·rw[Ahj];cases ht:Fy f out (k:Int)with
   |nil=>simp;exact Ag _
   |cons x l=>
    simp only[List.isEmpty_cons,aS,if_true];have:=Aly (p:=λh=>!(Fy f out h).isEmpty) (k:=k);exact Az (decide_eq_true (by simp only[eK];omega)) (Ae (wfN (by omega) (n:=f.blocks.length) (by simpa using hk) (by omega)) (Ae (Aj2 (by simp only[zai];omega)) (Ag _)))
  ·rw[Aq5 hk (by omega)];exact Ag _
 ·simp only[FF];exact AB (decide_eq_false (by omega)) (Ag _)
inductive LoopI(f:Func)(h:Int):Int->Prop
 |tail {b:Int}:b≠h->h∈nextL f b->RchF f (-1) b->¬RchF f h b->LoopI f h b
 |step {b k:Int}:b≠h->RchF f (-1) b->k∈nextL f b->k≠h->LoopI f h k->LoopI f h b
theorem LoopI.rch{b:Int}(H:LoopI f h b):RchF f (-1) b:=by cases H <;> assumption
open Classical in
noncomputable def Ev(f:g9)(out:List (List Int))(h:Int):List Int:=if(Fy f out h).isEmpty then []else(Aor f).filter λb=>decide (b=h\/LoopI f h b)
theorem LZ(h:Int):Asc (Ev f out h):=by
 unfold Ev;split
 ·exact cJ
 ·exact(Aml f).filter _
theorem XQ{b:Int}(hb:b∈Fy f out h):0<=h/\h.toNat < f.blocks.length:=by
 unfold Fy J7 at hb;split at hb
 ·assumption
 ·cases hb
theorem Af8{b:Int}(ht:Fy f out h≠[]):b∈Ev f out h↔b=h\/LoopI f h b:=by
 unfold Ev;rw[if_neg (by simpa using ht),fD,Yn];simp only[decide_eq_true_eq];refine⟨(·.2),λe=>⟨?_,e⟩⟩;rcases e with e|e
 ·obtain⟨x,hx⟩:=dD _ ht;rw[e];exact XQ hx
 ·exact e.rch.lt
structure LoopS(f:Func)(out:List (List Int))(h:Int)(at':Nat)(wait o:List Int):Prop where
 head:h∈o
 nod:o.Nodup
 inn:∀b∈o,b≠h->LoopI f h b
 rng:∀b∈o,0<=b/\b.toNat < f.blocks.length
 wrng:∀b∈wait,0<=b/\b.toNat < f.blocks.length
 win:∀b∈wait,RchF f (-1) b->b≠h->LoopI f h b
 tls:∀b∈Fy f out h,b∈wait
 bef:∀k∈o,k≠h->∀b∈J7 f k,b∈wait
 done:∀(j:Nat) (b:Int),j < at'->wait[j]? =some b->RchF f (-1) b->b∈o
 le:at'<=wait.length
 few:wait.length<=2 * f.blocks.length * o.length
theorem LoopS.fin{u o:List Int}(H:AboveP f out)(S:LoopS f out h u.length u o):∀b,b∈o↔b=h\/LoopI f h b:=λb=>by
 have hw:∀b∈u,RchF f (-1) b->b∈o:=λb hb J=>by
  obtain⟨j,F⟩:=eA hb;exact S.done j b (dY.1 F).1 F J
 constructor
 ·intro hb;by_cases e:b=h
  ·exact .inl e
  ·exact .inr (S.inn b hb e)
 ·rintro(e|e)
  ·rw[e];exact S.head
  ·induction e with
   |tail h1 h2 B D=>exact hw _ (S.tls _ ((N4 H).2 ⟨h2,B,D⟩)) B
   |step h1 h2 B D _ I=>exact hw _ (S.bef _ I D _ (EC.2 B)) h2
theorem LoopS.skip{b:Int}{u o:List Int}(S:LoopS f out h at' u o)(hb:u[at']? =jL b)(D:RchF f (-1) b->b∈o):LoopS f out h (at'+1) u o:=
 ⟨S.head,S.nod,S.inn,S.rng,S.wrng,S.win,S.tls,S.bef,λj c F hc B=>by
  by_cases e:j=at'
  ·subst e;rw[hb]at hc;cases hc;exact D B
  ·exact S.done j c (by omega) hc B,(dY.1 hb).1,S.few⟩
theorem LoopS.add{b:Int}{u o:List Int}(S:LoopS f out h at' u o)(hb:u[at']? =jL b)(J:RchF f (-1) b)(L:b∉o):LoopS f out h (at'+1) (u++J7 f b) (o++[b]):=by
 have B:b≠h:=λe=>L (e▸S.head)
 have N:=S.win b (fH hb) J B;have F:=(dY.1 hb).1;refine⟨eX _ S.head,?_,λc hc hne=>?_,λc hc=>?_,λc hc=>?_,λc hc h1 h2=>?_,λc hc=>eX _ (S.tls c hc),λk hk I c hc=>?_,λj c T hc D=>?_,by rw[eJ];omega,?_⟩
 ·rw[fQ];exact⟨S.nod,by simp,λx hx y O=>by rw[fN.1 O];exact λe=>L (e▸hx)⟩
 ·rcases eW.1 hc with hc|hc
  ·exact S.inn c hc hne
  ·rw[fN.1 hc];exact N
 ·rcases eW.1 hc with hc|hc
  ·exact S.rng c hc
  ·rw[fN.1 hc];exact J.lt
 ·rcases eW.1 hc with hc|hc
  ·exact S.wrng c hc
  ·exact Pk (EC.1 hc)
 ·rcases eW.1 hc with hc|hc
  ·exact S.win c hc h1 h2
  ·exact .step h2 h1 (EC.1 hc) B N
 ·rcases eW.1 hk with hk|hk
  ·exact eX _ (S.bef k hk I c hc)
  ·rw[fN.1 hk]at hc;exact eY _ hc
 ·by_cases e:j=at'
  ·subst e;rw[dU F,hb]at hc;cases hc;exact eY _ (by simp)
  ·rw[dU (by omega)]at hc;exact eX _ (S.done j c (by omega) hc D)
 ·have h1:=S.few;have h2:=Oq (f:=f) b;rw[eJ,eJ,i9];simp only[zai];omega
theorem Ud{o:List Int}(h:o.Nodup)(u:∀b∈o,0<=b/\b.toNat < n):o.length<=n:=Hi h u
theorem Ap0(c:g8 f)(ho:(Df f).to out)(H:AboveP f out)(h:Int):(Jy f h).to (Ev f out h):=by
 have hn:=c.small.blocks;unfold Jy;refine Am (XP c ho H h) ?_;by_cases ht:Fy f out h= []
 ·rw[ht];have:Ev f out h= []:=by unfold Ev;rw[ht];rfl
  rw[this];exact Az V (Ag _)
 ·obtain⟨x,hx⟩:=dD _ ht;have Y:=XQ hx;obtain⟨l,_,U,W⟩:=ZM c;refine AB (by simpa using ht) (Am (Vg c) (Am W (Ae (wfN Y.1 Y.2 (by omega)) ?_)));have N:∀b:Int,0<=b->b.toNat < f.blocks.length->(ixD (IU f.blocks.length l l.length) b=aZ↔RchF f (-1) b):=λb h0 h1=>by
   have:=Ajp (l:=l) h1;rw[cG h0]at this;rw[this,cV,U.mem]
  have q1:∀b∈Fy f out h,0<=b/\b.toNat < f.blocks.length:=λb hb=>((N4 H).1 hb).2.1.lt
  have q2:∀b∈Fy f out h,RchF f (-1) b->b≠h->LoopI f h b:=λb hb I hne=>.tail hne ((N4 H).1 hb).1 I ((N4 H).1 hb).2.2
  have q3:(Fy f out h).length<=2 * f.blocks.length * [h].length:=by
   have h3:=Oq (f:=f) h;have h4:(Fy f out h).length<=(J7 f h).length:=eL _ _;simp only[jE,jC,zai];exact iZ h4 h3
  obtain⟨r,h1,h2⟩:=iI (step:=FE (GV f f.blocks.length) (IU f.blocks.length l l.length)) (λq=>∃k:Nat,q.1=(k:Int)/\LoopS f out h k q.2.1 q.2.2) (λq=>(f.blocks.length+1 - q.2.2.length) *(2 * f.blocks.length+1)+(q.2.1.length - q.1.toNat)) (λr=>r=Ev f out h) (by
   rintro⟨i,u,o⟩ ⟨k,e,S⟩;have e:i=(k:Int):=e;subst e;have S:LoopS f out h k u o:=S;have Z:=Ud S.nod S.rng;have ae:u.length<=2 * f.blocks.length * f.blocks.length:=iZ S.few (jB _ Z);have af:2 * f.blocks.length * f.blocks.length<=2 * 2097152 * 2097152:=jA (by omega) hn;simp only[FE];by_cases hk:k=u.length
   ·subst hk;refine⟨.inr (o.mergeSort λx y=>decide (x<=y)),Az (by simp) (Ae (decide_eq_true (by omega)) (Ag _)),(λs' e=>by cases e),λr e=>?_⟩;cases e;refine GW (Or S.nod) (LZ h) λb=>?_
    rw[List.mem_mergeSort,S.fin H,Af8 ht]
   ·have L:k < u.length:=by have:=S.le;omega
    obtain⟨b,hb⟩:∃b,u[k]? =jL b:=⟨_,dW L⟩
    have D:=S.wrng b (fH hb);have ab:ixD u (k:Int)=b:=B8 hb;rw[ab];have O:Ci (IU f.blocks.length l l.length) b=aZ:=BJ.2 ⟨D.1,by rw[OD];exact D.2⟩;by_cases F:RchF f (-1) b/\b∉o
    ·have T:=S.add hb F.1 F.2;have J:=Ud T.nod T.rng;rw[eJ]at J;simp only[zai]at J;obtain⟨g1,g2⟩:=Aic D.1 D.2;have ad:u.length+(J7 f b).length<=2 * f.blocks.length * f.blocks.length:=by
      have:=T.few;rw[eJ,eJ]at this;exact iZ this (jB _ J)
     have ag:=Oq (f:=f) b;have B:=(N b D.1 D.2).2 F.1;refine⟨.inl (((k+1:Nat):Int),u++J7 f b,o++[b]),AB (by simp;omega) (Am (a:=(u++J7 f b,o++[b])) (Ae (Fb L) (Ae O (Am (BC B (KV (by omega))) (Az (by rw[B];simpa using F.2) (Ae (wfN D.1 D.2 (by omega)) (Ae (Aj2 (by simp only[zai];omega)) (Ae g1 ?_))))))) ?_),λs' e=>?_,λr e=>by cases e⟩
     ·rw[g2];exact Ae (Aj2 (by omega)) (Ag _)
     ·rw[Aq5 L (by omega)];exact Ag _
     ·cases e;refine⟨⟨k+1,rfl,T⟩,?_⟩;have h5:f.blocks.length+1 - o.length=(f.blocks.length+1 - (o.length+1))+1:=by omega
      simp only[cF,jE,zaw];rw[h5,Nat.add_mul];omega
    ·refine⟨.inl (((k+1:Nat):Int),u,o),AB (by simp;omega) (Am (a:=(u,o)) (Ae (Fb L) (Ae O ?_)) ?_),λs' e=>?_,λr e=>by cases e⟩
     ·by_cases I:RchF f (-1) b
      ·have B:=(N b D.1 D.2).2 I;have ac:b∈o:=a7 λe=>F ⟨I,e⟩
       exact Am (BC B (KV (by omega))) (AB (by rw[B];simpa using ac) (Ag _))
      ·have B:ixD (IU f.blocks.length l l.length) b=aL:=by
        cases e:ixD (IU f.blocks.length l l.length) b with
        |false=>rfl
        |true=>exact absurd ((N b D.1 D.2).1 e) I
       exact Am (iM B) (AB (by rw[B];rfl) (Ag _))
     ·rw[Aq5 L (by omega)];exact Ag _
     ·cases e;refine⟨⟨k+1,rfl,S.skip hb λI=>a7 λe=>F ⟨I,e⟩⟩,?_⟩;simp only[cF];omega)
   (0,Fy f out h,[h]) ⟨0,rfl,⟨by simp,by simp,λb hb hne=>absurd (fN.1 hb) hne,λb hb=>by rw[fN.1 hb];exact Y,q1,q2,λb hb=>hb,λk hk aa=>absurd (fN.1 hk) aa,λj b hj=>absurd hj (jD _),jF _,q3⟩⟩
  rw[<-h2];exact h1
end
theorem snoc_ind{u:List α->Prop}(nil:u [])(append_singleton:∀l x,u l->u (l++[x]))(l:List α):u l:=by
 have h:∀l:List α,u l.reverse:=λl=>by
  induction l with
  |nil=>exact nil
  |cons x l B=>rw[gG];exact append_singleton _ _ B
 have:=h l.reverse;rwa [List.reverse_reverse]at this
section
variable{f:g9}
end
section
variable{f:g9}{out:List (List Int)}
theorem YA:(Jo f out).length<=f.blocks.length:=by
 unfold Jo;have:=eL (λh=>!(Fy f out h).isEmpty) (Aor f);rwa [Amk]at this
def WJ(l:List Int)(L:List Int):List Int:=L.foldl (λl b=>l.set b.toNat (ixD l b+1)) l
theorem Py{L:List Int}{b:Int}:WJ l (L++[b])=(WJ l L).set b.toNat (ixD (WJ l L) b+1):=by
 unfold WJ;rw[dP];rfl
theorem Sm:∀L:List Int,(WJ l L).length=l.length:=λL=>by
 induction L using snoc_ind with
 |nil=>rfl
 |append_singleton L b u=>rw[Py,eQ,u]
theorem Agu(hx:0<=x):∀{L:List Int},L.Nodup->(∀b∈L,0<=b/\b.toNat < l.length)->ixD (WJ l L) x=ixD l x+if x∈L then 1 else 0:=by
 intro L;induction L using snoc_ind with
 |nil=>intro _ _;simp[WJ]
 |append_singleton L b J=>
  intro N I;have B:=fQ.1 N;have u:=J B.1 λc hc=>I c (eX _ hc)
  have F:=I b (by simp);rw[Py];by_cases e:x=b
  ·subst e;have D:x∉L:=λh=>B.2.2 x h x (by simp) V
   rw[if_neg D]at u;unfold ixD at u⊢;rw[dT,eF (by rw[Sm];exact F.2),if_pos (by simp)];simp only[jG];omega
  ·have h1:x∈L++[b]↔x∈L:=by simp[e]
   simp only[h1];rw[<-u];unfold ixD;rw[dT,eE (by omega),dT]
noncomputable def depthK(f:g9)(out:List (List Int))(k:Nat):List Int:=((Jo f out).take k).foldl (λl h=>WJ l (Ev f out h)) (gE f.blocks.length 0)
noncomputable def Da(f:g9)(out:List (List Int)):List Int:=depthK f out (Jo f out).length
theorem PK{k:Nat}(hk:(Jo f out)[k]? =jL h):depthK f out (k+1)=WJ (depthK f out k) (Ev f out h):=by
 unfold depthK;rw[gI,hk,dP];rfl
theorem J3(k:Nat):(depthK f out k).length=f.blocks.length:=by
 unfold depthK;generalize (Jo f out).take k=L;induction L using snoc_ind with
 |nil=>simp
 |append_singleton L b u=>rw[dP];simp only[dQ,List.foldl_nil];rw[Sm,u]
theorem LY{b:Int}(hb:b∈Ev f out h):0<=b/\b.toNat < f.blocks.length:=by
 unfold Ev at hb;split at hb
 ·cases hb
 ·exact Yn.1 (fD.1 hb).1
theorem Af9(h:Int):(Ev f out h).length<=f.blocks.length:=KY (LZ h) λx hx=>LY hx
theorem Ahs(hx:0<=x)(u:x.toNat < f.blocks.length):∀k,k<=(Jo f out).length->ixD (depthK f out k) x=((((Jo f out).take k).countP λh=>(Ev f out h).contains x:Nat):Int):=by
 intro k;induction k with
 |zero=>
  intro _;unfold depthK ixD;simp[eC,u]
 |succ k B=>
  intro hk;obtain⟨h,hh⟩:∃h,(Jo f out)[k]? =jL h:=⟨_,dW hk⟩
  rw[PK hh,Agu hx (PV (LZ h)) (λb hb=>by rw[J3];exact LY hb),B (by omega),gI,hh,List.countP_append];simp only[jM,List.countP_cons,List.countP_nil,cV,jE];split <;> simp
theorem UY(hx:0<=x)(u:x.toNat < f.blocks.length){k:Nat}(hk:k<=(Jo f out).length):0<=ixD (depthK f out k) x/\ixD (depthK f out k) x<=(k:Int):=by
 rw[Ahs hx u k hk];have:=cZ (p:=λh=>(Ev f out h).contains x) (l:=(Jo f out).take k);rw[eR]at this;omega
theorem Agt(c:g8 f){k:Nat}(hk:k < (Jo f out).length)(hq:(Ev f out h)[q]? =jL x):
 Ci (WJ (depthK f out k) ((Ev f out h).take q)) x=aZ/\wfB .i64 (bE.wrap (ixD (WJ (depthK f out k) ((Ev f out h).take q)) x+1))=aZ/\
  (WJ (depthK f out k) ((Ev f out h).take q)).set (Int.toNat x) (bE.wrap (ixD (WJ (depthK f out k) ((Ev f out h).take q)) x+1))=WJ (depthK f out k) ((Ev f out h).take (q+1)):=by
 have L:=c.small.blocks;have u:=LY (fH hq);have J:=YA (f:=f) (out:=out);have N:=UY (f:=f) (out:=out) u.1 u.2 (k:=k) (by omega);have B:=PV (LZ (f:=f) (out:=out) h);have F:(Ev f out h).take (q+1)=(Ev f out h).take q++[x]:=by rw[gI,hq];rfl
 have I:x∉(Ev f out h).take q:=λe=>by
  have h2:((Ev f out h).take (q+1)).Nodup:=B.sublist (gN _ _);rw[F]at h2;exact(fQ.1 h2).2.2 x e x (by simp) V
 have D:=Agu (l:=depthK f out k) u.1 (B.sublist (gN q _)) λb hb=>by rw[J3];exact LY (fI hb)
 rw[if_neg I,Int.add_zero]at D;have hw:bE.wrap (ixD (depthK f out k) x+1)=ixD (depthK f out k) x+1:=bI _ (by omega);refine⟨BJ.2 ⟨u.1,by rw[Sm,J3];exact u.2⟩,?_,?_⟩
 ·rw[D,hw];exact wfN (n:=f.blocks.length+2) (by omega) (by omega) (by omega)
 ·rw[F,Py,D,hw]
theorem Al3(c:g8 f)(u:(Df f).to out)(H:AboveP f out):(Hu f).to (Da f out):=by
 have I:=c.small.blocks;have D:=YA (f:=f) (out:=out);unfold Hu;refine Ae (by unfold VW cC;simp;omega) (Am (Alo c u H) (Am (a:=Da f out) (BV (step:=EA f (Jo f out)) (λk:Nat=>((k:Int),depthK f out k)) (Jo f out).length (λk hk=>?_) ?_ (jF _)) (Ag _)))
 ·obtain⟨h,hh⟩:∃h,(Jo f out)[k]? =jL h:=⟨_,dW hk⟩
  simp only[EA,B8 hh];have B:=Af9 (f:=f) (out:=out) h;refine Az (decide_eq_true (by omega)) (Ae (Fb hk) (Am (Ap0 c u H h) (Am (a:=depthK f out (k+1)) ?_ (by rw[Ayb hk (by omega)];exact Ag _))));rw[PK hh];refine BV (step:=DZ (Ev f out h)) (λq:Nat=>((q:Int),WJ (depthK f out k) ((Ev f out h).take q))) (Ev f out h).length (λq hq=>?_) ?_ (jF _)
  ·obtain⟨x,hx⟩:∃x,(Ev f out h)[q]? =jL x:=⟨_,dW hq⟩
   obtain⟨h1,h2,F⟩:=Agt c hk hx;simp only[DZ,B8 hx];refine Az (decide_eq_true (by omega)) (Ae (Fb hq) (Ae h1 (Ae h2 ?_)));rw[F,Ayb hq (by omega)];exact Ag _
  ·rw[gJ];simp only[DZ];exact AB (decide_eq_false (by omega)) (Ag _)
 ·simp only[EA];exact AB (decide_eq_false (by omega)) (Ag _)
end
def pwI(d:Int):Nat:=(if 4 < d then 4 else d).toNat
def Et(d:Int):Int:=10 ^ pwI d
theorem Ank(d:Int):pwI d<=4:=by unfold pwI;split <;> omega
theorem Aui{d:Int}(h:0<=d):((pwI d:Nat):Int)=if 4 < d then 4 else d:=by unfold pwI;split <;> omega
theorem TU(d:Int):Et d=1/\pwI d=0\/Et d=10/\pwI d=1\/Et d=100/\pwI d=2\/Et d=1000/\pwI d=3\/Et d=10000/\pwI d=4:=by
 have h:=Ank d;unfold Et;have h2:pwI d=0\/pwI d=1\/pwI d=2\/pwI d=3\/pwI d=4:=by omega
 rcases h2 with e|e|e|e|e <;> rw[e] <;> simp
theorem ZP(d:Int):1<=Et d/\Et d<=10000:=by rcases TU d with⟨e,_⟩|⟨e,_⟩|⟨e,_⟩|⟨e,_⟩|⟨e,_⟩ <;> rw[e] <;> omega
def rnG(f:g9)(dl:List Int)(k:Nat):List (Int×Int):=(NC (f.blocks.getD k default)).map λr=>(r,Et (ixD dl (k:Int)))
def rnK(f:g9)(dl:List Int)(k:Nat):List (Int×Int):=((fY f.blocks.length).take k).flatMap (rnG f dl)
def rnF(f:g9)(dl:List Int):List (Int×Int):=(fY f.blocks.length).flatMap (rnG f dl)
theorem YD{β:Type}(g:α->List β)(l:List α)(k:Nat):(l.take k).flatMap g <+:l.flatMap g:=by
 conv=>rhs;rw[<-List.take_append_drop k l]
 rw[List.flatMap_append];exact List.prefix_append _ _
section
variable{f:g9}{dl:List Int}
theorem X3{k:Nat}(hk:k < f.blocks.length):rnK f dl (k+1)=rnK f dl k++rnG f dl k:=by
 unfold rnK;exact Dv (eB hk)
theorem Apd(k:Nat):rnK f dl k <+:rnF f dl:=YD _ _ _
theorem Ape:rnK f dl f.blocks.length=rnF f dl:=by
 unfold rnK rnF;rw[show(fY f.blocks.length).take f.blocks.length=fY f.blocks.length from gK (by simp)]
theorem Anf{k:Nat}{b:gU}(hb:f.blocks[k]? =jL b):rnG f dl k=(NC b).map λr=>(r,Et (ixD dl (k:Int))):=by
 unfold rnG;rw[dT,hb];rfl
def rnI(f:g9)(dl:List Int)(k:Nat)(b:gU)(i:Nat):List (Int×Int):=rnK f dl k++((b.ins.take i).flatMap Bz).map λr=>(r,Et (ixD dl (k:Int)))
def rnR(f:g9)(dl:List Int)(k:Nat)(b:gU)(i:Nat)(x:Ins)(q:Nat):List (Int×Int):=rnI f dl k b i++((Bz x).take q).map λr=>(r,Et (ixD dl (k:Int)))
theorem Aj6{k:Nat}{b:gU}:rnI f dl k b 0=rnK f dl k:=by simp[rnI]
theorem Apg{k:Nat}{b:gU}(hb:f.blocks[k]? =jL b):rnI f dl k b b.ins.length=rnK f dl (k+1):=by
 rw[X3 (dY.1 hb).1,Anf hb];unfold rnI NC;rw[gJ]
theorem Aj5{k:Nat}{b:gU}{x:Ins}:rnR f dl k b i x 0=rnI f dl k b i:=by simp[rnR]
theorem Aep{k:Nat}{b:gU}{x:Ins}(hx:b.ins[i]? =jL x):rnR f dl k b i x (Bz x).length=rnI f dl k b (i+1):=by
 unfold rnR rnI;rw[gJ,Dv hx,eS,cP]
theorem X0{k:Nat}{b:gU}{x:Ins}{r:Int}(u:(Bz x)[q]? =jL r):rnR f dl k b i x (q+1)=rnR f dl k b i x q++[(r,Et (ixD dl (k:Int)))]:=by
 unfold rnR;rw[gI,u,eS,cP];rfl
theorem Apf{k:Nat}{b:gU}(hb:f.blocks[k]? =jL b):rnI f dl k b i <+:rnF f dl:=by
 refine List.IsPrefix.trans ?_ (Apd (k+1));rw[X3 (dY.1 hb).1,Anf hb];unfold rnI NC;exact(fX _).2 ((YD _ _ _).map _)
theorem Apc{k:Nat}{b:gU}{x:Ins}(hb:f.blocks[k]? =jL b)(hx:b.ins[i]? =jL x):rnR f dl k b i x q <+:rnF f dl:=by
 refine List.IsPrefix.trans ?_ (Apf hb (i:=i+1));rw[<-Aep hx];unfold rnR;rw[gJ];exact(fX _).2 ((List.take_prefix _ _).map _)
theorem We:(rnF f dl).map (·.1)=NE f:=by
 unfold rnF NE;rw[List.map_flatMap];have e:(fY f.blocks.length).map (λk=>f.blocks.getD k default)=f.blocks:=by
  refine dE λk=>?_
  rw[dZ];by_cases hk:k < f.blocks.length
  ·rw[eB hk];show jL (f.blocks.getD k default)=_;rw[dT,dW hk];rfl
  ·rw[dX (by simpa using hk),dX (by omega)];rfl
 conv=>rhs;rw[<-e]
 rw[List.flatMap_map];congr 1;funext k;unfold rnG;rw[eU];exact List.map_id'' (λ_=>rfl) _
theorem Wd:(rnF f dl).length=(NE f).length:=by rw[<-We (dl:=dl),eM]
theorem Aph{p:Int×Int}(h:p∈rnF f dl):1<=p.2/\p.2<=10000:=by
 unfold rnF at h;obtain⟨k,_,h⟩:=fE.1 h;unfold rnG at h;obtain⟨r,_,rfl⟩:=fG.1 h;exact ZP _
theorem Api{x:Ins}(u:okIns x)(B:x.args.length<=2097152):(Jv x).to (Bz x):=by
 unfold Jv Bz;have h1:(KJ x).to (readsC x):=Ae (by rw[aI];exact⟨DH.2 u,decide_eq_true B⟩) (Ag _);have h2:(I4 x).to (if Bd x then x.d else 0,Bd x):=Ae (DH.2 u) (Ag _);have D:=MB B;refine Am h1 (Am (a:=readsC x++if Bd x then [x.d]else []) (Am h2 ?_) (Ag _));cases Bd x with
 |true=>exact Az V (Ae u.d (Ae (Aj2 (by simp only[zai];omega)) (Ag _)))
 |false=>
  simp only[aN,if_false,cR];exact AB V (Ag _)
theorem Apk{d:List Int}{k:Int}(h:0<=ixD d k):(iG (DJ d k) (1,0)).to (Et (ixD d k)):=by
 have B:=Aui h;have F:=Ank (ixD d k);unfold Et;refine BV (step:=DJ d k) (λj:Nat=>((10:Int) ^ j,(j:Int))) (pwI (ixD d k)) (λj D=>?_) ?_ (jF _)
 ·simp only[DJ];refine Az (decide_eq_true (by rw[<-B];omega)) ?_;have e:bE.wrap ((10:Int) ^ j * 10)=(10:Int) ^ (j+1):=by
   have u:j=0\/j=1\/j=2\/j=3:=by omega
   rcases u with rfl|rfl|rfl|rfl <;> rfl
  rw[e,Aq5 D (by omega)];exact Ag _
 ·simp only[DJ];exact AB (decide_eq_false (by rw[<-B];omega)) (Ag _)
theorem Abu(c:g8 f){b:gU}(hb:b∈f.blocks){x:Ins}(hx:x∈b.ins):okIns x/\x.args.length<=2097152:=⟨(c.ok.blocks b hb).ins x hx,by
 have:=((c.small.all b hb).all x hx)
 omega⟩
variable{out:List (List Int)}{σ:Type}{step:σ->Int->Int->M σ}
theorem Aa9{k:Nat}(hk:k < f.blocks.length):0<=ixD (Da f out) (k:Int):=(UY (f:=f) (out:=out) (x:=(k:Int)) (by omega) (by simpa using hk) (iY _)).1
theorem Arm(c:g8 f)(O:(Df f).to out)(H:AboveP f out)(G:List (Int×Int)->σ)(L:∀u p,u++[p] <+:rnF f (Da f out)->(step (G u) p.1 p.2).to (G (u++[p]))):
 (Jw step f (G [])).to (G (rnF f (Da f out))):=by
 have U:=c.small.blocks;have J:(Da f out).length=f.blocks.length:=J3 _;unfold Jw;refine Am (Al3 c O H) (Am (a:=G (rnF f (Da f out))) ?_ (Ag _));rw[<-Ape];refine BV (step:=Fe step f (Da f out)) (λk:Nat=>((k:Int),G (rnK f (Da f out) k))) f.blocks.length (λk hk=>?_) ?_ (jF _)
 ·obtain⟨b,hb⟩:∃b,f.blocks[k]? =jL b:=⟨_,dW hk⟩
  have T:=c.ins b (fH hb);simp only[Fe];refine Az (decide_eq_true (by omega)) (Ae (Fb (by omega)) (Am (Apk (Aa9 hk)) (Ae (Fb hk) (Am (a:=G (rnK f (Da f out) (k+1))) ?_ (by rw[Aq5 hk (by omega)];exact Ag _)))));rw[<-Apg hb];refine(show(iG (DI step f (k:Int) (Et (ixD (Da f out) (k:Int)))) (0,G (rnK f (Da f out) k))).to _ from ?_);rw[<-Aj6 (b:=b)];refine BV (step:=DI step f (k:Int) (Et (ixD (Da f out) (k:Int)))) (λi:Nat=>((i:Int),G (rnI f (Da f out) k b i))) b.ins.length (λi hi=>?_) ?_ (jF _)
  ·obtain⟨x,hx⟩:∃x,b.ins[i]? =jL x:=⟨_,dW hi⟩
   obtain⟨I,B⟩:=Abu c (fH hb) (fH hx);simp only[DI,B8 hb,B8 hx];refine Az (decide_eq_true (by omega)) (Ae (Fb hi) (Am (Api I B) (Am (a:=G (rnI f (Da f out) k b (i+1))) ?_ (by rw[Aq5 hi (by omega)];exact Ag _))));rw[<-Aep hx,<-Aj5 (x:=x)];have N:(Bz x).length<=2097155:=by
    have:=MB B;unfold Bz;rw[eJ];split <;> simp <;> omega
   refine BV (step:=Ez step (Et (ixD (Da f out) (k:Int))) (Bz x)) (λq:Nat=>((q:Int),G (rnR f (Da f out) k b i x q))) (Bz x).length (λq hq=>?_) ?_ (jF _)
   ·obtain⟨r,F⟩:∃r,(Bz x)[q]? =jL r:=⟨_,dW hq⟩
    simp only[Ez,B8 F];have D:=L (rnR f (Da f out) k b i x q) (r,Et (ixD (Da f out) (k:Int))) (by rw[<-X0 F];exact Apc hb hx);rw[X0 F];exact Az (decide_eq_true (by omega)) (Ae (Fb hq) (Am D (by rw[Aq5 hq (by omega)];exact Ag _)))
   ·simp only[Ez];exact AB (decide_eq_false (by omega)) (Ag _)
  ·simp only[DI,B8 hb];exact AB (decide_eq_false (by omega)) (Ag _)
 ·simp only[Fe,J];exact AB (decide_eq_false (by omega)) (Ag _)
def Kl(r:Int)(l:List (Int×Int)):Int:=((l.filter λp=>p.1 ==r).map (·.2)).sum
theorem PM(r:Int)(l m:List (Int×Int)):Kl r (l++m)=Kl r l+Kl r m:=by simp[Kl,dF]
theorem PL(r:Int)(p:Int×Int):Kl r [p]=if p.1 ==r then p.2 else 0:=by
 unfold Kl;rw[dH];split <;> simp
theorem U3(r:Int):∀{l:List (Int×Int)},(∀p∈l,1<=p.2/\p.2<=10000)->0<=Kl r l/\Kl r l<=10000 *(l.length:Int)
 | [],_=>by simp[Kl]
 |p::l,h=>by
  have u:=U3 r (l:=l) λq hq=>h q (fA _ hq)
  have B:=h p (by simp);rw[show p::l= [p]++l from V,PM,PL,eJ];simp only[zai];split <;> omega
theorem Apl{u:List (Int×Int)}(c:g8 f)(h:u <+:rnF f dl)(r:Int):0<=Kl r u/\Kl r u<=30000000000:=by
 have h1:=U3 r (l:=u) λp B=>Aph (h.subset B)
 have h2:=h.length_le;have D:=c.all;rw[Wd]at h2;omega
def Kh(l:List (Int×Int)):List (Int×Int):=l.foldl (λm p=>Cb m p.1 ((getK m p.1).getD 0+p.2)) []
theorem QS(l:List (Int×Int))(p:Int×Int):Kh (l++[p])=Cb (Kh l) p.1 ((getK (Kh l) p.1).getD 0+p.2):=by
 unfold Kh;rw[dP];rfl
theorem Ro{r:Int}{l:List (Int×Int)}(h:r∉l.map (·.1)):Kl r l=0:=by
 unfold Kl;rw[dK.2 λp u=>by
  intro e;exact h (fG.2 ⟨p,u,by simpa using e⟩)]
 rfl
theorem N6(l:List (Int×Int)):Ef (Kh l)/\(Kh l).length<=l.length/\∀x,getK (Kh l) x=if x∈l.map (·.1)then jL (Kl x l)else jK:=by
 induction l using snoc_ind with
 |nil=>exact⟨Ef.nil,iY _,λx=>rfl⟩
 |append_singleton l p B=>
  obtain⟨h1,h2,u⟩:=B;rw[QS];refine⟨h1.put _ _,?_,λx=>?_⟩
  ·have:=E3 (l:=Kh l) p.1 ((getK (Kh l) p.1).getD 0+p.2);rw[eJ];simp only[zai];omega
  ·rw[BK h1,eS,PM,PL];by_cases e:x=p.1
   ·subst e;rw[if_pos V,if_pos (by simp),u];split
    ·simp
    ·rename_i D;rw[Ro D];simp
   ·rw[if_neg e,u];have I:(p.1 ==x)=aL:=by simpa using λk=>e k.symm
    rw[I];have F:x∈l.map (·.1)++[p].map (·.1)↔x∈l.map (·.1):=by simp[e]
    simp only[F];simp
theorem Ac7(l:List (Int×Int))(x:Int):Qq (Kh l) x=Kl x l:=by
 unfold Qq;rw[(N6 l).2.2 x];split
 ·rfl
 ·rename_i h;rw[Ro h];rfl
theorem Agg:keysK (Kh (rnF f dl))=AL f:=by
 obtain⟨h1,_,F⟩:=N6 (rnF f dl);refine GW (fW.2 h1) (CO f).1 λx=>?_
 rw[(CO f).2,<-We (dl:=dl)];have u:=F x;constructor
 ·intro hx;obtain⟨p,B,e⟩:=fG.1 hx;have D:getK (Kh (rnF f dl)) x=jL p.2:=(CN h1).2 (by rw[<-e];exact B);rw[D]at u;split at u
  ·assumption
  ·cases u
 ·intro hx;rw[if_pos hx]at u;exact fG.2 ⟨_,(CN h1).1 u,rfl⟩
def Aoo(f:g9)(dl:List Int):List Int:=KI (Kh (rnF f dl)) (AL f)
theorem Amh(c:g8 f)(L:(Df f).to out)(H:AboveP f out):(M1 f).to (Aoo f (Da f out)):=by
 unfold M1;have I:=c.all;have hk:=N6 (rnF f (Da f out));rw[Wd]at hk;refine Am (a:=Kh (rnF f (Da f out))) (Arm c L H Kh λu p F=>?_) (Ae (decide_eq_true ⟨by omega,hk.1⟩) ?_)
 ·have B:p∈rnF f (Da f out):=F.subset (by simp);have hw:wfB .i64 p.1=aZ:=Xq c.ok p.1 (by rw[<-We (dl:=Da f out)];exact fG.2 ⟨p,B,rfl⟩);have D:=F.length_le;rw[Wd,eJ]at D;have h2:=(N6 u).2.1;have N:(getK (Kh u) p.1).getD 0=Kl p.1 u:=Ac7 u p.1;have J:=Apl c F p.1;rw[PM,PL]at J;simp only[beq_self_eq_true,if_true]at J;rw[QS];simp only[GD];refine Ae hw (Ae (decide_eq_true (by unfold cC;omega)) ?_);rw[N,bI _ (by omega)];exact Ag _
 ·rw[Agg];exact Ag _
end
end Mu
