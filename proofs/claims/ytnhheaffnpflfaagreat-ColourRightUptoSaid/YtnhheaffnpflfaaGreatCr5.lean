/-
  Lemmas for R, part 5.
  Conditions: as each lemma says.
-/
import Derived.Test.YtnhheaffnpflfaaGreatCr4
import Derived.WideKeyEntry
set_option maxRecDepth 100000
set_option maxHeartbeats 4000000
set_option linter.unusedSimpArgs false
set_option linter.unusedVariables false
open Array renaming ext'->aA,getElem?_eq_some_iff->aB,mem_append->aC,mem_toList_iff->aD,toList_map->aE,toList_modify->aF,toList_push->aG
open Bool renaming and_eq_false_iff->aH,and_eq_true->aI,beq_comm->aJ,eq_iff_iff->aK,false->aL,false_and->aM,false_eq_true->aN,false_or->aO,not_eq_false'->aP,not_eq_true'->aR,not_false->aS,not_not->aT,not_true->aU,or_eq_false_iff->aV,or_eq_true->aW,or_false->aX,or_true->aY,true->aZ,true_and->a6
open Classical renaming byContradiction->a7
open Decidable renaming decide->a8
open Go renaming MapEntry->bJ,Oper->bN,Operand->bO,Program->bP,TypeId->bW,Value->bX,World->cA,execOp->cB,maxLen->cC,run_underlying->cD
open Go.Instr renaming entryStore->bA,mapEntry->bB,mapUpdate->bC
open Go.IntKind renaming bits->bD,i64->bE,max->bF,min->bG,signed->bH
open Go.IntWalk renaming i64_in->bI
open Go.MapKept renaming run_getObj_map->bK,run_setObj_map->bL
open Go.Op renaming operands->bM
open Go.Proofs.Tryz renaming func9->bR,ntmps9->bS,prog->bT,underlying77->bU
open Go.Result renaming andThen->bV
open Go.Value renaming int->bY
open Go.WideElems renaming findIdx_arr->bZ,findIdx_born->b9
open Int renaming le_refl->cE,toNat_natCast->cF,toNat_of_nonneg->cG
open List renaming all_eq_true->cL,any_cons->cM,any_eq_false->cN,any_eq_true->cO,append_assoc->cP,append_inj'->cQ,append_nil->cR,concat_eq_append->cT,cons_append->cU,contains_iff_mem->cV,countP_cons_of_pos->cW,countP_eq_length_filter->cX,countP_eq_zero->cY,countP_le_length->cZ,drop_zero->dA,eq_nil_of_length_eq_zero->dB,eq_nil_or_concat->dC,exists_mem_of_ne_nil->dD,ext_getElem?->dE,filter_append->dF,filter_congr->dG,filter_cons->dH,filter_cons_of_neg->dI,filter_cons_of_pos->dJ,filter_eq_nil_iff->dK,filter_eq_self->dL,filter_nil->dM,find?_eq_none->dN,flatMap_cons->dO,foldl_append->dP,foldl_cons->dQ,getD->dR,getD_eq_getElem?_getD->dT,getElem?_append_left->dU,getElem?_append_right->dV,getElem?_eq_getElem->dW,getElem?_eq_none->dX,getElem?_eq_some_iff->dY,getElem?_map->dZ,getElem?_of_mem->eA,getElem?_range->eB,getElem?_replicate->eC,getElem?_set->eD,getElem?_set_ne->eE,getElem?_set_self->eF,getElem?_zip_eq_some->eG,getElem_mem->eH,head?_drop->eI,length_append->eJ,length_cons->eK,length_filter_le->eL,length_map->eM,length_range->eN,length_replicate->eO,length_reverse->eP,length_set->eQ,length_take->eR,map_append->eS,map_cons->eT,map_map->eU,map_nil->eV,mem_append->eW,mem_append_left->eX,mem_append_right->eY,mem_cons->eZ,mem_cons_of_mem->fA,mem_cons_self->fB,mem_erase_of_ne->fC,mem_filter->fD,mem_flatMap->fE,mem_iff_getElem?->fF,mem_map->fG,mem_of_getElem?->fH,mem_of_mem_take->fI,mem_or_eq_of_mem_set->fJ,mem_range->fK,mem_replicate->fL,mem_reverse->fM,mem_singleton->fN,ne_nil_of_mem->fO,nil_append->fP,nodup_append->fQ,nodup_cons->fR,nodup_nil->fS,not_mem_nil->fT,pairwise_cons->fU,pairwise_iff_getElem->fV,pairwise_map->fW,prefix_append_right_inj->fX,range->fY,range'->fZ,range'_succ->gB,range_eq_range'->gC,range_succ->gD,replicate->gE,reverse_append->gF,reverse_cons->gG,sum_cons->gH,take_add_one->gI,take_length->gJ,take_of_length_le->gK,take_one->gL,take_sublist->gN
open List.Pairwise renaming filter->cH,imp->cI,nil->cJ
open Mu renaming ABlk->gO,Block->gU,CGraph->gV,FStep->gY,FineF->g8,Func->g9,Hint->hZ,OkGr->iN,Pair->iS,Plan->iT
open Mu.ABlk renaming res->gP
open Mu.AOp renaming turn->gQ
open Mu.AV renaming rel->gR
open Mu.Awp renaming region->gT
open Mu.Cut renaming dead->gW,nil->gX
open Mu.Fin renaming cl->gZ
open Mu.M renaming bnd->iA,chk->iB,cnd->iC,els->iD,els_l->iE,els_r->iF,loop->iG,loop_in->iH,loop_inv->iI,loop_out->iJ,ok->iK,to_whn->iL,whn_f->iM
open Mu.OpnB renaming any->iO,keep->iP,nil->iQ,ptr->iR
open Mu.St.le renaming refl->iU
open Nat renaming le_antisymm->iV,le_of_ble_eq_true->iW,le_of_not_lt->iX,le_refl->iY,le_trans->iZ,lt_succ_self->i6,lt_trichotomy->i7,mul_add->i8,mul_le_mul->i9,mul_le_mul_left->jA,mul_one->jB,not_lt_zero->jC,zero_add->jD,zero_le->jE
open Option renaming getD_some->jF,isSome_iff_exists->jG,isSome_map->jH,map_eq_some_iff->jI,none->jJ,some->jK,toList_some->jL
abbrev Mu.zan:=And.intro @aI (And.intro @aR (And.intro @aV (@decide_eq_false_iff_not)))
namespace Mu
open Go Go.RowKit Go.Proofs Go.Maps
variable{A:List (Int×Int)}{C:Ctx}{G:gV}{Q:Int->Prop}{h:List gO}{l:List Int}{out:List (Int×Int)}{p r:Int}{t:List AV}{x:Int}
def Ayr(A:List (Int×Int))(a:List Int)(p:Nat×bX):Res:=Res.and (EF (bY .i64) A p.1) (rowR p.2 3 tInt a)
def Azs(p:Nat×bX):bX:=.tuple #[.map (jK p.1),p.2]
theorem P0.at{H:List gO}{a b:AV}{new:List AV}(e:a=b)(p:P0 H b new):P0 H a new:=e▸p
theorem N4{a:List Int}(p:Nat×bX)(w:cA)(S S':Nat->Prop)(h:(Ayr A a p).R w S):(Ayr A a p).R w S':=⟨h.1,XO h.2.1,h.2.2⟩
theorem OZ(G:gV)(out:List (Int×Int))(q:iN G):M5 bT 26 [.bp Bc G 0,.tv tMapI out] (Ayr (BF G out).1 (BF G out).2) Azs:=by
 have L:=Ajy G out q.toOkG;obtain⟨l,Z⟩:∃l,l=CR G out:=⟨_,rfl⟩
 have aq:l.length<=1073741824:=by rw[Z];exact Q1 q.toOkG
 rw[<-Z]at L;refine P3 (uy:=27) (ty:=51) Tryz.func26 V (by kernel_rfl) V (by kernel_rfl) (by kernel_rfl) Tryz.ntmps26 N4 λC hC ao=>?_
 simp only[Nat.reduceAdd,Nat.reduceSub,zaa];refine wR (hx:=by((repeat(first|(refine AF V (AOp.boxI 1 V V (P0.one One.bp).weak ?_);refine sNt ?_)|refine sA ?_|refine AN ?_|refine sAG ?_|refine Bp ?_));exact C1 V)) (hk:=?_);refine AJ _ (EN hC 1 2 V V Y1.bp) ?_;refine nT ?_;refine Awp.scope ?_;refine wRK λK2 ay=>?_
 refine AF V (J5 (bY .i64) V λm=>?_);refine D2 ?_ (Ao Iz);refine AF V (CN (new:=[_]) V V V (P0.one (One.lit V)) V (iW V) ?_);refine D2 ?_ RG;refine Au (ay _ ?_);refine Ab λK3 h3=>?_
 refine Awp.label ?_;refine h3 _ ?_;refine nT ?_;refine Ab λK4 h4=>?_
 refine Bt 2 V V V (λa=>(.any::.tv tMapI out::.bp (J7 Bc) G 0::.any::.lit (.pointer (jK ⟨a,0,jJ⟩))::.ptr 3 0::A20 (A9 []))) (λg=>(by(repeat(first|exact iQ|refine iR ?_|refine iO ?_|refine iP V ?_)))) λa=>?_
 refine Bt 3 V V V (λc=>(.any::.tv tMapI out::.bp (J7 Bc) G 0::.any::.lit (.pointer (jK ⟨a,0,jJ⟩))::.lit (.pointer (jK ⟨c,0,jJ⟩))::A20 (A9 []))) (λg=>(by(repeat(first|exact iQ|refine iR ?_|refine iO ?_|refine iP V ?_)))) λc=>?_
 refine AJ _ (J0 3 tInt (by decide)) ?_;refine nT ?_;refine wRK λK5 ax=>?_
 refine sA ?_ (AB V Gi V) (Ao Kf);refine sA ?_ (AT.move V FG) (Ao IR);refine sA ?_ (AM V V L V V) (Ao JB);refine AF V (Cp V (Sw l) (λ_=>rfl) V V λbp=>?_);refine D2 ?_ (Ao Gl);refine Au (ax _ ?_);refine Ad ?_;refine AJ ⟨(A2 (.bp (J7 Bc) G 0::.any::.lit (.pointer (jK ⟨a,0,jJ⟩))::.lit (.pointer (jK ⟨c,0,jJ⟩))::A7 (.lit (Ayw bp)::A20 [.any]))),[.res (Bl []),.dead,.res (Be a [.lit (.map (jK m))]),.res (Be c [.lit (.slice jJ 0 0)]),.res (EF (bY .i64) [] m),.res (rowR (.slice jJ 0 0) 3 tInt []),.res (Ata l bp)]⟩ (AS) ?_;refine Hy (J:=bX) 6 0 (λk v=>[.dead,.dead,.res (Be a [.lit (.map (jK m))]),.res (Be c [.lit v]),.res (EF (bY .i64) (I2 G out k).1 m),.res (rowR v 3 tInt (I2 G out k).2),.dead]) (.slice jJ 0 0) ao V (by decide) V V V ?_ V (λ_ _=>rfl) (λ_ _=>rfl) V (λk _ _ ⟨_,h,_⟩=>h▸⟨Aqq l k,Alr l k⟩) (P2 (N:=l.length) (encs:=Aiq l) (by kernel_rfl) λw S hS hF hR=>Qw l (iZ aq (by decide)) bp w S hS hF hR) ?_ ?_
 ·exact⟨.dead (.cons (.cons (.cons (.cons (.cons (.dead (.nil _))))))),λb z=>cL.1 (show bdH [.dead,.dead,.res (Be a [.lit (.map (jK m))]),.res (Be c [.lit (.slice jJ 0 0)]),.res (EF (bY .i64) (I2 G out 0).1 m),.res (rowR (.slice jJ 0 0) 3 tInt (I2 G out 0).2),.dead]=aZ from V) b z⟩
 ·rintro k v _ _ ⟨hk,rfl,rfl⟩ C' bi;have ar:k < (CR G out).length:=by rw[<-Z];exact hk
  obtain⟨r,hr⟩:∃r,l[l.length - 1 - k]? =jK r:=⟨_,dW (by omega)⟩
  have ap:(CR G out)[(CR G out).length - 1 - k]? =jK r:=by rw[<-Z];exact hr
  have an:r∈G.regs:=ZF q.toOkG r (by rw[<-Z];exact fH hr);have B:wfB .i64 r=aZ:=q.regs r an;have hI:=JK q out k (by omega);have ac:=O0 ap ar;have ag:Aiq l k= [.lit (.int .i64 ((l.length - 1 - k:Nat):Int)),.lit (.int .i64 r)]:=by unfold Aiq;rw[hr]
  rw[ag];obtain⟨⟨A,d⟩,hs⟩:∃s,s=I2 G out k:=⟨_,rfl⟩
  rw[<-hs]at hI ac⊢;rw[ac];obtain⟨bb,ak,al⟩:=hI;dsimp only at bb ak al;refine CX (t':=(A2 (.bp (J7 Bc) G 0::.any::.lit (.pointer (jK ⟨a,0,jJ⟩))::.lit (.pointer (jK ⟨c,0,jJ⟩))::A7 (.lit (Ayw bp)::.lit (.int .i64 ((l.length - 1 - k:Nat):Int))::.lit (.int .i64 r)::A10 (A9 []))))) (h':=[.dead,.dead,.res (Be a [.lit (.map (jK m))]),.res (Be c [.lit v]),.res (EF (bY .i64) A m),.res (rowR v 3 tInt d),.dead]) V V ?_;refine wRE (hx:=by((refine AF V (SQ 7 V V ?_);refine D2 ?_ G3);(refine AF V (CN (new:=[_]) V V V (P0.one (One.lit V)) V (Nat.le_of_ble_eq_true V) ?_);refine D2 ?_ RG);exact C1 V)) (hk:=?_);refine Ap λC7 az=>?_
  refine Ad ?_;refine Ab λK8 h8=>?_
  refine Bt 7 V V V (λf=>(A2 (.bp (J7 Bc) G 0::.any::.lit (.pointer (jK ⟨a,0,jJ⟩))::.lit (.pointer (jK ⟨c,0,jJ⟩))::.any::.lit (.pointer (jK ⟨f,0,jJ⟩))::A20 (A7 [])))) (λg=>(by(repeat(first|exact iQ|refine iR ?_|refine iO ?_|refine iP V ?_)))) λf=>?_
  refine nT ?_;refine wR (hx:=by(refine sA ?_ (AB V Gi V) (Ao (Ao Gp));refine sA ?_ (AX (i:=7) (g:=f) V GB V V V) (Ao (Ao Iz));refine sA ?_ (AX (i:=2) (g:=a) V Hg V V V) (Ao (Ao Kf));refine sA ?_ (AM V V (Aiw G r m B) V V) (Ao (Ao IR));exact C1 V)) ?_;refine Ad ?_;refine AJ ⟨(A2 (.bp (J7 Bc) G 0::.any::.lit (.pointer (jK ⟨a,0,jJ⟩))::.lit (.pointer (jK ⟨c,0,jJ⟩))::.any::.lit (.pointer (jK ⟨f,0,jJ⟩))::A10 (.any::XG G r m::A10 (A5 [])))),[.dead,.dead,.res (Be a [.lit (.map (jK m))]),.res (Be c [.lit v]),.res (EF (bY .i64) A m),.res (rowR v 3 tInt d),.dead,.res (Be f [.lit (.int .i64 r)])]⟩ (AS) ?_;have aw:OkT G A r:=⟨B,(q.mov r).1,(q.mov r).2,(q.lik r).1,(q.lik r).2,(q.cl r).1,(q.cl r).2,ak⟩
  obtain⟨U,af,ae⟩:=Yw (Gn G A r) (D6 G A r);obtain⟨stop,O⟩:∃x,x=(D6 G A r).findIdx (Gn G A r):=⟨_,rfl⟩
  rw[<-O]at U af ae;obtain⟨Y,ab⟩:∃x,x=(D6 G A r).getD stop 0:=⟨_,rfl⟩
  have ba:A.length < cC:=by have:=al;unfold cC;omega
  refine Abz (N:=(D6 G A r).length) (stop:=stop) (Φ:=λR=>Al7 R m (mapK (bY .i64) A)) (encs:=λk=>[.lit (.int .i64 ((D6 G A r).getD k 0))]) 1 (λ_=>[.dead,.dead,.res (Be a [.lit (.map (jK m))]),.res (Be c [.lit v]),.res (EF (bY .i64) A m),.res (rowR v 3 tInt d),.dead,.res (Be f [.lit (.int .i64 r)])]) [.dead,.dead,.res (Be a [.lit (.map (jK m))]),.res (Be c [.lit v]),.res (EF (bY .i64) (B6 A r Y) m),.res (rowR v 3 tInt d),.dead,.res (Be f [.lit (.int .i64 r)])] az V V V ?_ (λ_=>rfl) V V (λ_=>rfl) (λ_=>rfl) (Za G A r m stop aw) (λS bg w bf p=>Ahi (Φ:=λW=>M4 W m (mapK (bY .i64) A)) 4 V (λ_ _ h=>h) p) ?_ ?_ ?_ ?_
  ·exact⟨.dead (.dead (.cons (.cons (.cons (.cons (.dead (.cons (.nil _)))))))),λb z=>cL.1 (show bdH [.dead,.dead,.res (Be a [.lit (.map (jK m))]),.res (Be c [.lit v]),.res (EF (bY .i64) A m),.res (rowR v 3 tInt d),.dead,.res (Be f [.lit (.int .i64 r)])]=aZ from V) b z⟩
  ·intro j av au be aj;obtain⟨u,e⟩:∃x,(D6 G A r)[j]? =jK x:=⟨_,dW av⟩
   have X:Cl u:=W9 q (fH e);have ad:Gn G A r u=aL:=ae j u au e;rw[show(D6 G A r).getD j 0=u by rw[dT,e];rfl];refine CX (t':=(A2 (.bp (J7 Bc) G 0::.any::.lit (.pointer (jK ⟨a,0,jJ⟩))::.lit (.pointer (jK ⟨c,0,jJ⟩))::.any::.lit (.pointer (jK ⟨f,0,jJ⟩))::A10 (.any::XG G r m::.lit (.int .i64 u)::A10 (A4 []))))) (h':=[.dead,.dead,.res (Be a [.lit (.map (jK m))]),.res (Be c [.lit v]),.res (EF (bY .i64) A m),.res (rowR v 3 tInt d),.dead,.res (Be f [.lit (.int .i64 r)])]) V V ?_;refine wRE (hx:=by(refine sA ?_ (AT.assign V (Aq (Aq Hg))) (Ao Gp);exact C1 V)) ?_;refine Ap λbc ai=>?_
   refine Ad ?_;refine wR (hx:=by(refine sA ?_ (AB V Gi V) (Ao (Ao Gl));refine sA ?_ (AX (i:=7) (g:=f) V GB V V V) (Ao (Ao HT));refine sA ?_ (AT.move V (Aq Je)) (Ao (Ao G3));refine sA ?_ (AX (i:=2) (g:=a) V Hg V V V) (Ao (Ao (Ao Gp)));refine sA (hq:=Dp V (Se G A r u B X (q.near r) (q.nearl r)) (.cons (.cl V) (.cons (.cl V) (.cons (.cl V) (.cons (NS.map (i:=4) V) .nil))))) (ht:=(Ao (Ao (Ao Iz)))) (hk:=?_);exact C1 V)) (hk:=?_);refine Ah V (λo=>?_) (λo=>?_)
   ·exfalso;rw[show Gn G A r u=aZ from o]at ad;cases ad
   ·refine Al ?_;refine abN ?_;exact⟨rfl,(),⟨.dead (.dead (.cons (.cons (.cons (.cons (.dead (.cons (.nil _)))))))),λb z=>cL.1 (show bdH [.dead,.dead,.res (Be a [.lit (.map (jK m))]),.res (Be c [.lit v]),.res (EF (bY .i64) A m),.res (rowR v 3 tInt d),.dead,.res (Be f [.lit (.int .i64 r)])]=aZ from V) b z⟩⟩
  ·intro F be aj;obtain⟨u,e,E,H⟩:=U F;have X:Cl u:=W9 q (fH e);have P:Y=u:=by rw[ab,dT,e];rfl
   rw[show(D6 G A r).getD stop 0=u by rw[dT,e];rfl];refine CX (t':=(A2 (.bp (J7 Bc) G 0::.any::.lit (.pointer (jK ⟨a,0,jJ⟩))::.lit (.pointer (jK ⟨c,0,jJ⟩))::.any::.lit (.pointer (jK ⟨f,0,jJ⟩))::A10 (.any::XG G r m::.lit (.int .i64 u)::A10 (A4 []))))) (h':=[.dead,.dead,.res (Be a [.lit (.map (jK m))]),.res (Be c [.lit v]),.res (EF (bY .i64) A m),.res (rowR v 3 tInt d),.dead,.res (Be f [.lit (.int .i64 r)])]) V V ?_;refine wRE (hx:=by(refine sA ?_ (AT.assign V (Aq (Aq Hg))) (Ao Gp);exact C1 V)) ?_;refine Ap λbc ai=>?_
   refine Ad ?_;refine wR (hx:=by(refine sA ?_ (AB V Gi V) (Ao (Ao Gl));refine sA ?_ (AX (i:=7) (g:=f) V GB V V V) (Ao (Ao HT));refine sA ?_ (AT.move V (Aq Je)) (Ao (Ao G3));refine sA ?_ (AX (i:=2) (g:=a) V Hg V V V) (Ao (Ao (Ao Gp)));refine sA (hq:=Dp V (Se G A r u B X (q.near r) (q.nearl r)) (.cons (.cl V) (.cons (.cl V) (.cons (.cl V) (.cons (NS.map (i:=4) V) .nil))))) (ht:=(Ao (Ao (Ao Iz)))) (hk:=?_);exact C1 V)) (hk:=?_);refine Ah V (λo=>?_) (λo=>?_)
   ·refine wR (hx:=by(refine sA ?_ (AX (i:=2) (g:=a) V Hg V V V) (Ao (Ao (Ao Kf)));refine sA ?_ (AX (i:=7) (g:=f) V GB V V V) (Ao (Ao (Ao IR)));refine sA ?_ (AT.move V (Aq Je)) (Ao (Ao (Ao JB)));(refine AF V (J4 4 V Tryz.underlying51 V V V B ba V ?_);refine D2 ?_ RG);exact C1 V)) (hk:=?_);refine Ay ?_;refine exO (by decide) ?_;rw[P];exact⟨rfl,(),⟨.dead (.dead (.cons (.cons (.cons (.cons (.dead (.cons (.nil _)))))))),λb z=>cL.1 (show bdH [.dead,.dead,.res (Be a [.lit (.map (jK m))]),.res (Be c [.lit v]),.res (EF (bY .i64) (B6 A r u) m),.res (rowR v 3 tInt d),.dead,.res (Be f [.lit (.int .i64 r)])]=aZ from V) b z⟩⟩
   ·exfalso;rw[show Gn G A r u=aL from o]at E;cases E
  ·intro F;have y:MC G A r=jJ:=af F;have I:ED G (A,d) r=(A,d++[r]):=by
    show(match MC G A r with|some p=>(B6 A r p,d)|none=>(A,d++[r]))=_;rw[y]
   rw[I];have am:Fj (d.length+ [r].length) 8=aZ:=by
    unfold Fj;simp only[zaf,zah];unfold cC;omega
   refine h8 _ ?_;refine nT ?_;refine Ay9 λbj ah=>?_
   refine sA ?_ (AX (i:=3) (g:=c) V Fr V V V) (Ao (Ao (Ao Gl)));refine sA ?_ (AX (i:=7) (g:=f) V GB V V V) (Ao (Ao (Ao HT)));refine sA ?_ (Ce (T:=tInt) V V V (by rfl) (by decide) (Fit.int B)) (Ao (Ao (Ao G3)));refine AF V (VN 5 V V (Aq (Aq (Aq Fr))) V (Aq (Aq (Aq GB))) am λv'=>?_);refine D2 ?_ (Ar Gp);refine AF V (Ip (i:=3) (g:=c) (new:=[.lit v']) V Fr V (P0.one (Mh (i:=5) V)) V V (iW V) ?_);refine D2 ?_ RG;refine Au (ah _ ?_);refine abN ?_;refine⟨rfl,v',?_⟩;simp only[I];exact⟨.dead (.dead (.cons (.cons (.cons (.cons (.dead (.nil _))))))),λb z=>cL.1 (show bdH [.dead,.dead,.res (Be a [.lit (.map (jK m))]),.res (Be c [.lit v']),.res (EF (bY .i64) A m),.res (rowR v' 3 tInt (d++[r])),.dead]=aZ from V) b z⟩
  ·intro F;obtain⟨u,e,E,H⟩:=U F;have P:Y=u:=by rw[ab,dT,e];rfl
   have y:MC G A r=jK Y:=by rw[P];exact H
   have I:ED G (A,d) r=(B6 A r Y,d):=by
    show(match MC G A r with|some p=>(B6 A r p,d)|none=>(A,d++[r]))=_;rw[y]
   rw[I];repeat(first|refine BC ?_|refine exO (by decide) ?_|refine asE ?_)
   refine exN ?_;exact⟨rfl,v,⟨.dead (.dead (.cons (.cons (.cons (.cons (.dead (.nil _))))))),λb z=>cL.1 (show bdH [.dead,.dead,.res (Be a [.lit (.map (jK m))]),.res (Be c [.lit v]),.res (EF (bY .i64) (B6 A r Y) m),.res (rowR v 3 tInt d),.dead]=aZ from V) b z⟩⟩
 ·rintro _ rfl v D;have K:=MD G out;rw[<-Z]at K;rw[K];refine h4 _ ?_;refine AJ ⟨(A2 (.bp (J7 Bc) G 0::.any::.lit (.pointer (jK ⟨a,0,jJ⟩))::.lit (.pointer (jK ⟨c,0,jJ⟩))::A20 (A9 []))),[.res (Bl [D]),.dead,.res (Be a [.lit (.map (jK m))]),.res (Be c [.lit v]),.res (EF (bY .i64) (BF G out).1 m),.res (rowR v 3 tInt (BF G out).2),.dead]⟩ (AS) ?_;refine AJ ⟨[.any,.any,.bp (J7 Bc) G 0,.any,.lit (.pointer (jK ⟨a,0,jJ⟩)),.lit (.pointer (jK ⟨c,0,jJ⟩)),.any,.any,.any,.any,.any,.any,.any,.any,.any,.any,.any,.any,.any,.any,.any,.any,.any,.any,.any,.any,.any,.any,.any,.any,.any,.any,.any,.any,.any],[.res (Bl [D]),.dead,.res (Be a [.lit (.map (jK m))]),.res (Be c [.lit v]),.res (EF (bY .i64) (BF G out).1 m),.res (rowR v 3 tInt (BF G out).2),.dead]⟩ AS ?_;refine Ab λbh aa=>?_
  refine Gg (n:=4) () (λ(i:Unit) (b:Nat->Bool)=>⟨[.any,.any,.bp (J7 Bc) G 0,.any,.lit (.pointer (jK ⟨a,0,jJ⟩)),.lit (.pointer (jK ⟨c,0,jJ⟩)),.any,.any,.any,.any,.any,.any,.any,.any,.any,.any,.any,.any,.any,.any,.any,.any,.any,.any,.any,.any,.any,.any,.any,.any,.any,.any,.any,(bif b 0 then .lit (.map (jK m))else .any),(bif b 1 then .lit v else .any)],[.res (Bl [D]),.dead,.res (Be a [.lit (.map (jK m))]),.res (Be c [.lit v]),.res (EF (bY .i64) (BF G out).1 m),.res (rowR v 3 tInt (BF G out).2),.dead]⟩) ?_ ?_ ?_ ?_ ?_
  ·rfl
  ·kernel_rfl
  ·kernel_rfl
  ·refine AQ (λi b z ha hc=>?_) ?_
   ·try dsimp only
    refine AY (AX (i:=2) (g:=a) V Hg V V V) ?_;exact⟨i,iU⟩
   refine AQ (λi b z ha hc=>?_) ?_
   ·try dsimp only
    refine AY (AX (i:=3) (g:=c) V Fr V V V) ?_;exact⟨i,iU⟩
   refine AQ (λi b z ha hc=>?_) ?_
   ·have h0:b 0=aZ:=ha 0 _ V V;try dsimp only
    refine Ip (i:=2) (g:=a) (new:=[.lit (.map (jK m))]) V Hg V (P0.at ((As FG).trans (BG h0 _ _)) (P0.one (One.lit V))) V V (iW V) ?_;refine⟨i,?_⟩;exact iU
   refine AQ (λi b z ha hc=>?_) ?_
   ·have h1:b 1=aZ:=ha 0 _ V V;try dsimp only
    refine Ip (i:=3) (g:=c) (new:=[.lit v]) V Fr V (P0.at ((As Gi).trans (BG h1 _ _)) (P0.one (Mh (i:=5) V))) V V (iW V) ?_;refine⟨i,?_⟩;exact iU
   exact Pr
  intro i;refine aa _ ?_;refine AJ ⟨[.any,.any,.bp (J7 Bc) G 0,.any,.lit (.pointer (jK ⟨a,0,jJ⟩)),.lit (.pointer (jK ⟨c,0,jJ⟩)),.any,.any,.any,.any,.any,.any,.any,.any,.any,.any,.any,.any,.any,.any,.any,.any,.any,.any,.any,.any,.any,.any,.any,.any,.any,.any,.any,.lit (.map (jK m)),.lit v],[.res (Bl [D]),.dead,.res (Be a [.lit (.map (jK m))]),.res (Be c [.lit v]),.res (EF (bY .i64) (BF G out).1 m),.res (rowR v 3 tInt (BF G out).2),.dead]⟩ iU ?_;refine AJ _ (DF 4 5 (by decide) V V) ?_;exact Aw ⟨.inr V,[D],a,c,2,3,4,(m,v),.map (jK m),v,rfl,rfl,by decide,by decide,by decide,rfl,rfl,rfl,rfl,rfl,rfl⟩
theorem Ni{G:gV}{Q:Int->Prop}:∀(n:Nat) {E:List (Int×Int)} {l:List Int},Ea E->(∀x,(getK E x).isSome=aZ->Q x)->(∀x∈l,Q x)->∀x∈DM G n E l,Q x
 |0,E,l,_,_,a=>a
 |n+1,E,l,c,hk,a=>by
  unfold DM;cases d:LA G E with
  |none=>exact a
  |some r=>
   have b:=Lz d;refine Ni n (Le c b).1 (λx hx=>hk x ?_) λx hx=>?_
   ·rw[GT c]at hx;simp only[aI]at hx;exact hx.1
   ·rcases eW.1 hx with h|h
    ·exact a x h
    ·rw[fN.1 h];exact hk r b
theorem MJ(a:OkG G)(out:List (Int×Int))(x:Int)(h:(getK (H7 G out) x).isSome=aZ):x∈G.regs/\(getK out x).getD 0=0:=by
 have h0:=LR out a.regs;have h2:=(F7 G h0 (keysK (EB G.regs out)) (Cn h0.1) λq hq=>hq).2.1 x;have hk:(getK (EB G.regs out) x).isSome=aZ:=by
  rw[show H7 G out=(keysK (EB G.regs out)).foldl (Sm G) (EB G.regs out)from V,h2]at h;split at h
  ·rw[jH]at h;exact h
  ·exact h
 rw[Pj out a.regs x]at hk;split at hk
 ·assumption
 ·cases hk
theorem H5(a:OkG G):∀x∈CR G out,x∈G.regs/\(getK out x).getD 0=0:=
 Ni _ (I7 (out:=out) a).asc (MJ a out) λx hx=>by cases hx
def Ajw(G:gV)(out:List (Int×Int)):List (Int×Int):=(BF G out).2.foldl (λo r=>B6 o r 1) out
def DL(G:gV):Nat->List (Int×Int)
 |0=>[]
 |n+1=>Ajw G (DL G n)
theorem QZ{G:gV}:∀(l:List Int) (s:List (Int×Int)×List Int) (x:Int),x∈(l.foldl (ED G) s).2->x∈s.2\/x∈l
 | [],s,x,h=>.inl h
 |r::l,s,x,h=>by
  rcases QZ l (ED G s r) x h with h1|h1
  ·unfold ED at h1;cases a:MC G s.1 r with
   |some p=>rw[a]at h1;exact .inl h1
   |none=>
    rw[a]at h1;rcases eW.1 h1 with h2|h2
    ·exact .inl h2
    ·exact .inr (by rw[fN.1 h2];exact fB)
  ·exact .inr (fA _ h1)
theorem JJ(a:OkG G)(h:x∈(BF G out).2):x∈G.regs/\(getK out x).getD 0=0:=by
 rcases QZ _ _ x h with h1|h1
 ·cases h1
 ·exact H5 a x (fM.1 h1)
theorem Lw:∀{o:List (Int×Int)},Ea o->∀x,getK (l.foldl (λo r=>B6 o r 1) o) x=if x∈l then jK 1 else getK o x:=by
 induction l with
 |nil=>intro o h x;rfl
 |cons r l a=>
  intro o h x;show getK (l.foldl (λo r=>B6 o r 1) (B6 o r 1)) x=_;rw[a (h.put r 1) x,BH h];by_cases h1:x∈l
  ·rw[if_pos h1,if_pos (fA _ h1)]
  ·rw[if_neg h1];by_cases h2:x=r
   ·rw[if_pos h2,if_pos (by rw[h2];exact fB)]
   ·rw[if_neg h2,if_neg λh3=>by
     rcases eZ.1 h3 with h3|h3
     ·exact h2 h3
     ·exact h1 h3]
def NO(G:gV)(out:List (Int×Int)):Nat:=(G.regs.filter λx=>(getK out x).getD 0 ==0).length
theorem UI{b:Type}{p q:b->Bool}:∀{l:List b},(∀x∈l,q x=aZ->p x=aZ)->(∃x∈l,p x=aZ/\q x=aL)->(l.filter q).length < (l.filter p).length
 | [],_,⟨x,hx,_⟩=>by cases hx
 |y::l,h,⟨x,hx,h1,h2⟩=>by
  have f:(l.filter q).length<=(l.filter p).length:=by
   rw[<-cX,<-cX];exact List.countP_mono_left λz a=>h z (fA _ a)
  rcases eZ.1 hx with e|hx
  ·subst e;rw[dJ h1,dI (by rw[h2];decide),eK];omega
  ·have d:=UI (p:=p) (q:=q) (l:=l) (λz a=>h z (fA _ a)) ⟨x,hx,h1,h2⟩;cases hq:q y with
   |true=>
    rw[dJ hq,dJ (h y fB hq),eK,eK];omega
   |false=>
    rw[dI (by rw[hq];decide)];refine Nat.lt_of_lt_of_le d ?_;cases c:p y with
    |true=>rw[dJ c,eK];omega
    |false=>rw[dI (by rw[c];decide)];exact iY _
theorem Aeu(b:OkG G)(a:Ea out)(h:(BF G out).2≠[]):NO G (Ajw G out) < NO G out:=by
 unfold NO Ajw;refine UI (λx hx hq=>?_) ?_
 ·rw[Lw a]at hq;split at hq
  ·cases hq
  ·exact hq
 ·obtain⟨x,hx⟩:=dD _ h;obtain⟨h1,h2⟩:=JJ b hx;refine⟨x,h1,by rw[h2];rfl,?_⟩;rw[Lw a,if_pos hx];rfl
theorem Aei:∀{o:List (Int×Int)},okK o->(∀r∈l,Cl r)->okK (l.foldl (λo r=>B6 o r 1) o):=by
 induction l with
 |nil=>intro o h _;exact h
 |cons r l b=>intro o h a;exact b (h.put (a r fB) 1) λx hx=>a x (fA _ hx)
theorem Aov(a:OkG G)(c:okK out):okK (Ajw G out):=Aei c λr b=>a.regs r (JJ a b).1
theorem Gt{G:gV}(a:OkG G):∀n,okK (DL G n)
 |0=>okK.nil
 |n+1=>Aov a (Gt a n)
theorem Aet(b:OkG G)(a:Ea out)(h:∀x∈keysK out,x∈G.regs):∀x∈keysK (Ajw G out),x∈G.regs:=λx hx=>by
 have h1:=CK.1 hx;unfold Ajw at h1;rw[Lw a]at h1;split at h1
 ·rename_i h2;exact(JJ b h2).1
 ·exact h x (CK.2 h1)
theorem W6(b:OkG G):∃n,(BF G (DL G n)).2= []/\n<=NO G []:=by
 have a:∀n,(∀k,k < n->(BF G (DL G k)).2≠[])->NO G (DL G n)+n<=NO G []:=by
  intro n;induction n with
  |zero=>intro _;exact iY _
  |succ n c=>
   intro h;have h1:=c λk hk=>h k (by omega)
   have h2:=Aeu b (Gt b n).1 (h n (i6 n));show NO G (Ajw G (DL G n))+(n+1)<=_;omega
 refine a7 λd=>?_
 have:=a (NO G []+1) λk hk e=>d ⟨k,e,by omega⟩
 omega
def LK(G:gV)(r:Int):List Int:=(getK G.near r).getD []
def Qv(G:gV)(r:Int):List Int:=(getK G.cls r).getD []
structure SymG(G:CGraph):Prop where
 sym:∀a b,b∈LK G a->a∈LK G b
 irr:∀a,a∉LK G a
def Ayk(G:gV)(A:List (Int×Int)):Prop:=∀a p,getK A a=jK p->∀b,b∈LK G a->getK A b≠jK p
theorem Jg:Gn G A r p=aZ↔∀k∈LK G r,getK A k≠jK p:=by
 unfold Gn;rw[aR,cN];constructor
 ·intro h k hk e;refine h k hk ?_;unfold freeP;rw[e];simp
 ·intro h k hk a;unfold freeP at a;rw[aI]at a;obtain⟨v,b⟩:=jG.1 a.1;refine h k hk ?_;rw[b]at a⊢;rw[eq_of_beq a.2];rfl
theorem Ayk.put(g:SymG G)(k:Ea A)(h:Ayk G A)(f:Gn G A r p=aZ):Ayk G (B6 A r p):=by
 rw[Jg]at f;intro a q c b d;rw[BH k]at c⊢;by_cases j:a=r
 ·subst j;rw[if_pos V]at c;cases c;rw[if_neg λe:b=a=>g.irr a (by rw[e]at d;exact d)];exact f b d
 ·rw[if_neg j]at c;by_cases i:b=r
  ·subst i;rw[if_pos V];intro e;cases e;exact f a (g.sym a b d) c
  ·rw[if_neg i];exact h a q c b d
structure PntQ(G:CGraph)(s:List (Int×Int)×List Int)(Q:Int->Prop):Prop where
 asc:Ea s.1
 nocl:Ayk G s.1
 cl:∀r p,getK s.1 r=some p->p∈Qv G r
 key:∀r,(getK s.1 r).isSome=true->Q r
 all:∀r,Q r->(getK s.1 r).isSome=true\/r∈s.2
theorem PntQ.next(f:SymG G){s:List (Int×Int)×List Int}(h:PntQ G s Q)(r:Int):PntQ G (ED G s r) λx=>Q x\/x=r:=by
 unfold ED;cases b:MC G s.1 r with
 |none=>
  refine⟨h.asc,h.nocl,h.cl,λx hx=>.inl (h.key x hx),λx hx=>?_⟩;rcases hx with hx|rfl
  ·rcases h.all x hx with h1|h1
   ·exact .inl h1
   ·exact .inr (eX _ h1)
  ·exact .inr (eY _ (fN.2 V))
 |some p=>
  have d:Gn G s.1 r p=aZ:=List.find?_some b;have c:=TS b;unfold D6 at c;have hc:=(fD.1 c).2;rw[cV]at hc;have hg:∀x,getK (B6 s.1 r p) x=if x=r then jK p else getK s.1 x:=λx=>BH h.asc _ _ _
  refine⟨h.asc.put r p,h.nocl.put f h.asc d,λx q hx=>?_,λx hx=>?_,λx hx=>?_⟩
  ·have a:getK (B6 s.1 r p) x=jK q:=hx;clear hx;rw[hg x]at a;split at a
   ·rename_i e;subst e;cases a;exact hc
   ·exact h.cl x q a
  ·have hx:(getK (B6 s.1 r p) x).isSome=aZ:=hx;rw[hg]at hx;split at hx
   ·rename_i e;exact .inr e
   ·exact .inl (h.key x hx)
  ·show(getK (B6 s.1 r p) x).isSome=aZ\/x∈s.2;rw[hg];split
   ·exact .inl V
   ·rename_i e;exact h.all x (hx.resolve_right e)
theorem Amt{G:gV}(b:SymG G):∀(l:List Int) {s:List (Int×Int)×List Int} {Q:Int->Prop},PntQ G s Q->PntQ G (l.foldl (ED G) s) λx=>Q x\/x∈l
 | [],s,Q,h=>⟨h.asc,h.nocl,h.cl,λr a=>.inl (h.key r a),λr a=>h.all r (a.resolve_right λh=>by cases h)⟩
 |r::l,s,Q,h=>by
  have h1:=Amt b l (h.next b r);exact⟨h1.asc,h1.nocl,h1.cl,λx hx=>by
   rcases h1.key x hx with(h2|h2)|h2
   ·exact .inl h2
   ·exact .inr (h2▸fB)
   ·exact .inr (fA _ h2),λx hx=>h1.all x (by
   rcases hx with hx|hx
   ·exact .inl (.inl hx)
   ·rcases eZ.1 hx with hx|hx
    ·exact .inl (.inr hx)
    ·exact .inr hx)⟩
theorem Ajs{E:List (Int×Int)}(hk:∀x,(getK E x).isSome=aZ->x∈G.regs)(c:E≠[])(d:Ea E):∃r,LA G E=jK r:=by
 unfold LA;cases h1:G.regs.find? (Q3 G E)with
 |some r=>exact⟨r,rfl⟩
 |none=>
  show∃r,(G.cheap++G.regs).find? (λr=>(getK E r).isSome)=jK r;obtain⟨p,b⟩:=dD _ c;have a:(getK E p.1).isSome=aZ:=by rw[(CH d).2 b];rfl
  cases h2:(G.cheap++G.regs).find? λr=>(getK E r).isSome with
  |some r=>exact⟨r,rfl⟩
  |none=>
   rw[dN]at h2;exact absurd a (h2 p.1 (eY _ (hk _ a)))
theorem O1{G:gV}:∀(n:Nat) (E:List (Int×Int)) (l:List Int) (x:Int),x∈l->x∈DM G n E l
 |0,E,l,x,h=>h
 |n+1,E,l,x,h=>by
  unfold DM;cases LA G E with
  |none=>exact h
  |some r=>exact O1 n _ _ x (eX _ h)
theorem O3{G:gV}:∀(n:Nat) {E:List (Int×Int)} {l:List Int},E.length=n->Ea E->(∀x,(getK E x).isSome=aZ->x∈G.regs)->∀x,(getK E x).isSome=aZ->x∈DM G n E l
 |0,E,l,a,_,_,x,hx=>by
  rw[dB a]at hx;cases hx
 |n+1,E,l,a,b,hk,x,hx=>by
  obtain⟨r,d⟩:=Ajs hk (λe=>by rw[e]at a;cases a) b;have f:=Lz d;obtain⟨h1,h2⟩:=Le (G:=G) b f;unfold DM;rw[d];by_cases e:x=r
  ·exact O1 n _ _ x (by rw[e];simp)
  ·refine O3 n (by omega) h1 (λy c=>hk y ?_) x ?_
   ·rw[GT b,aI]at c;exact c.1
   ·rw[GT b,hx];simpa using e
theorem Afo(b:OkG G)(out:List (Int×Int))(hx:x∈G.regs)(h0:(getK out x).getD 0=0):(getK (H7 G out) x).isSome=aZ:=by
 have h1:=LR out b.regs;have h2:=(F7 G h1 (keysK (EB G.regs out)) (Cn h1.1) λq hq=>hq).2.1 x;have a:=Pj out b.regs x;rw[if_pos ⟨hx,h0⟩]at a;rw[show H7 G out=(keysK (EB G.regs out)).foldl (Sm G) (EB G.regs out)from V,h2];split
 ·rw[a];rfl
 ·rw[a];rfl
theorem Q2(a:OkG G):x∈CR G out↔x∈G.regs/\(getK out x).getD 0=0:=
 ⟨H5 a x,λh=>O3 _ V (I7 (out:=out) a).asc (λy b=>(MJ a out y b).1) x (Afo a out h.1 h.2)⟩
theorem X0(c:OkG G)(d:SymG G)(out:List (Int×Int)):PntQ G (BF G out) λx=>x∈G.regs/\(getK out x).getD 0=0:=by
 have h:=Amt d (CR G out).reverse (s:=([],[])) (Q:=λ_=>False) ⟨Ea.nil,λa p h=>(by cases h),λr p h=>(by cases h),λr h=>(by cases h),λr h=>h.elim⟩;refine⟨h.asc,h.nocl,h.cl,λr b=>?_,λr b=>?_⟩
 ·rcases h.key r b with h1|h1
  ·exact h1.elim
  ·exact(Q2 c).1 (fM.1 h1)
 ·exact h.all r (.inr (fM.2 ((Q2 c).2 b)))
structure SltQ(G:CGraph)(s:List (Int×Int)×Int)(Q:Int->Prop):Prop where
 asc:Ea s.1
 nocl:Ayk G s.1
 cl:∀r p,getK s.1 r=some p->p∈Qv G r\/(32<=p/\p < 32+s.2)
 key:∀r,(getK s.1 r).isSome=true↔Q r
 pos:0<=s.2
 use:∀z:Int,32<=z->z < 32+s.2->∃r,getK s.1 r=some z
theorem SltQ.next(o:SymG G){s:List (Int×Int)×Int}(h:SltQ G s Q)(j:¬Q r):SltQ G (IL G s r) λx=>Q x\/x=r:=by
 obtain⟨h1,h2,i⟩:=Ms G s.1 r;have m:getK s.1 r=jJ:=by
  cases e:getK s.1 r with
  |none=>rfl
  |some v=>exact absurd ((h.key r).1 (by rw[e];rfl)) j
 unfold IL;obtain⟨n,g⟩:∃n,n=slotN G s.1 r:=⟨_,rfl⟩
 rw[<-g]at h1 h2 i⊢;have hg:∀x,getK (B6 s.1 r (32+(n:Int))) x=if x=r then jK (32+(n:Int))else getK s.1 x:=λx=>BH h.asc _ _ _
 have y:=h.pos;refine⟨h.asc.put _ _,h.nocl.put o h.asc h2,λx q hx=>?_,λx=>?_,?_,λz d b=>?_⟩
 ·have c:getK (B6 s.1 r (32+(n:Int))) x=jK q:=hx;clear hx;rw[hg]at c;show q∈Qv G x\/(32<=q/\q < 32+max s.2 ((n:Int)+1));split at c
  ·cases c;exact .inr (by omega)
  ·rcases h.cl x q c with h4|h4
   ·exact .inl h4
   ·exact .inr (by omega)
 ·show(getK (B6 s.1 r (32+(n:Int))) x).isSome=aZ↔_;rw[hg];split
  ·rename_i e;exact⟨λ_=>.inr e,λ_=>rfl⟩
  ·rename_i e;rw[h.key x];exact⟨.inl,λk=>k.resolve_right e⟩
 ·show 0<=max s.2 ((n:Int)+1);omega
 ·show∃x,getK (B6 s.1 r (32+(n:Int))) x=jK z;have b:z < 32+max s.2 ((n:Int)+1):=b;have a:(∃x,getK s.1 x=jK z)->∃x,getK (B6 s.1 r (32+(n:Int))) x=jK z:=λ⟨x,hx⟩=>⟨x,by rw[hg,if_neg λe=>by rw[e,m]at hx;cases hx];exact hx⟩
  by_cases w:z < 32+s.2
  ·exact a (h.use z d w)
  ·by_cases u:z=32+(n:Int)
   ·exact⟨r,by rw[hg,if_pos V,u]⟩
   ·have h4:=i (z - 32).toNat (by omega);rw[show 32+(((z - 32).toNat:Nat):Int)=z by omega]at h4;refine a ?_;refine a7 λf=>?_
    rw[Jg.2 λk _ e=>f ⟨k,e⟩]at h4;cases h4
theorem Atd{G:gV}(b:SymG G):∀(l:List Int) {s:List (Int×Int)×Int} {Q:Int->Prop},SltQ G s Q->l.Nodup->(∀x∈l,¬Q x)->SltQ G (l.foldl (IL G) s) λx=>Q x\/x∈l
 | [],s,Q,h,_,_=>⟨h.asc,h.nocl,h.cl,λr=>by simpa using h.key r,h.pos,h.use⟩
 |r::l,s,Q,h,a,hq=>by
  rw[fR]at a;have h1:=Atd b l (h.next b (hq r fB)) a.2 λx hx hh=>by
   rcases hh with hh|hh
   ·exact hq x (fA _ hx) hh
   ·exact a.1 (hh▸hx)
  refine⟨h1.asc,h1.nocl,h1.cl,λx=>?_,h1.pos,h1.use⟩;rw[dQ,h1.key x,eZ,or_assoc]
theorem Ado(i:OkG G)(c:SymG G)(g:Ea out)(h1:∀x v,getK out x=jK v->v=1)(f:∀x∈keysK out,x∈G.regs)(h0:(BF G out).2= []):SltQ G (IJ G out (BF G out).1) λx=>x∈G.regs:=by
 have a:=X0 i c out;have hq:SltQ G ((BF G out).1,0) λx=>x∈G.regs/\(getK out x).getD 0=0:=⟨a.asc,a.nocl,λr p h=>.inl (a.cl r p h),λr=>⟨a.key r,λh=>(a.all r h).resolve_right λh=>by rw[h0]at h;cases h⟩,cE 0,λz h2 d=>by have d:z < 32+0:=d;omega⟩
 have hk:∀x,x∈keysK out->(getK out x).getD 0≠0:=λx hx=>by
  obtain⟨v,b⟩:=jG.1 (CK.1 hx);rw[b,h1 x v b];decide
 have h:=Atd c (keysK out) hq (Cn g) λx hx hh=>hk x hx hh.2
 refine⟨h.asc,h.nocl,h.cl,λx=>?_,h.pos,h.use⟩;show(getK (((keysK out).foldl (IL G) ((BF G out).1,0))).1 x).isSome=aZ↔_;rw[h.key x];constructor
 ·rintro(h2|h2)
  ·exact h2.1
  ·exact f x h2
 ·intro h2;by_cases e:x∈keysK out
  ·exact .inr e
  ·refine .inl ⟨h2,?_⟩;cases j:getK out x with
   |none=>rfl
   |some v=>exact absurd (CK.2 (by rw[j];rfl)) e
theorem LG{G:gV}(a:OkG G):∀n x v,getK (DL G n) x=jK v->v=1
 |0,x,v,h=>by cases h
 |n+1,x,v,h=>by
  have h:getK (Ajw G (DL G n)) x=jK v:=h;unfold Ajw at h;rw[Lw (Gt a n).1]at h;split at h
  ·cases h;rfl
  ·exact LG a n x v h
theorem JL{G:gV}(a:OkG G):∀n,∀x∈keysK (DL G n),x∈G.regs
 |0,x,h=>by cases h
 |n+1,x,h=>Aet a (Gt a n).1 (JL a n) x h
theorem XX(e:OkG G)(b:okK out)(d:∀x∈keysK out,x∈G.regs)(c:∀x∈l,x∈G.regs):(l.foldl (λo r=>B6 o r 1) out).length<=G.regs.length:=by
 have h1:=Aei (l:=l) b λx hx=>e.regs x (c x hx)
 have h2:=Dc (Cn h1.1) (m:=G.regs) λx hx=>by
  have a:=CK.1 hx;rw[Lw b.1]at a;split at a
  ·rename_i f;exact c x f
  ·exact d x (CK.2 a)
 simpa[keysK]using h2
theorem Ajr(f:(Qv G r).Nodup)(g:(LK G r).length < (Qv G r).length):∃p,MC G A r=jK p:=by
 unfold MC;cases d:(D6 G A r).find? (Gn G A r)with
 |some p=>exact⟨p,rfl⟩
 |none=>
  rw[dN]at d;have c:=E7 (m:=(LK G r).map λx=>(getK A x).getD 0) f λp a=>by
   have hc:p∈D6 G A r:=by
    unfold D6 Y9;refine fD.2 ⟨?_,cV.2 a⟩;simp only[eW];exact .inr a
   have h1:=d p hc;refine a7 λb=>h1 (Jg.2 λk hk e=>b ?_)
   exact fG.2 ⟨k,hk,by rw[e];rfl⟩
  rw[eM]at c;omega
theorem TX{G:gV}(b:∀r∈G.regs,(Qv G r).Nodup/\(LK G r).length < (Qv G r).length):∀(l:List Int),(∀x∈l,x∈G.regs)->∀(s:List (Int×Int)×List Int),(l.foldl (ED G) s).2=s.2
 | [],_,s=>rfl
 |r::l,a,s=>by
  obtain⟨h1,h2⟩:=b r (a r fB);obtain⟨p,c⟩:=Ajr (A:=s.1) h1 h2;rw[dQ,TX b l (λx hx=>a x (fA _ hx))];unfold ED;rw[c]
theorem ZE(b:OkG G)(a:∀r∈G.regs,(Qv G r).Nodup/\(LK G r).length < (Qv G r).length)(out:List (Int×Int)):(BF G out).2= []:=
 TX a _ (λx hx=>(H5 b x (fM.1 hx)).1) _
theorem KT(d:C.std)(i j:Nat){l:List (Int×Int)}{g:Nat}(hi:h[i]? =jK (.res (EF (bY .i64) l g)))(c:t[j]? =jK (.lit (.map (jK g)))):St.le C ⟨t,h⟩ ⟨t.set j (.tv tMapI l),h.set i .dead⟩:=
 Hs i j hi V V c (Uw d hi V) λS ψ w v H b=>by
  obtain⟨_,a⟩:=H.blk i _ hi;unfold gR at b⊢;rw[b];exact tMapI.keepS (Q5 (S:=λk=>k=g) a V) (λ_ _=>rfl) λk hk=>.inr hk
theorem Jq(f:C.std)(i j:Nat){v:bX}(hi:h[i]? =jK (.res (rowR v 3 tInt l)))(e:t[j]? =jK (.lit v)):St.le C ⟨t,h⟩ ⟨t.set j (.bs tInt l),h.set i .dead⟩:=
 Hs i j hi V V e (Uw f hi V) λS ψ w u H b=>by
  obtain⟨_,a⟩:=H.blk i _ hi;unfold gR at b⊢;rw[b];obtain⟨h1,h2⟩:=NX a;refine CY (T:=tInt) h1 (λj d c=>?_) λg hg=>.inr (AU hg)
  show tInt.RS w _ (((l.map (bY .i64)).drop (j * 1)).take 1) d;have hi:(l.map (bY .i64))[j]? =jK (.int .i64 d):=by rw[dZ,c];rfl
  rw[jB,gL,eI,hi];exact DH.2 ⟨rfl,h2 d (fH c)⟩
end Mu
namespace Mu
open Go Go.RowKit Go.Proofs
section
variable{P:bP}{C:Ctx}{t:List AV}{h:List gO}{o:bN}{ι:Type}{Rs:ι->Res}{val:ι->bX}
theorem Jz{f:FuncId}{args:Array bO}{b:Array bW}{xs:List AV}{K:St->Prop}
 (d:o.op= .call {callee:=.value (.func f),args:=args,argTypes:=b})(i:M5 P f xs Rs val)(n:∀p w S S',(Rs p).R w S->(Rs p).R w S')(k:∀p,(Rs p).mrk= [])(hx:LendWs h (args.toList.map (evA t)) xs)
 (s:∀p,K ⟨Bn t o.dst (.lit (val p)),h++[.res (Rs p)]⟩):AOp P C o ⟨t,h⟩ K:=by
 refine CT k (λS ψ w ρ H a=>?_) s;have h1:ρ (.func f)= .func (.func f) #[] #[]:=by
  have:=a (.func f) (by rw[d];exact aC.2 (.inl (by simp)));simpa[evA,gR]using this
 rw[Ct d i.1 ρ w h1];refine⟨rfl,?_⟩;have h2:Af w S h ψ (args.toList.map (evA t)) (args.toList.map ρ):=Cc λx c=>a x (by rw[d];exact aC.2 (.inr (aD.1 c)))
 have u:=i.2 w _ (args.toList.map ρ) (λ_ h=>h) (hx.rel H h2);rw[show(args.map ρ)=(args.toList.map ρ).toArray from(by rw[<-aE])];refine u.mono ?_;rintro e w' ⟨v,m,hg,p,j,q,g⟩;exact⟨v,m,hg,p,j,n p w' _ _ q,g⟩
end
open Go.Maps
variable{l:List Int}
theorem Afm(h:l= []):((l.length:Int) ==0)=aZ:=by subst h;rfl
theorem Yi(h:l≠[]):((l.length:Int) ==0)=aL:=by
 cases l with
 |nil=>exact absurd V h
 |cons x l=>rw[eK];exact beq_false_of_ne (by omega)
theorem WY(f:g9)(b:Fn bT 11 [.agg (Ak f)] (.lit (.bool aL))):
 Fn bT 9 [.agg (Ak f)] (.tup [.agg (Cy ⟨aL,0,[]⟩),.lit (.int .i64 2)]):=by
 refine KY bR V (by kernel_rfl) V (by kernel_rfl:Rn bT 29=jK (aZ,3)) bS λC c=>?_
 simp only[Nat.reduceAdd,Nat.reduceSub,zaa];refine wR ?_;refine Ab λd h2=>?_
 refine wR (hx:=by((repeat(first|refine sA ?_ (AM V V b V V)|refine sA ?_|refine AN ?_|refine sAG ?_|refine Bp ?_));exact C1 V)) ?_;refine Ah V (λa=>?_) (λa=>?_)
 ·refine wR (hx:=by((repeat(first|refine sA ?_ (BO (rs:=[.lit (.bool false),.lit (.int .i64 0),.lit (.slice none 0 0)]) V Aer V V)|refine sA ?_|refine AN ?_|refine sAG ?_|refine Bp ?_));exact C1 V)) (hk:=?_);exact Aw ⟨.inr V,1,_,rfl,rfl,rfl,Fin.weak V (λ_ _ _ H=>Up.rel (Ay1 (.cons (PS (.cons (.refl _) (.cons (.refl _) (.cons (.nil _) .nil)))) (.cons (.refl _) .nil))) H)⟩
 ·exact absurd a (by decide)
theorem WZ(f:g9)(e:Fn bT 11 [.agg (Ak f)] (.lit (.bool aZ)))(i:gV)(n:iT)(b:Fn bT 24 [.agg (Ak f)] (.lit (.bool aZ)))
 (k:Fn bT 25 [.agg (Ak f),.lit (.bool aZ)] (.bp Bc i 0))(m:iN i)(h0:(BF i []).2= [])
 (j:Fn bT 27 [.agg (Ak f),.tv tMapI (BF i []).1,.lit (.bool aZ),.lit (.int .i64 0)] (.agg (Cy n))):
 Fn bT 9 [.agg (Ak f)] (.tup [.agg (Cy n),.lit (.int .i64 0)]):=by
 refine KY bR V (by kernel_rfl) V (by kernel_rfl:Rn bT 29=jK (aZ,3)) bS λC q=>?_
 simp only[Nat.reduceAdd,Nat.reduceSub,zaa];refine wR ?_;refine Ab λw h2=>?_
 refine wR (hx:=by((repeat(first|refine sA ?_ (AM V V e V V)|refine sA ?_|refine AN ?_|refine sAG ?_|refine Bp ?_));exact C1 V)) ?_;refine Ah V (λd=>?_) (λd=>?_)
 ·exact absurd d (by decide)
 ·refine Al ?_;refine h2 _ ?_;refine nT ?_;refine Ab λv u=>?_
  refine wR (hx:=by((repeat(first|refine sA ?_ (AM V V b V V)|refine sA ?_|refine AN ?_|refine sAG ?_|refine Bp ?_));exact C1 V)) ?_;refine Ah V (λc=>?_) (λc=>?_)
  ·refine wRK λs g=>?_
   refine sA ?_ (AO V FG V V) (Ao (Ao (JB)));refine sA ?_ (AM V (Q4 (Aq (Aq (Hg))) V) k V V) (Ao (Ao (Gl)));refine AF V (Jz V (OZ i [] m) N4 (λ_=>rfl) (.cons (.cl V) (.cons NC .nil)) λp=>?_);refine D2 ?_ (Ao (Ao (HT)));refine sA ?_ (AT.move V V) (Ao (Ao (IR)));refine sA ?_ (BT V V V) (Ao (Ao (G3)));refine sA ?_ (BT V V V) (Ao (Ao (Ao (Gp))));refine sA ?_ (AT.assign V V) (JB);refine sA ?_ (AT.assign V V) (Gl);refine Au (g _ ?_);refine AJ _ (EM 2 V) ?_;refine nT ?_;refine AJ _ (Jq q 3 5 V V) ?_;refine nT ?_;refine wR ?_;refine Ah V (λa=>?_) (λa=>?_)
   ·refine AJ _ (KT q 2 4 V V) ?_;refine nT ?_;refine wR (hx:=by((repeat(first|refine sA ?_ (AM V V j V V)|refine sA ?_|refine AN ?_|refine sAG ?_|refine Bp ?_));exact C1 V)) ?_;exact Aw ⟨.inr V,1,_,rfl,rfl,rfl,gZ V⟩
   ·rw[h0]at a;exact absurd a (by decide)
  ·exact absurd c (by decide)
theorem UX(f:g9)(K:Fn bT 11 [.agg (Ak f)] (.lit (.bool aZ)))(X a:gV)(lf:Bool)(n:Nat)(p0:iT)(D:Fn bT 24 [.agg (Ak f)] (.lit (.bool lf)))
 (y:lf=aZ->Fn bT 25 [.agg (Ak f),.lit (.bool aZ)] (.bp Bc X 0))(af:iN X)(h1:lf=aZ->(BF X []).2≠[])
 (ae:Fn bT 25 [.agg (Ak f),.lit (.bool aL)] (.bp Bc a 0))(b:iN a)
 (hn:(BF a (DL a n)).2= [])(ac:∀k,k < n->(BF a (DL a k)).2≠[])
 (E:Fn bT 27 [.agg (Ak f),.tv tMapI (IJ a (DL a n) (BF a (DL a n)).1).1,.lit (.bool aL),.lit (.int .i64 (IJ a (DL a n) (BF a (DL a n)).1).2)] (.agg (Cy p0))):
 Fn bT 9 [.agg (Ak f)] (.tup [.agg (Cy p0),.lit (.int .i64 0)]):=by
 refine KY bR V (by kernel_rfl) V (by kernel_rfl:Rn bT 29=jK (aZ,3)) bS λC W=>?_
 simp only[Nat.reduceAdd,Nat.reduceSub,zaa];refine wR ?_;refine Ab λK2 h2=>?_
 refine wR (hx:=by((repeat(first|refine sA ?_ (AM V V K V V)|refine sA ?_|refine AN ?_|refine sAG ?_|refine Bp ?_));exact C1 V)) ?_;refine Ah V (λJ=>?_) (λJ=>?_)
 ·exact absurd J (by decide)
 ·refine Al ?_;refine h2 _ ?_;refine nT ?_;refine SK ⟨(.agg (Ak f)::.ptr 0 0::.ptr 1 0::A40 (A10 (A7 []))),[.box (Ak f),.box [.lit (.bool aL),.lit (.int .i64 0),.lit (.slice jJ 0 0)]]⟩ ?_ ?_
  ·refine wR (hx:=by((repeat(first|refine sA ?_ (AM V V D V V)|refine sA ?_|refine AN ?_|refine sAG ?_|refine Bp ?_));exact C1 V)) ?_;refine Ah V (λI=>?_) (λI=>?_)
   ·have H:lf=aZ:=I;have y:=y H;refine wRK λau T=>?_
    refine sA ?_ (AO V FG V V) (Ao (Ao (JB)));refine sA ?_ (AM V (Q4 (Aq (Aq (Hg))) V) y V V) (Ao (Ao (Gl)));refine AF V (Jz V (OZ X [] af) N4 (λ_=>rfl) (.cons (.cl V) (.cons NC .nil)) λp=>?_);refine D2 ?_ (Ao (Ao (HT)));refine sA ?_ (AT.move V V) (Ao (Ao (IR)));refine sA ?_ (BT V V V) (Ao (Ao (G3)));refine sA ?_ (BT V V V) (Ao (Ao (Ao (Gp))));refine sA ?_ (AT.assign V V) (JB);refine sA ?_ (AT.assign V V) (Gl);refine Au (T _ ?_);refine AJ _ (EM 2 V) ?_;refine nT ?_;refine AJ _ (Jq W 3 5 V V) ?_;refine nT ?_;refine wR ?_;refine Ah V (λu=>?_) (λu=>?_)
    ·exact absurd u (by rw[Yi (h1 H)];decide)
    ·refine Al ?_;exact Kh (hc:=.cons (.cons (.nil _)))
   ·refine Al ?_;exact Kh (hc:=.cons (.cons (.nil _)))
  ·refine wRK λar S=>?_
   refine sA ?_ (AO V FG V V) (Ao (Ao (Ao (G3))));refine sA (hq:=AM V (Q4 (Aq (Aq (Aq (GB)))) V) ae V V) (ht:=(Ar (Gp))) (hk:=?_);refine AF V (J5 (bY .i64) V λm=>?_);refine D2 ?_ (Ar (Iz));refine sA ?_ (AT.assign V V) (HT);refine sA ?_ (AT.assign V V) (G3);refine Au (S _ ?_);refine Ad ?_;refine AH (λk:Nat=>⟨(.agg (Ak f)::.ptr 0 0::.ptr 1 0::A3 (.bp Bc a 0::.lit (.map (jK m))::A40 (A10 (A2 [])))),[.box (Ak f),.box [.lit (.bool aL),.lit (.int .i64 0),.lit (.slice jJ 0 0)],.res (EF (bY .i64) (DL a k) m)]⟩) (λk=>k<=n) (λk=>n - k) 0 (jE _) (AS) ?_;rintro k hk;have hk:k<=n:=hk;obtain⟨out,c⟩:∃x,x=DL a k:=⟨_,rfl⟩
   have w:okK out:=by rw[c];exact Gt b.toOkG k
   have F:∀x∈keysK out,x∈a.regs:=by rw[c];exact JL b.toOkG k
   have aa:out.length<=1073741824:=iZ (XX b.toOkG w F (l:=[]) λx hx=>by cases hx) b.len;have v:=JK b out _ (iY _);rw[MD]at v;have ak:=Q1 b.toOkG (out:=out);have Z:=v.len;have z:∀x∈(BF a out).2,x∈a.regs:=λx hx=>(JJ b.toOkG hx).1
   rw[<-c];refine Ad ?_;refine wRK λaq O=>?_
   refine sA ?_ (AT.move V V) (Ar (IR));refine sA ?_ (AT.move V V) (Ar (JB));refine AF V (Jz V (OZ a out b) N4 (λ_=>rfl) (.cons (.cl V) (.cons (NS.map (i:=2) V) .nil)) λp=>?_);refine D2 ?_ (Ar (Gl));refine sA ?_ (AT.move V V) (Ar (Kf));refine sA ?_ (BT V V V) (Ar (HT));refine sA ?_ (BT V V V) (Ar (G3));refine sA ?_ (AT.assign V V) (Ao (Gp));refine sA ?_ (AT.assign V V) (Ao (Iz));refine Au (O _ ?_);refine AJ _ (EM 3 V) ?_;refine nT ?_;refine AJ _ (Jq W 4 9 V V) ?_;refine nT ?_;refine Ab λap aj=>?_
   refine wR ?_;refine Ah V (λg=>?_) (λg=>?_)
   ·have B:(BF a out).2= []:=by
     refine a7 λab=>?_
     have U:(((BF a out).2.length:Int) ==0)=aZ:=g;rw[Yi ab]at U;cases U
    obtain rfl:k=n:=by
     refine iV hk (Nat.not_lt.1 λs=>ac k s ?_);rw[<-c];exact B
    refine AJ _ (KT W 2 7 V V) ?_;refine nT ?_;refine wRK λao L=>?_
    refine sA ?_ (AT.move V V) (Ao (Ar (IR)));refine sA ?_ (AT.move V V) (Ao (Ar (JB)));refine sA ?_ (AT.move V V) (Ao (Ar (Gl)));refine AF V (BR (i:=3) V V (Zm a out (BF a out).1 p.1 b w aa v.asc (by omega)) (λ_=>rfl) V V λ_=>?_);refine D2 ?_ (Ao (Ar (HT)));refine sA ?_ (AT.assign V V) (Ao (Kf));refine Au (L _ ?_);refine AJ _ (KT W 3 8 V V) ?_;refine nT ?_;rw[<-c]at E;refine wR (hx:=by((repeat(first|refine sA ?_ (AM V V E V V)|refine sA ?_|refine AN ?_|refine sAG ?_|refine Bp ?_));exact C1 V)) ?_;exact Aw ⟨.inr V,1,_,rfl,rfl,rfl,gZ V⟩
   ·have B:(BF a out).2≠[]:=λe=>by
     have U:(((BF a out).2.length:Int) ==0)=aL:=g;rw[Afm e]at U;cases U
    have ad:k < n:=Nat.lt_of_le_of_ne hk λe=>B (by rw[c,e];exact hn)
    obtain⟨N,hN⟩:∃x,x=(BF a out).2:=⟨_,rfl⟩
    rw[<-hN]at z Z;rw[<-hN];refine Al ?_;refine aj _ ?_;refine nT ?_;refine wR ?_;refine Ad ?_;refine AH (λj:Nat=>⟨(.agg (Ak f)::.ptr 0 0::.ptr 1 0::A3 (.bp Bc a 0::.lit (.map (jK m))::A40 (A3 (.bs tInt N::.lit (.int .i64 (N.length:Int))::.lit (.int .i64 (j:Int))::A6 [])))),[.box (Ak f),.box [.lit (.bool aL),.lit (.int .i64 0),.lit (.slice jJ 0 0)],.res (EF (bY .i64) ((N.take j).foldl (λo r=>B6 o r 1) out) m)]⟩) (λj=>j<=N.length) (λj=>N.length - j) 0 (jE _) (Kh (hc:=.cons (.cons (.cons (.nil _))))) ?_;rintro j hj;refine wR ?_;refine Ab λan ai=>?_
    refine Ah V (λd=>?_) (λd=>?_)
    ·have s:j < N.length:=by simpa using d
     obtain⟨r,hr⟩:∃q,N[j]? =jK q:=⟨_,dW s⟩
     have Y:wfB .i64 r=aZ:=b.regs r (z r (fH hr));have al:=XX b.toOkG w F (l:=N.take j) λx hx=>z x (fI hx)
     have ag:((N.take j).foldl (λo r=>B6 o r 1) out).length < cC:=by
      have:=b.len;unfold cC;omega
     refine Al ?_;refine ai _ ?_;refine nT ?_;refine Ab λam ah=>?_
     refine Ad ?_;refine wR ?_;refine wRE (hx:=by((repeat(first|(refine AF V (J4 2 V Tryz.underlying51 V V V Y ag V ?_);refine sNt ?_)|refine sA ?_|refine AN ?_|refine sAG ?_|refine Bp ?_));exact C1 V)) (hk:=?_);refine ah _ ?_;refine nT ?_;refine wRE ?_;refine Ap ⟨j+1,s,by omega,?_⟩;try dsimp only
     rw[gI,hr,dP];exact AS
    ·obtain rfl:j=N.length:=by have:¬j < N.length:=(by simpa using d);have hj:j<=N.length:=hj;omega
     refine Ay ?_;repeat(first|refine BC ?_|refine exO (by decide) ?_|refine asE ?_)
     refine exN ?_;repeat(first|refine abN ?_|refine asN ?_)
     refine Ap ⟨k+1,ad,by omega,?_⟩;try dsimp only
     rw[show DL a (k+1)=(N.take N.length).foldl (λo r=>B6 o r 1) out by rw[gJ,hN,c];rfl];exact AS
open Go.Shelf
variable{cv:List (Int×bX)}{l:List Int}{vs:List (Int×(bX×List Int))}
structure MRowsH(m:Nat)(cv:List (Int×Value))(vs:List (Int×(Value×List Int)))(w:World):Prop where
 map:M4 w m cv
 ok:okK vs
 row:∀(k:Int) (v:Value) (l:List Int),getK vs k=some (v,l)->Gj w 0 v l/\Bg l
 dis:∀(j k:Int) (v v':Value) (l l':List Int) (g:Nat),j≠k->getK vs j=some (v,l)->getK vs k=some (v',l')->v.ownBlock=some g->v'.ownBlock≠some g
 out:∀(k:Int) (v:Value) (l:List Int),getK vs k=some (v,l)->v.ownBlock≠some m
def mrF(m:Nat)(vs:List (Int×(bX×List Int)))(g:Nat):Prop:=g=m\/∃k v l,getK vs k=jK (v,l)/\v.ownBlock=jK g
def Ba(m:Nat)(cv:List (Int×bX))(vs:List (Int×(bX×List Int))):Res where
 mrk:=[]
 F:=mrF m vs
 R:=λw _=>MRowsH m cv vs w
 keep:=λH hk _ _=>⟨H.map.keep (hk m (.inl V)),H.ok,λk v l h=>⟨(H.row k v l h).1.keepB λg hg=>hk g (.inr ⟨k,v,l,h,hg⟩),(H.row k v l h).2⟩,H.dis,H.out⟩
def Di(m:Nat)(E:List (Int×List Int)):Res where
 mrk:=[]
 F:=λg=>g=m
 R:=λw S=>okK E/\∃vs,M4 w m vs/\An2 tInt.slice w S vs E
 keep:=λ⟨h0,vs,h1,h2,c⟩ hk b a=>⟨h0,vs,h1.keep (hk m V),h2,λk v x e d=>tInt.slice.keepS (c k v x e d) b a⟩
def nilR:Res:=⟨[],λ_=>False,λ_ _=>True,λ_ _ _ _=>trivial⟩
theorem Hq{C:Ctx}{t:List AV}{h:List gO}:St.le C ⟨t,h⟩ ⟨t,h++[.res nilR]⟩:=λa w ⟨c,S,ψ,H,b⟩=>by
 have X:Ext w S h ψ w S (h++[.res nilR]) (Bo ψ h.length undef):=Ext.push _ _ λ_ _=>rfl
 have d:Hw C.N w S (h++[.res nilR]) (Bo ψ h.length undef) undef (.res nilR):=⟨λg hg=>hg.elim,trivial⟩
 refine⟨?_,S,_,H.push (Below.refl _ _) d (λg hg=>hg.elim),Az X _ _ b⟩;rw[c];show mkD h=mkD (h++[_]);rw[H6];rfl
section
variable{C:Ctx}{t:List AV}{h:List gO}{o:bN}{K:St->Prop}{ty e:bW}{x y z:bO}{m:Nat}{k:Int}
theorem Iq(i:Nat)(Rs:Nat->Res)(d:∀m,(Rs m).mrk= [])(q:∀m g,(Rs m).F g->g=m)(j:∀(w:cA) S,(Rs w.heap.size).R (w.alloc (.map #[] 0)) S)(c:o.op= .makeMap ty jJ)(hi:h[i]? =jK (.res nilR))
 (n:∀m,K ⟨Bn t o.dst (.lit (.map (jK m))),h.set i (.res (Rs m))⟩):AOp bT C o ⟨t,h⟩ K:=by
 refine gQ (ι:=Nat) (Rs:=Rs) (val:=λm=>.map (jK m)) hi (λm=>d m) (λS ψ w ρ H _ _ b=>?_) n;have f:(cB ρ o).run bT w= .ok (.value (.map (jK w.heap.size))) (w.alloc (.map #[] 0)):=by simp[cB,c,run_makeMap]
 rw[f];have a:=(Below.refl w.heap.size w).alloc (iY _) (.map #[] 0);refine⟨⟨a.os,a.tape,a.output,a.size,λk hk _=>a.block k hk⟩,w.heap.size,rfl,j w S,λk hk=>?_⟩;have hk:=q _ _ hk;subst hk;exact⟨.inr (iY _),by simp⟩
theorem RZ(w:cA)(S:Nat->Prop):(Ba w.heap.size [] []).R (w.alloc (.map #[] 0)) S:=⟨MI w,okK.nil,λk v l h=>(by cases h),λj k v v' l l' g _ h=>(by cases h),λk v l h=>(by cases h)⟩
theorem Pd(m g:Nat)(h:(Ba m [] []).F g):g=m:=by
 rcases h with h|⟨k,v,l,h,_⟩
 ·exact h
 ·cases h
theorem Wv(w:cA)(S:Nat->Prop):(Di w.heap.size []).R (w.alloc (.map #[] 0)) S:=⟨okK.nil,[],MI w,λ_=>rfl,λk v x h=>by cases h⟩
theorem Abn(i:Nat)(c:o.op= .lookup ty x y aL)(a:bT.underlying ty=jK (.map 3 27))(hx:evA t x= .lit (.map (jK m)))(b:evA t y= .lit (.int .i64 k))(hk:wfB .i64 k=aZ)(hi:h[i]? =jK (.res (Ba m cv vs))):
 AT bT C t h o (.lit ((getK cv k).getD (.slice jJ 0 0))):=KV i c a On hx b hk hi λ_ _ H=>H.map
theorem VG(i:Nat){v:bX}(f:o.op= .mapUpdate ty x y z)(a:bT.underlying ty=jK (.map 3 27))(hx:evA t x= .lit (.map (jK m)))(d:evA t y= .lit (.int .i64 k))(c:evA t z= .lit v)(hk:wfB .i64 k=aZ)(j:cv.length < cC)(hi:h[i]? =jK (.res (Ba m cv vs)))
 (n:K ⟨Bn t o.dst (.lit undef),h.set i (.res (Ba m (B6 cv k v) vs))⟩):AOp bT C o ⟨t,h⟩ K:=
 Y2 (l:=cv) (R':=Ba m (B6 cv k v) vs) i f a hx d c hk j hi ⟨λ_ _ H=>H.map,rfl,.inl V,λ_ h=>h,λw w' T H hq b=>⟨b,H.ok,λk v l h=>⟨(H.row k v l h).1.keepB λg hg=>hq g (λe=>H.out k v l h (e▸hg)) ((H.row k v l h).1.lt g hg).2,(H.row k v l h).2⟩,H.dis,H.out⟩⟩ n
theorem Aid(i:Nat){E:List (Int×List Int)}(D:o.op= .mapUpdate ty x y z)(F:bT.underlying ty=jK (.map 3 27))(hx:evA t x= .lit (.map (jK m)))(X:evA t y= .lit (.int .i64 k))(W:evA t z= .bs tInt l)(hk:wfB .i64 k=aZ)(S:E.length < cC)(hi:h[i]? =jK (.res (Di m E)))
 (hK:K ⟨Bn t o.dst (.lit undef),h.set i (.res (Di m (B6 E k l)))⟩):AOp bT C o ⟨t,h⟩ K:=by
 refine gQ (ι:=Unit) (Rs:=λ_=>Di m (B6 E k l)) (val:=λ_=>undef) hi (λ_=>rfl) (λT ψ w ρ H N L a=>?_) (λ_=>hK);have h1:=a x (by simp[D,bM]);have h2:=a y (by simp[D,bM]);have O:=a z (by simp[D,bM]);rw[hx]at h1;rw[X]at h2;rw[W]at O;unfold gR at h1 h2 O;obtain⟨h0,vs,f,c,I⟩:=N;have Y:vs.length=E.length:=by
  have hs:∀q,q∈keysK vs↔q∈keysK E:=λq=>by
   have:∀{β:Type} (l:List (Int×β)),(getK l q).isSome=aZ↔q∈keysK l:=λl=>by
    unfold keysK getK;rw[jH,List.find?_isSome];simp
   rw[<-this vs,<-this E,c q]
  have d:∀{β:Type} {l:List (Int×β)},Ea l->(keysK l).Nodup:=λh=>fW.2 (h.imp λab e=>by omega)
  have:=((List.perm_ext_iff_of_nodup (d f.1.1) (d h0.1)).2 hs).length_eq;simpa[keysK]using this
 obtain⟨w',b,J,hg,Z⟩:=f.put F (by omega) hk (ρ z);have he:(cB ρ o).run bT w= .ok .skip w':=by
  simp[cB,D,h1,h2,b,bV]
 rw[he];have aa:=f.lt;refine⟨⟨hg.os,hg.tape,hg.output,hg.size,λq hq S=>hg.block q hq λe=>S (by cases e;rfl)⟩,(),rfl,⟨h0.put hk l,_,J,λq=>?_,λq v u B s=>?_⟩,λg n=>⟨.inl n,by have:=L g n;omega⟩⟩
 ·rw[BH f.1.1,BH h0.1];split
  ·rfl
  ·exact c q
 ·rw[BH f.1.1]at B;rw[BH h0.1]at s;have U:∀g,T g->w'.heap[g]? =w.heap[g]?:=λg j=>hg.block g (H.lt g j) λe=>by
   cases e;exact((H.blk i _ hi).1 m V).2.1 j
  by_cases hq:q=k
  ·rw[if_pos hq]at B s;cases B;cases s;exact tInt.slice.keepS O U λ_ h=>h
  ·rw[if_neg hq]at B s;exact tInt.slice.keepS (I q v u B s) U λ_ h=>h
theorem Qd(i:Nat){bytes:Nat}{u:bX}{D:List Int}(ho:o.op= .call {callee:=.builtin .append,args:=#[x,y],argTypes:=#[ty,ty]})(hT:NL bT ty=jK (3,1,bytes))
 (hx:evA t x= .lit u)(hi:h[i]? =jK (.res (Ba m cv vs)))(hy:evA t y= .bs tInt D)(hk:wfB .i64 k=aZ)(hu:(getK vs k).getD (.slice jJ 0 0,[])=(u,l))(hb:Fj (l.length+D.length) bytes=aZ)
 (hK:∀v':bX,K ⟨Bn t o.dst (.lit v'),h.set i (.res (Ba m cv (B6 vs k (v',l++D))))⟩):AOp bT C o ⟨t,h⟩ K:=by
 refine gQ (ι:=bX) (Rs:=λv'=>Ba m cv (B6 vs k (v',l++D))) (val:=λv'=>v') hi (λ_=>rfl) (λS ψ w ρ H hR ad Y=>?_) hK;have B:MRowsH m cv vs w:=hR;have O:=Y x (by rw[ho];exact aC.2 (.inr (by simp)));have E:=Y y (by rw[ho];exact aC.2 (.inr (by simp)));rw[hx]at O;rw[hy]at E;unfold gR at O E;have N:(getK vs k=jK (u,l))\/(getK vs k=jJ/\u= .slice jJ 0 0/\l= []):=by
  cases hg:getK vs k with
  |none=>rw[hg]at hu;cases hu;exact .inr ⟨rfl,rfl,rfl⟩
  |some p=>rw[hg]at hu;cases hu;exact .inl V
 obtain⟨ac,ai⟩:Gj w 0 u l/\Bg l:=by
  rcases N with h1|⟨_,rfl,rfl⟩
  ·exact B.row k u l h1
  ·exact⟨Gj.nil _ _,λx hx=>by cases hx⟩
 obtain⟨h1,ti,zz,h2,h3,h4,h5,h6⟩:=C4 hT;obtain⟨A,c,Z⟩:=Cf E;rw[Z]at E;obtain⟨news,aj,aa,al,am⟩:=IP E λcs d ar=>JN _ _ _ _ ar
 have I:news=D.map (bY .i64)/\Bg D:=by
  have ae:news.length=D.length:=by rw[aj];exact jB _
  have hg:∀j d,D[j]? =jK d->news[j]? =jK (bY .i64 d)/\wfI .i64 d:=λj d hd=>by
   have:=al j d hd;rw[show tInt.size=1 from V,jB,gL,eI]at this;have ao:j < news.length:=by rw[ae];exact(dY.1 hd).1
   rw[dW ao]at this⊢;obtain⟨W,h8⟩:=DH.1 this;exact⟨by simpa using W,h8⟩
  refine⟨dE λj=>?_,λr hr=>?_⟩
  ·rw[dZ];cases hd:D[j]? with
   |none=>rw[dX (by rw[ae];exact List.getElem?_eq_none_iff.1 hd)];rfl
   |some d=>exact(hg j d hd).1
  ·obtain⟨j,hj⟩:=eA hr;exact(hg j r hj).2
 have J:=hb;unfold Fj at J;simp only[zaf]at J;obtain⟨v',w',ab,T,f,au⟩:=Lm (P:=bT) (ty:=o.type) (c:=c) (base:=0) h1 h2 h3 h4 h5 h6 (Nat.zero_lt_one) ac (aa w λ_ _=>rfl) am J.1 J.2 (jE _);have aq:(cB ρ o).run bT w= .ok (.value v') w':=by
  unfold cB;simp only[ho,resolve,invoke,builtin,List.map_toArray,eT,eV,O,Z,ab,zak]
 rw[aq];have F:Gj w' 0 v' (l++D):=Gj.of (n:=l.length+D.length) T (by simp) (by rw[eS,I.1]);have s:∀g,u.ownBlock=jK g->getK vs k=jK (u,l):=λg hg=>by
  rcases N with W|⟨_,rfl,_⟩
  ·exact W
  ·cases hg
 have an:m < w.heap.size:=ad m (.inl V);have b:∀g,v'.ownBlock=jK g->u.ownBlock=jK g\/g=w.heap.size:=λg hg=>by
  rcases au with e1|e1
  ·exact .inl (e1▸hg)
  ·rw[e1]at hg;cases hg;exact .inr V
 have a:∀(q:Int) (v:bX) (r:List Int),getK (B6 vs k (v',l++D)) q=jK (v,r)->(q=k/\v=v'/\r=l++D)\/(q≠k/\getK vs q=jK (v,r)):=λq v r hq=>by
  rw[BH B.ok.1]at hq;by_cases e:q=k
  ·rw[if_pos e]at hq;cases hq;exact .inl ⟨e,rfl,rfl⟩
  ·rw[if_neg e]at hq;exact .inr ⟨e,hq⟩
 refine⟨⟨f.os,f.tape,f.output,f.size,λq hq hn=>f.block q hq λe=>hn (.inr ⟨k,u,l,s q e.symm,e.symm⟩)⟩,v',rfl,⟨?_,B.ok.put hk _,λq v r hq=>?_,λj q v X r r2 g ag hj hq hg=>?_,λq v r hq=>?_⟩,λg hg=>?_⟩
 ·exact B.map.keep (f.block m an λe=>B.out k u l (s m e.symm) e.symm)
 ·rcases a q v r hq with⟨rfl,rfl,rfl⟩|⟨ak,hq⟩
  ·exact⟨F,λr hr=>(eW.1 hr).elim (ai r) (I.2 r)⟩
  ·obtain⟨W,h8⟩:=B.row q v r hq;exact⟨W.keepB λg hg=>f.block g (W.lt g hg).2 λe=>B.dis q k v u r l g ak hq (s g e.symm) hg e.symm,h8⟩
 ·rcases a j v r hj with⟨rfl,rfl,rfl⟩|⟨ap,U⟩
  ·rcases a q X r2 hq with⟨rfl,_⟩|⟨af,L⟩
   ·exact absurd V ag
   ·rcases b g hg with e1|e1
    ·exact B.dis j q u X l r2 g (Ne.symm af) (s g e1) L e1
    ·intro e2;have:=((B.row q X r2 L).1.lt g e2).2;omega
  ·rcases a q X r2 hq with⟨rfl,rfl,rfl⟩|⟨af,L⟩
   ·intro e2;rcases b g e2 with e1|e1
    ·exact B.dis j q v u r l g ap U (s g e1) hg e1
    ·have:=((B.row j v r U).1.lt g hg).2;omega
   ·exact B.dis j q v X r r2 g ag U L hg
 ·rcases a q v r hq with⟨rfl,rfl,rfl⟩|⟨_,hq⟩
  ·intro e2;rcases b m e2 with e1|e1
   ·exact B.out q u l (s m e1) e1
   ·omega
  ·exact B.out q v r hq
 ·have av:w.heap.size<=w'.heap.size:=f.size;rcases hg with hg|⟨q,v,r,hq,hg⟩
  ·subst hg;exact⟨.inl (.inl V),by omega⟩
  ·rcases a q v r hq with⟨rfl,rfl,rfl⟩|⟨_,hq⟩
   ·have ah:=(F.lt g hg).2;rcases b g hg with e1|e1
    ·exact⟨.inl (.inr ⟨q,u,l,s g e1,e1⟩),ah⟩
    ·exact⟨.inr (by omega),ah⟩
   ·exact⟨.inl (.inr ⟨q,v,r,hq,hg⟩),by have:=ad g (.inr ⟨q,v,r,hq,hg⟩);omega⟩
end
open Go.ChangeMaps
variable{E:List (Int×List Int)}{S:Nat->Prop}{g i:Nat}{ob:Obj}
section
variable{H:Type}{P:bP}{w:cA}{t k e:bW}{R:bX->Option (DataW H×List MemPlace)}{b:Nat}{es:Array bJ}{clock:Nat}
theorem Aqg(K:Keyed P k)(ht:P.underlying t=jK (.map k e)){z:bX}(hz:∀u:cA,(zeroValue e).run P u= .ok z u)(v:w.heap[b]? =jK (.map es clock))(F:WideElems.Fit P k R es clock){key:bX}{kl:Lit}(a:keyOf P k key=jK kl):
 ∃(Y:bX) (U:Nat) (L:Array bJ) (c:Nat),(bB t (.map (jK b)) key).run P w= .ok (.tuple #[Y,goInt U]) (setBlock w b (.map L c))/\
  ∀(I:cA) (val:bX),I.heap[b]? =jK (.map L c)->∃N d,(bA t (.map (jK b)) (goInt U) val).run P I= .ok () (setBlock I b (.map N d))/\(bC t (.map (jK b)) key val).run P w= .ok () (setBlock w b (.map N d)):=by
 obtain⟨Z,W,_⟩:=F.stamped;rcases K.find w a es.toList F.keys with⟨J,D⟩|⟨j,e0,J,D,O⟩
 ·refine⟨z,clock,es.push ⟨key,z,clock⟩,clock+1,?_,λI val f=>⟨es.push ⟨key,val,clock⟩,clock+1,?_,?_⟩⟩
  ·simp[bB,cD ht,bK v,K.check w aL a,J,hz,bL _ v,bV,setBlock]
  ·have hn:(((es.push ⟨key,z,clock⟩).toList).map (·.born)).Nodup:=by
    rw[aG,eS,fQ];refine⟨W,by simp,λp hp q hq e1=>?_⟩;obtain⟨x,hx,rfl⟩:=fG.1 hp;have:=Z x hx;have:q=clock:=by simpa using hq
    omega
   have s:(es.push ⟨key,z,clock⟩).findIdx? (λe=>((e.born:Nat):Int) ==((clock:Nat):Int))=jK es.size:=by
    rw[bZ];exact b9 (e0:=⟨key,z,clock⟩) hn (by simp)
   have n:(es.push ⟨key,z,clock⟩).modify es.size (λe=>{e with val:=val})=es.push ⟨key,val,clock⟩:=by
    apply aA;rw[aF,aG,aG,<-Array.length_toList,WideElems.modify_last]
   simp[bA,bK f,asInt,asIntOf,goInt,s,n,bL _ f,bV,setBlock]
  ·simp[bC,cD ht,bK v,K.check w aL a,J,bL _ v,bV,setBlock]
 ·have X:es[j]? =jK e0:=by simpa using D
  have B:es.modify j (λe=>{e with key:=key})=es:=by
   apply aA;rw[aF,modify_eq_set _ _ _ _ D];have:({e0 with key:=key}:bJ)=e0:=by rw[<-O]
   rw[this];exact WideElems.set_self _ _ _ D
  refine⟨e0.val,e0.born,es,clock,?_,λI val f=>⟨es.modify j (λT=>{T with key:=key,val:=val}),clock,?_,?_⟩⟩
  ·simp[bB,cD ht,bK v,K.check w aL a,J,X,O,K.stays w a,B,bL _ v,bV,setBlock]
  ·have s:es.findIdx? (λe=>((e.born:Nat):Int) ==((e0.born:Nat):Int))=jK j:=by
    rw[bZ];exact b9 W D
   have n:es.modify j (λe=>{e with val:=val})=es.modify j (λT=>{T with key:=key,val:=val}):=by
    apply aA;rw[aF,aF,modify_eq_set _ _ _ _ D,modify_eq_set _ _ _ _ D,<-O]
   simp[bA,bK f,asInt,asIntOf,goInt,s,n,bL _ f,bV,setBlock]
  ·simp[bC,cD ht,bK v,K.check w aL a,J,X,O,K.stays w a,bL _ v,bV,setBlock]
end
structure RowsK(m:Nat)(vs:List (Int×(Value×List Int)))(w:World):Prop where
 ok:okK vs
 row:∀(k:Int) (v:Value) (l:List Int),getK vs k=some (v,l)->Gj w 0 v l/\Bg l
 dis:∀(j k:Int) (v v':Value) (l l':List Int) (g:Nat),j≠k->getK vs j=some (v,l)->getK vs k=some (v',l')->v.ownBlock=some g->v'.ownBlock≠some g
 out:∀(k:Int) (v:Value) (l:List Int),getK vs k=some (v,l)->v.ownBlock≠some m
theorem RowsK.keep{m:Nat}{vs:List (Int×(bX×List Int))}{w w':cA}(H:RowsK m vs w)(hk:∀g,mrF m vs g->g≠m->w'.heap[g]? =w.heap[g]?):RowsK m vs w':=
 ⟨H.ok,λk v l h=>⟨(H.row k v l h).1.keepB λg hg=>hk g (.inr ⟨k,v,l,h,hg⟩) λe=>H.out k v l h (e▸hg),(H.row k v l h).2⟩,H.dis,H.out⟩
def Aka(m:Nat)(cv:List (Int×bX))(vs:List (Int×(bX×List Int)))(ty:bW)(k:Int)(c:Nat):Res where
 mrk:=[]
 F:=mrF m vs
 R:=λw _=>RowsK m vs w/\∃es clock,w.heap[m]? =jK (.map es clock)/\∀(a:cA) (v:bX),a.heap[m]? =jK (.map es clock)->∃ob,(bA ty (.map (jK m)) (goInt c) v).run bT a= .ok () (setBlock a m ob)/\M4 (setBlock a m ob) m (B6 cv k v)
 keep:=λ⟨H,es,clock,h1,h2⟩ hk _ _=>⟨H.keep λg hg _=>hk g hg,es,clock,(hk m (.inl V)).trans h1,h2⟩
theorem HN{w:cA}{m:Nat}(a:m < w.heap.size):(setBlock w m ob).heap[m]? =jK ob:=by simp[setBlock,a]
theorem EV{w:cA}{m:Nat}(hg:g≠m):(setBlock w m ob).heap[g]? =w.heap[g]?:=by simp[setBlock,Array.getElem?_setIfInBounds,Ne.symm hg]
section
variable{C:Ctx}{t:List AV}{h:List gO}{o:bN}{K:St->Prop}{ty e:bW}{x y z:bO}{m:Nat}{k:Int}{cv:List (Int×bX)}{vs:List (Int×(bX×List Int))}
theorem Aii(i:Nat)(L:o.op= .mapEntry ty x y)(n:bT.underlying ty=jK (.map 3 27))(hx:evA t x= .lit (.map (jK m)))(Z:evA t y= .lit (.int .i64 k))(hk:wfB .i64 k=aZ)(hn:cv.length < cC)(hi:h[i]? =jK (.res (Ba m cv vs)))
 (hK:∀(D:bX) (d:Nat),K ⟨Bn t o.dst (.lit (.tuple #[D,goInt d])),h.set i (.res (Aka m cv vs ty k d))⟩):AOp bT C o ⟨t,h⟩ K:=by
 refine gQ (ι:=bX×Nat) (Rs:=λp=>Aka m cv vs ty k p.2) (val:=λp=>.tuple #[p.1,goInt p.2]) hi (λ_=>rfl) (λT ψ w ρ H W U f=>?_) (λp=>hK p.1 p.2);have h1:=f x (by simp[L,bM]);have h2:=f y (by simp[L,bM]);rw[hx]at h1;rw[Z]at h2;unfold gR at h1 h2;have c:MRowsH m cv vs w:=W;have u:=c.map.lt;obtain⟨h0,es,clock,hb,F,_⟩:=id c.map;obtain⟨D,d,B,a,s,J⟩:=Aqg Qm n On hb F (keyOf_int_mk Tryz.underlying3 hk);have he:(cB ρ o).run bT w= .ok (.value (.tuple #[D,goInt d])) (setBlock w m (.map B a)):=by
  simp[cB,L,h1,h2,s,bV]
 rw[he];refine⟨⟨rfl,rfl,rfl,by simp[setBlock],λq hq N=>EV λe=>N (.inl e)⟩,(D,d),rfl,⟨RowsK.keep ⟨c.ok,c.row,c.dis,c.out⟩ λg _ hg=>EV hg,B,a,HN u,λX v j=>?_⟩,λg hg=>⟨.inl hg,by have:=U g hg;simpa[setBlock]using this⟩⟩;obtain⟨aa,I,h3,h4⟩:=J X v j;obtain⟨w',Y,h6,_⟩:=c.map.put n hn hk v;rw[h4]at Y;cases Y;have O:m < X.heap.size:=(aB.1 j).1;exact⟨_,h3,h6.keep ((HN O).trans (HN u).symm)⟩
theorem Aih(i:Nat){v:bX}{D:Nat}(f:o.op= .entryStore ty x y z)(hx:evA t x= .lit (.map (jK m)))(I:evA t y= .lit (goInt D))(F:evA t z= .lit v)(hi:h[i]? =jK (.res (Aka m cv vs ty k D)))
 (O:K ⟨Bn t o.dst (.lit undef),h.set i (.res (Ba m (B6 cv k v) vs))⟩):AOp bT C o ⟨t,h⟩ K:=by
 refine gQ (ι:=Unit) (Rs:=λ_=>Ba m (B6 cv k v) vs) (val:=λ_=>undef) hi (λ_=>rfl) (λT ψ w ρ H u s c=>?_) (λ_=>O);have h1:=c x (by simp[f,bM]);have h2:=c y (by simp[f,bM]);have B:=c z (by simp[f,bM]);rw[hx]at h1;rw[I]at h2;rw[F]at B;unfold gR at h1 h2 B;obtain⟨U,es,clock,N,j⟩:=u;obtain⟨ob,d,J⟩:=j w v N;have L:(cB ρ o).run bT w= .ok .skip (setBlock w m ob):=by
  simp[cB,f,h1,h2,B,d,bV]
 rw[L];have a:RowsK m vs (setBlock w m ob):=U.keep λg _ hg=>EV hg
 exact⟨⟨rfl,rfl,rfl,by simp[setBlock],λq hq n=>EV λe=>n (.inl e)⟩,(),rfl,⟨J,a.ok,a.row,a.dis,a.out⟩,λg hg=>⟨.inl hg,by have:=s g hg;simpa[setBlock]using this⟩⟩
end
theorem MF{w:cA}{m:Nat}{vs:List (Int×(bX×List Int))}(H:MRowsH m (mapK (·.1) vs) vs w)(f:∀g,mrF m vs g->S g):Kv.RS w S [.map (jK m)] (mapK (·.2) vs):=by
 refine⟨H.ok.map _,.inr ⟨m,_,rfl,f m (.inl V),H.map,λk=>by rw[CC,CC,jH,jH],λk v x h1 h2=>?_⟩⟩;rw[CC]at h1 h2;obtain⟨p,a,rfl⟩:=jI.1 h1;rw[a]at h2;cases h2;obtain⟨q,n⟩:=H.row k p.1 p.2 a;refine CY (T:=tInt) q (λj d c=>?_) λg hg=>f g (.inr ⟨k,p.1,p.2,a,hg⟩)
 show tInt.RS w S (((p.2.map (bY .i64)).drop (j * 1)).take 1) d;have hi:(p.2.map (bY .i64))[j]? =jK (.int .i64 d):=by rw[dZ,c];rfl
 rw[jB,gL,eI,hi];exact DH.2 ⟨rfl,n d (fH c)⟩
theorem ZU{w:cA}{S':Nat->Prop}{m:Nat}(H:(Di m E).R w S)(a:S' m)(c:∀g,S g->S' g):Kv.RS w S' [.map (jK m)] E:=by
 obtain⟨h0,vs,h1,h2,d⟩:=H;exact⟨h0,.inr ⟨m,vs,rfl,a,h1,h2,λk v x j f=>tInt.slice.keepS (d k v x j f) (λ_ _=>rfl) c⟩⟩
theorem Abw{h:List gO}{j1 j2 j3 j4 J I F D:Nat}{regs d:List Int}{B s n:List (Int×(bX×List Int))}(hm:mkD h= [])
 (hi:h[i]? =jK (.res (Be g [.bs tInt regs,.lit (.map (jK J)),.lit (.map (jK I)),.lit (.map (jK F)),.lit (.map (jK D)),.bs tInt d])))(h1:h[j1]? =jK (.res (Di J E)))
 (h2:h[j2]? =jK (.res (Ba I (mapK (·.1) B) B)))(h3:h[j3]? =jK (.res (Ba F (mapK (·.1) s) s)))(h4:h[j4]? =jK (.res (Ba D (mapK (·.1) n) n))):
 Fin h (.lit (.pointer (jK ⟨g,0,jJ⟩))) (.bp Bc ⟨regs,E,mapK (·.2) B,mapK (·.2) s,mapK (·.2) n,d⟩ 0):=⟨hm,λC S ψ w v j H Y=>by
 unfold gR at Y;subst Y;have Z:=H.blk i _ hi;obtain⟨cs,e,X,W⟩:=Z.2;have U:=H.blk j1 _ h1;have T:=H.blk j2 _ h2;have O:=H.blk j3 _ h3;have N:=H.blk j4 _ h4;obtain⟨S',c⟩:∃S':Nat->Prop,S'=λk=>S k\/k=g\/(Di J E).F k\/mrF I B k\/mrF F s k\/mrF D n k:=⟨_,rfl⟩
 have f:∀k,S k->S' k:=λk hk=>by rw[c];exact .inl hk
 have L:g < w.heap.size:=(aB.1 X).1;refine⟨S',f,λk hk=>?_,λk hk=>?_,?_⟩
 ·rw[c]at hk;rcases hk with hk|rfl|hk|hk|hk|hk
  ·exact .inl hk
  ·exact .inr (iX λa=>(Z.1 k V).1 (j _ a))
  ·exact .inr (iX λa=>(U.1 k hk).1 (j k a))
  ·exact .inr (iX λa=>(T.1 k hk).1 (j k a))
  ·exact .inr (iX λa=>(O.1 k hk).1 (j k a))
  ·exact .inr (iX λa=>(N.1 k hk).1 (j k a))
 ·rw[c]at hk;rcases hk with hk|rfl|hk|hk|hk|hk
  ·exact H.lt k hk
  ·exact L
  ·exact(U.1 k hk).2.2
  ·exact(T.1 k hk).2.2
  ·exact(O.1 k hk).2.2
  ·exact(N.1 k hk).2.2
 ·unfold gR;simp only[Af,gR]at W;obtain⟨c0,_,rfl,r0,c1,_,rfl,rfl,c2,_,rfl,rfl,c3,_,rfl,rfl,c4,_,rfl,rfl,c5,_,rfl,r5,rfl⟩:=W;refine⟨g,0,rfl,by rw[c];exact .inr (.inl V),_,Ov.2 ⟨c0,_,_,_,_,c5,rfl,tInt.slice.keepS r0 (λ_ _=>rfl) f,ZU U.2 (by rw[c];exact .inr (.inr (.inl V))) f,MF T.2 (λq hq=>by rw[c];exact .inr (.inr (.inr (.inl hq)))),MF O.2 (λq hq=>by rw[c];exact .inr (.inr (.inr (.inr (.inl hq))))),MF N.2 (λq hq=>by rw[c];exact .inr (.inr (.inr (.inr (.inr hq))))),tInt.slice.keepS r5 (λ_ _=>rfl) f⟩,λq u hq=>?_⟩;unfold World.cell?;simp[X,hq]⟩
section
variable{P:bP}{C:Ctx}{t:List AV}{h:List gO}{o:bN}{K:St->Prop}
theorem Ab7(i:Nat){a:bW}{x:bO}{cells:List AV}(j:o.op= .box a x)(hi:h[i]? =jK (.res nilR))(hx:evA t x= .agg cells)(hc:Bj cells=aZ)
 (q:∀g,K ⟨Bn t o.dst (.lit (.pointer (jK ⟨g,0,jJ⟩))),h.set i (.res (Be g cells))⟩):AOp P C o ⟨t,h⟩ K:=by
 refine gQ (ι:=Nat) (Rs:=λg=>Be g cells) (val:=λg=>.pointer (jK ⟨g,0,jJ⟩)) hi (λ_=>rfl) (λS ψ w ρ H _ _ d=>?_) q;have h1:=d x (by simp[j,bM]);rw[hx]at h1;unfold gR at h1;obtain⟨cs,e,f⟩:=h1;have n:(cB ρ o).run P w= .ok (.value (.pointer (jK ⟨w.heap.size,0,jJ⟩))) (w.alloc (.cells cs.toArray a)):=by
  simp[cB,j,Instr.box,Go.newVar,Go.newRow,e,Value.cells]
 rw[n];have c:=(Below.refl w.heap.size w).alloc (iY _) (.cells cs.toArray a);refine⟨⟨c.os,c.tape,c.output,c.size,λk hk _=>c.block k hk⟩,w.heap.size,rfl,⟨cs,a,heap_alloc_new w _,?_⟩,λk hk=>?_⟩
 ·exact Az (Ext.grow [] ψ0 (λk hk=>c.block k (H.lt k hk)) λ_ h=>h) _ _ (Bi _ _ hc f)
 ·have hk:k=w.heap.size:=hk;subst hk;exact⟨.inr (iY _),by simp⟩
theorem Mm{ι:Type}{Rs:ι->Res}{val:ι->bX}{R:Res}{f:FuncId}{x:bO}{args:Array bO}{c:Array bW}{xs:List AV}(hi:h[i]? =jK (.res R))
 (j:o.op= .call {callee:=.value x,args:=args,argTypes:=c})(s:evA t x= .lit (.func (.func f) #[] #[]))(q:DI P f R xs Rs val)(u:∀p,(Rs p).mrk=R.mrk)(hx:args.toList.map (evA t)=xs)(hc:Bj xs=aZ)
 (D:∀p,K ⟨Bn t o.dst (.lit (val p)),h.set i (.res (Rs p))⟩):AOp P C o ⟨t,h⟩ K:=by
 refine gQ hi u (λS ψ w ρ H B n a=>?_) D;have h1:=a x (by rw[j];exact aC.2 (.inl (by simp)));rw[s]at h1;unfold gR at h1;rw[OH (cs:=#[]) j q.1 ρ w h1];refine⟨rfl,?_⟩;have h2:Af w S h ψ xs (args.toList.map ρ):=by
  rw[<-hx];exact Cc λx d=>a x (by rw[j];exact aC.2 (.inr (aD.1 d)))
 rw[show(args.map ρ++(#[]:Array bX))=(args.toList.map ρ).toArray from(by rw[Array.append_empty,<-aE])];exact q.2 w S (args.toList.map ρ) (λk hk=>⟨H.lt k hk,λv=>((H.blk i _ hi).1 k v).2.1 hk⟩) n B (Bi _ _ hc h2)
end
end Mu
namespace Mu
open Go Go.RowKit Go.Proofs Go.Maps
variable{E:List (Int×List Int)}{X:gO}{cv:List (Int×bX)}{l:List iS}{m:Nat}{x:iS}{α:Type}
def Qi(E:List (Int×List Int))(x:iS):List (Int×List Int):=B6 (B6 E x.a (((getK E x.a).getD [])++[x.b])) x.b (((getK E x.b).getD [])++[x.a])
def Ma(l:List iS):List (Int×List Int):=l.foldl Qi []
theorem Afb(vs:List (Int×(bX×List Int)))(k:Int):(getK vs k).getD (.slice jJ 0 0,[])=((getK (mapK (·.1) vs) k).getD (.slice jJ 0 0),(getK (mapK (·.2) vs) k).getD []):=by
 rw[CC,CC];cases getK vs k <;> rfl
theorem Ap8{l:List (Int×α)}(h:Ea l){a b:Int}(c:a≠b)(v:α):getK (B6 l a v) b=getK l b:=by
 rw[BH h,if_neg (Ne.symm c)]
theorem mr3{a b c d e:Bool}{Y Z:gO}{n j f:List (Int×(bX×List Int))}(hc:c=aL)(q:b=aL)(s:a=aL):
 ∃vs,(bif a then X else(bif b then Y else(bif c then Z else(bif d then(gP (Ba m cv n))else(bif e then(gP (Ba m cv j))else .res (Ba m cv f))))))=gP (Ba m cv vs):=by
 subst s q hc;cases d <;> cases e <;> exact⟨_,rfl⟩
theorem KW{C:Ctx}{t:List AV}{h:List gO}{o:bN}{ty:bW}{x y:bO}{k:Int}{u:bX}(i:Nat)(f:o.op= .lookup ty x y aL)(a:bT.underlying ty=jK (.map 3 27))(hx:evA t x= .lit (.map (jK m)))(c:evA t y= .lit (.int .i64 k))(hk:wfB .i64 k=aZ)(j:∃vs,X= .res (Ba m cv vs))(hi:h[i]? =jK X)(d:(getK cv k).getD (.slice none 0 0)=u:=by rfl):
 AT bT C t h o (.lit u):=by
 obtain⟨vs,rfl⟩:=j;subst d;exact Abn i f a hx c hk hi
theorem Adb(E:List (Int×List Int))(x:iS):(Qi E x).length<=E.length+2:=by
 unfold Qi;have h1:=EZ (l:=E) x.a (((getK E x.a).getD [])++[x.b]);have h2:=EZ (l:=B6 E x.a (((getK E x.a).getD [])++[x.b])) x.b (((getK E x.b).getD [])++[x.a]);omega
theorem Add(h:Ea E)(x:iS):Ea (Qi E x):=(h.put _ _).put _ _
theorem Adc(h:Ea E)(hx:x.a≠x.b)(k:Int):(getK (Qi E x) k).getD []=(getK E k).getD []++(if k=x.a then [x.b]else if k=x.b then [x.a]else []):=by
 unfold Qi;rw[BH (h.put _ _),BH h];by_cases c:k=x.b
 ·have a:¬k=x.a:=λe=>hx (e.symm.trans c)
  rw[if_pos c,if_neg a,if_pos c,c];rfl
 ·by_cases a:k=x.a
  ·rw[if_neg c,if_pos a,if_pos a,a];rfl
  ·rw[if_neg c,if_neg a,if_neg a,if_neg c,cR]
theorem Akx(l:List iS)(a:∀x∈l,x.a≠x.b)(k:Int):∀{E:List (Int×List Int)},Ea E->(getK (l.foldl Qi E) k).getD []=(getK E k).getD []++l.flatMap λx=>if k=x.a then [x.b]else if k=x.b then [x.a]else []:=by
 induction l with
 |nil=>intro E h;simp
 |cons x l c=>
  intro E h;rw[dQ,c (λy d=>a y (fA _ d)) (Add h x),Adc h (a x fB),dO,cP]
theorem PG(a:∀x∈l,x.a≠x.b)(k:Int):(getK (Ma l) k).getD []=l.flatMap λx=>if k=x.a then [x.b]else if k=x.b then [x.a]else []:=by
 have:=Akx l a k Ea.nil;rw[show(getK ([]:List (Int×List Int)) k).getD []= []from V,fP]at this;exact this
theorem U8(a:∀x∈l,x.a≠x.b)(k:Int):((getK (Ma l) k).getD []).length<=l.length:=by
 rw[PG a];clear a;induction l with
 |nil=>simp
 |cons x l c=>
  rw[dO,eJ,eK];have:(if k=x.a then [x.b]else if k=x.b then [x.a]else []).length<=1:=by
   split
   ·simp
   ·split <;> simp
  omega
theorem Abc(l:List iS):(Ma l).length<=2 * l.length:=by
 have:∀E:List (Int×List Int),(l.foldl Qi E).length<=E.length+2 * l.length:=by
  induction l with
  |nil=>intro E;simp
  |cons x l a=>
   intro E;rw[dQ,eK];have h1:=a (Qi E x);have h2:=Adb E x;omega
 have:=this [];simpa[Ma]using this
theorem Abb{k:Nat}(h:l[k]? =jK x):Ma (l.take (k+1))=Qi (Ma (l.take k)) x:=by
 unfold Ma;rw[gI,h];simp[dP]
theorem LO{β:Type}(e:α->β)(l:List (Int×α)):(mapK e l).length=l.length:=by simp[mapK]
abbrev Al8(l:List iS):Prop:=∀x∈l,Cl x.a/\Cl x.b/\x.a≠x.b
theorem U7(l:List iS)(m:Nat)(hl:l.length<=1073741824)(hg:Al8 l):DI bT 49 (Ba m [] []) [.bs DJ l,.lit (.map (jK m))] (λp:{vs:List (Int×(bX×List Int)) // mapK (·.2) vs=Ma l}=>Ba m (mapK (·.1) p.1) p.1) (λ_=>.tuple #[]):=by
 refine DX Tryz.func49 V (by kernel_rfl) V Tryz.ntmps49 V (λ_ _ _ _ h=>h) λC=>?_
 simp only[Nat.reduceAdd,Nat.reduceSub,zaa];refine wR ?_;refine Ad ?_;refine AH (λp:Nat×List (Int×(bX×List Int))=>⟨(.any::.lit (.map (jK m))::A4 (.bs DJ l::.lit (.int .i64 (l.length:Int))::.lit (.int .i64 (p.1:Int))::A20 (A8 []))),[.res (Ba m (mapK (·.1) p.2) p.2)]⟩) (λp=>p.1<=l.length/\okK p.2/\mapK (·.2) p.2=Ma (l.take p.1)) (λp=>l.length - p.1) (0,[]) ⟨jE _,okK.nil,rfl⟩ (AS) ?_;rintro⟨k,vs⟩ ⟨hk,U,Z⟩;have Z:mapK (·.2) vs=Ma (l.take k):=Z;have U:okK vs:=U;have hk:k<=l.length:=hk;refine wR ?_;refine Ab λK4 h4=>?_
 refine Ah V (λY=>?_) (λY=>?_)
 ·have aa:k < l.length:=by simpa using Y
  obtain⟨x,hx⟩:∃x,l[k]? =jK x:=⟨_,dW aa⟩
  obtain⟨N,L,ai⟩:=hg x (fH hx);have ad:Ea vs:=U.1;have ab:∀y∈l.take k,y.a≠y.b:=λy hy=>(hg y (fI hy)).2.2
  have ag:Fj (((getK (mapK (·.2) vs) x.a).getD []).length+ [x.b].length) 8=aZ:=by
   have h1:=U8 ab x.a;have h2:(l.take k).length<=l.length:=by rw[eR];omega
   rw[Z];unfold Fj;simp only[zaf,zah];unfold cC;omega
  have af:Fj (((getK (mapK (·.2) vs) x.b).getD []).length+ [x.a].length) 8=aZ:=by
   have h1:=U8 ab x.b;have h2:(l.take k).length<=l.length:=by rw[eR];omega
   rw[Z];unfold Fj;simp only[zaf,zah];unfold cC;omega
  have av:vs.length<=2 * l.length:=by
   have h1:=Abc (l.take k);have h2:(l.take k).length<=l.length:=by rw[eR];omega
   rw[<-Z,LO]at h1;omega
  have ah:(mapK (·.1) vs).length < cC:=by rw[LO];unfold cC;omega
  have ac:∀v:bX,(B6 (mapK (·.1) vs) x.a v).length < cC:=λv=>by have:=EZ (l:=mapK (·.1) vs) x.a v;rw[LO]at this;unfold cC;omega
  refine Al ?_;refine h4 _ ?_;refine nT ?_;refine Ab λK6 h6=>?_
  refine Ad ?_;refine wR ?_;refine AJ ⟨.any::.lit (.map (jK m))::A3 (.ptr 1 0::.bs DJ l::.lit (.int .i64 (l.length:Int))::.lit (.int .i64 (k:Int))::A20 (A8 [])),[.res (Ba m (mapK (·.1) vs) vs),.box (Dl x)]⟩ AS ?_;refine Gg (n:=26) (undef,undef,0,undef) (λ(i:bX×bX×Nat×bX) (b:Nat->Bool)=>⟨.any::.lit (.map (jK m))::A3 (.ptr 1 0::.bs DJ l::.lit (.int .i64 (l.length:Int))::.lit (.int .i64 (k:Int))::A3 [(bif b 0 then .lit (.map (jK m))else .any),(bif b 1 then .ptr 1 0 else .any),(bif b 2 then .lit (.int .i64 x.a)else .any),(bif b 3 then .lit (.map (jK m))else .any),(bif b 4 then .ptr 1 1 else .any),(bif b 5 then .lit (.int .i64 x.b)else .any),(bif b 6 then .lit (.map (jK m))else .any),(bif b 7 then .ptr 1 0 else .any),(bif b 8 then .lit (.int .i64 x.a)else .any),(bif b 9 then .lit ((getK (mapK (·.1) vs) x.a).getD (.slice jJ 0 0))else .any),(bif b 10 then .ptr 1 1 else .any),(bif b 11 then .lit (.int .i64 x.b)else .any),(bif b 12 then .bs tInt [x.b]else .any),(bif b 13 then .lit i.1 else .any),(bif b 14 then .lit (.map (jK m))else .any),(bif b 15 then .ptr 1 1 else .any),(bif b 16 then .lit (.int .i64 x.b)else .any),(bif b 17 then .lit ((getK (mapK (·.1) vs) x.b).getD (.slice jJ 0 0))else .any),(bif b 18 then .ptr 1 0 else .any),(bif b 19 then .lit (.int .i64 x.a)else .any),(bif b 20 then .bs tInt [x.a]else .any),(bif b 21 then .lit i.2.1 else .any),(bif b 22 then .lit (.tuple #[i.2.2.2,goInt i.2.2.1])else .any),(bif b 23 then .lit (goInt i.2.2.1)else .any),.any]),[(bif b 25 then(gP (Ba m (B6 (B6 (mapK (·.1) vs) x.a i.1) x.b i.2.1) (B6 (B6 vs x.a (i.1,((getK (mapK (·.2) vs) x.a).getD [])++[x.b])) x.b (i.2.1,((getK (mapK (·.2) vs) x.b).getD [])++[x.a]))))else(bif b 24 then(gP (Ba m (B6 (mapK (·.1) vs) x.a i.1) (B6 (B6 vs x.a (i.1,((getK (mapK (·.2) vs) x.a).getD [])++[x.b])) x.b (i.2.1,((getK (mapK (·.2) vs) x.b).getD [])++[x.a]))))else(bif b 22 then(gP (Aka m (mapK (·.1) vs) (B6 (B6 vs x.a (i.1,((getK (mapK (·.2) vs) x.a).getD [])++[x.b])) x.b (i.2.1,((getK (mapK (·.2) vs) x.b).getD [])++[x.a])) 77 x.a i.2.2.1))else(bif b 21 then(gP (Ba m (mapK (·.1) vs) (B6 (B6 vs x.a (i.1,((getK (mapK (·.2) vs) x.a).getD [])++[x.b])) x.b (i.2.1,((getK (mapK (·.2) vs) x.b).getD [])++[x.a]))))else(bif b 13 then(gP (Ba m (mapK (·.1) vs) (B6 vs x.a (i.1,((getK (mapK (·.2) vs) x.a).getD [])++[x.b]))))else .res (Ba m (mapK (·.1) vs) vs)))))),.box (Dl x)]⟩) ?_ ?_ ?_ ?_ ?_
  ·rfl
  ·kernel_rfl
  ·kernel_rfl
  ·refine AQ (λi b c a hc=>?_) ?_
   ·try dsimp only
    refine AY (AT.move V FG) ?_;exact⟨i,iU⟩
   refine AQ (λi b c a hc=>?_) ?_
   ·try dsimp only
    refine AY (Br V Fr V) ?_;exact⟨i,iU⟩
   refine AQ (λi b c a hc=>?_) ?_
   ·have h1:b 1=aZ:=a 0 _ V V;try dsimp only
    refine AY (Bf V ((Aq Fr).trans (BG h1 _ _)) V V) ?_;exact⟨i,iU⟩
   refine AQ (λi b c a hc=>?_) ?_
   ·try dsimp only
    refine AY (AT.move V FG) ?_;exact⟨i,iU⟩
   refine AQ (λi b c a hc=>?_) ?_
   ·try dsimp only
    refine AY (Br V Fr V) ?_;exact⟨i,iU⟩
   refine AQ (λi b c a hc=>?_) ?_
   ·have h4:b 4=aZ:=a 0 _ V V;try dsimp only
    refine AY (Bf V ((Aq (Aq Je)).trans (BG h4 _ _)) V V) ?_;exact⟨i,iU⟩
   refine AQ (λi b c a hc=>?_) ?_
   ·try dsimp only
    refine AY (AT.move V FG) ?_;exact⟨i,iU⟩
   refine AQ (λi b c a hc=>?_) ?_
   ·try dsimp only
    refine AY (Br V Fr V) ?_;exact⟨i,iU⟩
   refine AQ (λi b c a hc=>?_) ?_
   ·have h7:b 7=aZ:=a 0 _ V V;try dsimp only
    refine AY (Bf V ((Aq (Aq FF)).trans (BG h7 _ _)) V V) ?_;exact⟨i,iU⟩
   refine AQ (λi b c a hc=>?_) ?_
   ·have h6:b 6=aZ:=a 0 _ V V;have h8:b 8=aZ:=a 1 _ V V;have O:b 13=aL:=AW hc (i:=9) (j:=13) (k:=0) V V V V c;have s:b 22=aL:=AW hc (i:=13) (j:=22) (k:=16) V V V V O;have f:b 24=aL:=AW hc (i:=9) (j:=24) (k:=13) V V V V c;have d:b 25=aL:=AW hc (i:=9) (j:=25) (k:=13) V V V V c;try dsimp only
    refine AY (KW (u:=((getK (mapK (·.1) vs) x.a).getD (.slice jJ 0 0))) 0 V bU ((Aq (Aq Gi)).trans (BG h6 _ _)) ((Aq (Aq Hg)).trans (BG h8 _ _)) N (mr3 s f d) V) ?_;exact⟨i,iU⟩
   refine AQ (λi b c a hc=>?_) ?_
   ·try dsimp only
    refine AY (Br V Fr V) ?_;exact⟨i,iU⟩
   refine AQ (λi b c a hc=>?_) ?_
   ·have au:b 10=aZ:=a 0 _ V V;try dsimp only
    refine AY (Bf V ((Aq (Aq Iu)).trans (BG au _ _)) V V) ?_;exact⟨i,iU⟩
   refine AQ (λi b c a hc=>?_) ?_
   ·have ar:b 11=aZ:=a 0 _ V V;try dsimp only
    refine AY (Ce (T:=tInt) V V V (by rfl) (by decide) (Fit.of_eq ((Aq (Aq GB)).trans (BG ar _ _)) (Fit.int L))) ?_;exact⟨i,iU⟩
   refine AQ (λi b c a hc=>?_) ?_
   ·have h9:b 9=aZ:=a 0 _ V V;have aq:b 12=aZ:=a 1 _ V V;have d:b 25=aL:=AW hc (i:=13) (j:=25) (k:=17) V V V V c;have f:b 24=aL:=AW hc (i:=13) (j:=24) (k:=2) V V V V c;have s:b 22=aL:=AW hc (i:=13) (j:=22) (k:=16) V V V V c;have F:b 21=aL:=AW hc (i:=13) (j:=21) (k:=2) V V V V c;have B:b 23=aL:=AW hc (i:=22) (j:=23) (k:=0) V V V V s;have ae:upd b 13 21=aL:=F;have W:upd b 13 22=aL:=s;have I:upd b 13 24=aL:=f;have D:upd b 13 25=aL:=d;have J:upd b 13 23=aL:=B;try dsimp only
    refine Qd (k:=x.a) 0 V V ((Aq (Aq Fr)).trans (BG h9 _ _)) (congrArg jK (((((CO d _ _).trans (CO f _ _)).trans (CO s _ _)).trans (CO F _ _)).trans (CO c _ _))) ((Aq (Aq (Aq Je))).trans (BG aq _ _)) N (Afb vs x.a) ag λv=>?_
    refine⟨(v,i.2),?_⟩;simp only[F,ae,cond_false,s,W,cond_false,B,J,cond_false,f,I,cond_false,d,D,cond_false];exact iU
   refine AQ (λi b c a hc=>?_) ?_
   ·try dsimp only
    refine AY (AT.move V FG) ?_;exact⟨i,iU⟩
   refine AQ (λi b c a hc=>?_) ?_
   ·try dsimp only
    refine AY (Br V Fr V) ?_;exact⟨i,iU⟩
   refine AQ (λi b c a hc=>?_) ?_
   ·have ao:b 15=aZ:=a 0 _ V V;try dsimp only
    refine AY (Bf V ((Aq (Aq (Aq FF))).trans (BG ao _ _)) V V) ?_;exact⟨i,iU⟩
   refine AQ (λi b c a hc=>?_) ?_
   ·have ap:b 14=aZ:=a 0 _ V V;have an:b 16=aZ:=a 1 _ V V;have s:b 22=aL:=AW hc (i:=17) (j:=22) (k:=20) V V V V c;have f:b 24=aL:=AW hc (i:=17) (j:=24) (k:=21) V V V V c;have d:b 25=aL:=AW hc (i:=17) (j:=25) (k:=21) V V V V c;try dsimp only
    refine AY (KW (u:=((getK (mapK (·.1) vs) x.b).getD (.slice jJ 0 0))) 0 V bU ((Aq (Aq (Aq Gi))).trans (BG ap _ _)) ((Aq (Aq (Aq Hg))).trans (BG an _ _)) L (mr3 s f d) V) ?_;exact⟨i,iU⟩
   refine AQ (λi b c a hc=>?_) ?_
   ·try dsimp only
    refine AY (Br V Fr V) ?_;exact⟨i,iU⟩
   refine AQ (λi b c a hc=>?_) ?_
   ·have al:b 18=aZ:=a 0 _ V V;try dsimp only
    refine AY (Bf V ((Aq (Aq (Aq Iu))).trans (BG al _ _)) V V) ?_;exact⟨i,iU⟩
   refine AQ (λi b c a hc=>?_) ?_
   ·have ak:b 19=aZ:=a 0 _ V V;try dsimp only
    refine AY (Ce (T:=tInt) V V V (by rfl) (by decide) (Fit.of_eq ((Aq (Aq (Aq GB))).trans (BG ak _ _)) (Fit.int N))) ?_;exact⟨i,iU⟩
   refine AQ (λi b c a hc=>?_) ?_
   ·have am:b 17=aZ:=a 0 _ V V;have aj:b 20=aZ:=a 1 _ V V;have d:b 25=aL:=AW hc (i:=21) (j:=25) (k:=2) V V V V c;have f:b 24=aL:=AW hc (i:=21) (j:=24) (k:=25) V V V V c;have s:b 22=aL:=AW hc (i:=21) (j:=22) (k:=2) V V V V c;have O:b 13=aZ:=a 2 _ V V;have B:b 23=aL:=AW hc (i:=22) (j:=23) (k:=0) V V V V s;have W:upd b 21 22=aL:=s;have I:upd b 21 24=aL:=f;have D:upd b 21 25=aL:=d;have J:upd b 21 23=aL:=B;try dsimp only
    refine Qd (k:=x.b) 0 V V ((Aq (Aq (Aq Fr))).trans (BG am _ _)) (congrArg jK (((((CO d _ _).trans (CO f _ _)).trans (CO s _ _)).trans (CO c _ _)).trans (Sn O _ _))) ((As Je).trans (BG aj _ _)) L ((congrArg (λq=>Option.getD q (.slice jJ 0 0,[])) (Ap8 ad ai _)).trans (Afb vs x.b)) af λv=>?_
    refine⟨(i.1,v,i.2.2),?_⟩;simp only[s,W,cond_false,B,J,cond_false,f,I,cond_false,d,D,cond_false];exact iU
   refine AQ (λi b c a hc=>?_) ?_
   ·have h0:b 0=aZ:=a 0 _ V V;have h2:b 2=aZ:=a 1 _ V V;have d:b 25=aL:=AW hc (i:=22) (j:=25) (k:=26) V V V V c;have f:b 24=aL:=AW hc (i:=22) (j:=24) (k:=3) V V V V c;have F:b 21=aZ:=a 2 _ V V;have B:b 23=aL:=AW hc (i:=22) (j:=23) (k:=0) V V V V c;have I:upd b 22 24=aL:=f;have D:upd b 22 25=aL:=d;have J:upd b 22 23=aL:=B;try dsimp only
    refine Aii 0 V bU ((Aq Hg).trans (BG h0 _ _)) ((Aq Iu).trans (BG h2 _ _)) N ah (congrArg jK ((((CO d _ _).trans (CO f _ _)).trans (CO c _ _)).trans (Sn F _ _))) λv st=>?_
    refine⟨(i.1,i.2.1,st,v),?_⟩;simp only[B,J,cond_false,f,I,cond_false,d,D,cond_false];exact iU
   refine AQ (λi b c a hc=>?_) ?_
   ·have s:b 22=aZ:=a 0 _ V V;try dsimp only
    refine AY (BT V ((As Gi).trans (BG s _ _)) V) ?_;exact⟨i,iU⟩
   refine AQ (λi b c a hc=>?_) ?_
   ·have h0:b 0=aZ:=a 0 _ V V;have O:b 13=aZ:=a 2 _ V V;have B:b 23=aZ:=a 1 _ V V;have d:b 25=aL:=AW hc (i:=24) (j:=25) (k:=3) V V V V c;have s:b 22=aZ:=a 3 _ V V;have D:upd b 24 25=aL:=d;try dsimp only
    refine Aih 0 V ((Aq Hg).trans (BG h0 _ _)) ((As FF).trans (BG B _ _)) ((Aq (Aq (Aq FG))).trans (BG O _ _)) (congrArg jK (((CO d _ _).trans (CO c _ _)).trans (Sn s _ _))) ?_;refine⟨i,?_⟩;simp only[d,D,cond_false];exact iU
   refine AQ (λi b c a hc=>?_) ?_
   ·have h3:b 3=aZ:=a 0 _ V V;have h5:b 5=aZ:=a 1 _ V V;have F:b 21=aZ:=a 2 _ V V;have f:b 24=aZ:=a 3 _ V V;try dsimp only
    refine VG 0 V bU ((Aq GB).trans (BG h3 _ _)) ((Aq (Aq FG)).trans (BG h5 _ _)) ((As FG).trans (BG F _ _)) L (ac _) (congrArg jK ((CO c _ _).trans (Sn f _ _))) ?_;refine⟨i,?_⟩;exact iU
   exact Pr
  intro i;refine qVia ⟨.any::.lit (.map (jK m))::A3 (.ptr 1 0::.bs DJ l::.lit (.int .i64 (l.length:Int))::.lit (.int .i64 (k:Int))::A3 [.lit (.map (jK m)),.ptr 1 0,.lit (.int .i64 x.a),.lit (.map (jK m)),.ptr 1 1,.lit (.int .i64 x.b),.lit (.map (jK m)),.ptr 1 0,.lit (.int .i64 x.a),.lit ((getK (mapK (·.1) vs) x.a).getD (.slice jJ 0 0)),.ptr 1 1,.lit (.int .i64 x.b),.bs tInt [x.b],.lit i.1,.lit (.map (jK m)),.ptr 1 1,.lit (.int .i64 x.b),.lit ((getK (mapK (·.1) vs) x.b).getD (.slice jJ 0 0)),.ptr 1 0,.lit (.int .i64 x.a),.bs tInt [x.a],.lit i.2.1,.lit (.tuple #[i.2.2.2,goInt i.2.2.1]),.lit (goInt i.2.2.1),.any]),[.res (Ba m (B6 (B6 (mapK (·.1) vs) x.a i.1) x.b i.2.1) (B6 (B6 vs x.a (i.1,((getK (mapK (·.2) vs) x.a).getD [])++[x.b])) x.b (i.2.1,((getK (mapK (·.2) vs) x.b).getD [])++[x.a]))),.box (Dl x)]⟩ V ?_;refine h6 _ ?_;refine nT ?_;refine AJ ⟨(.any::.lit (.map (jK m))::A4 (.bs DJ l::.lit (.int .i64 (l.length:Int))::.lit (.int .i64 (k:Int))::A20 (A8 []))),[.res (Ba m (mapK (·.1) (B6 (B6 vs x.a (i.1,((getK (mapK (·.2) vs) x.a).getD [])++[x.b])) x.b (i.2.1,((getK (mapK (·.2) vs) x.b).getD [])++[x.a]))) (B6 (B6 vs x.a (i.1,((getK (mapK (·.2) vs) x.a).getD [])++[x.b])) x.b (i.2.1,((getK (mapK (·.2) vs) x.b).getD [])++[x.a])))]⟩ (by rw[Gx,Gx];exact Kh (.cons (gX _))) ?_;refine wRE ?_;refine Ap ⟨(k+1,B6 (B6 vs x.a (i.1,((getK (mapK (·.2) vs) x.a).getD [])++[x.b])) x.b (i.2.1,((getK (mapK (·.2) vs) x.b).getD [])++[x.a])),⟨aa,(U.put N _).put L _,?_⟩,by show l.length - (k+1) < l.length - k;omega,AS⟩;dsimp only;rw[Gx,Gx,Abb hx,Z];rfl
 ·obtain rfl:k=l.length:=by have:¬k < l.length:=(by simpa using Y);omega
  refine Ay ?_;exact⟨.inl V,⟨vs,by rw[Z,gJ]⟩,rfl,rfl⟩
end Mu
namespace Mu
open Go Go.RowKit Go.Proofs
def RQ(leaf:Bool):Int:=if leaf then 8 else 24
def Ahr(own:Int)(n:Nat):List hZ:=(fY n).map λ(r:Nat)=>⟨(r:Int),own+(r:Int)⟩
def MX(l:List Int)(k:Nat):List hZ:=(fY k).map λ(j:Nat)=>⟨l.getD j 0,8+(j:Int)⟩
def EH(own:Int)(x:Ins):List hZ:=if x.op ==10 then [⟨x.a,own⟩]else if x.op ==5 then⟨x.d,8⟩::MX x.args (x.args.take 6).length else []
def I9(own:Int)(b:gU):List hZ:=b.ins.flatMap (EH own)
def B8(f:g9)(leaf:Bool):List hZ:=Ahr (RQ leaf) (argsK f)++f.blocks.flatMap (I9 (RQ leaf))
theorem Ahq(own:Int)(n:Nat):Ahr own (n+1)=Ahr own n++[⟨(n:Int),own+(n:Int)⟩]:=by unfold Ahr;rw[gD,eS];rfl
theorem Sz(own:Int)(n:Nat):(Ahr own n).length=n:=by simp[Ahr]
theorem Aba{l:List Int}{k:Nat}{a:Int}(h:l[k]? =jK a):MX l (k+1)=MX l k++[⟨a,8+(k:Int)⟩]:=by
 unfold MX;rw[gD,eS];simp only[eT,eV,dT,h,jF]
theorem U2(l:List Int)(k:Nat):(MX l k).length=k:=by simp[MX]
theorem Af7(own:Int)(x:Ins):(EH own x).length<=7:=by
 unfold EH;split
 ·simp
 ·split
  ·rw[eK,U2,eR];omega
  ·simp
theorem Aad(own:Int)(l:List Ins):(l.flatMap (EH own)).length<=7 * l.length:=by
 induction l with
 |nil=>simp
 |cons x l a=>
  have:=Af7 own x;rw[dO,eJ,eK];omega
def Rm(f:g9):List Ins:=f.blocks.flatMap (·.ins)
theorem Z4(own:Int)(f:g9):(f.blocks.flatMap (I9 own)).length<=7 *(Rm f).length:=by
 have:=Aad own (Rm f);unfold Rm at *;rw[List.flatMap_assoc]at this;exact this
theorem Z3(f:g9)(leaf:Bool)(ho:okFunc f)(hs:smallF f)(hI:(Rm f).length<=2097152):Fn bT 51 [.agg (Ak f),.lit (.bool leaf)] (.bs Gk (B8 f leaf)):=by
 have cd:=hs.blocks;have cb:=(GG f).2;refine AR Tryz.func51 V (by kernel_rfl) V Tryz.ntmps51 λC hC=>?_
 refine nS ?_;refine rCS ?_;refine rCS ?_;refine Ab λK3 h3=>?_
 have aa:∀s':St,St.le C s' ⟨(A2 (.ptr 0 0::A2 (.lit (.int .i64 (RQ leaf))::A80 []))),[.box (Ak f)]⟩->K3 s':=by
  intro s' al;refine h3 _ (AJ _ al ?_);have aw:8<=RQ leaf/\RQ leaf<=24:=by unfold RQ;split <;> omega
  have Y:∀j:Nat,j<=6->wfI .i64 (RQ leaf+(j:Int)):=λj hj=>by
   have:wfI .i64 (((RQ leaf).toNat+j:Nat):Int):=LL (by omega);rwa [show(((RQ leaf).toNat+j:Nat):Int)=RQ leaf+(j:Int)by omega]at this
  have L:wfI .i64 (RQ leaf):=by have:=Y 0 (by omega);rwa [show RQ leaf+((0:Nat):Int)=RQ leaf by omega]at this
  have ac:=Z4 (RQ leaf) f;generalize af:RQ leaf=own at aw Y L ac;have an:B8 f leaf=Ahr own (argsK f)++f.blocks.flatMap (I9 own):=by unfold B8;rw[af]
  rw[an];have w8:wfI .i64 8:=(by decide:(Lit.int .i64 (8:Int)).wf=aZ)
  refine rCS ?_;refine Ab λK7 h7=>?_
  refine Ab λK8 h8=>?_
  (refine gT ?_;(repeat(first|refine sQ ?_ (AT.call V (Vg f) V V V)|refine sQ ?_ (Ax V V V V)|refine sQ ?_ (Av V V V V)|refine sQ ?_|refine AN ?_|refine sG ?_|refine Bp ?_));refine Au ?_)
  refine h8 _ ?_;refine nT ?_;refine Ad ?_;refine AH (λp:Nat×Nat=>⟨(A2 (.ptr 0 0::A2 (.lit (.int .i64 own)::.own 1 p.2::A9 (.lit (.int .i64 (argsK f:Int))::.lit (.int .i64 (p.1:Int))::A40 (A20 (A8 [])))))),[.box (Ak f),.row p.2 84 Gk (Ahr own p.1)]⟩) (λp=>p.1<=argsK f) (λp=>argsK f - p.1) (0,0) (jE _) ((CB 6 84 Gk V (by decide)).trans (BV)) ?_;rintro⟨k,ver⟩ hk
  (try dsimp only at hk);(try dsimp only)
  refine rCS ?_;refine Ab λct bv=>?_
  refine Ah V (λF=>?_) (λF=>?_)
  ·have ak:k < argsK f:=by simpa using F
   have hw:=LL (k:=k) (by omega);have ar:=Y k (by omega);have I:=Sz own k;have ad:=Ahq own k;generalize bh:Ahr own k=L0 at I ad⊢;have ah:L0.length+ [(⟨(k:Int),own+(k:Int)⟩:hZ)].length<=cC:=by simp[cC];omega
   have ag:(L0.length+ [(⟨(k:Int),own+(k:Int)⟩:hZ)].length) * 16<=140737488355328:=by simp;omega
   refine Al ?_;refine bv _ ?_;refine nT ?_;refine Ab λcs bu=>?_
   refine Ad ?_;refine rCS ?_
   (refine gT ?_;(repeat(first|refine sQ ?_ (Mg (rs:=[.lit (.int .i64 (k:Int)),.lit (.int .i64 (own+(k:Int)))]) V XZ V V)|refine sQ ?_ (Ce (T:=Gk) V V V (by rfl) (by decide) (Oc hw ar))|refine sQ ?_ (Ax V V V V)|refine sQ ?_ (Av V V V V)|refine sQ ?_|refine AN ?_|refine sG ?_|refine Bp ?_));refine Au ?_)
   refine bu _ ?_;refine nT ?_;refine rC ?_;refine Ap ⟨(k+1,ver+1),by dsimp only;omega,by dsimp only;omega,?_⟩;try dsimp only
   rw[ad];exact BV
  ·have az:k=argsK f:=by
    have:¬k < argsK f:=by simpa using F
    omega
   subst az;have I:=Sz own (argsK f);generalize bi:Ahr own (argsK f)=A0 at I⊢;refine Ay ?_;refine h7 _ ?_;refine nT ?_;refine Ab λcr bt=>?_
   refine rCS ?_;refine Ad ?_;refine AH (λp:Nat×Nat=>⟨(A2 (.ptr 0 0::A2 (.lit (.int .i64 own)::.own 1 p.2::A20 (A3 (.bs Cv f.blocks::.lit (.int .i64 (f.blocks.length:Int))::.lit (.int .i64 (p.1:Int))::A40 (A10 (A3 []))))))),[.box (Ak f),.row p.2 84 Gk (A0++(f.blocks.take p.1).flatMap (I9 own))]⟩) (λp=>p.1<=f.blocks.length) (λp=>f.blocks.length - p.1) (0,ver) (jE _) (by rw[show A0++(f.blocks.take (0,ver).1).flatMap (I9 own)=A0 by simp];exact BV) ?_;rintro⟨b,ver⟩ hb
   (try dsimp only at hb);(try dsimp only)
   refine rCS ?_;refine Ab λcq br=>?_
   refine Ah V (λD=>?_) (λD=>?_)
   ·have ak:b < f.blocks.length:=by simpa using D
    obtain⟨d,s⟩:∃d,f.blocks[b]? =jK d:=⟨_,dW ak⟩
    have J:=fH s;have ax:=ho.blocks d J;have ae:=hs.all d J;have cc:=ae.ins;have be:=Dk (g:=I9 own) s;refine Al ?_;refine br _ ?_;refine nT ?_;refine Ab λcp bq=>?_
    refine Ad ?_;refine rCS ?_;refine rCS ?_;refine Ad ?_;refine AH (λp:Nat×Nat=>⟨(A2 (.ptr 0 0::A2 (.lit (.int .i64 own)::.own 1 p.2::A20 (A3 (.bs Cv f.blocks::.lit (.int .i64 (f.blocks.length:Int))::.lit (.int .i64 (b:Int))::A4 (.bs Eh d.ins::.lit (.int .i64 (d.ins.length:Int))::.lit (.int .i64 (p.1:Int))::A40 (A6 []))))))),[.box (Ak f),.row p.2 84 Gk (A0++(f.blocks.take b).flatMap (I9 own)++(d.ins.take p.1).flatMap (EH own))]⟩) (λp=>p.1<=d.ins.length) (λp=>d.ins.length - p.1) (0,ver) (jE _) (by rw[show A0++(f.blocks.take b).flatMap (I9 own)++(d.ins.take (0,ver).1).flatMap (EH own)=A0++(f.blocks.take b).flatMap (I9 own)by simp];exact Kh (.cons (.cons (gX _)))) ?_;rintro⟨i,ver⟩ hi
    (try dsimp only at hi);(try dsimp only)
    refine rCS ?_;refine Ab λco bo=>?_
    refine Ah V (λB=>?_) (λB=>?_)
    ·have am:i < d.ins.length:=by simpa using B
     obtain⟨x,hx⟩:∃x,d.ins[i]? =jK x:=⟨_,dW am⟩
     have ab:=fH hx;have N:=ax.ins x ab;have bw:x.args.length<=2097152:=by have:=ae.all x ab;omega
     have aq:=Dk (g:=EH own) hx;have al:=Si (g:=EH own) s hx;have ce:(f.blocks.flatMap λc=>c.ins.flatMap (EH own)).length<=14680064:=by
      have:(f.blocks.flatMap λc=>c.ins.flatMap (EH own))=f.blocks.flatMap (I9 own):=rfl;rw[this];omega
     have hL:(A0++(f.blocks.take b).flatMap (I9 own)++(d.ins.take i).flatMap (EH own)).length+(EH own x).length<=14680070:=by
      rw[eJ,eJ,I];have:((f.blocks.take b).flatMap (I9 own)).length=((f.blocks.take b).flatMap λc=>c.ins.flatMap (EH own)).length:=rfl;omega
     have n:A0++(f.blocks.take b).flatMap (I9 own)++(d.ins.take (i+1)).flatMap (EH own)=(A0++(f.blocks.take b).flatMap (I9 own)++(d.ins.take i).flatMap (EH own))++EH own x:=by rw[aq,cP _ _ (EH own x)]
     generalize bh:A0++(f.blocks.take b).flatMap (I9 own)++(d.ins.take i).flatMap (EH own)=L0 at hL n⊢;have cg:L0.length<=14680070:=by omega
     refine Al ?_;refine bo _ ?_;refine nT ?_;refine Ab λcn Z=>?_
     refine Ad ?_;refine rCS ?_;refine rCS ?_;refine Ad ?_;refine rCS ?_;refine Ah V (λq=>?_) (λq=>?_)
     ·have e:EH own x= [⟨x.a,own⟩]:=by unfold EH;rw[if_pos q]
      have ah:L0.length+ [(⟨x.a,own⟩:hZ)].length<=cC:=by simp[cC];omega
      have ag:(L0.length+ [(⟨x.a,own⟩:hZ)].length) * 16<=140737488355328:=by simp;omega
      (refine gT ?_;(repeat(first|refine sQ ?_ (Mg (rs:=[.lit (.int .i64 x.a),.lit (.int .i64 own)]) V XZ V V)|refine sQ ?_ (Ce (T:=Gk) V V V (by rfl) (by decide) (Oc N.a L))|refine sQ ?_ (Ax V V V V)|refine sQ ?_ (Av V V V V)|refine sQ ?_|refine AN ?_|refine sG ?_|refine Bp ?_));refine Au ?_)
      refine Z _ ?_;refine nT ?_;refine rC ?_;refine Ap ⟨(i+1,ver+1),by dsimp only;omega,by dsimp only;omega,?_⟩;try dsimp only
      rw[n,e];exact Kh (.cons (.cons (gX _)))
     ·refine rCS ?_;refine Ah V (λv=>?_) (λv=>?_)
      ·have e:EH own x=⟨x.d,8⟩::MX x.args (x.args.take 6).length:=by unfold EH;rw[if_neg (by rw[q];simp),if_pos v]
       have ah:L0.length+ [(⟨x.d,8⟩:hZ)].length<=cC:=by simp[cC];omega
       have ag:(L0.length+ [(⟨x.d,8⟩:hZ)].length) * 16<=140737488355328:=by simp;omega
       refine Ab λcm bn=>?_
       (refine gT ?_;(repeat(first|refine sQ ?_ (Mg (rs:=[.lit (.int .i64 x.d),.lit (.int .i64 8)]) V XZ V V)|refine sQ ?_ (Ce (T:=Gk) V V V (by rfl) (by decide) (Oc N.d w8))|refine sQ ?_ (Ax V V V V)|refine sQ ?_ (Av V V V V)|refine sQ ?_|refine AN ?_|refine sG ?_|refine Bp ?_));refine Au ?_)
       refine bn _ ?_;refine nT ?_;refine Ab λck bm=>?_
       have aj:(if(6:Int) < (x.args.length:Int)then(6:Int)else(x.args.length:Int))=((x.args.take 6).length:Int):=by rw[eR];split <;> omega
       have ai:(x.args.take 6).length<=x.args.length:=by rw[eR];omega
       have ay:(x.args.take 6).length<=6:=by rw[eR];omega
       (refine gT ?_;(repeat(first|refine sQ ?_ (PW (l:=0) (m:=(x.args.take 6).length) V V V V ⟨_,congrArg (λz=>AV.lit (bY .i64 z)) aj⟩ (jE _) ai)|refine sQ ?_ (Ax V V V V)|refine sQ ?_ (Av V V V V)|refine sQ ?_|refine AN ?_|refine sG ?_|refine Bp ?_));refine Au ?_)
       have U:((x.args.take (x.args.take 6).length).drop 0).length=(x.args.take 6).length:=by rw[List.length_drop,eR];omega
       have W:∀j,j < (x.args.take 6).length->((x.args.take (x.args.take 6).length).drop 0)[j]? =x.args[j]?:=λj hj=>by rw[dA,List.getElem?_take_of_lt hj]
       generalize ca:(x.args.take 6).length=m at ai ay U W e⊢;generalize cf:(x.args.take m).drop 0=S at U W⊢;refine bm _ ?_;refine nT ?_;refine Ad ?_;refine AH (λp:Nat×Nat=>⟨(A2 (.ptr 0 0::A2 (.lit (.int .i64 own)::.own 1 p.2::A20 (A3 (.bs Cv f.blocks::.lit (.int .i64 (f.blocks.length:Int))::.lit (.int .i64 (b:Int))::A4 (.bs Eh d.ins::.lit (.int .i64 (d.ins.length:Int))::.lit (.int .i64 (i:Int))::A20 (A8 (.bs tInt S::.lit (.int .i64 (S.length:Int))::.lit (.int .i64 (p.1:Int))::A10 (A5 []))))))))),[.box (Ak f),.row p.2 84 Gk (L0++[⟨x.d,8⟩]++MX x.args p.1)]⟩) (λp=>p.1<=S.length) (λp=>S.length - p.1) (0,ver+1) (jE _) (by rw[show L0++[⟨x.d,8⟩]++MX x.args (0,ver+1).1=L0++[⟨x.d,8⟩]by simp[MX]];exact Kh (.cons (.cons (gX _)))) ?_;rintro⟨j,ver⟩ hj
       (try dsimp only at hj);(try dsimp only)
       refine rCS ?_;refine Ab λcj bk=>?_
       refine Ah V (λu=>?_) (λu=>?_)
       ·have ba:j < S.length:=by simpa using u
        obtain⟨a,ha⟩:∃a,S[j]? =jK a:=⟨_,dW ba⟩
        have ap:x.args[j]? =jK a:=by rw[<-W j (by omega)];exact ha
        have au:=N.args a (fH ap);have av:wfI .i64 (8+(j:Int)):=by
         have:wfI .i64 ((8+j:Nat):Int):=LL (by omega);rwa [show((8+j:Nat):Int)=8+(j:Int)by omega]at this
        have ao:=Aba ap;have bf:=U2 x.args j;generalize ch:MX x.args j=C0 at ao bf⊢;have bz:(L0++[(⟨x.d,8⟩:hZ)]++C0).length+ [(⟨a,8+(j:Int)⟩:hZ)].length<=cC:=by simp[cC];omega
        have bx:((L0++[(⟨x.d,8⟩:hZ)]++C0).length+ [(⟨a,8+(j:Int)⟩:hZ)].length) * 16<=140737488355328:=by simp;omega
        refine Al ?_;refine bk _ ?_;refine nT ?_;refine Ab λci bj=>?_
        refine Ad ?_;refine rCS ?_
        (refine gT ?_;(repeat(first|refine sQ ?_ (Mg (rs:=[.lit (.int .i64 a),.lit (.int .i64 (8+(j:Int)))]) V XZ V V)|refine sQ ?_ (Ce (T:=Gk) V V V (by rfl) (by decide) (Oc au av))|refine sQ ?_ (Ax V V V V)|refine sQ ?_ (Av V V V V)|refine sQ ?_|refine AN ?_|refine sG ?_|refine Bp ?_));refine Au ?_)
        refine bj _ ?_;refine nT ?_;refine rC ?_;refine Ap ⟨(j+1,ver+1),by dsimp only;omega,by dsimp only;omega,?_⟩;try dsimp only
        rw[ao,<-cP];exact BV
       ·have bb:j=S.length:=by
         have:¬j < S.length:=by simpa using u
         omega
        subst bb;refine Ay ?_;refine Z _ ?_;refine nT ?_;refine rC ?_;refine Ap ⟨(i+1,ver),by dsimp only;omega,by dsimp only;omega,?_⟩;try dsimp only
        rw[n,e,U,cP L0];exact BV
      ·have e:EH own x= []:=by unfold EH;rw[if_neg (by rw[q];simp),if_neg (by rw[v];simp)]
       refine Al ?_;refine Z _ ?_;refine nT ?_;refine rC ?_;refine Ap ⟨(i+1,ver),by dsimp only;omega,by dsimp only;omega,?_⟩;try dsimp only
       rw[n,e,cR];exact Kh (.cons (.cons (gX _)))
    ·have bc:i=d.ins.length:=by
      have:¬i < d.ins.length:=by simpa using B
      omega
     subst bc;rw[gJ];refine Ay ?_;refine bq _ ?_;refine nT ?_;refine rC ?_;refine Ap ⟨(b+1,ver),by dsimp only;omega,by dsimp only;omega,?_⟩;try dsimp only
     rw[be,<-cP];exact BV
   ·have bg:b=f.blocks.length:=by
     have:¬b < f.blocks.length:=by simpa using D
     omega
    subst bg;rw[gJ];refine Ay ?_;refine bt _ ?_;refine nT ?_;refine rCS ?_;refine Aw ?_;subst bi;exact⟨.inr V,Fin.own V⟩
 refine rCS ?_;refine Ah V (λO=>?_) (λO=>?_)
 ·subst O;refine rC ?_;refine aa _ ?_;exact BV
 ·subst O;refine Al ?_;refine aa _ ?_;exact BV
open Go.Maps
def clsE(z:List (Int×List Int)):List (Int×List Int):=z.foldl (λE p=>B6 E p.1 p.2) []
def NH(E:List (Int×List Int))(h:hZ):List (Int×List Int):=B6 E h.r (((getK E h.r).getD [])++[h.at_])
def NP(l:List hZ):List (Int×List Int):=l.foldl NH []
def Cr(f:g9)(leaf:Bool)(ch:List Int):gV:=⟨regsB f,clsE ((regsB f).zip (DU f leaf (regsB f))),Ma (De f),NP (B8 f leaf),Ma (mvL f),ch⟩
theorem Ag9{z:List (Int×List Int)}{k:Nat}{p:Int×List Int}(h:z[k]? =jK p):clsE (z.take (k+1))=B6 (clsE (z.take k)) p.1 p.2:=by
 unfold clsE;rw[gI,h];simp[dP]
theorem Ali(z:List (Int×List Int)):(clsE z).length<=z.length:=by
 have:∀E:List (Int×List Int),(z.foldl (λE p=>B6 E p.1 p.2) E).length<=E.length+z.length:=by
  induction z with
  |nil=>intro E;simp
  |cons x l a=>
   intro E;rw[dQ,eK];have h1:=a (B6 E x.1 x.2);have h2:=EZ (l:=E) x.1 x.2;omega
 have:=this [];simpa[clsE]using this
theorem Z5{l:List hZ}{k:Nat}{x:hZ}(h:l[k]? =jK x):NP (l.take (k+1))=NH (NP (l.take k)) x:=by
 unfold NP;rw[gI,h];simp[dP]
theorem Af8(l:List hZ):(NP l).length<=l.length:=by
 have:∀E:List (Int×List Int),(l.foldl NH E).length<=E.length+l.length:=by
  induction l with
  |nil=>intro E;simp
  |cons x l a=>
   intro E;rw[dQ,eK];have h1:=a (NH E x);have h2:=EZ (l:=E) x.r (((getK E x.r).getD [])++[x.at_]);unfold NH at h1⊢;omega
 have:=this [];simpa[NP]using this
theorem Ur(l:List hZ)(k:Int):((getK (NP l) k).getD []).length<=l.length:=by
 have:∀E:List (Int×List Int),Ea E->((getK (l.foldl NH E) k).getD []).length<=((getK E k).getD []).length+l.length:=by
  induction l with
  |nil=>intro E _;simp
  |cons x l a=>
   intro E h;rw[dQ,eK];have h1:=a (NH E x) (h.put _ _);have h2:((getK (NH E x) k).getD []).length<=((getK E k).getD []).length+1:=by
    unfold NH;rw[BH h];by_cases e:k=x.r
    ·rw[if_pos e,e];simp
    ·rw[if_neg e];omega
   omega
 have:=this [] Ea.nil;simpa[NP,getK]using this
def Azi(E:List (Int×List Int)):{vs:List (Int×(bX×List Int)) // mapK (·.2) vs=E}:=⟨mapK (λl=>(undef,l)) E,by unfold mapK;rw[eU];exact(List.map_congr_left (g:=id) λ_ _=>rfl).trans (List.map_id E)⟩
theorem mr2{m:Nat}{cv:List (Int×bX)}{a b:Bool}{X Y:gO}{c:List (Int×(bX×List Int))}(d:b=aL)(f:a=aL):
 ∃vs,(bif a then X else(bif b then Y else .res (Ba m cv c)))=gP (Ba m cv vs):=by
 subst f d;exact⟨_,rfl⟩
theorem Ajq:Ep bT 79=jK [(0,1),(1,1),(2,1),(3,1),(4,1),(5,1)]:=by kernel_rfl
instance Aw7:ZC bT 79 [.slice jJ 0 0,.map jJ,.map jJ,.map jJ,.map jJ,.slice jJ 0 0]:=⟨by kernel_rfl⟩
theorem Z9(f:g9)(leaf:Bool)(ch:List Int)(J:g8 f)(hr:(regsB f).length<=1073741824)(bc:Fn bT 48 [.agg (Ak f)] (.bs tInt ch))(av:(De f).length<=1073741824)(aq:(mvL f).length<=1073741824)(au:Al8 (De f))(ar:Al8 (mvL f))
 (hI:(Rm f).length<=2097152)(bq:(B8 f leaf).length<=1073741824)(hh:∀x∈B8 f leaf,Cl x.r/\Cl x.at_)(an:∀r∈regsB f,Cl r):Fn bT 25 [.agg (Ak f),.lit (.bool leaf)] (.bp Bc (Cr f leaf ch) 0):=by
 have ad:=OM f J.ok J.small J.all;have bb:=U0 f leaf J.ok J.small J.reads J.ins J.all;have ba:=Ak6 f J.ok J.small J.reads J.all J.ins;have ay:=Aj8 f J.ok J.small J.reads J.all J.ins;have az:=Z3 f leaf J.ok J.small hI;refine AR Tryz.func25 V (by kernel_rfl) V Tryz.ntmps25 λC hC=>?_
 simp only[Nat.reduceAdd,Nat.reduceSub,zaa];refine wR ?_;refine AJ _ (Hq.trans (Hq.trans (Hq.trans (Hq.trans Hq)))) ?_;refine AJ ⟨.agg (Ak f)::.lit (.bool leaf)::.ptr 0 0::.any::.lit (.pointer jJ)::A80 (A3 []),[.box (Ak f),.res nilR,.res nilR,.res nilR,.res nilR,.res nilR]⟩ AS ?_;refine Ab λbr ap=>?_
 refine Gg (n:=11) (0,0,0,0,0) (λ(i:Nat×Nat×Nat×Nat×Nat) (b:Nat->Bool)=>⟨.agg (Ak f)::.lit (.bool leaf)::.ptr 0 0::.any::.lit (.pointer jJ)::(bif b 10 then .lit (.pointer (jK ⟨i.2.2.2.2,0,jJ⟩))else .any)::A6 ((bif b 0 then .agg (Ak f)else .any)::(bif b 1 then .bs tInt (regsB f)else .any)::(bif b 2 then .lit (.map (jK i.1))else .any)::(bif b 3 then .lit (.map (jK i.2.1))else .any)::(bif b 4 then .lit (.map (jK i.2.2.1))else .any)::(bif b 5 then .lit (.map (jK i.2.2.2.1))else .any)::(bif b 6 then .agg (Ak f)else .any)::(bif b 7 then .bs tInt ch else .any)::(bif b 8 then .agg [.bs tInt (regsB f),.lit (.map (jK i.1)),.lit (.map (jK i.2.1)),.lit (.map (jK i.2.2.1)),.lit (.map (jK i.2.2.2.1)),.bs tInt ch]else .any)::(bif b 9 then .lit (.pointer (jK ⟨i.2.2.2.2,0,jJ⟩))else .any)::.any::.any::.any::.any::.any::.any::.any::.any::.any::.any::.any::.any::.any::.any::.any::.any::.any::.any::.any::.any::.any::.any::.any::.any::.any::.any::.any::.any::.any::.any::.any::.any::.any::.any::.any::.any::.any::.any::.any::.any::.any::.any::.any::.any::.any::.any::.any::.any::.any::.any::.any::.any::.any::.any::.any::.any::.any::.any::.any::.any::.any::.any::.any::.any::.any::.any::[]),[.box (Ak f),(bif b 2 then(gP (Di i.1 []))else .res nilR),(bif b 3 then(gP (Ba i.2.1 [] []))else .res nilR),(bif b 4 then(gP (Ba i.2.2.1 [] []))else .res nilR),(bif b 5 then(gP (Ba i.2.2.2.1 [] []))else .res nilR),(bif b 9 then(gP (Be i.2.2.2.2 [.bs tInt (regsB f),.lit (.map (jK i.1)),.lit (.map (jK i.2.1)),.lit (.map (jK i.2.2.1)),.lit (.map (jK i.2.2.2.1)),.bs tInt ch]))else .res nilR)]⟩) ?_ ?_ ?_ ?_ ?_
 ·rfl
 ·kernel_rfl
 ·kernel_rfl
 ·refine AQ (λi b d a hc=>?_) ?_
  ·try dsimp only
   refine AY (AO V Gi V V) ?_;exact⟨i,iU⟩
  refine AQ (λi b d a hc=>?_) ?_
  ·have h0:b 0=aZ:=a 0 _ V V;try dsimp only
   refine AY (AM V (Q4 ((Aq Hg).trans (BG h0 _ _)) V) ad V V) ?_;exact⟨i,iU⟩
  refine AQ (λi b d a hc=>?_) ?_
  ·have F:b 8=aL:=AW hc (i:=2) (j:=8) (k:=1) V V V V d;have L:b 9=aL:=AW hc (i:=8) (j:=9) (k:=0) V V V V F;have u8:upd b 2 8=aL:=F;have u9:upd b 2 9=aL:=L;try dsimp only
   refine Iq 1 (λm=>Di m []) (λ_=>rfl) (λ_ _ h=>h) Wv V (congrArg jK (CO d _ _)) λm=>?_
   refine⟨(m,i.2),?_⟩;simp only[F,u8,cond_false,L,u9,cond_false];exact iU
  refine AQ (λi b d a hc=>?_) ?_
  ·have F:b 8=aL:=AW hc (i:=3) (j:=8) (k:=2) V V V V d;have L:b 9=aL:=AW hc (i:=8) (j:=9) (k:=0) V V V V F;have u8:upd b 3 8=aL:=F;have u9:upd b 3 9=aL:=L;try dsimp only
   refine Iq 2 (λm=>Ba m [] []) (λ_=>rfl) Pd RZ V (congrArg jK (CO d _ _)) λm=>?_
   refine⟨(i.1,m,i.2.2),?_⟩;simp only[F,u8,cond_false,L,u9,cond_false];exact iU
  refine AQ (λi b d a hc=>?_) ?_
  ·have F:b 8=aL:=AW hc (i:=4) (j:=8) (k:=3) V V V V d;have L:b 9=aL:=AW hc (i:=8) (j:=9) (k:=0) V V V V F;have u8:upd b 4 8=aL:=F;have u9:upd b 4 9=aL:=L;try dsimp only
   refine Iq 3 (λm=>Ba m [] []) (λ_=>rfl) Pd RZ V (congrArg jK (CO d _ _)) λm=>?_
   refine⟨(i.1,i.2.1,m,i.2.2.2),?_⟩;simp only[F,u8,cond_false,L,u9,cond_false];exact iU
  refine AQ (λi b d a hc=>?_) ?_
  ·have F:b 8=aL:=AW hc (i:=5) (j:=8) (k:=4) V V V V d;have L:b 9=aL:=AW hc (i:=8) (j:=9) (k:=0) V V V V F;have u8:upd b 5 8=aL:=F;have u9:upd b 5 9=aL:=L;try dsimp only
   refine Iq 4 (λm=>Ba m [] []) (λ_=>rfl) Pd RZ V (congrArg jK (CO d _ _)) λm=>?_
   refine⟨(i.1,i.2.1,i.2.2.1,m,i.2.2.2.2),?_⟩;simp only[F,u8,cond_false,L,u9,cond_false];exact iU
  refine AQ (λi b d a hc=>?_) ?_
  ·try dsimp only
   refine AY (AO V Gi V V) ?_;exact⟨i,iU⟩
  refine AQ (λi b d a hc=>?_) ?_
  ·have h6:b 6=aZ:=a 0 _ V V;try dsimp only
   refine AY (AM V (Q4 ((Aq (Aq Gi)).trans (BG h6 _ _)) V) bc V V) ?_;exact⟨i,iU⟩
  refine AQ (λi b d a hc=>?_) ?_
  ·have h1:b 1=aZ:=a 0 _ V V;have h2:b 2=aZ:=a 1 _ V V;have h3:b 3=aZ:=a 2 _ V V;have h4:b 4=aZ:=a 3 _ V V;have h5:b 5=aZ:=a 4 _ V V;have h7:b 7=aZ:=a 5 _ V V;try dsimp only
   refine AY (Xv V Ajq (Q4 ((Aq Fr).trans (BG h1 _ _)) (Q4 ((Aq Iu).trans (BG h2 _ _)) (Q4 ((Aq GB).trans (BG h3 _ _)) (Q4 ((Aq (Aq Je)).trans (BG h4 _ _)) (Q4 ((Aq (Aq FG)).trans (BG h5 _ _)) (Q4 ((Aq (Aq FF)).trans (BG h7 _ _)) V)))))) V V) ?_;exact⟨i,iU⟩
  refine AQ (λi b d a hc=>?_) ?_
  ·have F:b 8=aZ:=a 0 _ V V;have W:b 10=aL:=AW hc (i:=9) (j:=10) (k:=0) V V V V d;have ak:upd b 9 10=aL:=W;try dsimp only
   refine Ab7 5 V (congrArg jK (CO d _ _)) ((Aq (Aq Hg)).trans (BG F _ _)) V λg=>?_
   refine⟨(i.1,i.2.1,i.2.2.1,i.2.2.2.1,g),?_⟩;simp only[W,ak,cond_false];exact iU
  refine AQ (λi b d a hc=>?_) ?_
  ·have L:b 9=aZ:=a 0 _ V V;try dsimp only
   refine AY (AT.assign V ((Aq (Aq Fr)).trans (BG L _ _))) ?_;exact⟨i,iU⟩
  exact Pr
 intro i;refine ap _ ?_;refine AJ ⟨.agg (Ak f)::.lit (.bool leaf)::.ptr 0 0::.any::.lit (.pointer jJ)::.lit (.pointer (jK ⟨i.2.2.2.2,0,jJ⟩))::A6 (.agg (Ak f)::.bs tInt (regsB f)::.lit (.map (jK i.1))::.lit (.map (jK i.2.1))::.lit (.map (jK i.2.2.1))::.lit (.map (jK i.2.2.2.1))::.agg (Ak f)::.bs tInt ch::.agg [.bs tInt (regsB f),.lit (.map (jK i.1)),.lit (.map (jK i.2.1)),.lit (.map (jK i.2.2.1)),.lit (.map (jK i.2.2.2.1)),.bs tInt ch]::.lit (.pointer (jK ⟨i.2.2.2.2,0,jJ⟩))::.any::.any::.any::.any::.any::.any::.any::.any::.any::.any::.any::.any::.any::.any::.any::.any::.any::.any::.any::.any::.any::.any::.any::.any::.any::.any::.any::.any::.any::.any::.any::.any::.any::.any::.any::.any::.any::.any::.any::.any::.any::.any::.any::.any::.any::.any::.any::.any::.any::.any::.any::.any::.any::.any::.any::.any::.any::.any::.any::.any::.any::.any::.any::.any::.any::.any::[]),[.box (Ak f),.res (Di i.1 []),.res (Ba i.2.1 [] []),.res (Ba i.2.2.1 [] []),.res (Ba i.2.2.2.1 [] []),.res (Be i.2.2.2.2 [.bs tInt (regsB f),.lit (.map (jK i.1)),.lit (.map (jK i.2.1)),.lit (.map (jK i.2.2.1)),.lit (.map (jK i.2.2.2.1)),.bs tInt ch])]⟩ iU ?_;obtain⟨D,B,q,s,g⟩:=i;dsimp only;refine AJ ⟨(.any::.lit (.bool leaf)::.ptr 0 0::A2 (.lit (.pointer (jK ⟨g,0,jJ⟩))::A80 (A2 []))),[.box (Ak f),.res (Di D []),.res (Ba B [] []),.res (Ba q [] []),.res (Ba s [] []),.res (Be g [.bs tInt (regsB f),.lit (.map (jK D)),.lit (.map (jK B)),.lit (.map (jK q)),.lit (.map (jK s)),.bs tInt ch])]⟩ (AS) ?_;obtain⟨G,hG⟩:∃G,G= [AV.bs tInt (regsB f),.lit (.map (jK D)),.lit (.map (jK B)),.lit (.map (jK q)),.lit (.map (jK s)),.bs tInt ch]:=⟨_,rfl⟩
 obtain⟨z,hz⟩:∃z,z=(regsB f).zip (DU f leaf (regsB f)):=⟨_,rfl⟩
 have bn:z.length=(regsB f).length:=by rw[hz,List.length_zip];simp[DU]
 refine wR (hx:=by((repeat(first|refine sA ?_ (AM V V bb V V)|refine sA ?_|refine AN ?_|refine sAG ?_|refine Bp ?_));exact C1 V)) ?_;refine Ab λK4 h4=>?_
 refine wR (hx:=by((repeat(first|refine sA ?_ (EP V V)|refine sA ?_ (Do V V)|refine sA ?_ (AX (i:=5) (g:=g) V V V V V)|refine sA ?_|refine AN ?_|refine sAG ?_|refine Bp ?_));exact C1 V)) (hk:=?_);refine Ad ?_;refine AH (λk:Nat=>⟨(.any::.lit (.bool leaf)::.ptr 0 0::A2 (.lit (.pointer (jK ⟨g,0,jJ⟩))::.bs tInt.slice (DU f leaf (regsB f))::A20 (.any::.bs tInt (regsB f)::.lit (.int .i64 ((regsB f).length:Int))::.lit (.int .i64 (k:Int))::A40 (A10 (A7 []))))),[.box (Ak f),.res (Di D (clsE (z.take k))),.res (Ba B [] []),.res (Ba q [] []),.res (Ba s [] []),.res (Be g [.bs tInt (regsB f),.lit (.map (jK D)),.lit (.map (jK B)),.lit (.map (jK q)),.lit (.map (jK s)),.bs tInt ch])]⟩) (λk=>k<=(regsB f).length) (λk=>(regsB f).length - k) 0 (jE _) (AS) ?_;rintro k hk;refine wR ?_;refine Ab λK8 F=>?_
 refine Ah V (λac=>?_) (λac=>?_)
 ·have U:k < (regsB f).length:=by simpa using ac
  obtain⟨r,ah⟩:∃r,(regsB f)[k]? =jK r:=⟨_,dW U⟩
  have ae:=an r (fH ah);obtain⟨c,ax⟩:∃c,(DU f leaf (regsB f))[k]? =jK c:=⟨_,dW (by simpa[DU]using U)⟩
  have al:z[k]? =jK (r,c):=by rw[hz,eG];exact⟨ah,ax⟩
  have ai:(clsE (z.take k)).length < cC:=by have h1:=Ali (z.take k);have h2:(z.take k).length<=z.length:=(by rw[eR];omega);unfold cC;omega
  refine Al ?_;refine F _ ?_;refine nT ?_;refine Ab λbw W=>?_
  refine Ad ?_;refine wR ?_;refine wDE 9 (hq:=by((repeat(first|refine qA ?_ (EP V V)|refine qA ?_ (Do V V)|refine qA ?_ (AX (i:=5) (g:=g) V V V V V)|refine qA ?_|refine G8 ?_|refine qAG (hk:=?_)));exact Ath V)) (hx:=by((repeat(first|refine sA ?_ (EP V V)|refine sA ?_ (Do V V)|refine sA ?_ (AX (i:=5) (g:=g) V V V V V)|(refine AF V (Aid 1 V Tryz.underlying77 V V V ae ai V ?_);refine sNt ?_)|refine sA ?_|refine AN ?_|refine sAG ?_|refine Bp ?_));exact C1 V)) (hk:=?_);refine W _ ?_;refine nT ?_;refine wRE ?_;refine Ap ⟨k+1,U,by omega,?_⟩;rw[Ag9 al];exact AS
 ·obtain rfl:k=(regsB f).length:=by have:¬k < (regsB f).length:=(by simpa using ac);omega
  rw[gK (by omega)];refine Ay ?_;refine h4 _ ?_;refine nT ?_;refine wR ?_;refine AJ ⟨.any::.lit (.bool leaf)::.ptr 0 0::A2 (.lit (.pointer (jK ⟨g,0,jJ⟩))::A3 (.lit (.func (.func 49) #[] #[])::A40 (A20 (A10 (A8 []))))),[.box (Ak f),.res (Di D (clsE z)),.res (Ba B [] []),.res (Ba q [] []),.res (Ba s [] []),.res (Be g [.bs tInt (regsB f),.lit (.map (jK D)),.lit (.map (jK B)),.lit (.map (jK q)),.lit (.map (jK s)),.bs tInt ch])]⟩ AS ?_;refine Ab λbm ag=>?_
  refine Gg (n:=8) (Azi _) (λ(i:{vs:List (Int×(bX×List Int)) // mapK (·.2) vs=Ma (De f)}) (b:Nat->Bool)=>⟨.any::.lit (.bool leaf)::.ptr 0 0::A2 (.lit (.pointer (jK ⟨g,0,jJ⟩))::A3 (.lit (.func (.func 49) #[] #[])::A20 (A10 (A5 ((bif b 0 then .lit (.func (.func 49) #[] #[])else .any)::(bif b 1 then .agg (Ak f)else .any)::(bif b 2 then .bs DJ (De f)else .any)::(bif b 3 then .lit (.pointer (jK ⟨g,0,jJ⟩))else .any)::(bif b 4 then .lit (.pointer (jK ⟨g,0,jJ⟩))else .any)::(bif b 5 then .lit (.pointer (jK ⟨g,2,jJ⟩))else .any)::(bif b 6 then .lit (.map (jK B))else .any)::(bif b 7 then .lit (.tuple #[])else .any)::A20 (A10 (A5 []))))))),[.box (Ak f),.res (Di D (clsE z)),(bif b 7 then(gP (Ba B (mapK (·.1) i.1) i.1))else .res (Ba B [] [])),.res (Ba q [] []),.res (Ba s [] []),.res (Be g [.bs tInt (regsB f),.lit (.map (jK D)),.lit (.map (jK B)),.lit (.map (jK q)),.lit (.map (jK s)),.bs tInt ch])]⟩) ?_ ?_ ?_ ?_ ?_
  ·rfl
  ·kernel_rfl
  ·kernel_rfl
  ·refine AQ (λi b d a hc=>?_) ?_
   ·try dsimp only
    refine AY (AT.move V (Aq FG)) ?_;exact⟨i,iU⟩
   refine AQ (λi b d a hc=>?_) ?_
   ·try dsimp only
    refine AY (AO V Gi V V) ?_;exact⟨i,iU⟩
   refine AQ (λi b d a hc=>?_) ?_
   ·have h1:b 1=aZ:=a 0 _ V V;try dsimp only
    refine AY (AM V (Q4 ((As (Aq Iu)).trans (BG h1 _ _)) V) ba V V) ?_;exact⟨i,iU⟩
   refine AQ (λi b d a hc=>?_) ?_
   ·try dsimp only
    refine AY (AT.move V Fr) ?_;exact⟨i,iU⟩
   refine AQ (λi b d a hc=>?_) ?_
   ·have h3:b 3=aZ:=a 0 _ V V;try dsimp only
    refine AY (EP V ((As (Aq (Aq Je))).trans (BG h3 _ _))) ?_;exact⟨i,iU⟩
   refine AQ (λi b d a hc=>?_) ?_
   ·have h4:b 4=aZ:=a 0 _ V V;try dsimp only
    refine AY (Do V ((As (Aq (Aq FG))).trans (BG h4 _ _))) ?_;exact⟨i,iU⟩
   refine AQ (λi b d a hc=>?_) ?_
   ·have h5:b 5=aZ:=a 0 _ V V;try dsimp only
    refine AY (AX (i:=5) (g:=g) V ((As (Aq (Aq Gi))).trans (BG h5 _ _)) V V V) ?_;exact⟨i,iU⟩
   refine AQ (λi b d a hc=>?_) ?_
   ·have h0:b 0=aZ:=a 0 _ V V;have h2:b 2=aZ:=a 1 _ V V;have h6:b 6=aZ:=a 2 _ V V;try dsimp only
    refine Mm (i:=2) (congrArg jK (CO d _ _)) V ((As (Aq Fr)).trans (BG h0 _ _)) (U7 (De f) B av au) (λ_=>rfl) (Q4 ((As (Aq GB)).trans (BG h2 _ _)) (Q4 ((As (Aq (Aq FF))).trans (BG h6 _ _)) V)) V λv=>?_
    refine⟨v,?_⟩;exact iU
   exact Pr
  intro I;refine ag _ ?_;refine AJ ⟨.any::.lit (.bool leaf)::.ptr 0 0::A2 (.lit (.pointer (jK ⟨g,0,jJ⟩))::A3 (.lit (.func (.func 49) #[] #[])::A20 (A10 (A5 (.lit (.func (.func 49) #[] #[])::.agg (Ak f)::.bs DJ (De f)::.lit (.pointer (jK ⟨g,0,jJ⟩))::.lit (.pointer (jK ⟨g,0,jJ⟩))::.lit (.pointer (jK ⟨g,2,jJ⟩))::.lit (.map (jK B))::.lit (.tuple #[])::A20 (A10 (A5 []))))))),[.box (Ak f),.res (Di D (clsE z)),.res (Ba B (mapK (·.1) I.1) I.1),.res (Ba q [] []),.res (Ba s [] []),.res (Be g [.bs tInt (regsB f),.lit (.map (jK D)),.lit (.map (jK B)),.lit (.map (jK q)),.lit (.map (jK s)),.bs tInt ch])]⟩ iU ?_;refine AJ ⟨.any::.lit (.bool leaf)::.ptr 0 0::A2 (.lit (.pointer (jK ⟨g,0,jJ⟩))::A3 (.lit (.func (.func 49) #[] #[])::A40 (A20 (A10 (A8 []))))),[.box (Ak f),.res (Di D (clsE z)),.res (Ba B (mapK (·.1) I.1) I.1),.res (Ba q [] []),.res (Ba s [] []),.res (Be g [.bs tInt (regsB f),.lit (.map (jK D)),.lit (.map (jK B)),.lit (.map (jK q)),.lit (.map (jK s)),.bs tInt ch])]⟩ AS ?_;refine Ab λbl af=>?_
  refine Gg (n:=8) (Azi _) (λ(i:{vs:List (Int×(bX×List Int)) // mapK (·.2) vs=Ma (mvL f)}) (b:Nat->Bool)=>⟨.any::.lit (.bool leaf)::.ptr 0 0::A2 (.lit (.pointer (jK ⟨g,0,jJ⟩))::A3 (.lit (.func (.func 49) #[] #[])::A40 (A3 ((bif b 0 then .lit (.func (.func 49) #[] #[])else .any)::(bif b 1 then .agg (Ak f)else .any)::(bif b 2 then .bs DJ (mvL f)else .any)::(bif b 3 then .lit (.pointer (jK ⟨g,0,jJ⟩))else .any)::(bif b 4 then .lit (.pointer (jK ⟨g,0,jJ⟩))else .any)::(bif b 5 then .lit (.pointer (jK ⟨g,4,jJ⟩))else .any)::(bif b 6 then .lit (.map (jK s))else .any)::(bif b 7 then .lit (.tuple #[])else .any)::A20 (A7 []))))),[.box (Ak f),.res (Di D (clsE z)),.res (Ba B (mapK (·.1) I.1) I.1),.res (Ba q [] []),(bif b 7 then(gP (Ba s (mapK (·.1) i.1) i.1))else .res (Ba s [] [])),.res (Be g [.bs tInt (regsB f),.lit (.map (jK D)),.lit (.map (jK B)),.lit (.map (jK q)),.lit (.map (jK s)),.bs tInt ch])]⟩) ?_ ?_ ?_ ?_ ?_
  ·rfl
  ·kernel_rfl
  ·kernel_rfl
  ·refine AQ (λi b d a hc=>?_) ?_
   ·try dsimp only
    refine AY (AT.move V (Aq FG)) ?_;exact⟨i,iU⟩
   refine AQ (λi b d a hc=>?_) ?_
   ·try dsimp only
    refine AY (AO V Gi V V) ?_;exact⟨i,iU⟩
   refine AQ (λi b d a hc=>?_) ?_
   ·have h1:b 1=aZ:=a 0 _ V V;try dsimp only
    refine AY (AM V (Q4 ((As (Aq (Aq Iu))).trans (BG h1 _ _)) V) ay V V) ?_;exact⟨i,iU⟩
   refine AQ (λi b d a hc=>?_) ?_
   ·try dsimp only
    refine AY (AT.move V Fr) ?_;exact⟨i,iU⟩
   refine AQ (λi b d a hc=>?_) ?_
   ·have h3:b 3=aZ:=a 0 _ V V;try dsimp only
    refine AY (EP V ((As (Aq (Aq (Aq Je)))).trans (BG h3 _ _))) ?_;exact⟨i,iU⟩
   refine AQ (λi b d a hc=>?_) ?_
   ·have h4:b 4=aZ:=a 0 _ V V;try dsimp only
    refine AY (Do V ((As (Aq (Aq (Aq FG)))).trans (BG h4 _ _))) ?_;exact⟨i,iU⟩
   refine AQ (λi b d a hc=>?_) ?_
   ·have h5:b 5=aZ:=a 0 _ V V;try dsimp only
    refine AY (AX (i:=5) (g:=g) V ((As (Aq (Aq (Aq Gi)))).trans (BG h5 _ _)) V V V) ?_;exact⟨i,iU⟩
   refine AQ (λi b d a hc=>?_) ?_
   ·have h0:b 0=aZ:=a 0 _ V V;have h2:b 2=aZ:=a 1 _ V V;have h6:b 6=aZ:=a 2 _ V V;try dsimp only
    refine Mm (i:=4) (congrArg jK (CO d _ _)) V ((As (Aq (Aq Fr))).trans (BG h0 _ _)) (U7 (mvL f) s aq ar) (λ_=>rfl) (Q4 ((As (Aq (Aq GB))).trans (BG h2 _ _)) (Q4 ((As (Aq (Aq (Aq FF)))).trans (BG h6 _ _)) V)) V λv=>?_
    refine⟨v,?_⟩;exact iU
   exact Pr
  intro O;refine af _ ?_;refine AJ ⟨.any::.lit (.bool leaf)::.ptr 0 0::A2 (.lit (.pointer (jK ⟨g,0,jJ⟩))::A3 (.lit (.func (.func 49) #[] #[])::A40 (A3 (.lit (.func (.func 49) #[] #[])::.agg (Ak f)::.bs DJ (mvL f)::.lit (.pointer (jK ⟨g,0,jJ⟩))::.lit (.pointer (jK ⟨g,0,jJ⟩))::.lit (.pointer (jK ⟨g,4,jJ⟩))::.lit (.map (jK s))::.lit (.tuple #[])::A20 (A7 []))))),[.box (Ak f),.res (Di D (clsE z)),.res (Ba B (mapK (·.1) I.1) I.1),.res (Ba q [] []),.res (Ba s (mapK (·.1) O.1) O.1),.res (Be g [.bs tInt (regsB f),.lit (.map (jK D)),.lit (.map (jK B)),.lit (.map (jK q)),.lit (.map (jK s)),.bs tInt ch])]⟩ iU ?_;refine Ab λbv N=>?_
  refine wR (hx:=by((repeat(first|refine sA ?_ (AM V V az V V)|refine sA ?_|refine AN ?_|refine sAG ?_|refine Bp ?_));exact C1 V)) ?_;refine Ad ?_;refine AH (λp:Nat×List (Int×(bX×List Int))=>⟨(A5 (.lit (.pointer (jK ⟨g,0,jJ⟩))::A40 (A10 (A7 (.bs Gk (B8 f leaf)::.lit (.int .i64 ((B8 f leaf).length:Int))::.lit (.int .i64 (p.1:Int))::A20 (A2 [])))))),[.box (Ak f),.res (Di D (clsE z)),.res (Ba B (mapK (·.1) I.1) I.1),.res (Ba q (mapK (·.1) p.2) p.2),.res (Ba s (mapK (·.1) O.1) O.1),.res (Be g [.bs tInt (regsB f),.lit (.map (jK D)),.lit (.map (jK B)),.lit (.map (jK q)),.lit (.map (jK s)),.bs tInt ch])]⟩) (λp=>p.1<=(B8 f leaf).length/\okK p.2/\mapK (·.2) p.2=NP ((B8 f leaf).take p.1)) (λp=>(B8 f leaf).length - p.1) (0,[]) ⟨jE _,okK.nil,rfl⟩ (AS) ?_;rintro⟨k,vs⟩ ⟨hk,ab,hE⟩;have hE:mapK (·.2) vs=NP ((B8 f leaf).take k):=hE;have ab:okK vs:=ab;have hk:k<=(B8 f leaf).length:=hk;refine wR ?_;refine Ab λbu bf=>?_
  refine Ah V (λY=>?_) (λY=>?_)
  ·have U:k < (B8 f leaf).length:=by simpa using Y
   obtain⟨x,hx⟩:∃x,(B8 f leaf)[k]? =jK x:=⟨_,dW U⟩
   obtain⟨Z,am⟩:=hh x (fH hx);have bo:((B8 f leaf).take k).length<=(B8 f leaf).length:=by rw[eR];omega
   have ao:Fj (((getK (mapK (·.2) vs) x.r).getD []).length+ [x.at_].length) 8=aZ:=by
    have h1:=Ur ((B8 f leaf).take k) x.r;rw[hE];unfold Fj;simp only[zaf,zah];unfold cC;omega
   have aw:(mapK (·.1) vs).length < cC:=by
    have h1:=Af8 ((B8 f leaf).take k);rw[<-hE,LO]at h1;rw[LO];unfold cC;omega
   refine Al ?_;refine bf _ ?_;refine nT ?_;refine Ab λbt be=>?_
   refine Ad ?_;refine wR ?_;refine AJ ⟨A5 (.lit (.pointer (jK ⟨g,0,jJ⟩))::A5 (.ptr 6 0::A40 (A10 (.any::.bs Gk (B8 f leaf)::.lit (.int .i64 ((B8 f leaf).length:Int))::.lit (.int .i64 (k:Int))::A20 (A2 []))))),[.box (Ak f),.res (Di D (clsE z)),.res (Ba B (mapK (·.1) I.1) I.1),.res (Ba q (mapK (·.1) vs) vs),.res (Ba s (mapK (·.1) O.1) O.1),.res (Be g [.bs tInt (regsB f),.lit (.map (jK D)),.lit (.map (jK B)),.lit (.map (jK q)),.lit (.map (jK s)),.bs tInt ch]),.box (GP x)]⟩ AS ?_;refine Gg (n:=18) undef (λ(i:bX) (b:Nat->Bool)=>⟨A5 (.lit (.pointer (jK ⟨g,0,jJ⟩))::A5 (.ptr 6 0::A40 (A10 (.any::.bs Gk (B8 f leaf)::.lit (.int .i64 ((B8 f leaf).length:Int))::.lit (.int .i64 (k:Int))::A3 ((bif b 0 then .lit (.pointer (jK ⟨g,0,jJ⟩))else .any)::(bif b 1 then .lit (.pointer (jK ⟨g,0,jJ⟩))else .any)::(bif b 2 then .lit (.pointer (jK ⟨g,3,jJ⟩))else .any)::(bif b 3 then .lit (.map (jK q))else .any)::(bif b 4 then .ptr 6 0 else .any)::(bif b 5 then .lit (.int .i64 x.r)else .any)::(bif b 6 then .lit (.pointer (jK ⟨g,0,jJ⟩))else .any)::(bif b 7 then .lit (.pointer (jK ⟨g,0,jJ⟩))else .any)::(bif b 8 then .lit (.pointer (jK ⟨g,3,jJ⟩))else .any)::(bif b 9 then .lit (.map (jK q))else .any)::(bif b 10 then .ptr 6 0 else .any)::(bif b 11 then .lit (.int .i64 x.r)else .any)::(bif b 12 then .lit ((getK (mapK (·.1) vs) x.r).getD (.slice jJ 0 0))else .any)::(bif b 13 then .ptr 6 1 else .any)::(bif b 14 then .lit (.int .i64 x.at_)else .any)::(bif b 15 then .bs tInt [x.at_]else .any)::(bif b 16 then .lit i else .any)::A2 []))))),[.box (Ak f),.res (Di D (clsE z)),.res (Ba B (mapK (·.1) I.1) I.1),(bif b 17 then(gP (Ba q (B6 (mapK (·.1) vs) x.r i) (B6 vs x.r (i,((getK (mapK (·.2) vs) x.r).getD [])++[x.at_]))))else(bif b 16 then(gP (Ba q (mapK (·.1) vs) (B6 vs x.r (i,((getK (mapK (·.2) vs) x.r).getD [])++[x.at_]))))else .res (Ba q (mapK (·.1) vs) vs))),.res (Ba s (mapK (·.1) O.1) O.1),.res (Be g [.bs tInt (regsB f),.lit (.map (jK D)),.lit (.map (jK B)),.lit (.map (jK q)),.lit (.map (jK s)),.bs tInt ch]),.box (GP x)]⟩) ?_ ?_ ?_ ?_ ?_
   ·rfl
   ·kernel_rfl
   ·kernel_rfl
   ·refine AQ (λi b d a hc=>?_) ?_
    ·try dsimp only
     refine AY (AT.move V Fr) ?_;exact⟨i,iU⟩
    refine AQ (λi b d a hc=>?_) ?_
    ·have h0:b 0=aZ:=a 0 _ V V;try dsimp only
     refine AY (EP V ((As (As Fr)).trans (BG h0 _ _))) ?_;exact⟨i,iU⟩
    refine AQ (λi b d a hc=>?_) ?_
    ·have h1:b 1=aZ:=a 0 _ V V;try dsimp only
     refine AY (Do V ((As (As Iu)).trans (BG h1 _ _))) ?_;exact⟨i,iU⟩
    refine AQ (λi b d a hc=>?_) ?_
    ·have h2:b 2=aZ:=a 0 _ V V;try dsimp only
     refine AY (AX (i:=5) (g:=g) V ((As (As GB)).trans (BG h2 _ _)) V V V) ?_;exact⟨i,iU⟩
    refine AQ (λi b d a hc=>?_) ?_
    ·try dsimp only
     refine AY (Br V (Aq FF) V) ?_;exact⟨i,iU⟩
    refine AQ (λi b d a hc=>?_) ?_
    ·have h4:b 4=aZ:=a 0 _ V V;try dsimp only
     refine AY (Bf V ((As (As (Aq FG))).trans (BG h4 _ _)) V V) ?_;exact⟨i,iU⟩
    refine AQ (λi b d a hc=>?_) ?_
    ·try dsimp only
     refine AY (AT.move V Fr) ?_;exact⟨i,iU⟩
    refine AQ (λi b d a hc=>?_) ?_
    ·have h6:b 6=aZ:=a 0 _ V V;try dsimp only
     refine AY (EP V ((As (As (Aq FF))).trans (BG h6 _ _))) ?_;exact⟨i,iU⟩
    refine AQ (λi b d a hc=>?_) ?_
    ·have h7:b 7=aZ:=a 0 _ V V;try dsimp only
     refine AY (Do V ((As (As (Aq Hg))).trans (BG h7 _ _))) ?_;exact⟨i,iU⟩
    refine AQ (λi b d a hc=>?_) ?_
    ·have F:b 8=aZ:=a 0 _ V V;try dsimp only
     refine AY (AX (i:=5) (g:=g) V ((As (As (Aq Fr))).trans (BG F _ _)) V V V) ?_;exact⟨i,iU⟩
    refine AQ (λi b d a hc=>?_) ?_
    ·try dsimp only
     refine AY (Br V (Aq FF) V) ?_;exact⟨i,iU⟩
    refine AQ (λi b d a hc=>?_) ?_
    ·have W:b 10=aZ:=a 0 _ V V;try dsimp only
     refine AY (Bf V ((As (As (Aq GB))).trans (BG W _ _)) V V) ?_;exact⟨i,iU⟩
    refine AQ (λi b d a hc=>?_) ?_
    ·have L:b 9=aZ:=a 0 _ V V;have bk:b 11=aZ:=a 1 _ V V;have aa:b 16=aL:=AW hc (i:=12) (j:=16) (k:=0) V V V V d;have N:b 17=aL:=AW hc (i:=12) (j:=17) (k:=16) V V V V d;try dsimp only
     refine AY (KW (u:=((getK (mapK (·.1) vs) x.r).getD (.slice jJ 0 0))) 3 V bU ((As (As (Aq Iu))).trans (BG L _ _)) ((As (As (Aq (Aq Je)))).trans (BG bk _ _)) Z (mr2 aa N) V) ?_;exact⟨i,iU⟩
    refine AQ (λi b d a hc=>?_) ?_
    ·try dsimp only
     refine AY (Br V (Aq FF) V) ?_;exact⟨i,iU⟩
    refine AQ (λi b d a hc=>?_) ?_
    ·have bi:b 13=aZ:=a 0 _ V V;try dsimp only
     refine AY (Bf V ((As (As (Aq (Aq Gi)))).trans (BG bi _ _)) V V) ?_;exact⟨i,iU⟩
    refine AQ (λi b d a hc=>?_) ?_
    ·have bh:b 14=aZ:=a 0 _ V V;try dsimp only
     refine AY (Ce (T:=tInt) V V V (by rfl) (by decide) (Fit.of_eq ((As (As (Aq (Aq FF)))).trans (BG bh _ _)) (Fit.int am))) ?_;exact⟨i,iU⟩
    refine AQ (λi b d a hc=>?_) ?_
    ·have bj:b 12=aZ:=a 0 _ V V;have bg:b 15=aZ:=a 1 _ V V;have N:b 17=aL:=AW hc (i:=16) (j:=17) (k:=2) V V V V d;have aj:upd b 16 17=aL:=N;try dsimp only
     refine Qd (k:=x.r) 3 V V ((As (As (Aq (Aq FG)))).trans (BG bj _ _)) (congrArg jK ((CO N _ _).trans (CO d _ _))) ((As (As (Aq (Aq Hg)))).trans (BG bg _ _)) Z (Afb vs x.r) ao λv=>?_
     refine⟨v,?_⟩;simp only[N,aj,cond_false];exact iU
    refine AQ (λi b d a hc=>?_) ?_
    ·have h3:b 3=aZ:=a 0 _ V V;have h5:b 5=aZ:=a 1 _ V V;have aa:b 16=aZ:=a 2 _ V V;try dsimp only
     refine VG 3 V bU ((As (As (Aq Je))).trans (BG h3 _ _)) ((As (As (Aq Gi))).trans (BG h5 _ _)) ((As (As (Aq (Aq Fr)))).trans (BG aa _ _)) Z aw (congrArg jK ((CO d _ _).trans (Sn aa _ _))) ?_;refine⟨i,?_⟩;exact iU
    exact Pr
   intro i;refine qVia ⟨A5 (.lit (.pointer (jK ⟨g,0,jJ⟩))::A5 (.ptr 6 0::A40 (A10 (.any::.bs Gk (B8 f leaf)::.lit (.int .i64 ((B8 f leaf).length:Int))::.lit (.int .i64 (k:Int))::A3 (.lit (.pointer (jK ⟨g,0,jJ⟩))::.lit (.pointer (jK ⟨g,0,jJ⟩))::.lit (.pointer (jK ⟨g,3,jJ⟩))::.lit (.map (jK q))::.ptr 6 0::.lit (.int .i64 x.r)::.lit (.pointer (jK ⟨g,0,jJ⟩))::.lit (.pointer (jK ⟨g,0,jJ⟩))::.lit (.pointer (jK ⟨g,3,jJ⟩))::.lit (.map (jK q))::.ptr 6 0::.lit (.int .i64 x.r)::.lit ((getK (mapK (·.1) vs) x.r).getD (.slice jJ 0 0))::.ptr 6 1::.lit (.int .i64 x.at_)::.bs tInt [x.at_]::.lit i::A2 []))))),[.box (Ak f),.res (Di D (clsE z)),.res (Ba B (mapK (·.1) I.1) I.1),.res (Ba q (B6 (mapK (·.1) vs) x.r i) (B6 vs x.r (i,((getK (mapK (·.2) vs) x.r).getD [])++[x.at_]))),.res (Ba s (mapK (·.1) O.1) O.1),.res (Be g [.bs tInt (regsB f),.lit (.map (jK D)),.lit (.map (jK B)),.lit (.map (jK q)),.lit (.map (jK s)),.bs tInt ch]),.box (GP x)]⟩ V ?_;refine be _ ?_;refine nT ?_;refine AJ ⟨(A5 (.lit (.pointer (jK ⟨g,0,jJ⟩))::A40 (A10 (A7 (.bs Gk (B8 f leaf)::.lit (.int .i64 ((B8 f leaf).length:Int))::.lit (.int .i64 (k:Int))::A20 (A2 [])))))),[.box (Ak f),.res (Di D (clsE z)),.res (Ba B (mapK (·.1) I.1) I.1),.res (Ba q (mapK (·.1) (B6 vs x.r (i,((getK (mapK (·.2) vs) x.r).getD [])++[x.at_]))) (B6 vs x.r (i,((getK (mapK (·.2) vs) x.r).getD [])++[x.at_]))),.res (Ba s (mapK (·.1) O.1) O.1),.res (Be g [.bs tInt (regsB f),.lit (.map (jK D)),.lit (.map (jK B)),.lit (.map (jK q)),.lit (.map (jK s)),.bs tInt ch])]⟩ (by rw[Gx];exact Kh (.cons (.cons (.cons (.cons (.cons (.cons (gX _)))))))) ?_;refine wRE ?_;refine Ap ⟨(k+1,B6 vs x.r (i,((getK (mapK (·.2) vs) x.r).getD [])++[x.at_])),⟨U,ab.put Z _,?_⟩,by show(B8 f leaf).length - (k+1) < (B8 f leaf).length - k;omega,AS⟩;dsimp only;rw[Gx,Z5 hx,hE];rfl
  ·obtain rfl:k=(B8 f leaf).length:=by have:¬k < (B8 f leaf).length:=(by simpa using Y);omega
   rw[gJ]at hE;refine Ay ?_;refine N _ ?_;refine nT ?_;refine wR ?_;have e:Cr f leaf ch=⟨regsB f,clsE z,mapK (·.2) I.1,mapK (·.2) vs,mapK (·.2) O.1,ch⟩:=by unfold Cr;rw[I.2,O.2,hE,hz]
   rw[e];exact Aw ⟨.inr V,Abw (i:=5) (j1:=1) (j2:=2) (j3:=3) (j4:=4) V V V V V V⟩
end Mu
namespace Mu
open Go Go.RowKit Go.Proofs
variable{f:g9}{l:List Int}{p:iT}{r:Bool}
def NJ(p:iT)(z:Int):Bool:=a8 (z≥32)&&a8 (bE.wrap (z - 32) < p.slots)
def SX(p:iT)(k:Nat):Int->Bool:=λz=>((p.at_.take k).filter (NJ p)).contains z
def cardC(p:iT):Nat:=((CQ p.at_).filter (SX p p.at_.length)).length
def atC(f:g9)(p:iT)(k:Nat)(x:Int):Bool:=if(regsB f).contains (k:Int)then NJ p x||((DU f p.leaf (regsB f)).getD ((regsB f).countP (· < (k:Int))) []).contains x else x == -1
def ZM(f:g9)(p:iT):Bool:=((((!IB f)||((p.at_.length:Int) !=f.regs))||decide (p.slots < 0))||(p.leaf&&((!leaf f.blocks)||decide (p.slots > 0))))
def OF(p:iT)(x:iS):Bool:=ixD p.at_ x.a ==ixD p.at_ x.b
def Fp(f:g9)(p:iT):Bool:=!ZM f p&&((fY p.at_.length).all λj=>atC f p j (p.at_.getD j 0))&&(((cardC p:Int) ==p.slots)&&!((De f).any (OF p)))
theorem V5(h0:ZM f p=aL)(h:∀j x,p.at_[j]? =jK x->atC f p j x=aZ):Fp f p=(((cardC p:Int) ==p.slots)&&!((De f).any (OF p))):=by
 have:((fY p.at_.length).all λj=>atC f p j (p.at_.getD j 0))=aZ:=by
  rw[cL];intro j c;have a:=fK.1 c;exact h j _ (by rw[dT,dW a];rfl)
 unfold Fp;rw[this,h0];simp
theorem Aho(h:Asc l){x:Int}(hx:x∈l):l[l.countP (· < x)]? =jK x:=by
 induction l with
 |nil=>cases hx
 |cons y l a=>
  unfold Asc at h;rw[fU]at h;rcases eZ.1 hx with rfl|hx
  ·have:(x::l).countP (· < x)=0:=by
    rw[cY];intro z hz;rcases eZ.1 hz with rfl|hz
    ·simp
    ·have:=h.1 z hz;simp;omega
   rw[this];rfl
  ·have c:=h.1 x hx;rw[cW (by simpa using c)];simpa using a h.2 hx
noncomputable section
def I0(l:List Int)(n:Int):Int->M (Int⊕((Unit)⊕(Bool))):=λa=>iC (a8 (a < (l.length:Int))) (iB (Ch l a) (iC ((ixD l a) ==n) (iK (.inr (.inr aZ))) (iK (.inl (bE.wrap (a+1)))))) (iK (.inr (.inl ())))
def OQ(l:List Int)(n:Int):M Bool:=iD (iG (I0 l n) 0) λ_=>iK aL
theorem N3{n:Int}(H:(OQ l n).to r):Fn bT 35 [.bs tInt l,.lit (.int .i64 n)] (.lit (.bool r)):=by
 delta OQ at H;try dsimp only at H
 refine AR Tryz.func35 V (by kernel_rfl) V Tryz.ntmps35 λC W=>?_
 simp only[Nat.reduceAdd,Nat.reduceSub,zaa];refine wS (sT (wN ?_));obtain⟨L,D,B,v⟩:=Cz H;refine Bh (β:=(Unit)×(Unit)) (λF=>L= .inl F.1) (λF=>⟨A10 (A8 []),[]⟩) ?_ ?_
 ·refine wS (sT (wN ?_));refine Ad ?_;refine Bu D (λN Y=>⟨.bs tInt l::.lit (.int .i64 n)::A3 (.lit (.int .i64 N)::A10 (A2 [])),[]⟩) () (?_) ?_
  ·try dsimp only
   exact AS
  ·rintro U _ T H j;try dsimp only
   dsimp only[I0]at H;refine Ab λJ s=>?_
   refine wS (sT (sT (sT (sT (wN ?_)))));refine Ah V (λc=>?_) (λc=>?_)
   ·have H:=AC c H;refine Al ?_;refine s _ ?_;refine nT ?_;refine Ab λI q=>?_
    refine Ad ?_;obtain⟨O,H⟩:=Aj.1 H;refine wS (sT (sT (sX O (sT (sT (sT (wN ?_)))))));refine Ah V (λa=>?_) (λa=>?_)
    ·have H:=AC a H;refine wS (sT (wN ?_));have H:=Ac.2 (v _ (j _ (Ac.1 H).symm).symm);obtain rfl:=Ac.1 H;exact Aw ⟨.inr V,gZ V⟩
    ·have H:=AE a H;refine Al ?_;refine q _ ?_;refine nT ?_;refine wSE (sT (sT (sT (wN ?_))));have u:=Ac.1 H;repeat(first|refine abN ?_|refine asN ?_)
     refine Ap ⟨_,(),u.symm,?_⟩;try dsimp only
     exact AS
   ·have H:=AE c H;refine Ay ?_;repeat(first|refine BC ?_|refine exO (by decide) ?_|refine asE ?_)
    refine exN ?_;have u:=j _ (Ac.1 H).symm;repeat(first|refine abN ?_|refine asN ?_)
    refine Ap ⟨(_,()),u.symm,?_⟩;try dsimp only
    exact AS
 ·rintro⟨_,_⟩ d;try dsimp only at d
  have H:=B _ d;try dsimp only
  refine wS (sT (wN ?_));obtain rfl:=Ac.1 H;exact Aw ⟨.inr V,gZ V⟩
def FW(f:g9)(r3:List Int):Int->M (Int⊕((Unit)⊕(Bool))):=λa=>iC (a8 (a < (r3.length:Int))) (iB (Ch r3 a) (iB (!(!(a8 ((ixD r3 a) < 0)))||(Ch r3 a)) (iC ((a8 ((ixD r3 a) < 0))||(a8 ((ixD r3 a)≥f.regs))) (iK (.inr (.inr aL))) (iK (.inl (bE.wrap (a+1))))))) (iK (.inr (.inl ())))
def KD(f:g9):M Bool:=iC (((((a8 (f.regs < 0))||(a8 (f.regs > 4096)))||(a8 (f.args < 0)))||(a8 (f.args > 6)))||(a8 (f.args > f.regs))) (iK aL) (iA (Lt f) λr3=>iD (iG (FW f r3) 0) λ_=>iK aZ)
theorem OR(H:(KD f).to r):Fn bT 12 [.agg (Ak f)] (.lit (.bool r)):=by
 delta KD at H;try dsimp only at H
 refine AR Tryz.func12 V (by kernel_rfl) V Tryz.ntmps12 λC hC=>?_
 simp only[Nat.reduceAdd,Nat.reduceSub,zaa];refine wS (sB (sT (wN ?_)));refine Ab λT v=>?_
 refine wS (sT (sT (sT (sT ?_))));refine sGf V ?_;refine sGf V ?_;refine sGf V (sT (sT ?_));refine sGf V ?_;refine sGf V ?_;refine sGf V (sT (sT ?_));refine sGf V ?_;refine sGf V ?_;refine sGf V (sT (sT ?_));refine sGf V ?_;refine sGf V ?_;refine sGf V ?_;refine sGf V ?_;refine sGf V (sT (wN ?_));refine Ah V (λd=>?_) (λd=>?_)
 ·have H:=AC d H;refine wS (sT (wN ?_));obtain rfl:=Ac.1 H;exact Aw ⟨.inr V,gZ V⟩
 ·have H:=AE d H;refine Al ?_;refine v _ ?_;refine nT ?_;obtain⟨r3,q,H⟩:=An.1 H;have q:=My q;refine wS (sT (sC q (sT (wN ?_))));obtain⟨U,J,I,F⟩:=Cz H;refine Bh (β:=(Unit)×(Unit)) (λL=>U= .inl L.1) (λL=>⟨A40 (A10 (A2 [])),[.dead]⟩) ?_ ?_
  ·refine wS (sT (wN ?_));refine Ad ?_;refine Bu J (λW b5=>⟨.any::.ptr 0 0::.any::.bs tInt r3::.lit (.int .i64 W)::A40 (A7 []),[.box (Ak f)]⟩) () (?_) ?_
   ·try dsimp only
    exact AS
   ·rintro Y _ x5 H n;try dsimp only
    dsimp only[FW]at H;refine Ab λO u=>?_
    refine wS (sT (sT (sT (sT (wN ?_)))));refine Ah V (λc=>?_) (λc=>?_)
    ·have H:=AC c H;refine Al ?_;refine u _ ?_;refine nT ?_;refine Ab λN s=>?_
     refine Ad ?_;obtain⟨Z,H⟩:=Aj.1 H;obtain⟨D,H⟩:=Aj.1 H;refine dS 14 (hq:=?_);refine qT (qT (qX Z (qT (qT (qT ?_)))));refine qGf V ?_;refine qGf V ?_;refine qG (g:=(!(a8 ((ixD r3 Y) < 0)))) (hg:=WG V) (hq:=λhg=>Ff V ((As (Aq Hg)).trans (BG hg _ _)) ((As (Aq Fr)).trans (BG hg _ _)) V (Uq D hg)) (ht:=(Ar (Ao HT))) ?_;refine qGf V ?_;refine qGf V ?_;refine qGf V ?_;refine qGf V (qT (qN (wN ?_)));refine Ah V (λa=>?_) (λa=>?_)
     ·have H:=AC a H;refine wS (sT (wN ?_));have H:=Ac.2 (F _ (n _ (Ac.1 H).symm).symm);obtain rfl:=Ac.1 H;exact Aw ⟨.inr V,gZ V⟩
     ·have H:=AE a H;refine Al ?_;refine s _ ?_;refine nT ?_;refine wSE (sT (sT (sT (wN ?_))));have B:=Ac.1 H;repeat(first|refine abN ?_|refine asN ?_)
      refine Ap ⟨_,(),B.symm,?_⟩;try dsimp only
      exact AS
    ·have H:=AE c H;refine Ay ?_;repeat(first|refine BC ?_|refine exO (by decide) ?_|refine asE ?_)
     refine exN ?_;have B:=n _ (Ac.1 H).symm;repeat(first|refine abN ?_|refine asN ?_)
     refine Ap ⟨(_,()),B.symm,?_⟩;try dsimp only
     exact leC (gW (gX _))
  ·rintro⟨_,_⟩ j;try dsimp only at j
   have H:=I _ j;try dsimp only
   refine wS (sT (wN ?_));obtain rfl:=Ac.1 H;exact Aw ⟨.inr V,gZ V⟩
def IZ(f:g9)(p:iT)(a:Int):M Bool:=iB (Ch p.at_ a) (iC (a8 ((ixD p.at_ a)≥32)) (iK ((!p.leaf)&&(a8 ((bE.wrap ((ixD p.at_ a) - 32)) < p.slots)))) (iA (QQ f a p.leaf) λr4=>iA (OQ r4 (ixD p.at_ a)) λc=>iK c))
theorem Wd{c:Int}(H:(IZ f p c).to r):Fn bT 36 [.agg (Ak f),.agg (Cy p),.lit (.int .i64 c)] (.lit (.bool r)):=by
 delta IZ at H;try dsimp only at H
 refine AR Tryz.func36 V (by kernel_rfl) V Tryz.ntmps36 λC v=>?_
 simp only[Nat.reduceAdd,Nat.reduceSub,zaa];refine wS (sB (sB (sT (wN ?_))));obtain⟨s,H⟩:=Aj.1 H;refine wS (sT (sT (sT (sX s (sT (sT (wN ?_)))))));refine Ab λq n=>?_
 refine wS (sT (sT (wN ?_)));refine Ah V (λa=>?_) (λa=>?_)
 ·have H:=AC a H;refine wS (sT (sT (sT (sT ?_))));refine sGt V ?_;refine sGt V ?_;refine sGt V ?_;refine sGt V ?_;refine sGt V (sT (sT (wN ?_)));obtain rfl:=Ac.1 H;exact Aw ⟨.inr V,gZ V⟩
 ·have H:=AE a H;refine Al ?_;refine n _ ?_;refine nT ?_;obtain⟨r4,j,H⟩:=An.1 H;have j:=TE j;obtain⟨u,d,H⟩:=An.1 H;have d:=N3 d;refine wS (sT (sT (sT (sT (sC j (sT (sC d (sT (wN ?_)))))))));obtain rfl:=Ac.1 H;exact Aw ⟨.inr V,gZ V⟩
def En(f:g9)(p:iT)(n:List Int):Int->M (Int⊕((Unit)⊕(Bool))):=λa=>iC (a8 (a < f.regs)) (iA (OQ n a) λc=>iB (!(!c)||(Ch p.at_ a)) (iA (M.whn (!((!c)&&((ixD p.at_ a) !=(-1)))) aL (OQ n a)) λd=>iA (M.whn ((!((!c)&&((ixD p.at_ a) !=(-1))))&&d) aL (IZ f p a)) λj=>iC (((!c)&&((ixD p.at_ a) !=(-1)))||(d&&(!j))) (iK (.inr (.inr aL))) (iK (.inl (bE.wrap (a+1)))))) (iK (.inr (.inl ())))
def Em(p:iT):Int->M (Int⊕((Unit)⊕(Bool))):=λa=>iC (a8 (a < p.slots)) (iA (OQ p.at_ (bE.wrap (32+a))) λc=>iC (!c) (iK (.inr (.inr aL))) (iK (.inl (bE.wrap (a+1))))) (iK (.inr (.inl ())))
def Ek(f:g9)(p:iT)(d:List Int)(n:List (List (List Int)))(c:Int):Int->M (Int⊕((Unit)⊕((Int)⊕((Unit)⊕(Bool))))):=λa=>iC (a8 (a < c)) (iB (Ch d c) (iB (Ch p.at_ (ixD d c)) (iB (Ch d a) (iB (Ch p.at_ (ixD d a)) (iB (!((ixD p.at_ (ixD d c)) ==(ixD p.at_ (ixD d a)))||(Ch d c)) (iB (!((ixD p.at_ (ixD d c)) ==(ixD p.at_ (ixD d a)))||(Ch d a)) (iA (M.whn ((ixD p.at_ (ixD d c)) ==(ixD p.at_ (ixD d a))) aL (JH f n (ixD d c) (ixD d a))) λj=>iC (((ixD p.at_ (ixD d c)) ==(ixD p.at_ (ixD d a)))&&j) (iK (.inr (.inr (.inr (.inr aL))))) (iK (.inl (bE.wrap (a+1))))))))))) (iK (.inr (.inl ())))
def El(f:g9)(p:iT)(c:List Int)(d:List (List (List Int))):Int->M (Int⊕((Unit)⊕(Bool))):=λa=>iC (a8 (a < (c.length:Int))) (iD (iG (Ek f p c d a) 0) λ_=>iK (.inl (bE.wrap (a+1)))) (iK (.inr (.inl ())))
def E5(f:g9)(p:iT):M Bool:=iA (KD f) λr2=>iA (M.whn ((!((((!r2)||((p.at_.length:Int) !=f.regs))||(a8 (p.slots < 0)))||(a8 (p.slots > f.regs))))&&p.leaf) aL (Lu f)) λr3=>iC (((((!r2)||((p.at_.length:Int) !=f.regs))||(a8 (p.slots < 0)))||(a8 (p.slots > f.regs)))||(p.leaf&&((!r3)||(p.slots !=0)))) (iK aL) (iA (Lt f) λa=>iA (Wf f) λc=>iD (iG (En f p a) 0) λ_=>iD (iG (Em p) 0) λ_=>iD (iG (El f p a c) 0) λ_=>iK aZ)
theorem KC(H:(E5 f p).to r):Fn bT 15 [.agg (Ak f),.agg (Cy p)] (.lit (.bool r)):=by
 delta E5 at H;try dsimp only at H
 refine AR Tryz.func15 V (by kernel_rfl) V Tryz.ntmps15 λC hC=>?_
 simp only[Nat.reduceAdd,Nat.reduceSub,zaa];refine wS (sB (sB (sT (wN ?_))));refine Ab λci bn=>?_
 obtain⟨r2,k2,H⟩:=An.1 H;have k2:=OR k2;obtain⟨r3,k3,H⟩:=An.1 H;refine wS (sT (sC k2 (sT (sT ?_))));refine sGf V ?_;refine sGf V ?_;refine sGf V ?_;refine sGf V ?_;refine sGf V ?_;refine sGf V (sT (sT ?_));refine sGf V ?_;refine sGf V ?_;refine sGf V (sT (sT ?_));refine sGf V ?_;refine sGf V ?_;refine sGf V ?_;refine sGf V ?_;refine sGf V (sT (sT ?_));refine sGf V ?_;refine sGf V ?_;refine sGf V ?_;refine sG (g:=((!((((!r2)||((p.at_.length:Int) !=f.regs))||(a8 (p.slots < 0)))||(a8 (p.slots > f.regs))))&&p.leaf)) (hg:=Jf V V) (hq:=λhg=>by(have a:=Ga hg;exact AO V Gi V V)) (ht:=(Ar HT)) (hk:=?_);refine sG (g:=((!((((!r2)||((p.at_.length:Int) !=f.regs))||(a8 (p.slots < 0)))||(a8 (p.slots > f.regs))))&&p.leaf)) (hg:=Jf V V) (hq:=λhg=>by(have a:=Ga hg;(try simp only[BG hg,BG a]);(try simp only[Mn hg,Mn a]);exact AM V V (QR (iL k3 hg)) V V)) (ht:=(Ar G3)) (hk:=?_);refine sG (g:=((!((((!r2)||((p.at_.length:Int) !=f.regs))||(a8 (p.slots < 0)))||(a8 (p.slots > f.regs))))&&p.leaf)) (hg:=Jf V V) (hq:=λhg=>by(have a:=Ga hg;exact Cm V ((As GB).trans (BG hg _ _)))) (ht:=(Ar (Ao Gp))) (hk:=?_);refine sG (g:=((!((((!r2)||((p.at_.length:Int) !=f.regs))||(a8 (p.slots < 0)))||(a8 (p.slots > f.regs))))&&p.leaf)) (hg:=Jf V V) (hq:=λhg=>by(have a:=Ga hg;exact AT.move V ((As (Aq Je)).trans (BG hg _ _)))) (ht:=(Ar (Ao Iz))) (hk:=?_);refine sG (g:=(((!((((!r2)||((p.at_.length:Int) !=f.regs))||(a8 (p.slots < 0)))||(a8 (p.slots > f.regs))))&&p.leaf)&&(!(!r3)))) (hg:=Ap9 V V) (hq:=λhg=>by(have a:=Ga hg;have N:=Ga a;exact Br V FF V)) (ht:=(Ar (Ao Kf))) (hk:=?_);refine sG (g:=(((!((((!r2)||((p.at_.length:Int) !=f.regs))||(a8 (p.slots < 0)))||(a8 (p.slots > f.regs))))&&p.leaf)&&(!(!r3)))) (hg:=Ap9 V V) (hq:=λhg=>by(have a:=Ga hg;have N:=Ga a;exact Bf V ((As (Aq Gi)).trans (BG hg _ _)) V V)) (ht:=(Ar (Ao IR))) (hk:=?_);refine sG (g:=(((!((((!r2)||((p.at_.length:Int) !=f.regs))||(a8 (p.slots < 0)))||(a8 (p.slots > f.regs))))&&p.leaf)&&(!(!r3)))) (hg:=Ap9 V V) (hq:=λhg=>by(have a:=Ga hg;have N:=Ga a;exact CD V ((As (Aq FF)).trans (BG hg _ _)) Ys V)) (ht:=(Ar (Ao JB))) (hk:=?_);refine sG (g:=((!((((!r2)||((p.at_.length:Int) !=f.regs))||(a8 (p.slots < 0)))||(a8 (p.slots > f.regs))))&&p.leaf)) (hg:=Jf V V) (hq:=λhg=>by(have a:=Ga hg;exact Ij V ((As (Aq FG)).trans (BG hg _ _)) Ys ((As (Aq Hg)).trans (Mn hg _ _)))) (ht:=(Ar (Ao Gl))) (hk:=?_);refine sG (g:=(!((((!r2)||((p.at_.length:Int) !=f.regs))||(a8 (p.slots < 0)))||(a8 (p.slots > f.regs))))) (hg:=WG V) (hq:=λhg=>C8 V ((As Fr).trans (BG hg _ _)) ((As (Aq Fr)).trans (Mn hg _ _)) Ys) (ht:=(Ar (Ao HT))) (hk:=?_);refine sT (wN ?_);refine Ah V (λab=>?_) (λab=>?_)
 ·have H:=AC ab H;refine wS (sT (wN ?_));obtain rfl:=Ac.1 H;exact Aw ⟨.inr V,gZ V⟩
 ·have H:=AE ab H;refine Al ?_;refine bn _ ?_;refine nT ?_;obtain⟨d,k5,H⟩:=An.1 H;have k5:=My k5;obtain⟨Y,k6,H⟩:=An.1 H;have k6:=TG k6;refine dS 6 (hq:=?_);refine qT (qC k5 (qT (qC k6 (qT (qT (qN (wN ?_)))))));obtain⟨z8,cg,cf,ce⟩:=Cz H;refine Bh (β:=(Unit)×(Unit)) (λq8=>z8= .inl q8.1) (λq8=>⟨A2 (.ptr 0 0::.ptr 1 0::.any::.bs tInt d::.bs tInt.slice.slice Y::A80 (A40 (A8 []))),[.box (Ak f),.box (Cy p)]⟩) ?_ ?_
  ·refine wS (sT (wN ?_));refine Ad ?_;refine Bu cg (λs8 b8=>⟨A2 (.ptr 0 0::.ptr 1 0::.any::.bs tInt d::.bs tInt.slice.slice Y::.lit (.int .i64 s8)::A80 (A40 (A7 []))),[.box (Ak f),.box (Cy p)]⟩) () (?_) ?_
   ·try dsimp only
    exact AS
   ·rintro W _ x8 H aq;try dsimp only
    dsimp only[En]at H;refine Ab λch bm=>?_
    refine wS (sT (sT (sT (sT (wN ?_)))));refine Ah V (λD=>?_) (λD=>?_)
    ·have H:=AC D H;refine Al ?_;refine bm _ ?_;refine nT ?_;refine Ab λcd ap=>?_
     refine Ad ?_;obtain⟨c,aa,H⟩:=An.1 H;have aa:=N3 aa;obtain⟨bw,H⟩:=Aj.1 H;obtain⟨j,bl,H⟩:=An.1 H;obtain⟨cq,bk,H⟩:=An.1 H;refine wS (sT (sT (sC aa (sT (sT ?_)))));refine sGt V ?_;refine sGt V ?_;refine sGt V ?_;refine Aod V bw ?_;refine sGt V ?_;refine sGt V (sT (sT ?_));refine sGf V ?_;refine sGf V ?_;refine sG (g:=(!((!c)&&((ixD p.at_ W) !=(-1))))) (hg:=WG V) (hq:=λhg=>by((try simp only[BG hg]);(try simp only[Mn hg]);exact AM V V (N3 (iL bl hg)) V V)) (ht:=(Ar (Ar (Ao Iz)))) ?_;refine sGf V ?_;refine sG (g:=((!((!c)&&((ixD p.at_ W) !=(-1))))&&j)) (hg:=Jf V V) (hq:=λhg=>by(have a:=Ga hg;exact AO V Gi V V)) (ht:=(Ar (Ar (Ao IR)))) (hk:=?_);refine sG (g:=((!((!c)&&((ixD p.at_ W) !=(-1))))&&j)) (hg:=Jf V V) (hq:=λhg=>by(have a:=Ga hg;exact AO V FF V V)) (ht:=(Ar (Ar (Ao JB)))) (hk:=?_);refine sG (g:=((!((!c)&&((ixD p.at_ W) !=(-1))))&&j)) (hg:=Jf V V) (hq:=λhg=>by(have a:=Ga hg;exact AT.move V GB)) (ht:=(Ar (Ar (Ao Gl)))) (hk:=?_);refine sG (g:=((!((!c)&&((ixD p.at_ W) !=(-1))))&&j)) (hg:=Jf V V) (hq:=λhg=>by(have a:=Ga hg;(try simp only[BG hg,BG a]);(try simp only[Mn hg,Mn a]);exact AM V V (Wd (iL bk hg)) V V)) (ht:=(Ar (Ar (Ao HT)))) (hk:=?_);refine sG (g:=((!((!c)&&((ixD p.at_ W) !=(-1))))&&j)) (hg:=Jf V V) (hq:=λhg=>by(have a:=Ga hg;exact Cm V ((As (As (Aq Iu))).trans (BG hg _ _)))) (ht:=(Ar (Ar (Ao G3)))) (hk:=?_);refine sG (g:=(!((!c)&&((ixD p.at_ W) !=(-1))))) (hg:=WG V) (hq:=λhg=>C8 V ((As (As (Aq Gi))).trans (BG hg _ _)) ((As (As (Aq GB))).trans (Mn hg _ _)) Ys) (ht:=(Ar (Ar (Ao (Ao Gp))))) ?_;refine sT (wN ?_);refine Ah V (λB=>?_) (λB=>?_)
     ·have H:=AC B H;refine wS (sT (wN ?_));have H:=Ac.2 (ce _ (aq _ (Ac.1 H).symm).symm);obtain rfl:=Ac.1 H;exact Aw ⟨.inr V,gZ V⟩
     ·have H:=AE B H;refine Al ?_;refine ap _ ?_;refine nT ?_;refine wSE (sT (sT (sT (wN ?_))));have e8:=Ac.1 H;repeat(first|refine abN ?_|refine asN ?_)
      refine Ap ⟨_,(),e8.symm,?_⟩;try dsimp only
      exact AS
    ·have H:=AE D H;refine Ay ?_;repeat(first|refine BC ?_|refine exO (by decide) ?_|refine asE ?_)
     refine exN ?_;have e8:=aq _ (Ac.1 H).symm;repeat(first|refine abN ?_|refine asN ?_)
     refine Ap ⟨(_,()),e8.symm,?_⟩;try dsimp only
     exact AS
  ·rintro⟨_,_⟩ aj;try dsimp only at aj
   have H:=cf _ aj;try dsimp only
   obtain⟨bf,bb,ay,av⟩:=Cz H;refine Bh (β:=(Unit)×(Unit)) (λah=>bf= .inl ah.1) (λah=>⟨A2 (.ptr 0 0::.ptr 1 0::.any::.bs tInt d::.bs tInt.slice.slice Y::A80 (A40 (A8 []))),[.box (Ak f),.box (Cy p)]⟩) ?_ ?_
   ·refine wS (sT (wN ?_));refine Ad ?_;refine Bu bb (λbi ct=>⟨A2 (.ptr 0 0::.ptr 1 0::.any::.bs tInt d::.bs tInt.slice.slice Y::.any::.lit (.int .i64 bi)::A80 (A40 (A6 []))),[.box (Ak f),.box (Cy p)]⟩) () (?_) ?_
    ·try dsimp only
     exact AS
    ·rintro cn _ cm H U;try dsimp only
     dsimp only[Em]at H;refine Ab λcc ao=>?_
     refine wS (sT (sT (sT (sT (wN ?_)))));refine Ah V (λv=>?_) (λv=>?_)
     ·have H:=AC v H;refine Al ?_;refine ao _ ?_;refine nT ?_;refine Ab λcb an=>?_
      refine Ad ?_;obtain⟨cp,Z,H⟩:=An.1 H;have Z:=N3 Z;refine wS (sT (sT (sT (sT (sC Z (sT (wN ?_)))))));refine Ah V (λu=>?_) (λu=>?_)
      ·have H:=AC u H;refine wS (sT (wN ?_));have H:=Ac.2 (av _ (U _ (Ac.1 H).symm).symm);obtain rfl:=Ac.1 H;exact Aw ⟨.inr V,gZ V⟩
      ·have H:=AE u H;refine Al ?_;refine an _ ?_;refine nT ?_;refine wSE (sT (sT (sT (wN ?_))));have ae:=Ac.1 H;repeat(first|refine abN ?_|refine asN ?_)
       refine Ap ⟨_,(),ae.symm,?_⟩;try dsimp only
       exact AS
     ·have H:=AE v H;refine Ay ?_;repeat(first|refine BC ?_|refine exO (by decide) ?_|refine asE ?_)
      refine exN ?_;have ae:=U _ (Ac.1 H).symm;repeat(first|refine abN ?_|refine asN ?_)
      refine Ap ⟨(_,()),ae.symm,?_⟩;try dsimp only
      exact AS
   ·rintro⟨_,_⟩ L;try dsimp only at L
    have H:=ay _ L;try dsimp only
    obtain⟨be,ba,ax,au⟩:=Cz H;refine Bh (β:=(Unit)×(Unit)) (λag=>be= .inl ag.1) (λag=>⟨A80 (A40 (A10 (A5 []))),[.dead,.dead]⟩) ?_ ?_
    ·refine wS (sT (wN ?_));refine Ad ?_;refine Bu ba (λbh cs=>⟨A2 (.ptr 0 0::.ptr 1 0::.any::.bs tInt d::.bs tInt.slice.slice Y::A2 (.lit (.int .i64 bh)::A80 (A40 (A5 [])))),[.box (Ak f),.box (Cy p)]⟩) () (?_) ?_
     ·try dsimp only
      exact AS
     ·rintro F _ ck H T;try dsimp only
      dsimp only[El]at H;refine Ab λca am=>?_
      refine wS (sT (sT (sT (sT (wN ?_)))));refine Ah V (λs=>?_) (λs=>?_)
      ·have H:=AC s H;refine Al ?_;refine am _ ?_;refine nT ?_;obtain⟨bc,az,aw,ar⟩:=Cz H;refine Bh (β:=(Unit)×(Unit)) (λaf=>bc= .inl af.1) (λaf=>⟨A2 (.ptr 0 0::.ptr 1 0::.any::.bs tInt d::.bs tInt.slice.slice Y::A2 (.lit (.int .i64 F)::A80 (A40 (A5 [])))),[.box (Ak f),.box (Cy p)]⟩) ?_ ?_
       ·refine Ad ?_;refine wS (sT (wN ?_));refine Ad ?_;refine Bu az (λbg cr=>⟨A2 (.ptr 0 0::.ptr 1 0::.any::.bs tInt d::.bs tInt.slice.slice Y::A2 (.lit (.int .i64 F)::.lit (.int .i64 bg)::A80 (A40 (A4 [])))),[.box (Ak f),.box (Cy p)]⟩) () (?_) ?_
        ·try dsimp only
         exact AS
        ·rintro ai _ cj H O;try dsimp only
         dsimp only[Ek]at H;refine Ab λbz al=>?_
         refine wS (sT (sT (sT (wN ?_))));refine Ah V (λq=>?_) (λq=>?_)
         ·have H:=AC q H;refine Al ?_;refine al _ ?_;refine nT ?_;refine Ab λbx ak=>?_
          refine Ad ?_;obtain⟨bv,H⟩:=Aj.1 H;obtain⟨bu,H⟩:=Aj.1 H;obtain⟨bt,H⟩:=Aj.1 H;obtain⟨br,H⟩:=Aj.1 H;obtain⟨bq,H⟩:=Aj.1 H;obtain⟨bo,H⟩:=Aj.1 H;obtain⟨co,bj,H⟩:=An.1 H;refine dS 30 (hq:=?_);refine qT (qT (qT (qT (qX bv (qT (qX bu (qT (qT (qT (qT (qT ?_)))))))))));refine qX bt (qT (qX br (qT (qT (qT ?_)))));refine qG (g:=((ixD p.at_ (ixD d F)) ==(ixD p.at_ (ixD d ai)))) (hg:=Kj V) (hq:=λhg=>AO V Gi V V) (ht:=(Ar (Ar (Ar (Ao (Ao (Ao IR))))))) (hk:=?_);refine qGt V ?_;refine qGt V ?_;refine qGt V ?_;refine Aq6 V bq ?_;refine qGt V ?_;refine qGt V ?_;refine qGt V ?_;refine Aq6 V bo ?_;refine qGt V ?_;refine qG (g:=((ixD p.at_ (ixD d F)) ==(ixD p.at_ (ixD d ai)))) (hg:=Kj V) (hq:=λhg=>by((try simp only[BG hg]);(try simp only[Mn hg]);exact AM V V (QS (iL bj hg)) V V)) (ht:=(Ar (Ar (Ar (Ar Gl))))) ?_;refine qT (qN (wN ?_));refine Ah V (λn=>?_) (λn=>?_)
          ·have H:=AC n H;refine wS (sT (wN ?_));have H:=Ac.2 (ar _ (O _ (Ac.1 H).symm).symm);have H:=Ac.2 (au _ (T _ (Ac.1 H).symm).symm);obtain rfl:=Ac.1 H;exact Aw ⟨.inr V,gZ V⟩
          ·have H:=AE n H;refine Al ?_;refine ak _ ?_;refine nT ?_;refine wSE (sT (sT (sT (wN ?_))));have ac:=Ac.1 H;repeat(first|refine abN ?_|refine asN ?_)
           refine Ap ⟨_,(),ac.symm,?_⟩;try dsimp only
           exact AS
         ·have H:=AE q H;refine Ay ?_;repeat(first|refine BC ?_|refine exO (by decide) ?_|refine asE ?_)
          refine exN ?_;have ac:=O _ (Ac.1 H).symm;repeat(first|refine abN ?_|refine asN ?_)
          refine Ap ⟨(_,()),ac.symm,?_⟩;try dsimp only
          exact AS
       ·rintro⟨_,_⟩ I;try dsimp only at I
        have H:=aw _ I;try dsimp only
        refine wSE (sT (sT (sT (wN ?_))));have ad:=Ac.1 H;repeat(first|refine abN ?_|refine asN ?_)
        refine Ap ⟨_,(),ad.symm,?_⟩;try dsimp only
        exact AS
      ·have H:=AE s H;refine Ay ?_;repeat(first|refine BC ?_|refine exO (by decide) ?_|refine asE ?_)
       refine exN ?_;have ad:=T _ (Ac.1 H).symm;repeat(first|refine abN ?_|refine asN ?_)
       refine Ap ⟨(_,()),ad.symm,?_⟩;try dsimp only
       exact leC (gW (gW (gX _)))
    ·rintro⟨_,_⟩ J;try dsimp only at J
     have H:=ax _ J;try dsimp only
     refine wS (sT (wN ?_));obtain rfl:=Ac.1 H;exact Aw ⟨.inr V,gZ V⟩
end
noncomputable section
end
end Mu
namespace Mu
open Go Go.RowKit
theorem GO{h:List gO}{x:Ins}(hk:E6 x=aZ):Fit h Eh (.agg (BW x)) x:=Ol (enc:=BW) λ_ _ _ _ H=>MB (Dz.1 hk) H
theorem Agn{h:List gO}{x:gU}(hk:LH x=aZ):Fit h Cv (.agg (D1 x)) x:=Ol (enc:=D1) λ_ _ _ _ H=>Aeh (I4.1 hk).name H
section
variable{w:cA}{S:Nat->Prop}{h:List gO}{ψ:Nat->bX}{cs:List bX}
end
open Go.Proofs
variable{a:Int}{c:Bool}{ρ:Type}{d:ρ}{k:Nat}{l:List Int}{n:Nat}{p:iT}{q:Ins×List Int}{r:Int}{v:ρ}{z:Int}{α:Type}
noncomputable section
end
theorem w23(hk:k < n)(j:n<=10000000):bE.wrap ((k:Int)+1)=((k+1:Nat):Int):=by
 rw[bI _ (by omega)];rfl
theorem LX{l:List α}(h:k < l.length):Ch l (k:Int)=aZ:=BP.2 ⟨by omega,by rw[cF];exact h⟩
theorem Q6{step:Int->M (Int⊕(Unit⊕ρ))}{p:Nat->Bool}
 (h:∀k,k < n->(step (k:Int)).to (if p k then .inr (.inr v)else .inl ((k+1:Nat):Int)))(D:(step (n:Int)).to (.inr (.inl ()))):(iG step 0).to (if(fY n).any p then .inr v else .inl ()):=by
 have u:∀(d k:Nat),k+d=n->(iG step (k:Int)).to (if(fZ k d).any p then .inr v else .inl ()):=by
  intro d;induction d with
  |zero=>
   intro k hk;have:k=n:=by omega
   subst this;exact iJ D
  |succ d B=>
   intro k hk;have j:=h k (by omega);rw[gB,cM];by_cases s:p k=aZ
   ·rw[s]at j⊢;exact iJ j
   ·have s:p k=aL:=by simpa using s
    rw[s]at j⊢;rw[aO];exact iH j (B (k+1) (by omega))
 have:=u n 0 (by omega);rwa [<-gC]at this
theorem Aqm{x:M (Unit⊕ρ)}(h:x.to (if c then .inr v else .inl ())):(iD x λ_=>iK d).to (if c then v else d):=by
 cases c
 ·exact iE h (Ag _)
 ·exact iF h
theorem Ayt(c:Bool):(if c then aZ else aL)=c:=by cases c <;> rfl
theorem H9{l:List α}(h:k < l.length):Ch l (k:Int)=aZ:=BP.2 ⟨by omega,by rw[cF];exact h⟩
theorem Aw8(hk:k < n)(j:n<=4611686018427387904):bE.wrap ((k:Int)+1)=((k+1:Nat):Int):=by rw[bI _ ⟨by omega,by omega⟩];omega
theorem Ud{f:g9}:q∈stepsL f↔∃b i,b < f.blocks.length/\(Cj f b)[i]? =jK q.1/\q.2=Da f (BA f) b (i+1):=by
 constructor
 ·intro h;unfold stepsL at h;obtain⟨b,j,hq⟩:=fE.1 h;obtain⟨i,hi⟩:=fF.1 hq;unfold EC at hi;obtain⟨h1,h2⟩:=eG.1 hi;rw[List.getElem?_drop,Nat.add_comm]at h2;unfold B5 at h2;rw[dZ]at h2;obtain⟨k,s,D⟩:=jI.1 h2;have u:=(dY.1 s).1;rw[eN]at u;rw[eB u]at s;cases s;exact⟨b,i,fK.1 j,h1,D.symm⟩
 ·rintro⟨b,i,j,hx,B⟩;have hi:=(dY.1 hx).1;refine fH (Tb j hx (l:=q.2) ?_);unfold B5;rw[dZ,eB (by omega),B];rfl
theorem Pf{x:iS}:x∈WN q↔∃r∈q.2,MU q r=aZ/\x∈Db q.1.d r:=by
 unfold WN;simp only[fE,fD,and_assoc]
theorem Wn(a:Int):Db a a= []:=if_pos V
theorem Wo(a b:Int):Db a b=Db b a:=by
 unfold Db;rw[Int.min_comm,Int.max_comm];by_cases h:a=b
 ·rw[if_pos h,if_pos h.symm]
 ·rw[if_neg h,if_neg (Ne.symm h)]
theorem Ue{x:iS}:x∈edgeF l↔∃a∈l,∃b∈l,x∈Db a b:=by
 have s:∀(i j:Nat) (a b:Int),j < i->l[i]? =jK a->l[j]? =jK b->x∈Db a b->x∈edgeF l:=λi j a b F D u hx=>by
  unfold edgeF;refine fE.2 ⟨i,fK.2 (dY.1 D).1,fE.2 ⟨b,?_,by rw[D];exact hx⟩⟩;exact fH (i:=j) (by rw[List.getElem?_take,if_pos F];exact u)
 constructor
 ·intro h;unfold edgeF at h;obtain⟨i,hi,h⟩:=fE.1 h;obtain⟨b,u,h⟩:=fE.1 h;have hi:=fK.1 hi;rw[dW hi]at h;exact⟨_,eH hi,b,fI u,h⟩
 ·rintro⟨a,D,b,u,hx⟩;obtain⟨i,hi⟩:=fF.1 D;obtain⟨j,B⟩:=fF.1 u;rcases i7 i j with h|h|h
  ·exact s j i b a h B hi (by rw[Wo];exact hx)
  ·subst h;rw[hi]at B;cases B;rw[Wn]at hx;cases hx
  ·exact s i j a b h hi B hx
theorem Aak{f:g9}{x:iS}:Hh f x=aZ↔(∃q∈stepsL f,x∈WN q)\/x∈edgeF (CS f):=by
 unfold Hh Hi;rw[PM,PM,gJ,fE];simp
theorem Aal(f:g9):An4 (De f):=PK (CI f).1
section
variable{f:g9}{b:Nat}{bl:gU}{x:Ins}(hb:f.blocks[b]? =jK bl)(hne:bl.ins≠[])(hw:Bd x=aL)
include hb hne hw
end
section
variable{P:bP}{C:Ctx}{t:List AV}{h:List gO}{o:bN}
end
theorem Ajh(l:List Ins):(l.flatMap Bz).length<=DV Eh.bulk l:=by
 induction l with
 |nil=>simp[DV]
 |cons x l j=>
  have h1:=KB x;have h2:=Sp x;have u:=Ed Wr x.args;have s:(Bz x).length<=(readsC x).length+1:=by
   unfold Bz;rw[eJ];split <;> simp
  simp only[dO,eJ,DV];omega
theorem V7(l:List gU):(l.flatMap λb=>b.ins.flatMap Bz).length<=DV Cv.bulk l:=by
 induction l with
 |nil=>simp[DV]
 |cons b l j=>
  have h1:=Ajh b.ins;have h2:=Hp b;simp only[dO,eJ,DV];omega
theorem Aht{f:g9}(h:Dw.bulk f<=2097152):(Nv f).length<=2097152:=by
 have h1:=V7 f.blocks;have h2:=L9 f;have e:(Nv f).length=(f.blocks.flatMap λb=>b.ins.flatMap Bz).length:=rfl;omega
theorem Ago{f:g9}(j:okFunc f)(h:Dw.bulk f<=2097152):g8 f:=⟨j,Zl h,Zv h,Aht h,Af0 h⟩
theorem Ahu{f:g9}{b:Nat}(hb:b < f.blocks.length):ixD (Oi f) (b:Int)=B5 f b:=B7 (by unfold Oi;rw[dZ,eB hb];rfl)
theorem Ahg{f:g9}{b i:Nat}(hi:i < (Cj f b).length):(B5 f b)[i+1]? =jK (Da f (BA f) b (i+1)):=by
 unfold B5;rw[dZ,eB (by omega)];rfl
theorem R8{step:Int->M (Int⊕(Unit⊕ρ))}{p:Nat->Bool}
 (h:∀k,k < n->(step (k:Int)).to (if p k then .inr (.inr v)else .inl ((k+1:Nat):Int)))(D:(step (n:Int)).to (.inr (.inl ()))):(iG step 0).to (if(fY n).any p then .inr v else .inl ()):=by
 have u:∀(d k:Nat),k+d=n->(iG step (k:Int)).to (if(fZ k d).any p then .inr v else .inl ()):=by
  intro d;induction d with
  |zero=>
   intro k hk;have:k=n:=by omega
   subst this;exact iJ D
  |succ d B=>
   intro k hk;have j:=h k (by omega);rw[gB,cM];by_cases s:p k=aZ
   ·rw[s]at j⊢;exact iJ j
   ·have s:p k=aL:=by simpa using s
    rw[s]at j⊢;rw[aO];exact iH j (B (k+1) (by omega))
 have:=u n 0 (by omega);rwa [<-gC]at this
theorem WM{x:M (Unit⊕ρ)}(h:x.to (if c then .inr v else .inl ())):(iD x λ_=>iK d).to (if c then v else d):=by
 cases c
 ·exact iE h (Ag _)
 ·exact iF h
theorem Aqu{l:List α}{p:Nat->Bool}{q:α->Bool}(h:∀k x,l[k]? =jK x->p k=q x):(fY l.length).any p=l.any q:=by
 rw[aK,cO,cO];constructor
 ·rintro⟨k,hk,j⟩;have hk:=fK.1 hk;exact⟨l[k],eH hk,by rw[<-h k _ (dW hk)];exact j⟩
 ·rintro⟨x,hx,hq⟩;obtain⟨k,hk⟩:=fF.1 hx;exact⟨k,fK.2 (dY.1 hk).1,by rw[h k x hk];exact hq⟩
theorem Ad4{n:Int}(j:l.length<=4611686018427387904):(OS l n).to (l.contains n):=by
 have h:=R8 (step:=I1 l n) (p:=λk=>l.getD k 0 ==n) (v:=aZ) (n:=l.length) (λk hk=>?_) ?_
 ·unfold OS;have h2:=WM (d:=aL) h;rw[Aqu (q:=λx=>x ==n) λk x hx=>by rw[dR,hx];rfl]at h2;have e:(if(l.any λx=>x ==n)=aZ then aZ else aL)=l.contains n:=by
   rw[show l.contains n=l.any λx=>x ==n by rw[List.contains_eq_any_beq];congr 1;funext x;exact aJ ..];cases l.any λx=>x ==n <;> rfl
  rwa [e]at h2
 ·obtain⟨x,hx⟩:∃x,l[k]? =jK x:=⟨_,dW hk⟩
  have s:l.getD k 0=x:=by rw[dR,hx];rfl
  unfold I1;rw[B7 hx,s,Aw8 hk j];refine AI (decide_eq_true (by omega)) (Ae (H9 hk) ?_);by_cases h:(x ==n)=aZ
  ·rw[h];exact AI V (Ag _)
  ·have h:(x ==n)=aL:=by simpa using h
   rw[h];exact AA V (Ag _)
 ·unfold I1;exact AA (decide_eq_false (by omega)) (Ag _)
def Amv(a b:Int)(q:Ins×List Int):Bool:=Bd q.1&&(q.1.d ==a)&&q.2.contains b&&!((q.1.op ==2)&&(q.1.a ==b))
def O5(f:g9)(a b:Int):Bool:=(stepsL f).any (Amv a b)
theorem Aox{f:g9}{b:Int}:((fY f.blocks.length).any λk=>(fY (Cj f k).length).any λi=>Amv a b ((Cj f k).getD i default,Da f (BA f) k (i+1)))=O5 f a b:=by
 unfold O5;rw[aK,cO,cO];constructor
 ·rintro⟨k,hk,h⟩;obtain⟨i,hi,h⟩:=cO.1 h;have hi:=fK.1 hi;refine⟨_,Ud.2 ⟨k,i,fK.1 hk,?_,rfl⟩,h⟩;try dsimp only
  rw[dR,dW hi];rfl
 ·rintro⟨q,hq,h⟩;obtain⟨k,i,hk,hx,j⟩:=Ud.1 hq;refine⟨k,fK.2 hk,cO.2 ⟨i,fK.2 (dY.1 hx).1,?_⟩⟩;rw[dR,hx,<-j];exact h
theorem Wj{f:g9}(c:g8 f)(b i:Nat):(Da f (BA f) b i).length<=2097152:=iZ (eL _ _) (iZ (DO _) c.reads)
theorem Acg{x:Ins}(j:okIns x):(MA x).to (if Bd x then x.d else 0,Bd x):=Ae (Dz.2 j) (Ag _)
theorem X9{f:g9}(c:g8 f)(a b:Int):(Mz f (Oi f) a b).to (O5 f a b):=by
 have N:=c.small.blocks;have h:=R8 (step:=G7 f (Oi f) a b) (p:=λk=>(fY (Cj f k).length).any λi=>Amv a b ((Cj f k).getD i default,Da f (BA f) k (i+1))) (v:=aZ) (n:=f.blocks.length) (λk hk=>?_) ?_
 ·unfold Mz;have h2:=WM (d:=aL) h;rw[Aox]at h2;have e:(if O5 f a b=aZ then aZ else aL)=O5 f a b:=by cases O5 f a b <;> rfl
  rwa [e]at h2
 ·obtain⟨bl,hb⟩:∃bl,f.blocks[k]? =jK bl:=⟨_,dW hk⟩
  have s:Cj f k=bl.ins:=by unfold Cj;rw[hb]
  have J:=c.ins bl (fH hb);have F:ixD f.blocks (k:Int)=bl:=B7 hb;have D:Ch f.blocks (k:Int)=aZ:=H9 hk;have hi:=R8 (step:=FX f (Oi f) a b (k:Int)) (p:=λi=>Amv a b ((Cj f k).getD i default,Da f (BA f) k (i+1))) (v:=(Sum.inr (Sum.inr aZ):Int⊕(Unit⊕Bool))) (n:=bl.ins.length) (λi hi=>?_) ?_
  ·unfold G7;rw[Aw8 hk (by omega)];refine AI (decide_eq_true (by omega)) ?_;rw[s];rw[s]at hi;have O:=WM (d:=(Sum.inl ((k+1:Nat):Int):Int⊕(Unit⊕Bool))) hi;exact O
  ·obtain⟨x,hx⟩:∃x,bl.ins[i]? =jK x:=⟨_,dW hi⟩
   have L:(Cj f k).getD i default=x:=by rw[s,dR,hx];rfl
   have T:ixD bl.ins (i:Int)=x:=B7 hx;have U:Ch bl.ins (i:Int)=aZ:=H9 hi;have u:=(c.ok.blocks bl (fH hb)).ins x (fH hx);have h1:=Ahu hk;have j:=Ahg (f:=f) (b:=k) (i:=i) (by rw[s];exact hi);have h2:ixD (B5 f k) ((i+1:Nat):Int)=Da f (BA f) k (i+1):=B7 j;have Y:Ch (Oi f) (k:Int)=aZ:=H9 (by unfold Oi;simpa using hk);have W:Ch (B5 f k) ((i+1:Nat):Int)=aZ:=H9 (dY.1 j).1;have I:=Ad4 (l:=Da f (BA f) k (i+1)) (n:=b) (by have:=Wj c k (i+1);omega);rw[L];unfold FX;rw[F,T,Aw8 hi (by omega),h1,h2];refine Ae D (AI (decide_eq_true (by omega)) (Ae D (Ae U (Am (Acg u) ?_))));try dsimp only
   generalize hg:(Bd x&&((if Bd x=aZ then x.d else 0) ==a))=g;have B:(Bd x&&(x.d ==a))=g:=by
    rw[<-hg];cases Bd x <;> rfl
   refine Ae (by rw[Y,aY]) (Ae (by rw[W,aY]) (Am (a:=g&&(Da f (BA f) k (i+1)).contains b) ?_ ?_))
   ·cases g
    ·exact iM V
    ·exact BB V I
   ·have e:Amv a b (x,Da f (BA f) k (i+1))=((g&&(g&&(Da f (BA f) k (i+1)).contains b))&&(!((x.op ==2)&&(x.a ==b)))):=by
     unfold Amv;try dsimp only
     rw[B];cases g <;> simp
    rw[e];generalize ((g&&(g&&(Da f (BA f) k (i+1)).contains b))&&(!((x.op ==2)&&(x.a ==b))))=z;cases z
    ·exact AA V (Ag _)
    ·exact AI V (Ag _)
  ·unfold FX;rw[F];exact Ae D (AA (decide_eq_false (by omega)) (Ag _))
 ·unfold G7;exact AA (decide_eq_false (by omega)) (Ag _)
def Eq(f:g9)(a b:Int):Bool:=!(a ==b)&&(O5 f a b||O5 f b a||(a8 (0 < f.blocks.length)&&(CS f).contains a&&(CS f).contains b))
theorem UH{f:g9}(h:0 < f.blocks.length):(B5 f 0)[0]? =jK (CS f):=by
 unfold CS;rw[if_neg (by omega),GF];rfl
theorem Aaf{f:g9}(c:g8 f):(CS f).length<=2097152:=by
 unfold CS;split
 ·simp
 ·rw[GF];exact iZ (eL _ _) (iZ (DO _) c.reads)
theorem TU{f:g9}(c:g8 f)(a b:Int):(JH f (Oi f) a b).to (Eq f a b):=by
 unfold JH Eq;by_cases j:(a ==b)=aZ
 ·rw[j];exact AI V (Ag _)
 ·have j:(a ==b)=aL:=by simpa using j
  rw[j];refine AA V (Am (X9 c a b) (Am (a:=!O5 f a b&&O5 f b a) ?_ ?_))
  ·cases O5 f a b
   ·exact BB V (X9 c b a)
   ·exact iM V
  ·by_cases h1:(O5 f a b||O5 f b a)=aZ
   ·rw[h1];refine AI ?_ (Ag _);revert h1;cases O5 f a b <;> cases O5 f b a <;> simp
   ·have h1:(O5 f a b||O5 f b a)=aL:=by simpa using h1
    rw[h1];refine AA ?_ ?_
    ·revert h1;cases O5 f a b <;> cases O5 f b a <;> simp
    have D:(Oi f).length=f.blocks.length:=by simp[Oi]
    by_cases h0:0 < f.blocks.length
    ·have e:a8 (((Oi f).length:Int) > 0)=aZ:=decide_eq_true (by omega);have s:a8 (0 < f.blocks.length)=aZ:=decide_eq_true h0;have B:ixD (Oi f) 0=B5 f 0:=Ahu h0;have u:ixD (B5 f 0) 0=CS f:=B7 (k:=0) (UH h0);have I:Ch (Oi f) 0=aZ:=H9 (k:=0) (by omega);have F:Ch (B5 f 0) 0=aZ:=H9 (k:=0) (dY.1 (UH h0)).1;have J:=Aaf c;rw[e,s,B,u,I,F];refine Ae V (Ae V (Am (BB V (Ad4 (by omega))) (Ae (aY _) (Ae (aY _) (Am (a:=(CS f).contains a&&(CS f).contains b) ?_ ?_)))))
     ·cases(CS f).contains a
      ·exact iM V
      ·exact BB V (Ad4 (by omega))
     ·refine Ac.2 ?_;cases(CS f).contains a <;> rfl
    ·have e:a8 (((Oi f).length:Int) > 0)=aL:=decide_eq_false (by omega);have s:a8 (0 < f.blocks.length)=aL:=decide_eq_false h0;rw[e,s];exact Ae V (Ae V (Am (iM V) (Ae V (Ae V (Am (iM V) (Ag _))))))
theorem Aj0{f:g9}{b:Int}:O5 f a b=aZ↔∃q∈stepsL f,Bd q.1=aZ/\q.1.d=a/\b∈q.2/\MU q b=aZ:=by
 unfold O5;rw[cO];constructor
 ·rintro⟨q,hq,h⟩;unfold Amv at h;simp only[aI,beq_iff_eq,cV,aR,aH,beq_eq_false_iff_ne]at h;obtain⟨⟨⟨h1,h2⟩,j⟩,h4⟩:=h;refine⟨q,hq,h1,h2,j,?_⟩;unfold MU;simp only[h1,a6,aW,bne_iff_ne,ne_eq];rcases h4 with h4|h4
  ·exact .inl h4
  ·exact .inr λe=>h4 e.symm
 ·rintro⟨q,hq,h1,h2,j,h4⟩;refine⟨q,hq,?_⟩;unfold Amv;simp only[aI,beq_iff_eq,cV,aR,aH,beq_eq_false_iff_ne];refine⟨⟨⟨h1,h2⟩,j⟩,?_⟩;unfold MU at h4;simp only[h1,a6,aW,bne_iff_ne,ne_eq]at h4;rcases h4 with h4|h4
  ·exact .inl h4
  ·exact .inr λe=>h4 e.symm
theorem Hb{b:Int}{x:iS}(hx:x.a < x.b):x∈Db a b↔(x.a=a/\x.b=b)\/(x.a=b/\x.b=a):=by
 unfold Db;obtain⟨u,v⟩:=x
 (try dsimp only at hx);(try dsimp only)
 by_cases h:a=b
 ·rw[if_pos h];simp only[fT,false_iff];omega
 ·rw[if_neg h];simp only[or_false,Pair.mk.injEq,zai];rw[Int.min_def,Int.max_def];split <;> omega
theorem TT{f:g9}{x:iS}(hx:x.a < x.b):Eq f x.a x.b=Hh f x:=by
 have hne:x.a≠x.b:=by omega
 rw[aK,Aak];unfold Eq;have e:(x.a ==x.b)=aL:=by simpa using hne
 rw[e];simp only[aS,a6,aW,aI,decide_eq_true_eq,cV,Aj0];constructor
 ·rintro((⟨q,hq,h1,h2,I,F⟩|⟨q,hq,h1,h2,I,F⟩)|⟨⟨_,h1⟩,h2⟩)
  ·exact .inl ⟨q,hq,Pf.2 ⟨x.b,I,F,(Hb hx).2 (.inl ⟨h2.symm,rfl⟩)⟩⟩
  ·exact .inl ⟨q,hq,Pf.2 ⟨x.a,I,F,(Hb hx).2 (.inr ⟨rfl,h2.symm⟩)⟩⟩
  ·exact .inr (Ue.2 ⟨x.a,h1,x.b,h2,(Hb hx).2 (.inl ⟨rfl,rfl⟩)⟩)
 ·rintro(⟨q,hq,h⟩|h)
  ·obtain⟨r,J,u,D⟩:=Pf.1 h;have hw:Bd q.1=aZ:=by unfold MU at u;rw[aI]at u;exact u.1
   rcases(Hb hx).1 D with⟨s,j⟩|⟨s,j⟩
   ·exact .inl (.inl ⟨q,hq,hw,s.symm,by rw[j];exact J,by rw[j];exact u⟩)
   ·exact .inl (.inr ⟨q,hq,hw,j.symm,by rw[s];exact J,by rw[s];exact u⟩)
  ·obtain⟨a,B,b,hb,D⟩:=Ue.1 h;have h0:0 < f.blocks.length:=by
    rcases Nat.eq_zero_or_pos f.blocks.length with h0|h0
    ·unfold CS at B;rw[if_pos h0]at B;cases B
    ·exact h0
   rcases(Hb hx).1 D with⟨s,j⟩|⟨s,j⟩
   ·exact .inr ⟨⟨h0,by rw[s];exact B⟩,by rw[j];exact hb⟩
   ·exact .inr ⟨⟨h0,by rw[s];exact hb⟩,by rw[j];exact B⟩
theorem Aam(f:g9):((Fk (AK f)).filter λx=>Eq f x.a x.b)=De f:=by
 unfold De D7;refine dG λx hx=>?_
 exact TT ((D4 (CI f).1).1 hx).2.2
theorem KF{f:g9}{b:Int}:Eq f a b=Eq f b a:=by
 unfold Eq;rw[show(a ==b)=(b ==a)from aJ ..];cases(b ==a) <;> cases O5 f a b <;> cases O5 f b a <;> cases a8 (0 < f.blocks.length) <;> cases(CS f).contains a <;> cases(CS f).contains b <;> rfl
theorem Vi{q:Int->Bool}:((fY l.length).any λi=>q (l.getD i default))=l.any q:=by
 rw[aK,cO,cO];constructor
 ·rintro⟨k,hk,j⟩;have hk:=fK.1 hk;refine⟨l[k],eH hk,?_⟩;rw[dR,dW hk]at j;exact j
 ·rintro⟨x,hx,hq⟩;obtain⟨k,hk⟩:=fF.1 hx;refine⟨k,fK.2 (dY.1 hk).1,?_⟩;rw[dR,hk];exact hq
theorem WC(j:l.length<=10000000){n:Int}:(OQ l n).to (l.contains n):=by
 have h:=Q6 (step:=I0 l n) (p:=λi=>(l.getD i default) ==n) (v:=aZ) (n:=l.length) (λi hi=>?_) ?_
 ·have h2:=Aqm (d:=aL) h;rw[Ayt,Vi (q:=λy=>y ==n)]at h2;have e:(l.any λy=>y ==n)=l.contains n:=by
   rw[aK,cO,cV];constructor
   ·rintro⟨x,hx,hq⟩;rw[<-eq_of_beq hq];exact hx
   ·intro hx;exact⟨n,hx,beq_self_eq_true n⟩
  rw[e]at h2;exact h2
 ·obtain⟨x,hx⟩:∃x,l[i]? =jK x:=⟨_,dW hi⟩
  have s:l.getD i default=x:=by rw[dR,hx];rfl
  unfold I0;rw[B7 hx,w23 hi j];simp only[s];refine AI (decide_eq_true (by omega)) (Ae (LX hi) ?_);cases hc:(x ==n)with
  |true=>exact AI V (Ag _)
  |false=>exact AA V (Ag _)
 ·unfold I0;exact AA (decide_eq_false (by omega)) (Ag _)
def ZN(f:g9)(r:Int):Bool:=a8 (r < 0)||decide (r≥f.regs)
theorem Yf{f:g9}(c:g8 f)(s:(regsB f).length<=10000000):(KD f).to (IB f):=by
 have B:(Lt f).to (regsB f):=Ae (BJ.2 c) (Ag _);have j:(((((a8 (f.regs < 0))||(a8 (f.regs > 4096)))||(a8 (f.args < 0)))||(a8 (f.args > 6)))||(a8 (f.args > f.regs)))=Aj4 f:=by
  unfold Aj4;rw[Bool.or_assoc _ (a8 (f.args > 6))];congr 1;rw[aK];simp only[zar];split <;> omega
 unfold KD IB;rw[j];cases h:Aj4 f with
 |true=>exact AI V (Ag _)
 |false=>
  refine AA V (Am B ?_);have h:=Q6 (step:=FW f (regsB f)) (p:=λi=>ZN f ((regsB f).getD i default)) (v:=aL) (n:=(regsB f).length) (λi hi=>?_) ?_
  ·have h2:=Aqm (d:=aZ) h;rw[Vi (q:=ZN f)]at h2;have e:(!false&&!((regsB f).any λr=>decide (r < 0)||decide (r≥f.regs)))=if(regsB f).any (ZN f)then aL else aZ:=by
    show(aZ&&!((regsB f).any (ZN f)))=_;cases(regsB f).any (ZN f) <;> rfl
   rw[e];exact h2
  ·obtain⟨x,hx⟩:∃x,(regsB f)[i]? =jK x:=⟨_,dW hi⟩
   have u:(regsB f).getD i default=x:=by rw[dR,hx];rfl
   unfold FW;rw[B7 hx,w23 hi s];simp only[u];refine AI (decide_eq_true (by omega)) (Ae (LX hi) (Ae (by rw[LX hi,aY]) ?_));unfold ZN;cases hc:(a8 (x < 0)||decide (x≥f.regs))with
   |true=>exact AI V (Ag _)
   |false=>exact AA V (Ag _)
  ·unfold FW;exact AA (decide_eq_false (by omega)) (Ag _)
theorem OU(j:List Int)(r:Int)(leaf:Bool):(BD j r leaf).length<=100:=by
 rw[Dh];split
 ·decide
 split
 ·decide
 ·decide
theorem Zy{j:List Int}{leaf:Bool}(h:z∈BD j r leaf):z < 32/\z≠-1:=by
 have s:∀y∈Aag++KL,y < 32/\y≠-1:=by decide
 rw[Dh]at h;refine s z ?_;split at h
 ·exact eX _ h
 split at h
 ·exact eY _ h
 ·exact h
def OW(f:g9)(p:iT)(r:Int):Bool:=if a8 (ixD p.at_ r≥32)then(!p.leaf)&&(a8 ((bE.wrap ((ixD p.at_ r) - 32)) < p.slots))else(BD (Ci f) r p.leaf).contains (ixD p.at_ r)
theorem ZA{f:g9}(c:g8 f)(j:Ch p.at_ r=aZ):(IZ f p r).to (OW f p r):=by
 unfold IZ OW;refine Ae j ?_;cases h:a8 (ixD p.at_ r≥32)with
 |true=>
  rw[if_pos V];exact AI V (Ag _)
 |false=>
  rw[if_neg (by simp)];exact AA V (Am (Ae (BJ.2 c) (Ag _)) (Am (WC (by have:=OU (Ci f) r p.leaf;omega)) (Ag _)))
def Ahk(f:g9)(p:iT)(k:Nat):Bool:=(!(regsB f).contains (k:Int)&&(ixD p.at_ (k:Int) != -1))||((regsB f).contains (k:Int)&&!OW f p (k:Int))
theorem Ad6{f:g9}(c:g8 f)(u:(regsB f).length<=10000000)(B:(p.at_.length:Int)=f.regs)(s:p.at_.length<=10000000):(iG (En f p (regsB f)) 0).to (if(fY p.at_.length).any (Ahk f p)then .inr aL else .inl ()):=by
 refine Q6 (λk hk=>?_) ?_
 ·have j:=LX (l:=p.at_) hk;have hc:=WC u (n:=(k:Int));unfold En;rw[w23 hk s];refine AI (decide_eq_true (by omega)) (Am hc (Ae (by rw[j,aY]) ?_));unfold Ahk;cases h1:(regsB f).contains (k:Int)with
  |true=>
   rw[h1]at hc;refine Am (BB V hc) (Am (BB V (ZA c j)) ?_);cases h2:OW f p (k:Int)with
   |true=>exact AA V (Ag _)
   |false=>exact AI V (Ag _)
  |false=>
   rw[h1]at hc;cases D:(ixD p.at_ (k:Int) != -1)with
   |true=>exact Am (iM V) (Am (iM V) (AI V (Ag _)))
   |false=>exact Am (BB V hc) (Am (iM V) (AA V (Ag _)))
 ·unfold En;exact AA (decide_eq_false (by omega)) (Ag _)
theorem Zo(j:p.at_.length<=10000000)(h0:0<=p.slots)(u:p.slots<=10000000):(iG (Em p) 0).to (if(fY p.slots.toNat).any (λs=>!p.at_.contains (32+(s:Int)))then .inr aL else .inl ()):=by
 refine Q6 (λk hk=>?_) ?_
 ·have hc:=WC j (n:=32+(k:Int));have hw:bE.wrap (32+(k:Int))=32+(k:Int):=bI _ (by omega);unfold Em;rw[w23 hk (by omega),hw];refine AI (decide_eq_true (by omega)) (Am hc ?_);cases p.at_.contains (32+(k:Int))with
  |true=>exact AA V (Ag _)
  |false=>exact AI V (Ag _)
 ·unfold Em;exact AA (decide_eq_false (by omega)) (Ag _)
def L8(f:g9)(p:iT)(i k:Nat):Bool:=(ixD p.at_ ((regsB f).getD i 0) ==ixD p.at_ ((regsB f).getD k 0))&&Eq f ((regsB f).getD i 0) ((regsB f).getD k 0)
theorem Ao5{B:Type}{step:Int->M (Int⊕(Unit⊕(B⊕(Unit⊕ρ))))}{p:Nat->Bool}{v:Unit⊕(B⊕(Unit⊕ρ))}
 (h:∀k,k < n->(step (k:Int)).to (if p k then .inr v else .inl ((k+1:Nat):Int)))(F:(step (n:Int)).to (.inr (.inl ()))):(iG step 0).to (if(fY n).any p then v else .inl ()):=by
 have u:∀(d k:Nat),k+d=n->(iG step (k:Int)).to (if(fZ k d).any p then v else .inl ()):=by
  intro d;induction d with
  |zero=>
   intro k hk;have:k=n:=by omega
   subst this;exact iJ F
  |succ d D=>
   intro k hk;have j:=h k (by omega);rw[gB,cM];by_cases s:p k=aZ
   ·rw[s]at j⊢;exact iJ j
   ·have s:p k=aL:=by simpa using s
    rw[s]at j⊢;rw[aO];exact iH j (D (k+1) (by omega))
 have:=u n 0 (by omega);rwa [<-gC]at this
theorem Aa3{f:g9}(c:g8 f)(J:(regsB f).length<=10000000)(s:∀r∈regsB f,Ch p.at_ r=aZ):(iG (El f p (regsB f) (Oi f)) 0).to (if(fY (regsB f).length).any (λi=>(fY i).any (L8 f p i))then .inr aL else .inl ()):=by
 refine Q6 (λi hi=>?_) ?_
 ·obtain⟨x,hx⟩:∃x,(regsB f)[i]? =jK x:=⟨_,dW hi⟩
  have I:(regsB f).getD i 0=x:=by rw[dT,hx];rfl
  have D:=s x (fH hx);have j:(iG (Ek f p (regsB f) (Oi f) (i:Int)) 0).to (if(fY i).any (L8 f p i)then .inr (.inr (.inr aL))else .inl ()):=by
   refine Ao5 (λk hk=>?_) ?_
   ·obtain⟨y,u⟩:∃y,(regsB f)[k]? =jK y:=⟨_,dW (by omega)⟩
    have F:(regsB f).getD k 0=y:=by rw[dT,u];rfl
    have B:=s y (fH u);unfold Ek L8;rw[B7 hx,B7 u,w23 hk (by omega),I,F];refine AI (decide_eq_true (by omega)) (Ae (LX hi) (Ae D (Ae (LX (by omega)) (Ae B (Ae (by rw[LX hi,aY]) (Ae (by rw[LX (l:=regsB f) (k:=k) (by omega),aY]) ?_))))));cases h1:(ixD p.at_ x ==ixD p.at_ y)with
    |true=>
     refine Am (BB V (TU c x y)) ?_;cases Eq f x y with
     |true=>exact AI V (Ag _)
     |false=>exact AA V (Ag _)
    |false=>exact Am (iM V) (AA V (Ag _))
   ·unfold Ek;exact AA (decide_eq_false (by omega)) (Ag _)
  unfold El;rw[w23 hi J];refine AI (decide_eq_true (by omega)) ?_;cases h:(fY i).any (L8 f p i)with
  |true=>
   rw[h]at j;exact iF j
  |false=>
   rw[h]at j;exact iE j (Ag _)
 ·unfold El;exact AA (decide_eq_false (by omega)) (Ag _)
def T6(f:g9)(p:iT):Bool:=((((!IB f)||((p.at_.length:Int) !=f.regs))||decide (p.slots < 0))||decide (p.slots > f.regs))
theorem Acs:SX p p.at_.length z=aZ↔z∈p.at_/\NJ p z=aZ:=by
 unfold SX;rw[gJ,cV,fD]
theorem IM(j:Cl z):NJ p z=aZ↔32<=z/\z < 32+p.slots:=by
 have hw:wfI .i64 z:=j;simp[wfI,Lit.wf,bG,bF,bH,bD]at hw;unfold NJ;simp only[zaf];constructor
 ·rintro⟨h1,h2⟩;rw[bI _ (by omega)]at h2;omega
 ·rintro⟨h1,h2⟩;refine⟨h1,?_⟩;rw[bI _ (by omega)];omega
def NI(p:iT):List Int:=(fY p.slots.toNat).map λ(s:Nat)=>32+(s:Int)
theorem Lk(h0:0<=p.slots):z∈NI p↔32<=z/\z < 32+p.slots:=by
 unfold NI;rw[fG];constructor
 ·rintro⟨s,j,rfl⟩;have:=fK.1 j;omega
 ·rintro⟨h1,h2⟩;exact⟨(z - 32).toNat,fK.2 (by omega),by omega⟩
theorem VZ(p:iT):(NI p).Nodup:=by
 unfold NI;exact fW.2 (cI (λh e=>h (by omega)) List.nodup_range)
theorem Or(hw:∀x∈p.at_,Cl x):z∈(CQ p.at_).filter (SX p p.at_.length)↔z∈p.at_/\32<=z/\z < 32+p.slots:=by
 rw[fD,Acs,(JD _).2 z];constructor
 ·rintro⟨h1,_,j⟩;exact⟨h1,(IM (hw z h1)).1 j⟩
 ·rintro⟨h1,h2⟩;exact⟨h1,h1,(IM (hw z h1)).2 h2⟩
theorem Oq(p:iT):((CQ p.at_).filter (SX p p.at_.length)).Nodup:=(cI (λh=>by omega) (JD p.at_).1:(CQ p.at_).Nodup).filter _
theorem Azc:∀(A B:List Int),A.Nodup->(∀a∈A,a∈B)->B.length<=A.length->∀b∈B,b∈A
 | [],B,_,_,F,b,hb=>by
  have:B= []:=dB (by simpa using F);subst this;cases hb
 |a::A,B,u,I,F,b,hb=>by
  rw[fR]at u;have s:=I a (by simp);have D:=List.length_erase_of_mem s;have J:0 < B.length:=List.length_pos_of_mem s;by_cases j:b=a
  ·simp[j]
  ·have:=Azc A (B.erase a) u.2 (λx hx=>(fC (λe=>u.1 (by rw[<-e];exact hx))).2 (I x (by simp[hx]))) (by rw[D];simp only[eK]at F;omega) b ((fC j).2 hb);simp[this]
theorem So(hw:∀x∈p.at_,Cl x)(h0:0<=p.slots):((cardC p:Int) ==p.slots)= !((fY p.slots.toNat).any λs=>!p.at_.contains (32+(s:Int))):=by
 have D:(NI p).length=p.slots.toNat:=by simp[NI]
 have j:∀z∈(CQ p.at_).filter (SX p p.at_.length),z∈NI p:=λz u=>(Lk h0).2 ((Or hw).1 u).2
 rw[aK];simp only[beq_iff_eq,aR,cN,fK,Bool.not_eq_true,aP,cV];constructor
 ·intro h s B;have hc:(NI p).length<=((CQ p.at_).filter (SX p p.at_.length)).length:=by
   show _<=cardC p;omega
  have:=Azc _ _ (Oq p) j hc (32+(s:Int)) ((Lk h0).2 (by omega));simpa using((Or hw).1 this).1
 ·intro h;have h1:=Dc (Oq p) j;have h2:=Dc (VZ p) (m:=(CQ p.at_).filter (SX p p.at_.length)) λz u=>by
   have u:=(Lk h0).1 u;refine(Or hw).2 ⟨?_,u⟩;have:=h (z - 32).toNat (by omega);have e:32+(((z - 32).toNat:Nat):Int)=z:=by omega
   rw[e]at this;simpa using this
  have:cardC p=(NI p).length:=iV h1 h2;omega
theorem YS{f:g9}(hw:∀x∈p.at_,Cl x)(s:p.leaf=aZ->p.slots=0)(hk:k < p.at_.length):atC f p k (p.at_.getD k 0)= !Ahk f p k:=by
 obtain⟨x,hx⟩:∃x,p.at_[k]? =jK x:=⟨_,dW hk⟩
 have L:p.at_.getD k 0=x:=by rw[dT,hx];rfl
 have D:=hw x (fH hx);unfold atC Ahk;rw[L,B7 hx];cases hc:(regsB f).contains (k:Int)with
 |false=>
  rw[if_neg (by simp)];cases hb:(x == -1) <;> simp[bne,hb]
 |true=>
  rw[if_pos V];have u:=cV.1 hc;have B:=Aho (OL f) u;have I:(DU f p.leaf (regsB f)).getD ((regsB f).countP (· < (k:Int))) []=BD (Ci f) k p.leaf:=by
   rw[dT];unfold DU;rw[dZ,B];rfl
  rw[I];unfold OW;rw[B7 hx];by_cases j:x≥32
  ·rw[if_pos (decide_eq_true j)];have J:(BD (Ci f) k p.leaf).contains x=aL:=by
    cases h:(BD (Ci f) k p.leaf).contains x with
    |false=>rfl
    |true=>have:=(Zy (cV.1 h)).1;omega
   rw[J];unfold NJ;rw[decide_eq_true j];cases F:p.leaf with
   |false=>simp
   |true=>
    have N:=s F;have:NJ p x=aL:=by
     cases h:NJ p x with
     |false=>rfl
     |true=>have:=(IM D).1 h;omega
    unfold NJ at this;rw[decide_eq_true j]at this;simpa using this
  ·rw[if_neg (by rw[decide_eq_false j];simp)];unfold NJ;rw[decide_eq_false j];simp
theorem Cx{f:g9}(h:r∈AK f):r∈regsB f:=IY.2 (eY _ (((CI f).2 r).1 h))
theorem L4{f:g9}{x:iS}:x∈De f↔x.a∈AK f/\x.b∈AK f/\x.a < x.b/\Eq f x.a x.b=aZ:=by
 rw[<-Aam,fD,D4 (CI f).1];constructor
 ·rintro⟨⟨h1,h2,s⟩,j⟩;exact⟨h1,h2,s,j⟩
 ·rintro⟨h1,h2,s,j⟩;exact⟨⟨h1,h2,s⟩,j⟩
theorem EW{f:g9}(j:okFunc f)(h:r∈regsB f):Cl r:=Aed j r (IY.1 h)
theorem Ahc{f:g9}(c:g8 f):((De f).any (OF p))=(fY (regsB f).length).any λi=>(fY i).any (L8 f p i):=by
 have j:=OL f;unfold Asc at j;rw[fV]at j;rw[aK,cO,cO];constructor
 ·rintro⟨x,hx,F⟩;obtain⟨h1,h2,N,L⟩:=L4.1 hx;obtain⟨k,hk⟩:=fF.1 (Cx h1);obtain⟨i,hi⟩:=fF.1 (Cx h2);obtain⟨u,O⟩:=dY.1 hk;obtain⟨s,T⟩:=dY.1 hi;have B:k < i:=by
   rcases Nat.lt_or_ge k i with h|h
   ·exact h
   ·rcases Nat.eq_or_lt_of_le h with h|h
    ·subst h;omega
    ·have:=j i k s u h;omega
  refine⟨i,fK.2 s,cO.2 ⟨k,fK.2 B,?_⟩⟩;unfold L8;rw[dT,dT,hk,hi];show((ixD p.at_ x.b ==ixD p.at_ x.a)&&Eq f x.b x.a)=aZ;rw[KF,L,Bool.and_true];unfold OF at F;rw[eq_of_beq F];exact beq_self_eq_true _
 ·rintro⟨i,hi,h⟩;obtain⟨k,hk,h⟩:=cO.1 h;have s:=fK.1 hi;have B:=fK.1 hk;have u:k < (regsB f).length:=by omega
  have D:=j k i u s B;unfold L8 at h;rw[dT,dT,dW s,dW u,aI]at h;obtain⟨h1,h2⟩:=h;have h2:Eq f (regsB f)[k] (regsB f)[i]=aZ:=by rw[KF];exact h2
  have J:Hh f ⟨(regsB f)[k],(regsB f)[i]⟩=aZ:=by rw[<-TT D];exact h2
  have I:=(UN c.all).mem ⟨(regsB f)[k],(regsB f)[i]⟩ J;refine⟨⟨(regsB f)[k],(regsB f)[i]⟩,L4.2 ⟨I.1,I.2.1,D,h2⟩,?_⟩;unfold OF;have h1:(ixD p.at_ (regsB f)[i] ==ixD p.at_ (regsB f)[k])=aZ:=h1;rw[eq_of_beq h1];exact beq_self_eq_true _
theorem Afe{f:g9}(h:IB f=aZ)(j:r∈regsB f):0<=r/\r < f.regs:=by
 unfold IB at h;rw[aI,aR,aR,cN]at h;have:=h.2 r j;simp at this;omega
theorem QM{f:g9}(c:g8 f)(Z:Dw.bulk f<=2097152)(hw:∀x∈p.at_,Cl x)(hp:p.at_.length<=10000000)(T:(regsB f).length<=10000000):(E5 f p).to (Fp f p):=by
 have W:=BJ.2 c;have hM:=Yf c T;have aa:(Lu f).to (leaf f.blocks):=Ae (by rw[W,decide_eq_true Z];rfl) (Ag _);have Y:cardC p<=p.at_.length:=iZ (eL _ _) (DO _);unfold E5;refine Am hM ?_;cases ho:T6 f p with
 |true=>
  have e:Fp f p=aL:=by
   unfold T6 at ho;rw[aW]at ho;rcases ho with ho|ho
   ·have:ZM f p=aZ:=by unfold ZM;rw[ho];rfl
    unfold Fp;rw[this];rfl
   ·have hs:=of_decide_eq_true ho;cases h0:ZM f p with
    |true=>unfold Fp;rw[h0];rfl
    |false=>
     have h1:=h0;unfold ZM at h1;simp only[aV]at h1;have D:(p.at_.length:Int)=f.regs:=by simpa using h1.1.1.2
     have:((cardC p:Int) ==p.slots)=aL:=by
      cases h:((cardC p:Int) ==p.slots)with
      |false=>rfl
      |true=>have:=eq_of_beq h;omega
     unfold Fp;rw[this];simp
  rw[e];unfold T6 at ho;exact Am (iM (by rw[ho];rfl)) (AI (by rw[ho];rfl) (Ag _))
 |false=>
  have F:=ho;unfold T6 at F;simp only[aV,decide_eq_false_iff_not]at F;obtain⟨⟨⟨g1,g2⟩,g3⟩,g4⟩:=F;have B:IB f=aZ:=by simpa using g1
  have D:(p.at_.length:Int)=f.regs:=by simpa using g2
  have U:∀r∈regsB f,Ch p.at_ r=aZ:=λr hr=>by
   have:=Afe B hr;exact BP.2 ⟨this.1,by omega⟩
  unfold T6 at ho;refine Am (a:=bif p.leaf then leaf f.blocks else aL) ?_ ?_
  ·rw[ho];cases p.leaf
   ·exact iM V
   ·exact BB V aa
  rw[ho,aO];cases hq:(p.leaf&&((!bif p.leaf then leaf f.blocks else aL)||(p.slots !=0)))with
  |true=>
   have e:Fp f p=aL:=by
    have:ZM f p=aZ:=by
     rw[aI]at hq;obtain⟨q1,q2⟩:=hq;rw[q1,cond_true,aW]at q2;unfold ZM;rw[q1,a6];rcases q2 with q2|q2
     ·rw[q2];simp
     ·have:a8 (p.slots > 0)=aZ:=decide_eq_true (by simp at q2;omega);rw[this];simp
    unfold Fp;rw[this];rfl
   rw[e];exact AI V (Ag _)
  |false=>
   have h0:ZM f p=aL:=by
    unfold ZM;rw[B];have e1:((p.at_.length:Int) !=f.regs)=aL:=g2;rw[e1,decide_eq_false g3];cases I:p.leaf with
    |false=>rfl
    |true=>
     rw[I,a6,aV,cond_true]at hq;rw[hq.1];have:p.slots=0:=by simpa using hq.2
     rw[this];rfl
   have u:p.leaf=aZ->p.slots=0:=λI=>by
    rw[I,a6,aV]at hq;simpa using hq.2
   refine AA V (Am (Ae W (Ag _)) (Am (Ae W (Ag _)) ?_));have e:Fp f p=(!((fY p.at_.length).any (Ahk f p))&&(!((fY p.slots.toNat).any λs=>!p.at_.contains (32+(s:Int)))&&!((fY (regsB f).length).any λi=>(fY i).any (L8 f p i)))):=by
    unfold Fp;rw[h0,So hw (by omega),Ahc c];have:((fY p.at_.length).all λj=>atC f p j (p.at_.getD j 0))= !((fY p.at_.length).any (Ahk f p)):=by
     rw[List.not_any_eq_all_not];rw[aK,cL,cL];constructor
     ·intro h j J;rw[<-YS hw u (fK.1 J)];exact h j J
     ·intro h j J;rw[YS hw u (fK.1 J)];exact h j J
    rw[this];rfl
   rw[e];have O:=Ad6 c T D hp;have N:=Zo hp (p:=p) (by omega) (by omega);have L:=Aa3 c (p:=p) T U;cases b1:(fY p.at_.length).any (Ahk f p)with
   |true=>rw[b1]at O;exact iF O
   |false=>
    rw[b1]at O;refine iE O ?_;cases b2:(fY p.slots.toNat).any λs=>!p.at_.contains (32+(s:Int))with
    |true=>rw[b2]at N;exact iF N
    |false=>
     rw[b2]at N;refine iE N ?_;cases b3:(fY (regsB f).length).any λi=>(fY i).any (L8 f p i)with
     |true=>rw[b3]at L;exact iF L
     |false=>
      rw[b3]at L;exact iE L (Ag _)
theorem Ac7:∀{l:List Nat} {n:Nat},n∈l->n<=l.sum
 | [],_,h=>by cases h
 |m::l,n,h=>by
  rw[gH];rcases eZ.1 h with rfl|h
  ·omega
  ·have:=Ac7 h;omega
theorem Uu{f:g9}(h:CV f=aL){b:gU}(hb:b∈f.blocks):b.ins.length<=250:=by
 unfold CV at h;rw[aV]at h;have h1:=h.1;unfold Jc at h1;rw[aV,decide_eq_false_iff_not,decide_eq_false_iff_not]at h1;have ht:f.blocks.take 60=f.blocks:=gK (by omega);have h2:=h1.2;unfold sumB at h2;rw[ht]at h2;have:=Ac7 (fG.2 ⟨b,hb,rfl⟩:b.ins.length+Ta b.ins 200∈f.blocks.map λbl=>bl.ins.length+Ta bl.ins 200);omega
theorem Nm{f:g9}(h:CV f=aL):f.blocks.length<=40:=by
 unfold CV at h;rw[aV]at h;have h1:=h.1;unfold Jc at h1;rw[aV,decide_eq_false_iff_not,decide_eq_false_iff_not]at h1;omega
theorem JE{f:g9}(h:CV f=aL):(regsB f).length<=126:=by
 have h1:(AK f).length<=60:=by
  unfold CV at h;rw[aV]at h;have:=of_decide_eq_false h.2;omega
 rw[<-G5];unfold Mv;have h2:=(List.takeWhile_sublist (λr:Int=>decide (r < 0)) (l:=AK f)).length_le;have s:=Yg f 6;have j:=eL (λr:Int=>decide (r > 5)) (AK f);simp only[eJ];omega
section
variable{P:bP}{w:cA}
end
section
variable{P:bP}{C:Ctx}{t:List AV}{h:List gO}{o:bN}
end
theorem Af6{f:g9}{leaf:Bool}{q:hZ}(hq:q∈B8 f leaf):q.r∈regsB f/\∃n:Nat,q.at_=(n:Int)/\n < 30/\(8<=n/\n<=13\/24<=n/\n<=29):=by
 have N:=(GG f).2;have s:∀k:Nat,k<=5->∃n:Nat,RQ leaf+(k:Int)=(n:Int)/\n < 30/\(8<=n/\n<=13\/24<=n/\n<=29):=λk hk=>by
  unfold RQ;cases leaf
  ·exact⟨24+k,by simp,by omega,by omega⟩
  ·exact⟨8+k,by simp,by omega,by omega⟩
 unfold B8 at hq;rcases eW.1 hq with hm|hm
 ·unfold Ahr at hm;obtain⟨k,hk,rfl⟩:=fG.1 hm;have hk:=fK.1 hk;exact⟨IY.2 (eX _ (fG.2 ⟨k,fK.2 hk,rfl⟩)),s k (by omega)⟩
 ·obtain⟨b,hb,hm⟩:=fE.1 hm;obtain⟨x,hx,hm⟩:=fE.1 hm;have B:∀r∈Bz x,r∈regsB f:=λr L=>IY.2 (eY _ (fE.2 ⟨b,hb,fE.2 ⟨x,hx,L⟩⟩))
  suffices J:q.r∈Bz x/\∃n:Nat,q.at_=(n:Int)/\n < 30/\(8<=n/\n<=13\/24<=n/\n<=29)from⟨B _ J.1,J.2⟩
  unfold EH at hm;split at hm
  ·rename_i u;have u:x.op=10:=by simpa using u
   simp only[or_false,zai]at hm;subst hm;refine⟨?_,?_⟩
   ·unfold Bz readsC;rw[u];exact eX _ (by simp[HC])
   ·have:=s 0 (by omega);simpa using this
  ·split at hm
   ·rename_i D;have D:x.op=5:=by simpa using D
    rcases eZ.1 hm with hm|hm
    ·subst hm;refine⟨?_,8,rfl,by omega,by omega⟩;unfold Bz Bd;rw[D];exact eY _ (by simp[HC])
    ·unfold MX at hm;obtain⟨j,I,rfl⟩:=fG.1 hm;have I:=fK.1 I;rw[eR]at I;refine⟨?_,8+j,by dsimp only;omega,by omega,by omega⟩;have F:j < x.args.length:=by omega
     show x.args.getD j 0∈Bz x;rw[dT,dW F];unfold Bz readsC;rw[D];exact eX _ (eY _ (by simp[HC]))
   ·cases hm
theorem TR(j:List Int)(r:Int)(leaf:Bool):(leaf=aZ/\BD j r leaf=Ix [0])\/(leaf=aL/\j.contains r=aZ/\BD j r leaf=Ix [1,2])\/(leaf=aL/\j.contains r=aL/\BD j r leaf=Ix [0,1,2]):=by
 unfold BD;cases leaf
 ·cases j.contains r
  ·exact .inr (.inr ⟨rfl,rfl,rfl⟩)
  ·exact .inr (.inl ⟨rfl,rfl,rfl⟩)
 ·exact .inl ⟨rfl,rfl⟩
theorem OV(j:List Int)(r:Int)(leaf:Bool):7<=(BD j r leaf).length/\(BD j r leaf).length<=24/\(BD j r leaf).Nodup:=by
 rcases TR j r leaf with⟨_,h2⟩|⟨_,_,h2⟩|⟨_,_,h2⟩ <;> rw[h2] <;> decide
end Mu
namespace Mu
open Go Go.RowKit Go.Proofs Go.Maps
variable{A:List (Int×Int)}{G:gV}{a b:Int}{j k:Nat}{l:List iS}{n:Nat}
def RX(l:List iS)(k:Int):List Int:=l.flatMap λx=>if k=x.a then [x.b]else if k=x.b then [x.a]else []
theorem Pb:b∈RX l a↔∃x∈l,(a=x.a/\b=x.b)\/(a≠x.a/\a=x.b/\b=x.a):=by
 unfold RX;rw[fE];constructor
 ·rintro⟨x,hx,h⟩;refine⟨x,hx,?_⟩;split at h
  ·rename_i e;exact .inl ⟨e,fN.1 h⟩
  ·rename_i e;split at h
   ·rename_i s;exact .inr ⟨e,s,fN.1 h⟩
   ·cases h
 ·rintro⟨x,hx,⟨e,h⟩|⟨e,s,h⟩⟩
  ·exact⟨x,hx,by rw[if_pos e,h];exact fN.2 V⟩
  ·exact⟨x,hx,by rw[if_neg e,if_pos s,h];exact fN.2 V⟩
theorem Pc(k:Int):∀(l:List iS),(RX l k).length<=l.length
 | []=>iY _
 |x::l=>by
  have h:=Pc k l;unfold RX at h⊢;rw[dO,eJ,eK];have:(if k=x.a then [x.b]else if k=x.b then [x.a]else []).length<=1:=by
   split
   ·exact iY _
   ·split
    ·exact iY _
    ·exact jE _
  omega
theorem Wu(I:∀x∈l,x.a < x.b)(D:An4 l)(k:Int):(RX l k).Nodup:=by
 induction l with
 |nil=>exact fS
 |cons x l L=>
  unfold An4 at D;rw[fU]at D;have h1:=L (λy B=>I y (fA _ B)) D.2;have hx:=I x fB;show((if k=x.a then [x.b]else if k=x.b then [x.a]else [])++RX l k).Nodup;refine fQ.2 ⟨?_,h1,λp s q hq e=>?_⟩
  ·split
   ·simp
   ·split <;> simp
  ·subst e;obtain⟨y,B,u⟩:=Pb.1 hq;have F:=D.1 y B;have N:=I y (fA _ B);unfold ltP at F;split at s
   ·rename_i T;have s:=fN.1 s;rcases u with⟨h2,J⟩|⟨h2,J,O⟩ <;> omega
   ·split at s
    ·have s:=fN.1 s;rcases u with⟨h2,J⟩|⟨h2,J,O⟩ <;> omega
    ·cases s
theorem Mp{x:Int}(h:-1<=x/\x<=4294967296):Cl x:=by
 have h1:wfB .i64 x=aZ:=by
  unfold wfB;simp[Lit.wf,bG,bF,bH,bD];omega
 exact h1
theorem Ly{s:List Int}{r:Int}{leaf:Bool}{z:Int}(h:z∈BD s r leaf):4<=z/\z < 32:=by
 have u:∀y∈Aag++KL,4<=y/\y < 32:=by decide
 rw[Dh]at h;refine u z ?_;split at h
 ·exact eX _ h
 split at h
 ·exact eY _ h
 ·exact h
theorem Aqe{f:g9}(g:CV f=aL):(AK f).length<=60:=by
 unfold CV at g;rw[aV,decide_eq_false_iff_not]at g;omega
theorem LB{f:g9}(g:CV f=aL)(S:iS->Bool):(D7 (AK f) S).length<=3600:=by
 refine iZ (eL _ _) (iZ (KG _) ?_);have:(AK f).length *(AK f).length<=60 * 60:=i9 (Aqe g) (Aqe g);omega
theorem Er{f:g9}{S:iS->Bool}{x:iS}(hx:x∈D7 (AK f) S):x.a∈AK f/\x.b∈AK f/\x.a < x.b:=(D4 (CI f).1).1 (fD.1 hx).1
theorem QX{f:g9}(c:g8 f)(S:iS->Bool):Al8 (D7 (AK f) S):=λx hx=>by
 obtain⟨h1,h2,s⟩:=Er hx;exact⟨EW c.ok (Cx h1),EW c.ok (Cx h2),by omega⟩
theorem Ob{α β:Type}(n:Nat)(F:α->List β):∀(l:List α),(∀x∈l,(F x).length<=n)->(l.flatMap F).length<=n * l.length
 | [],_=>jE _
 |x::l,h=>by
  rw[dO,eJ,eK,i8];have h1:=Ob n F l λy s=>h y (fA _ s)
  have h2:=h x fB;omega
theorem Ra{f:g9}(g:CV f=aL)(leaf:Bool):(B8 f leaf).length<=1000000:=by
 have hb:=Nm g;unfold B8;rw[eJ,Sz];have u:=(GG f).2;have h1:=Ob 1750 (I9 (RQ leaf)) f.blocks λb s=>by
  have hi:=Uu g s;unfold I9;have h2:=Ob 7 (EH (RQ leaf)) b.ins λx _=>by
   unfold EH;split
   ·exact iW V
   ·split
    ·unfold MX;rw[eK,eM,eN,eR];omega
    ·exact jE _
  omega
 omega
theorem Yp(k:Int):∀(l:List hZ) {E:List (Int×List Int)},Ea E->∀z∈(getK (l.foldl NH E) k).getD [],z∈(getK E k).getD []\/∃h∈l,z=h.at_
 | [],_,_,z,s=>.inl s
 |h::l,E,u,z,s=>by
  rcases Yp k l (E:=NH E h) (u.put _ _) z s with h1|⟨q,hq,e⟩
  ·unfold NH at h1;rw[BH u]at h1;split at h1
   ·rename_i e;rcases eW.1 h1 with h2|h2
    ·exact .inl (by rw[e];exact h2)
    ·exact .inr ⟨h,fB,fN.1 h2⟩
   ·exact .inl h1
  ·exact .inr ⟨q,fA _ hq,e⟩
theorem YK(F:Int->List Int)(r:Int):∀(l:List Int) {E:List (Int×List Int)},Ea E->getK ((l.zip (l.map F)).foldl (λE p=>B6 E p.1 p.2) E) r=if r∈l then jK (F r)else getK E r
 | [],E,_=>by simp
 |x::l,E,s=>by
  rw[eT,List.zip_cons_cons,dQ,YK F r l (s.put _ _),BH s];by_cases h1:r∈l
  ·rw[if_pos h1,if_pos (fA _ h1)]
  ·rw[if_neg h1];by_cases h2:r=x
   ·rw[if_pos h2,if_pos (by rw[h2];exact fB),h2]
   ·rw[if_neg h2,if_neg λh=>by
     rcases eZ.1 h with h|h
     ·exact h2 h
     ·exact h1 h]
section
variable{f:g9}{lf:Bool}{ch:List Int}
theorem Hn(r:Int):Qv (Cr f lf ch) r=if r∈regsB f then BD (Ci f) r lf else []:=by
 unfold Qv;have h:=YK (λr=>BD (Ci f) r lf) r (regsB f) (E:=[]) Ea.nil;show(getK (clsE ((regsB f).zip (DU f lf (regsB f)))) r).getD []=_;unfold clsE DU;rw[h];split
 ·rfl
 ·rfl
theorem JQ(r:Int):LK (Cr f lf ch) r=RX (De f) r:=by
 unfold LK RX;exact PG (λx hx=>by have:=(Er hx).2.2;omega) r
theorem JP:b∈LK (Cr f lf ch) a↔(⟨a,b⟩:iS)∈De f\/(⟨b,a⟩:iS)∈De f:=by
 rw[JQ,Pb];constructor
 ·rintro⟨x,hx,⟨rfl,rfl⟩|⟨_,rfl,rfl⟩⟩
  ·exact .inl hx
  ·exact .inr hx
 ·rintro(h|h)
  ·exact⟨_,h,.inl ⟨rfl,rfl⟩⟩
  ·refine⟨_,h,.inr ⟨?_,rfl,rfl⟩⟩;have:=(Er h).2.2;dsimp only at this⊢;omega
theorem Ac5:SymG (Cr f lf ch) where
 sym:=λa b h=>JP.2 (JP.1 h).symm
 irr:=λa h=>by
  rcases JP.1 h with h|h <;> exact absurd (Er h).2.2 (by dsimp only;omega)
theorem Afa(r:Int):(LK (Cr f lf ch) r).length<=((regsB f).filter λy=>Eq f r y).length:=by
 rw[JQ];refine Dc (Wu (λx hx=>(Er hx).2.2) (Aal f) r) λb hb=>?_
 rw[<-JQ (lf:=lf) (ch:=ch)]at hb;rw[fD];rcases JP.1 hb with h|h
 ·obtain⟨_,h2,_,s⟩:=L4.1 h;exact⟨Cx h2,s⟩
 ·obtain⟨h1,_,_,s⟩:=L4.1 h;exact⟨Cx h1,by rw[KF];exact s⟩
theorem Aj2(c:g8 f)(g:CV f=aL)(u:∀r∈ch,r∈AK f)(B:ch.length<=1000):iN (Cr f lf ch) where
 regs:=λr s=>EW c.ok s
 len:=by
  have:=JE g;show(regsB f).length<=_;omega
 cheap:=by
  show ch.length<=_;omega
 cheapw:=λr s=>EW c.ok (Cx (u r s))
 near:=λr k hk=>by
  rcases JP.1 hk with h|h
  ·exact EW c.ok (Cx (Er h).2.1)
  ·exact EW c.ok (Cx (Er h).1)
 nearl:=λr=>by
  show(LK (Cr f lf ch) r).length<=_;rw[JQ];have h1:=Pc r (De f);have h2:=LB g (Hh f);have e:De f=D7 (AK f) (Hh f):=rfl;rw[<-e]at h2;omega
 mov:=λr=>by
  have e:(getK (Cr f lf ch).moves r).getD []=RX (mvL f) r:=PG (λx hx=>by have:=(Er hx).2.2;omega) r;rw[e];have h1:=Pc r (mvL f);have h2:=LB g (mvK f (stepsL f).length);have D:mvL f=D7 (AK f) (mvK f (stepsL f).length):=rfl;rw[<-D]at h2;refine⟨λk hk=>?_,by omega⟩;obtain⟨x,hx,⟨_,rfl⟩|⟨_,_,rfl⟩⟩:=Pb.1 hk
  ·exact EW c.ok (Cx (Er hx).2.1)
  ·exact EW c.ok (Cx (Er hx).1)
 lik:=λr=>by
  show(∀k∈(getK (NP (B8 f lf)) r).getD [],Cl k)/\((getK (NP (B8 f lf)) r).getD []).length<=_;refine⟨λk hk=>?_,?_⟩
  ·rcases Yp r (B8 f lf) (E:=[]) Ea.nil k hk with h|⟨q,hq,rfl⟩
   ·cases h
   ·obtain⟨_,n,e,h1,_⟩:=Af6 hq;rw[e];exact Mp ⟨by omega,by omega⟩
  ·have h1:=Ur (B8 f lf) r;have h2:=Ra g lf;omega
 cl:=λr=>by
  show(∀k∈Qv (Cr f lf ch) r,Cl k)/\(Qv (Cr f lf ch) r).length<=_;rw[Hn];split
  ·have h1:=OU (Ci f) r lf;refine⟨λk hk=>?_,by omega⟩;exact Mp (by have:=Ly hk;omega)
  ·exact⟨λk hk=>(by cases hk),jE _⟩
end
theorem XM{G:gV}(hc:∀r,∀p∈Qv G r,p < 32)(B:SymG G):∀(l:List Int) {s:List (Int×Int)×Int} {Q:Int->Prop},SltQ G s Q->l.Nodup->(∀x∈l,¬Q x)->(l.foldl (IL G) s).2<=s.2+(l.length:Int)
 | [],s,Q,_,_,_=>by simp
 |r::l,s,Q,h,u,hq=>by
  rw[fR]at u;have h1:=XM hc B l (h.next B (hq r fB)) u.2 λx hx hh=>by
   rcases hh with hh|hh
   ·exact hq x (fA _ hx) hh
   ·exact u.1 (hh▸hx)
  have h2:(IL G s r).2<=s.2+1:=by
   obtain⟨_,_,I⟩:=Ms G s.1 r;have J:=h.pos;show max s.2 ((slotN G s.1 r:Int)+1)<=_;have L:(slotN G s.1 r:Int)<=s.2:=by
    refine Int.not_lt.1 λF=>?_
    have D:=I s.2.toNat (by omega);rw[Jg.2 λk _ e=>?_]at D
    ·cases D
    ·rcases h.cl k _ e with h6|h6
     ·have:=hc k _ h6;omega
     ·omega
   omega
  rw[dQ,eK];omega
theorem Adv{l:List (Int×Int)}(h:Ea l)(r p:Int):l.length<=(B6 l r p).length:=by
 have h1:=Dc (Cn h) (m:=keysK (B6 l r p)) λx hx=>by
  refine CK.2 ?_;rw[BH h];split
  ·rfl
  ·exact CK.1 hx
 simpa[keysK]using h1
theorem QY{G:gV}(L:SymG G)(m:Nat)(I:∀r∈G.regs,(Qv G r).Nodup/\m<=(Qv G r).length):∀(l:List Int),(∀x∈l,x∈G.regs)->∀{s:List (Int×Int)×List Int} {Q:Int->Prop},PntQ G s Q->(s.2= []\/m<=s.1.length)->((l.foldl (ED G) s).2= []\/m<=(l.foldl (ED G) s).1.length)
 | [],_,s,Q,_,h=>h
 |r::l,J,s,Q,B,h=>by
  refine QY L m I l (λx hx=>J x (fA _ hx)) (B.next L r) ?_;unfold ED;cases hk:MC G s.1 r with
  |some p=>
   rcases h with h|h
   ·exact .inl h
   ·exact .inr (iZ h (Adv B.asc r p))
  |none=>
   refine .inr ?_;show m<=s.1.length;obtain⟨h1,h2⟩:=I r (J r fB);unfold MC at hk;rw[dN]at hk;have F:=Dc h1 (m:=s.1.map (·.2)) λp u=>by
    have hc:p∈D6 G s.1 r:=by
     unfold D6 Y9;refine fD.2 ⟨?_,cV.2 u⟩;simp only[eW];exact .inr u
    have N:=hk p hc;refine a7 λD=>N (Jg.2 λk _ e=>D ?_)
    exact fG.2 ⟨(k,p),(CH B.asc).1 e,rfl⟩
   rw[eM]at F;omega
theorem Wp(B:iN G)(F:SymG G)(m:Nat)(D:∀r∈G.regs,(Qv G r).Nodup/\m<=(Qv G r).length)(out:List (Int×Int)):(BF G out).2= []\/m+(BF G out).2.length<=(CR G out).length:=by
 have h:=QY F m D (CR G out).reverse (λx hx=>(H5 B.toOkG x (fM.1 hx)).1) (s:=([],[])) (Q:=λ_=>False) ⟨Ea.nil,λa p h=>(by cases h),λr p h=>(by cases h),λr h=>(by cases h),λr h=>h.elim⟩ (.inl V);have u:=(JK B out _ (iY _)).len;rw[MD]at u;rcases h with h|h
 ·exact .inl h
 ·have h:m<=(BF G out).1.length:=h;exact .inr (by omega)
theorem Afn(s:OkG G)(out:List (Int×Int)):(H7 G out).length<=NO G out:=by
 have h0:=LR out s.regs;have h1:=F7 G h0 (keysK (EB G.regs out)) (Cn h0.1) λq hq=>hq
 have h2:=Dc (Cn (show Ea (H7 G out)from h1.1.1)) (m:=G.regs.filter λx=>(getK out x).getD 0 ==0) λx hx=>by
  obtain⟨B,u⟩:=MJ s out x (CK.1 hx);exact fD.2 ⟨B,by rw[u];rfl⟩
 simpa[keysK,NO]using h2
theorem Ajv{out:List (Int×Int)}(B:Ea out)(h1:∀x v,getK out x=jK v->v=1)(u:∀x∈keysK out,x∈G.regs):out.length+NO G out<=G.regs.length:=by
 have h2:=Dc (Cn B) (m:=G.regs.filter λx=>!((getK out x).getD 0 ==0)) λx hx=>by
  obtain⟨v,s⟩:=jG.1 (CK.1 hx);refine fD.2 ⟨u x hx,?_⟩;rw[s,h1 x v s];rfl
 have F:out.length=(keysK out).length:=by simp[keysK]
 rw[<-F]at h2;have D:∀(l:List Int),(l.filter λx=>(getK out x).getD 0 ==0).length+(l.filter λx=>!((getK out x).getD 0 ==0)).length=l.length:=by
  intro l;induction l with
  |nil=>rfl
  |cons x l I=>
   rw[dH,dH,eK];cases(getK out x).getD 0 ==0
   ·simp only[aS,zax];simp only[aN,if_false];omega
   ·simp only[aU,zax];simp only[aN,if_false];omega
 have J:=D G.regs;unfold NO;omega
theorem Aej(l:List Int):∀(o:List (Int×Int)),(l.foldl (λo r=>B6 o r 1) o).length<=o.length+l.length:=by
 induction l with
 |nil=>intro o;exact iY _
 |cons r l s=>
  intro o;have h1:=s (B6 o r 1);have h2:=EZ (l:=o) r 1;rw[dQ,eK];omega
theorem Aou(s:iN G)(B:SymG G)(m:Nat)(u:∀r∈G.regs,(Qv G r).Nodup/\m<=(Qv G r).length):∀n,(∀k,k < n->(BF G (DL G k)).2≠[])->DL G n= []\/(DL G n).length+m<=G.regs.length
 |0,_=>.inl V
 |n+1,h=>.inr (by
  have h1:=(Wp s B m u (DL G n)).resolve_left (h n (i6 n));have h2:=KH (G:=G) (H7 G (DL G n)).length (H7 G (DL G n)) [];have J:=Afn s.toOkG (DL G n);have I:=Ajv (Gt s.toOkG n).1 (LG s.toOkG n) (JL s.toOkG n);have F:(DL G (n+1)).length<=_:=Aej (BF G (DL G n)).2 (DL G n);have D:(CR G (DL G n)).length<=(H7 G (DL G n)).length:=by
   unfold CR;simpa using h2
  omega)
def atP(n:Nat)(A:List (Int×Int)):List Int:=(fY n).map λ(k:Nat)=>(getK A (k:Int)).getD (-1)
theorem Xf(n:Nat)(A:List (Int×Int)):(atP n A).length=n:=by simp[atP]
theorem Xg(h:k < n):(atP n A)[k]? =jK ((getK A (k:Int)).getD (-1)):=by
 unfold atP;rw[dZ,eB h];rfl
def atK(n:Nat)(A:List (Int×Int))(j:Nat):List Int:=(fY n).map λ(k:Nat)=>if k < j then(getK A (k:Int)).getD (-1)else 0
theorem KO(n:Nat)(A:List (Int×Int))(j:Nat):(atK n A j).length=n:=by simp[atK]
theorem Sx(h:k < n):(atK n A j)[k]? =jK (if k < j then(getK A (k:Int)).getD (-1)else 0):=by
 unfold atK;rw[dZ,eB h];rfl
theorem Alu(n:Nat)(A:List (Int×Int)):gE n (0:Int)=atK n A 0:=by
 refine dE λk=>?_
 by_cases h:k < n
 ·rw[Sx h,eC,if_pos h];rfl
 ·rw[dX (by simp;omega),dX (by rw[KO];omega)]
theorem Aqt(n:Nat)(A:List (Int×Int)):atK n A n=atP n A:=by
 refine dE λk=>?_
 by_cases h:k < n
 ·rw[Sx h,Xg h,if_pos h]
 ·rw[dX (by rw[KO];omega),dX (by rw[Xf];omega)]
theorem Aqs(s:j < n):(atK n A j).set j ((getK A (j:Int)).getD (-1))=atK n A (j+1):=by
 refine dE λk=>?_
 by_cases h:k < n
 ·rw[Sx h];by_cases e:j=k
  ·subst e;rw[eF (by rw[KO];exact s),if_pos (i6 _)]
  ·rw[eE e,Sx h];by_cases h1:k < j
   ·rw[if_pos h1,if_pos (by omega)]
   ·rw[if_neg h1,if_neg (by omega)]
 ·rw[dX (by rw[eQ,KO];omega),dX (by rw[KO];omega)]
theorem Aeq{f:g9}{lf:Bool}{slots:Int}(h0:0<=f.regs)(h1:f.regs<=4096)(D:∀r p,getK A r=jK p->Cl p):(If f A lf slots).to ⟨lf,slots,atP f.regs.toNat A⟩:=by
 obtain⟨n,u⟩:∃n,n=f.regs.toNat:=⟨_,rfl⟩
 unfold If;rw[<-u];refine Ae (by unfold VO cC;simp only[zaf];omega) (Am (a:=atP n A) ?_ (Ag _));have e0:((0:Int),gE n (0:Int))=(((0:Nat):Int),atK n A 0):=by rw[<-Alu];rfl
 rw[e0];refine BN (λk:Nat=>((k:Int),atK n A k)) n (λk hk=>?_) ?_ (jE _)
 ·have B:Ch (atK n A k) (k:Int)=aZ:=LX (by rw[KO];exact hk);have s:Ch ((atK n A k).set (Int.toNat (k:Int)) (-1)) (k:Int)=aZ:=LX (by rw[eQ,KO];exact hk);simp only[E1];rw[<-u];refine AI (decide_eq_true (by rw[eO];omega)) (Am (a:=atK n A (k+1)) (Ae B (Ae (Mp ⟨by omega,by omega⟩) ?_)) ?_)
  ·rw[cF,<-Aqs hk];cases hg:getK A (k:Int)with
   |none=>exact AA V (Ag _)
   |some p=>
    refine AI V (Ae s (Ae (D _ p hg) ?_));rw[List.set_set];exact Ag _
  ·rw[w23 hk (by omega)];exact Ag _
 ·simp only[E1];rw[<-u,<-Aqt];exact AA (decide_eq_false (by rw[eO];omega)) (Ag _)
structure RightP(f:Func)(p:Plan):Prop where
 may:IB f=true
 len:(p.at_.length:Int)=f.regs
 pos:0<=p.slots
 lf:p.leaf=true->leaf f.blocks=true/\p.slots=0
 reg:∀(j:Nat) x,p.at_[j]? =some x->(j:Int)∈regsB f->x∈BD (Ci f) (j:Int) p.leaf\/(32<=x/\x < 32+p.slots)
 non:∀(j:Nat) x,p.at_[j]? =some x->(j:Int)∉regsB f->x= -1
 use:∀z,32<=z->z < 32+p.slots->z∈p.at_
 apart:∀x∈De f,ixD p.at_ x.a≠ixD p.at_ x.b
theorem Tu{f:g9}{p:iT}(hw:∀x∈p.at_,Cl x):Fp f p=aZ↔RightP f p:=by
 constructor
 ·intro h;have h0:=h;unfold Fp at h0;simp only[aI,aR,cL,fK]at h0;obtain⟨⟨u,F⟩,B,T⟩:=h0;have Z:=u;unfold ZM at u;simp only[aV,aH,aP,decide_eq_false_iff_not]at u;obtain⟨⟨⟨h1,h2⟩,h3⟩,U⟩:=u;have I:0<=p.slots:=by omega
  have D:p.leaf=aZ->leaf f.blocks=aZ/\p.slots=0:=λJ=>by
   rcases U with U|⟨h5,h6⟩
   ·rw[J]at U;cases U
   ·exact⟨h5,by omega⟩
  have L:∀j,j < p.at_.length->Ahk f p j=aL:=λj hj=>by
   have:=YS (f:=f) hw (λJ=>(D J).2) hj;rw[F j hj]at this;simpa using this.symm
  refine⟨h1,by simpa using h2,I,D,λj x hx Y=>?_,λj x hx Y=>?_,λz ac ab=>?_,λx hx e=>?_⟩
  ·have hb:=L j (dY.1 hx).1;unfold Ahk OW at hb;rw[B7 hx,cV.2 Y]at hb;simp only[aU,aM,aO,a6,aP]at hb;have W:Cl x:=hw x (fH hx);split at hb
   ·rename_i N;rw[aI,decide_eq_true_eq]at hb;have N:=of_decide_eq_true N;exact .inr ((IM W).1 (by unfold NJ;rw[aI,decide_eq_true_eq,decide_eq_true_eq];exact⟨N,hb.2⟩))
   ·exact .inl (cV.1 hb)
  ·have hb:=L j (dY.1 hx).1;unfold Ahk at hb;have hc:(regsB f).contains (j:Int)=aL:=by
    cases e:(regsB f).contains (j:Int)with
    |false=>rfl
    |true=>exact absurd (cV.1 e) Y
   rw[B7 hx,hc]at hb;simpa using hb
  ·rw[So hw I,aR,cN]at B;have:=B (z - 32).toNat (fK.2 (by omega));rw[show 32+(((z - 32).toNat:Nat):Int)=z by omega]at this;simpa using this
  ·rw[cN]at T;refine T x hx ?_;unfold OF;rw[e];simp
 ·intro H;have u:ZM f p=aL:=by
   unfold ZM;rw[H.may,decide_eq_false (by have:=H.pos;omega:¬p.slots < 0),show((p.at_.length:Int) !=f.regs)=aL by rw[H.len];simp];cases J:p.leaf with
   |false=>rfl
   |true=>
    rw[(H.lf J).1,(H.lf J).2];rfl
  refine(V5 u λj x hx=>?_).trans ?_
  ·have aa:=(dY.1 hx).1;have F:=YS (f:=f) hw (λJ=>(H.lf J).2) aa;rw[show p.at_.getD j 0=x by rw[dT,hx];rfl]at F;rw[F];unfold Ahk OW;rw[B7 hx];cases hc:(regsB f).contains (j:Int)with
   |false=>
    rw[H.non j x hx λh=>by rw[cV.2 h]at hc;cases hc];rfl
   |true=>
    rcases H.reg j x hx (cV.1 hc)with h1|h1
    ·have:=Ly h1;rw[decide_eq_false (by omega:¬x≥32)];have h1:=cV.2 h1;simp only[aU,aM,aO,a6,aN,if_false,aT];exact h1
    ·have D:p.leaf=aL:=by
      cases e:p.leaf with
      |false=>rfl
      |true=>have:=(H.lf e).2;omega
     have h2:=(IM (hw x (fH hx))).2 h1;unfold NJ at h2;rw[aI]at h2;rw[h2.1,h2.2,D];rfl
  ·rw[So hw H.pos,aI,aR,aR,cN,cN];refine⟨λs O=>?_,λx hx O=>?_⟩
   ·have O:=fK.1 O;have:=H.use (32+(s:Int)) (by omega) (by have:=H.pos;omega);simpa using this
   ·unfold OF at O;exact H.apart x hx (eq_of_beq O)
theorem QU{f:g9}{lf:Bool}{ch:List Int}{slots:Int}(W:IB f=aZ)(H:SltQ (Cr f lf ch) (A,slots) λx=>x∈regsB f)(hl:lf=aZ->leaf f.blocks=aZ/\slots=0)(hs:slots<=100000):
 Fp f ⟨lf,slots,atP f.regs.toNat A⟩=aZ/\∀x∈atP f.regs.toNat A,Cl x:=by
 have T:0<=f.regs/\f.regs<=4096:=by
  have h:=W;unfold IB Aj4 at h;simp only[zan]at h;omega
 have L:0<=slots:=H.pos;have J:∀r p,getK A r=jK p->-1<=p/\p<=4294967296:=λr p h=>by
  rcases H.cl r p h with h1|h1
  ·rw[Hn]at h1;split at h1
   ·have:=Ly h1;omega
   ·cases h1
  ·have h1:32<=p/\p < 32+slots:=h1;omega
 have I:∀x∈atP f.regs.toNat A,Cl x:=λx hx=>by
  obtain⟨k,_,rfl⟩:=fG.1 hx;cases hg:getK A (k:Int)with
  |none=>exact Mp ⟨by simp,by simp⟩
  |some p=>exact Mp (J _ p hg)
 refine⟨?_,I⟩;have B:∀r,r∈regsB f->∃p,getK A r=jK p/\(atP f.regs.toNat A)[r.toNat]? =jK p/\0<=r/\r.toNat < f.regs.toNat:=λr s=>by
  obtain⟨h1,h2⟩:=Afe W s;obtain⟨p,u⟩:=jG.1 ((H.key r).2 s);refine⟨p,u,?_,h1,by omega⟩;rw[Xg (by omega),show((r.toNat:Nat):Int)=r by omega,u];rfl
 have D:∀(j:Nat) x,(atP f.regs.toNat A)[j]? =jK x->x=(getK A (j:Int)).getD (-1):=λj x hx=>by
  have Y:=(dY.1 hx).1;rw[Xf]at Y;rw[Xg Y]at hx;exact(Option.some.inj hx).symm
 refine(Tu I).2 ⟨W,?_,L,hl,λj x hx s=>?_,λj x hx s=>?_,λz O N=>?_,λx hx e=>?_⟩
 ·show((atP f.regs.toNat A).length:Int)=_;rw[Xf];omega
 ·obtain⟨p,u,_⟩:=B _ s;have e:=D j x hx;rw[u]at e;have e:x=p:=e;subst e;rcases H.cl _ _ u with h1|h1
  ·rw[Hn,if_pos s]at h1;exact .inl h1
  ·exact .inr h1
 ·have e:=D j x hx;cases hg:getK A (j:Int)with
  |none=>rw[hg]at e;exact e
  |some v=>exact absurd ((H.key (j:Int)).1 (by show(getK A (j:Int)).isSome=aZ;rw[hg];rfl)) s
 ·obtain⟨r,s⟩:=H.use z O N;have s:getK A r=jK z:=s;obtain⟨p,u,F,_⟩:=B r ((H.key r).1 (by show(getK A r).isSome=aZ;rw[s];rfl));rw[s]at u;cases u;exact fH F
 ·obtain⟨h1,h2,h3⟩:=Er hx;obtain⟨p,u,F,aa,_⟩:=B x.a (Cx h1);obtain⟨q,hq,U,Z,_⟩:=B x.b (Cx h2);have e:ixD (atP f.regs.toNat A) x.a=ixD (atP f.regs.toNat A) x.b:=e;rw[show ixD (atP f.regs.toNat A) x.a=p by rw[show x.a=((x.a.toNat:Nat):Int)by omega];exact B7 F,show ixD (atP f.regs.toNat A) x.b=q by rw[show x.b=((x.b.toNat:Nat):Int)by omega];exact B7 U]at e;subst e;exact H.nocl x.a p u x.b (JP.2 (.inl hx)) hq
end Mu
namespace Mu
open Go Go.RowKit Go.Proofs
variable{at':Nat}{h:Int}{i:Nat}{ks l:List Int}{n:Nat}{ord:List Int}{p:Int->Bool}{q:Nat}{r1:List Int}{x:Int}{α:Type}
noncomputable section
end
inductive RchF(f:Func)(no:Int):Int->Prop
 |start:no≠0->0 < f.blocks.length->RchF f no 0
 |step {a b:Int}:RchF f no a->b∈nextL f a->b≠no->RchF f no b
theorem RchF.lt{f:g9}{no b:Int}(h:RchF f no b):0<=b/\b.toNat < f.blocks.length:=by
 cases h with
 |start _ h=>exact⟨by omega,by simpa using h⟩
 |step _ h _=>exact EY h
theorem Yl{l:List Bool}{k b:Int}(hk:0<=k)(s:k.toNat < l.length)(hb:0<=b):ixD (l.set k.toNat aZ) b=(a8 (b=k)||ixD l b):=by
 unfold ixD;rw[dT,dT,eD];by_cases h:b=k
 ·subst h;rw[if_pos V,if_pos s];simp
 ·rw[if_neg (by omega)];simp[h]
structure Dfs(f:Func)(no:Int)(come:List Bool)(st:List FStep)(left:List Int):Prop where
 len:come.length=f.blocks.length
 els:∀e∈st,∃d,nextL f e.b=d++e.next/\∀k∈d,k=no\/ixD come k=true
 mem:∀b:Int,0<=b->(ixD come b=true↔b∈left\/b∈st.map (·.b))
 rch:∀b,b∈left\/b∈st.map (·.b)->RchF f no b
 nod:(left++st.map (·.b)).Nodup
 done:∀b∈left,∀k∈nextL f b,k=no\/ixD come k=true
 par:∀b∈left,b=0\/∃k,b∈nextL f k/\(k∈st.map (·.b)\/∃l1 l2 l3,left=l1++b::(l2++k::l3))
 chain:∀s e1 e2 s',st=s++e1::e2::s'->e2.b∈nextL f e1.b
 bot:∀e s,st=e::s->e.b=0
 zero:ixD come 0=true
variable{f:g9}{no:Int}{come:List Bool}{s:List gY}{left:List Int}{b k:Int}{r:List Int}
theorem Dfs.pop(H:Dfs f no come (s++[⟨b,[]⟩]) left):Dfs f no come s (left++[b]):=by
 have B:(s++[(⟨b,[]⟩:gY)]).map (·.b)=s.map (·.b)++[b]:=by simp
 have O:=H.mem;have J:=H.rch;have N:=H.nod;have L:=H.par;rw[B]at O J N L;refine⟨H.len,λe Y=>H.els e (eX _ Y),λc hc=>?_,λc hc=>J c ?_,?_,λc hc=>?_,λc hc=>?_,λt D Z t' e=>H.chain t D Z (t'++[⟨b,[]⟩]) (by rw[e];simp),λe t ht=>H.bot e (t++[⟨b,[]⟩]) (by rw[ht];simp),H.zero⟩
 ·rw[O c hc];simp only[eW,fN];constructor
  ·rintro(h|h|h)
   ·exact .inl (.inl h)
   ·exact .inr h
   ·exact .inl (.inr h)
  ·rintro((h|h)|h)
   ·exact .inl h
   ·exact .inr (.inr h)
   ·exact .inr (.inl h)
 ·simp only[eW,fN]at hc⊢;rcases hc with(h|h)|h
  ·exact .inl h
  ·exact .inr (.inr h)
  ·exact .inr (.inl h)
 ·rw[cP];exact(List.Perm.append_left left (List.perm_append_comm)).nodup_iff.1 N
 ·rcases eW.1 hc with h|h
  ·exact H.done c h
  ·rw[fN]at h;subst h;obtain⟨d,h1,h2⟩:=H.els ⟨c,[]⟩ (by simp);intro j T;rw[show nextL f c=d from by simpa using h1]at T;exact h2 j T
 ·rcases eW.1 hc with h|h
  ·rcases L c h with h0|⟨q,h1,h2⟩
   ·exact .inl h0
   ·refine .inr ⟨q,h1,?_⟩;rcases h2 with h2|⟨I,F,W,e⟩
    ·rcases eW.1 h2 with h2|h2
     ·exact .inl h2
     ·rw[fN]at h2;subst h2;obtain⟨I,F,e⟩:=List.append_of_mem h;exact .inr ⟨I,F,[],by rw[e];simp⟩
    ·exact .inr ⟨I,F,W++[b],by rw[e];simp⟩
  ·rw[fN]at h;subst h;rcases dC s with u|⟨U,D,u⟩
   ·exact .inl (H.bot ⟨c,[]⟩ [] (by rw[u];rfl))
   ·rw[cT]at u;refine .inr ⟨D.b,H.chain U D ⟨c,[]⟩ [] (by rw[u];simp),.inl (by rw[u];simp)⟩
theorem Dfs.skip(H:Dfs f no come (s++[⟨b,k::r⟩]) left)(hk:k=no\/ixD come k=aZ):Dfs f no come (s++[⟨b,r⟩]) left:=by
 have u:(s++[(⟨b,k::r⟩:gY)]).map (·.b)=(s++[(⟨b,r⟩:gY)]).map (·.b):=by simp
 have O:=H.mem;have J:=H.rch;have N:=H.nod;have L:=H.par;rw[u]at O J N L;refine⟨H.len,λe T=>?_,O,J,N,H.done,L,λt B D t' e=>?_,λe t ht=>?_,H.zero⟩
 ·rcases eW.1 T with h|h
  ·exact H.els e (eX _ h)
  ·rw[fN]at h;subst h;obtain⟨d,h1,h2⟩:=H.els ⟨b,k::r⟩ (by simp);refine⟨d++[k],by rw[h1];simp,λj hj=>?_⟩;rcases eW.1 hj with hj|hj
   ·exact h2 j hj
   ·rw[fN]at hj;subst hj;exact hk
 ·rcases dC t' with ht|⟨I,U,ht⟩
  ·subst ht;have F:s++[(⟨b,r⟩:gY)]=(t++[B])++[D]:=by rw[e];simp
   obtain⟨h1,h2⟩:=cQ F V;cases h2;exact H.chain t B ⟨b,k::r⟩ [] (by rw[h1];simp)
  ·rw[cT]at ht;subst ht;have F:s++[(⟨b,r⟩:gY)]=(t++B::D::I)++[U]:=by rw[e];simp
   obtain⟨h1,h2⟩:=cQ F V;exact H.chain t B D (I++[⟨b,k::r⟩]) (by rw[h1];simp)
 ·cases s with
  |nil=>
   cases ht;exact H.bot ⟨b,k::r⟩ [] V
  |cons e0 s=>
   cases ht;exact H.bot e (s++[⟨b,k::r⟩]) V
theorem Dfs.push(H:Dfs f no come (s++[⟨b,k::r⟩]) left)(hc:ixD come k=aL)(Y:k≠no):Dfs f no (come.set k.toNat aZ) (s++[⟨b,r⟩]++[⟨k,nextL f k⟩]) left:=by
 obtain⟨W,I,aa⟩:=H.els ⟨b,k::r⟩ (by simp);have F:k∈nextL f b:=by rw[show nextL f b=W++k::r from I];simp
 have hk:=EY F;have Z:k.toNat < come.length:=by rw[H.len];exact hk.2
 have D:∀c:Int,0<=c->ixD (come.set k.toNat aZ) c=(a8 (c=k)||ixD come c):=λc h=>Yl hk.1 Z h
 have u:∀c a:Int,c∈nextL f a->(c=no\/ixD come c=aZ)->c=no\/ixD (come.set k.toNat aZ) c=aZ:=λc a ha h=>by
  rcases h with h|h
  ·exact .inl h
  ·refine .inr ?_;rw[D c (EY ha).1,h,aY]
 have B:(s++[(⟨b,r⟩:gY)]++[(⟨k,nextL f k⟩:gY)]).map (·.b)=(s++[(⟨b,k::r⟩:gY)]).map (·.b)++[k]:=by simp
 have ab:RchF f no b:=H.rch b (.inr (by simp));refine⟨by rw[eQ];exact H.len,λe he=>?_,λc h0=>?_,λc h=>?_,?_,λc h j hj=>u j c hj (H.done c h j hj),λc h=>?_,λt L U t' e=>?_,λe t ht=>?_,?_⟩
 ·rcases eW.1 he with he|he
  ·rcases eW.1 he with he|he
   ·obtain⟨d,h1,h2⟩:=H.els e (eX _ he);exact⟨d,h1,λj hj=>u j e.b (by rw[h1];exact eX _ hj) (h2 j hj)⟩
   ·rw[fN]at he;subst he;refine⟨W++[k],by rw[show nextL f b=W++k::r from I];simp,λj hj=>?_⟩;rcases eW.1 hj with hj|hj
    ·exact u j b (by rw[show nextL f b=W++k::r from I];exact eX _ hj) (aa j hj)
    ·rw[fN]at hj;subst hj;exact .inr (by rw[D j hk.1];simp)
  ·rw[fN]at he;subst he;exact⟨[],rfl,λj hj=>by cases hj⟩
 ·rw[D c h0,B];by_cases N:c=k
  ·subst N;simp
  ·have:=H.mem c h0;simp only[N,decide_false,aO,eW,fN,or_false]at this⊢;exact this
 ·rw[B]at h;rcases h with h|h
  ·exact H.rch c (.inl h)
  ·rcases eW.1 h with h|h
   ·exact H.rch c (.inr h)
   ·rw[fN]at h;subst h;exact ab.step F Y
 ·rw[B,<-cP];refine fQ.2 ⟨H.nod,by simp,λa ha c O=>?_⟩;rw[fN]at O;subst O;intro e;subst e;have:=(H.mem a hk.1).2 (eW.1 ha);rw[hc]at this;cases this
 ·rcases H.par c h with h0|⟨q,h1,h2⟩
  ·exact .inl h0
  ·refine .inr ⟨q,h1,?_⟩;rcases h2 with h2|h2
   ·exact .inl (by rw[B];exact eX _ h2)
   ·exact .inr h2
 ·rcases dC t' with ht|⟨t0,e3,ht⟩
  ·subst ht;have e':(s++[(⟨b,r⟩:gY)])++[⟨k,nextL f k⟩]=(t++[L])++[U]:=by rw[e];simp
   obtain⟨h1,h2⟩:=cQ e' V;obtain⟨_,T⟩:=cQ h1 V;cases h2;cases T;exact F
  ·rw[cT]at ht;subst ht;have e':(s++[(⟨b,r⟩:gY)])++[⟨k,nextL f k⟩]=(t++L::U::t0)++[e3]:=by rw[e];simp
   obtain⟨h1,_⟩:=cQ e' V;rcases dC t0 with ht|⟨t1,e4,ht⟩
   ·subst ht;have J:s++[(⟨b,r⟩:gY)]=(t++[L])++[U]:=by rw[h1];simp
    obtain⟨T,h4⟩:=cQ J V;cases h4;exact H.chain t L ⟨b,k::r⟩ [] (by rw[T];simp)
   ·rw[cT]at ht;subst ht;have J:s++[(⟨b,r⟩:gY)]=(t++L::U::t1)++[e4]:=by rw[h1];simp
    obtain⟨T,_⟩:=cQ J V;exact H.chain t L U (t1++[⟨b,k::r⟩]) (by rw[T];simp)
 ·cases s with
  |nil=>
   cases ht;exact H.bot ⟨b,k::r⟩ [] V
  |cons e0 s=>
   cases ht;exact H.bot e (s++[⟨b,k::r⟩]) V
 ·rw[D 0 (cE 0),H.zero,aY]
def muD(q:List Bool×List gY×List Int):Nat:=4 *(q.1.filter λc=>!c).length+(q.2.1.map λe=>e.next.length+1).sum
theorem Hc(B:l.Nodup)(u:∀b∈l,0<=b/\b.toNat < n):l.length<=n:=by
 have:=E7 (m:=(fY n).map Int.ofNat) B λb hb=>by
  obtain⟨h0,h1⟩:=u b hb;exact fG.2 ⟨b.toNat,fK.2 h1,by show((b.toNat:Nat):Int)=b;omega⟩
 simpa using this
theorem Dfs.few(H:Dfs f no come s left):left.length+s.length<=f.blocks.length:=by
 have:=Hc H.nod λc hc=>(H.rch c (eW.1 hc)).lt
 simpa using this
theorem Yx:∀{l:List Bool} {i:Nat},l[i]? =jK aL->((l.set i aZ).filter λc=>!c).length+1=(l.filter λc=>!c).length
 | [],i,h=>by simp at h
 |c::l,0,h=>by
  simp at h;subst h;simp
 |c::l,i+1,h=>by
  have u:=Yx (l:=l) (i:=i) (by simpa using h);cases c <;> simp[u]
theorem Afw{l:List Bool}{k:Int}(h:k.toNat < l.length)(hc:ixD l k=aL):l[k.toNat]? =jK aL:=by
 unfold ixD at hc;rw[dT,dW h]at hc;rw[dW h];exact congrArg jK hc
structure WalkP(f:Func)(no:Int)(l:List Int):Prop where
 nod:l.Nodup
 mem:∀b,b∈l↔RchF f no b
 par:∀b∈l,b=0\/∃k,b∈nextL f k/\∃l1 l2 l3,l=l1++b::(l2++k::l3)
theorem Dfs.fin(H:Dfs f no come [] left):WalkP f no left:=by
 have u:=(H.mem 0 (cE 0)).1 H.zero;simp only[eV,fT,or_false]at u;refine⟨by simpa using H.nod,λb=>⟨λh=>H.rch b (.inl h),λh=>?_⟩,λb hb=>?_⟩
 ·induction h with
  |start _ _=>exact u
  |@step a b h1 h2 D B=>
   rcases H.done a B b h2 with e|e
   ·exact absurd e D
   ·have:=(H.mem b (EY h2).1).1 e;simpa using this
 ·rcases H.par b hb with h|⟨k,h1,h2⟩
  ·exact .inl h
  ·rcases h2 with h2|h2
   ·simp at h2
   ·exact .inr ⟨k,h1,h2⟩
theorem Ayn{s:List α}{e:α}(h:s.length<=2097152):bE.wrap ((((s++[e]).length:Nat):Int) - 1)=(s.length:Int):=by
 rw[bI _ (by simp;omega)];simp
theorem Akk[Inhabited α](s:List α)(e:α):ixD (s++[e]) (s.length:Int)=e:=B7 (k:=s.length) (by simp)
theorem Acq(c:g8 f):∀q,Dfs f no q.1 q.2.1 q.2.2->∃r,(iG (Fz f no) q).to r/\WalkP f no r:=by
 refine iI (λq=>Dfs f no q.1 q.2.1 q.2.2) muD (WalkP f no) ?_;rintro⟨come,st,left⟩ H;have H:Dfs f no come st left:=H;have hn:=c.small.blocks;rcases dC st with N|⟨s,e,N⟩
 ·subst N;refine⟨.inr left,AA (by simp) (Ag _),(λO h=>by cases h),λr h=>?_⟩;cases h;exact H.fin
 ·rw[cT]at N;subst N;have u:=H.few;have U:s.length<=2097152:=by simp at u;omega
  have hw:=Ayn (s:=s) (e:=e) U;have hl:=Akk s e;have B:Ch (s++[e]) (s.length:Int)=aZ:=E8 (by simp);have J:∀e':gY,(s++[e]).set s.length e'=s++[e']:=λe'=>by simp
  obtain⟨b,nx⟩:=e;have W:RchF f no b:=H.rch b (.inr (by simp));have ad:=W.lt;have F:wfB .i64 b=aZ:=by
   unfold wfB;simp[Lit.wf,bG,bF,bH,bD];omega
  simp only[Fz];rw[hw,hl,cF];simp only[J];cases nx with
  |nil=>
   refine⟨.inl (come,s,left++[b]),AI (by simp) (Ae B (AI (by simp) (Ae F (Ae ?_ (Ae ?_ ?_))))),λO h=>?_,(λr h=>by cases h)⟩
   ·unfold Fj cC;simp at u⊢;omega
   ·unfold slB;simp
   ·rw[List.take_left' V];exact Ag _
   ·cases h;refine⟨H.pop,?_⟩;simp[muD]
  |cons k r=>
   obtain⟨d0,aa,_⟩:=H.els ⟨b,k::r⟩ (by simp);have Z:k∈nextL f b:=by rw[show nextL f b=d0++k::r from aa];simp
   have hk:=EY Z;have h0:ixD (k::r) 0=k:=rfl;have I:slD (k::r) 1 (((k::r).length:Nat):Int)=r:=by
    unfold slD;simp
   have L:Ch come k=aZ:=BP.2 ⟨hk.1,by rw[H.len];exact hk.2⟩;have Y:Gu ⟨b,r⟩=aZ:=F;have T:wfB .i64 k=aZ:=by
    unfold wfB;simp[Lit.wf,bG,bF,bH,bD];omega
   have D:∀{x:M ((List Bool×List gY×List Int)⊕List Int)} {y},x.to y->(iB (Ch (k::r) 0) (iB (slB (k::r) 1 (((k::r).length:Nat):Int)) (iB (Gu ⟨b,r⟩) (iB (Ch come k) x)))).to y:=λhx=>
    Ae V (Ae (by unfold slB;simp;omega) (Ae Y (Ae L hx)))
   simp only[h0,I];cases hc:(!(ixD come k)&&(k !=no))with
   |false=>
    have ab:k=no\/ixD come k=aZ:=by
     cases h1:ixD come k with
     |true=>exact .inr V
     |false=>rw[h1]at hc;simp at hc;exact .inl hc
    refine⟨.inl (come,s++[⟨b,r⟩],left),AI (by simp) (Ae B (AA (by simp;omega) (D (AA V (Ag _))))),λO h=>?_,(λr h=>by cases h)⟩;cases h;refine⟨H.skip ab,?_⟩;simp[muD]
   |true=>
    simp only[bne_iff_ne,ne_eq,zaq]at hc;refine⟨.inl (come.set k.toNat aZ,s++[⟨b,r⟩]++[⟨k,nextL f k⟩],left),AI (by simp) (Ae B (AA (by simp;omega) (D (AI V (Ae L (Am (Ae (BJ.2 c) (Ag _)) (Ae T (Ae ?_ (Ag _))))))))),λO h=>?_,(λr h=>by cases h)⟩
    ·unfold Fj cC;simp at u⊢;omega
    ·cases h;refine⟨H.push hc.1 hc.2,?_⟩;have hf:=Yx (Afw (by rw[H.len];exact hk.2) hc.1);have ac:=Ua f k;simp[muD];omega
theorem Acp(c:g8 f)(no:Int):∃l,(E9 f no).to l/\WalkP f no l:=by
 unfold E9;have L:=c.small.blocks;cases hc:(((f.blocks.length:Int) ==0)||(no ==0))with
 |true=>
  refine⟨[],AI V (Ag _),fS,λb=>⟨(λh=>by cases h),λh=>?_⟩,(λb hb=>by cases hb)⟩;exfalso;induction h with
  |start h1 h2=>
   simp only[aW,beq_iff_eq]at hc;rcases hc with h|h
   ·omega
   ·exact h1 h
  |step _ _ _ I=>exact I
 |false=>
  simp only[aV,beq_eq_false_iff_ne,ne_eq]at hc;have u:0 < f.blocks.length:=by omega
  have B:∀b:Int,ixD (gE f.blocks.length aL) b=aL:=λb=>by
   unfold ixD;rw[dT,eC];split <;> rfl
  have D:∀b:Int,0<=b->ixD ((gE f.blocks.length aL).set (0:Int).toNat aZ) b=a8 (b=0):=λb hb=>by
   rw[Yl (cE 0) (by simpa using u) hb,B,aX]
  obtain⟨l,h1,h2⟩:=Acq (no:=no) c ((gE f.blocks.length aL).set (0:Int).toNat aZ,[⟨0,nextL f 0⟩],[]) ⟨by simp,λe F=>by
   rw[fN]at F;subst F;exact⟨[],rfl,λk hk=>by cases hk⟩,(λb hb=>by rw[D b hb];simp),λb hb=>by
   simp at hb;subst hb;exact .start hc.2 u,by simp,λb hb=>by simp at hb,λb hb=>by simp at hb,λs O N J e=>by
   have:=congrArg List.length e;simp at this;omega,λe s F=>by cases F;rfl,by rw[D 0 (cE 0)];rfl⟩
  refine⟨l,AA V (Ae ?_ (Ae ?_ (Am (Ae (BJ.2 c) (Ag _)) (Ae V (Am ?_ (Ag _)))))),h2⟩
  ·unfold VO cC;simp;omega
  ·exact BP.2 ⟨by omega,by simpa using u⟩
  ·rw[cF];exact h1
def IG(n:Nat)(l:List Int)(k:Nat):List Bool:=(fY n).map λ(b:Nat)=>(l.take k).contains (b:Int)
theorem Ot(n:Nat)(l:List Int)(k:Nat):(IG n l k).length=n:=by simp[IG]
theorem An7(n:Nat)(l:List Int):IG n l 0=gE n aL:=by
 unfold IG;refine dE λb=>?_
 rw[dZ,eC];by_cases hb:b < n
 ·rw[eB hb,if_pos hb];simp
 ·rw[dX (by simpa using hb),if_neg hb];rfl
theorem Ac0{k:Nat}(hx:l[k]? =jK x)(h0:0<=x)(u:x.toNat < n):(IG n l k).set x.toNat aZ=IG n l (k+1):=by
 refine dE λb=>?_
 rw[eD,Ot];have ht:l.take (k+1)=l.take k++[x]:=by rw[gI,hx];rfl
 by_cases e:x.toNat=b
 ·rw[if_pos e,if_pos (by omega)];unfold IG;rw[dZ,eB (by omega),ht];have:(b:Int)=x:=by omega
  simp[this]
 ·rw[if_neg e];unfold IG;rw[dZ,dZ,ht];by_cases hb:b < n
  ·rw[eB hb];have:(b:Int)≠x:=by omega
   simp[this]
  ·rw[dX (by simpa using hb)];rfl
theorem Aiy{b:Nat}(hb:b < n):ixD (IG n l l.length) (b:Int)=l.contains (b:Int):=by
 unfold IG;exact B7 (k:=b) (by rw[dZ,eB hb,gJ];rfl)
theorem Zw(c:g8 f):∃l,(E9 f (-1)).to l/\WalkP f (-1) l/\(GC f).to (IG f.blocks.length l l.length):=by
 obtain⟨l,h1,h2⟩:=Acp c (-1);have D:=c.small.blocks;have B:l.length<=f.blocks.length:=Hc h2.nod λb hb=>((h2.mem b).1 hb).lt
 refine⟨l,h1,h2,Ae (by unfold VO cC;simp;omega) (Am h1 (Am ?_ (Ag _)))⟩;rw[cF,<-An7 f.blocks.length l];refine BN (λk:Nat=>((k:Int),IG f.blocks.length l k)) l.length (λk hk=>?_) ?_ (jE _)
 ·obtain⟨x,hx⟩:∃x,l[k]? =jK x:=⟨_,dW hk⟩
  have u:=((h2.mem x).1 (fH hx)).lt;simp only[Ev,B7 hx];rw[bI _ (by omega),show((k:Int)+1)=((k+1:Nat):Int)by omega,Ac0 hx u.1 u.2];exact AI (decide_eq_true (by omega)) (Ae (E8 hk) (Ae (BP.2 ⟨u.1,by rw[Ot];exact u.2⟩) (Ag _)))
 ·simp only[Ev];exact AA (decide_eq_false (by omega)) (Ag _)
theorem Ajx(c:g8 f):∃l,(E9 f (-1)).to l/\WalkP f (-1) l/\(JU f).to l.reverse:=by
 obtain⟨l,h1,h2⟩:=Acp c (-1);have B:=c.small.blocks;have u:l.length<=f.blocks.length:=Hc h2.nod λb hb=>((h2.mem b).1 hb).lt
 exact⟨l,h1,h2,Am h1 (Ae (decide_eq_true (by omega)) (Ag _))⟩
def IA(o:Int->List Int)(ks:List Int):List Int:=
 match ks.filter λk=>!(o k).isEmpty with
 | []=>[]
 |k::r=>r.foldl (λl j=>l.filter λx=>(o j).contains x) (o k)
theorem Yc{o:Int->List Int}{x:Int}:∀{r l:List Int},x∈r.foldl (λl j=>l.filter λx=>(o j).contains x) l↔x∈l/\∀j∈r,x∈o j
 | [],l=>by simp
 |j::r,l=>by
  rw[dQ,Yc (r:=r),fD];simp only[cV,eZ,forall_eq_or_imp];exact and_assoc
theorem Yb{o:Int->List Int}(h:∃k∈ks,o k≠[]):x∈IA o ks↔∀k∈ks,o k≠[]->x∈o k:=by
 have u:∀k,k∈(ks.filter λk=>!(o k).isEmpty)↔k∈ks/\o k≠[]:=λk=>by
  rw[fD];simp
 unfold IA;generalize (ks.filter λk=>!(o k).isEmpty)=fs at u;cases fs with
 |nil=>
  obtain⟨k,h1,h2⟩:=h;exact absurd ((u k).2 ⟨h1,h2⟩) (by simp)
 |cons a r=>
  simp only;rw[Yc];constructor
  ·rintro⟨h1,h2⟩ k hk hne;rcases eZ.1 ((u k).2 ⟨hk,hne⟩)with rfl|h3
   ·exact h1
   ·exact h2 k h3
  ·intro h1;exact⟨h1 a ((u a).1 (by simp)).1 ((u a).1 (by simp)).2,λj B=>h1 j ((u j).1 (fA _ B)).1 ((u j).1 (fA _ B)).2⟩
def Afz(l:List Int)(b:Int):List Int:=l.filter (λx=>decide (x < b))++b::l.filter λx=>decide (b < x)
theorem LN{b:Int}:x∈Afz l b↔x=b\/x∈l:=by
 unfold Afz;simp only[eW,eZ,fD,decide_eq_true_eq];constructor
 ·rintro(⟨h,_⟩|h|⟨h,_⟩)
  ·exact .inr h
  ·exact .inl h
  ·exact .inr h
 ·rintro(h|h)
  ·exact .inr (.inl h)
  ·rcases Int.lt_trichotomy x b with h1|h1|h1
   ·exact .inl ⟨h,h1⟩
   ·exact .inr (.inl h1)
   ·exact .inr (.inr ⟨h,h1⟩)
theorem WA{b:Int}:Afz l b≠[]:=by unfold Afz;simp
def SR(o:Int->List Int)(u:Int->List Int)(b:Int):List Int:=Afz (if b=0 then []else IA o (u b)) b
structure DomI(f:Func)(bf:Int->List Int)(o:Int->List Int):Prop where
 self:∀b,o b≠[]->b∈o b
 reach:∀b,o b≠[]->RchF f (-1) b
 all:∀b,o b≠[]->∀x,¬RchF f x b->x∈o b
 low:∀b,b≠0->o b≠[]->∀x,(∀k∈bf b,o k≠[]->x∈o k)->x∈o b
 has:∀b,b≠0->o b≠[]->∃k∈bf b,o k≠[]
section
variable{f:g9}{bf:Int->List Int}{o:Int->List Int}{b:Int}
def An6(o:Int->List Int)(b:Int)(l:List Int):Int->List Int:=λc=>if c=b then l else o c
theorem DomI.step(H:DomI f bf o)(U:∀b k,k∈bf b↔RchF f (-1) k/\b∈nextL f k\/(k∈bf b/\¬RchF f (-1) k))(hb:RchF f (-1) b)(hk:b≠0->∃k∈bf b,o k≠[]):DomI f bf (An6 o b (SR o bf b))/\(o b≠[]->∀x∈SR o bf b,x∈o b):=by
 have O:∀k,k∈bf b->o k≠[]->b∈nextL f k:=λk h1 h2=>by
  rcases(U b k).1 h1 with h|h
  ·exact h.2
  ·exact absurd (H.reach k h2) h.2
 have u:∀x,x∈SR o bf b↔x=b\/(b≠0/\∀k∈bf b,o k≠[]->x∈o k):=λx=>by
  unfold SR;rw[LN];by_cases h0:b=0
  ·rw[if_pos h0];simp[h0]
  ·rw[if_neg h0,Yb (hk h0)];simp[h0]
 have I:o b≠[]->∀x∈SR o bf b,x∈o b:=λhne x hx=>by
  rcases(u x).1 hx with h|⟨h0,h⟩
  ·subst h;exact H.self x hne
  ·exact H.low b h0 hne x h
 have hne:SR o bf b≠[]:=WA;have F:∀c,An6 o b (SR o bf b) c=if c=b then SR o bf b else o c:=λ_=>rfl
 have J:∀c,o c≠[]->An6 o b (SR o bf b) c≠[]:=λc hc=>by
  rw[F];split
  ·exact hne
  ·exact hc
 refine⟨⟨λc hc=>?_,λc hc=>?_,λc hc x hx=>?_,λc h0 hc x hx=>?_,λc h0 hc=>?_⟩,I⟩
 ·rw[F]at hc⊢;split
  ·rename_i e;subst e;exact(u c).2 (.inl V)
  ·rename_i e;rw[if_neg e]at hc;exact H.self c hc
 ·rw[F]at hc;by_cases e:c=b
  ·subst e;exact hb
  ·rw[if_neg e]at hc;exact H.reach c hc
 ·rw[F]at hc⊢;by_cases e:c=b
  ·subst e;rw[if_pos V];by_cases D:x=c
   ·exact(u x).2 (.inl D)
   ·refine(u x).2 (.inr ⟨λh0=>?_,λk T B=>H.all k B x λW=>hx (W.step (O k T B) λe=>D e.symm)⟩);subst h0;cases hb with
    |start _ Y=>exact hx (.start D Y)
    |step _ Z _=>exact hx (.start D (by have:=EY Z;omega))
  ·rw[if_neg e]at hc⊢;exact H.all c hc x hx
 ·have L:∀k,o k≠[]->∀y∈An6 o b (SR o bf b) k,y∈o k:=λk B y N=>by
   rw[F]at N;split at N
   ·rename_i e;rw[e]at B⊢;exact I B y N
   ·exact N
  by_cases e:c=b
  ·subst e;rw[F,if_pos V];exact(u x).2 (.inr ⟨h0,λk h1 h2=>L k h2 x (hx k h1 (J k h2))⟩)
  ·rw[F,if_neg e]at hc⊢;exact H.low c h0 hc x λk h1 h2=>L k h2 x (hx k h1 (J k h2))
 ·rw[F]at hc;obtain⟨k,h1,h2⟩:∃k∈bf c,o k≠[]:=by
   by_cases e:c=b
   ·subst e;exact hk h0
   ·rw[if_neg e]at hc;exact H.has c h0 hc
  exact⟨k,h1,J k h2⟩
theorem DomI.fin(H:DomI f bf o)(J:∀b k,RchF f (-1) k->b∈nextL f k->k∈bf b)(u:∀b,RchF f (-1) b->o b≠[])(B:∀b,RchF f (-1) b->SR o bf b=o b)(hb:RchF f (-1) b):∀x,x∈o b↔¬RchF f x b:=λx=>by
 refine⟨λhx O=>?_,λh=>H.all b (u b hb) x h⟩;revert hx;induction O with
 |start h0 L=>
  intro hx;rw[<-B 0 hb]at hx;unfold SR at hx;rw[if_pos V,LN]at hx;rcases hx with h|h
  ·exact h0 h
  ·cases h
 |@step a c h1 h2 N F=>
  intro hx;have I:RchF f (-1) a:=by
   clear F hx h2 N hb;induction h1 with
   |start _ L=>exact .start (by decide) L
   |@step p q _ hq _ F=>exact F.step hq (by have:=EY hq;omega)
  rw[<-B c hb]at hx;unfold SR at hx;rw[LN]at hx;rcases hx with h|h
  ·exact N h.symm
  ·split at h
   ·cases h
   ·have D:=J c a I h2;exact F I ((Yb ⟨a,D,u a I⟩).1 h a D (u a I))
end
theorem PJ(h:Asc l):l.Nodup:=h.imp λh=>by omega
theorem M1(h:Asc l):Asc (l.filter p):=cH p h
theorem YT{b:Int}(h:Asc l):Asc (Afz l b):=by
 unfold Afz Asc;rw[List.pairwise_append];refine⟨M1 h,fU.2 ⟨λx hx=>by simpa using(fD.1 hx).2,M1 h⟩,λx hx y hy=>?_⟩;have h1:x < b:=by simpa using(fD.1 hx).2
 rcases eZ.1 hy with rfl|hy
 ·exact h1
 ·have h2:b < y:=by simpa using(fD.1 hy).2
  omega
theorem Apb{b:Int}(h:Asc l)(hb:b∈l):Afz l b=l:=GS (YT h) h λx=>by
 rw[LN];exact⟨λe=>e.elim (λe=>e▸hb) id,.inr⟩
theorem Ve:∀{l:List Int} {b:Int},Asc l->l.take (l.countP (· < b))=l.filter (λx=>decide (x < b))/\l.drop (l.countP (· < b))=l.filter λx=>!decide (x < b)
 | [],b,_=>by simp
 |x::l,b,h=>by
  unfold Asc at h;rw[fU]at h;obtain⟨h1,h2⟩:=Ve (b:=b) h.2;by_cases hx:x < b
  ·rw[cW (by simpa using hx),List.take_succ_cons,List.drop_succ_cons,h1,h2];simp[hx]
  ·have u:∀y∈l,¬y < b:=λy hy=>by have:=h.1 y hy;omega
   rw[List.countP_cons_of_neg (by simpa using hx),cY.2 (λy hy=>by simpa using u y hy)];refine⟨?_,?_⟩
   ·rw[List.take_zero,dK.2];intro y hy;rcases eZ.1 hy with rfl|hy
    ·simpa using hx
    ·simpa using u y hy
   ·rw[dA,dL.2];intro y hy;rcases eZ.1 hy with rfl|hy
    ·simpa using hx
    ·simpa using u y hy
theorem Akp{b:Int}(h:Asc l)(hb:b∉l):l.take (l.countP (· < b))++b::l.drop (l.countP (· < b))=Afz l b:=by
 obtain⟨h1,h2⟩:=Ve (b:=b) h;rw[h1,h2];unfold Afz;congr 2;refine dG λx hx=>?_
 have:x≠b:=λe=>hb (e▸hx)
 by_cases u:x < b
 ·rw[decide_eq_true u,decide_eq_false (by omega)];rfl
 ·rw[decide_eq_false u,decide_eq_true (by omega)];rfl
theorem Xh{m:List Int}(B:Asc l)(u:Asc m)(h:∀x∈l,x∈m)(hne:l≠m):l.length < m.length:=by
 have e:l=m.filter λx=>l.contains x:=GS B (M1 u) λx=>by
  rw[fD,cV];exact⟨λhx=>⟨h x hx,hx⟩,λhx=>hx.2⟩
 have h1:=eL (λx=>l.contains x) m;rw[<-e]at h1;rcases Nat.lt_or_eq_of_le h1 with h2|h2
 ·exact h2
 ·rw[e]at h2;have D:=List.length_filter_eq_length_iff.1 h2;exact absurd (e.trans (dL.2 D)) hne
theorem Ait{k:Nat}(h:k < n)(u:n<=2147483648):bE.wrap ((k:Int)+1)=((k+1:Nat):Int):=by
 rw[bI _ (by omega)];omega
theorem Ak4(a b:List Int)(N:a.length<=2147483648):(Cq a b).to (a ==b):=by
 unfold Cq;by_cases J:a.length=b.length
 ·refine AA (by simp[J]) ?_;have I:∀k,k<=a.length->a.take k=b.take k->(∃z,(iG (BM a b) (k:Int)).to z/\((z= .inl ()/\a=b)\/(z= .inr aL/\a≠b))):=by
   intro k hk;generalize O:a.length - k=m;induction m generalizing k with
   |zero=>
    intro F;refine⟨.inl (),iJ ?_,.inl ⟨rfl,?_⟩⟩
    ·simp only[BM];exact AA (decide_eq_false (by omega)) (Ag _)
    ·rw[gK (by omega),gK (by omega)]at F;exact F
   |succ m L=>
    intro F;have B:k < a.length:=by omega
    obtain⟨x,hx⟩:∃x,a[k]? =jK x:=⟨_,dW B⟩
    obtain⟨y,D⟩:∃y,b[k]? =jK y:=⟨_,dW (by omega)⟩
    by_cases u:x=y
    ·obtain⟨z,h1,h2⟩:=L (k+1) (by omega) (by omega) (by rw[gI,gI,F,hx,D,u]);refine⟨z,iH ?_ h1,h2⟩;simp only[BM,B7 hx,B7 D];refine AI (decide_eq_true (by omega)) (Ae (E8 B) (Ae (E8 (by omega)) (AA (by simp[u]) ?_)));rw[Ait B N];exact Ag _
    ·refine⟨.inr aL,iJ ?_,.inr ⟨rfl,λe=>u ?_⟩⟩
     ·simp only[BM,B7 hx,B7 D];exact AI (decide_eq_true (by omega)) (Ae (E8 B) (Ae (E8 (by omega)) (AI (by simp[u]) (Ag _))))
     ·subst e;rw[hx]at D;exact Option.some.inj D
  obtain⟨z,h1,h2⟩:=I 0 (jE _) V;rcases h2 with⟨rfl,e⟩|⟨rfl,e⟩
  ·rw[show(a ==b)=aZ from beq_iff_eq.2 e];exact iE h1 (Ag _)
  ·rw[show(a ==b)=aL from beq_eq_false_iff_ne.2 e];exact iF h1
 ·rw[show(a ==b)=aL from beq_eq_false_iff_ne.2 λe=>J (by rw[e])];exact AI (by simp;omega) (Ag _)
theorem Aco(h:-9223372036854775808<=x/\x<=9223372036854775807):wfB .i64 x=aZ:=by
 unfold wfB;simp[Lit.wf,bG,bF,bH,bD];omega
theorem Tm(n:Int)(h:Asc l)(u:l.length<=2147483648):(CU l n).to (((l.countP (· < n):Nat):Int),l.contains n):=
 Ae (by rw[aI];exact⟨Sy.2 h,decide_eq_true u⟩) (Ag _)
theorem Ag6{a b:List Int}(I:a.length<=2147483648)(hb:Asc b)(D:b.length<=2147483648)(F:∀x∈a,wfB .i64 x=aZ):(FZ a b).to (a.filter λx=>b.contains x):=by
 unfold FZ;refine Am ?_ (Ag _);have B:=BN (step:=DS a b) (λk:Nat=>((k:Int),(a.take k).filter λx=>b.contains x)) a.length (r:=a.filter λx=>b.contains x) (λk hk=>?_) ?_ (j:=0) (jE _)
 ·simpa using B
 ·obtain⟨x,hx⟩:∃x,a[k]? =jK x:=⟨_,dW hk⟩
  simp only[DS,B7 hx];have u:=eL (λx=>b.contains x) (a.take k);rw[eR]at u;refine AI (decide_eq_true (by omega)) (Am (a:=(a.take (k+1)).filter λx=>b.contains x) (Ae (E8 hk) (Am (Tm x hb D) ?_)) ?_)
  ·rw[gI,hx,dF];cases hc:b.contains x with
   |true=>
    refine AI V (Ae (F x (fH hx)) (Ae ?_ ?_))
    ·generalize ((a.take k).filter λx=>b.contains x).length=q at u;unfold Fj cC;simp;omega
    ·simp only[jL,dH,hc,if_true,dM];exact Ag _
   |false=>
    refine AA V ?_;simp only[jL,dH,hc,dM,cR,aN,if_false];exact Ag _
  ·rw[Ait hk I];exact Ag _
 ·simp only[DS,gJ];exact AA (decide_eq_false (by omega)) (Ag _)
def D3(out:List (List Int))(b:Int):List Int:=if 0<=b then out.getD b.toNat []else []
def JY(f:g9)(b:Int):List Int:=if 0<=b/\b.toNat < f.blocks.length then Su f b.toNat else []
theorem Ae6{f:g9}{k:Int}{x:Blk f}(h:x∈G9 f k):0<=k:=by
 unfold G9 at h;split at h
 ·assumption
 ·cases h
theorem Ez{f:g9}{b k:Int}:k∈JY f b↔b∈nextL f k:=by
 unfold JY;constructor
 ·intro h;split at h
  ·rename_i hb;obtain⟨B,⟨x,hx,e⟩,rfl⟩:=(JX hb.2 k).1 h;refine fG.2 ⟨x,hx,?_⟩;show(x.1:Int)=b;omega
  ·cases h
 ·intro h;have u:=EY h;rw[if_pos u];obtain⟨x,hx,e⟩:=fG.1 h;have hk:=Ae6 hx;refine(JX u.2 k).2 ⟨k.toNat,⟨x,?_,?_⟩,by omega⟩
  ·rw[cG hk];exact hx
  ·have:(x.1:Int)=b:=e;omega
structure RowsA(f:Func)(out:List (List Int)):Prop where
 len:out.length=f.blocks.length
 asc:∀r∈out,Asc r
 rng:∀r∈out,∀x∈r,0<=x/\x.toNat < f.blocks.length
section
variable{f:g9}{out:List (List Int)}
theorem Mu{b:Int}(h0:0<=b):D3 out b=ixD out b:=by unfold D3 ixD;rw[if_pos h0];rfl
theorem XQ{b:Int}(h:D3 out b≠[]):D3 out b∈out:=by
 unfold D3 at h⊢;split
 ·rename_i h0;rw[if_pos h0]at h;rw[dT]at h⊢;cases e:out[b.toNat]? with
  |none=>rw[e]at h;exact absurd V h
  |some r=>exact fH e
 ·rename_i h0;rw[if_neg h0]at h;exact absurd V h
theorem Ln(H:RowsA f out)(b:Int):Asc (D3 out b):=by
 by_cases h:D3 out b= []
 ·rw[h];exact cJ
 ·exact H.asc _ (XQ h)
theorem RK(H:RowsA f out){b:Int}(hx:x∈D3 out b):0<=x/\x.toNat < f.blocks.length:=H.rng _ (XQ (fO hx)) x hx
theorem Ai8{b:Int}(h0:0<=b)(hb:b.toNat < out.length):D3 (out.set b.toNat l)=An6 (D3 out) b l:=by
 funext c;show D3 (out.set b.toNat l) c=if c=b then l else D3 out c
 unfold D3;by_cases hc:c=b
 ·subst hc;rw[if_pos h0,if_pos V,dT,eF hb];rfl
 ·rw[if_neg hc];by_cases h1:0<=c
  ·rw[if_pos h1,if_pos h1,dT,eE (by omega),<-dT]
  ·rw[if_neg h1,if_neg h1]
theorem RowsA.set(H:RowsA f out){b:Nat}(B:Asc l)(u:∀x∈l,0<=x/\x.toNat < f.blocks.length):RowsA f (out.set b l):=
 ⟨by simp[H.len],λr h=>(fJ h).elim (H.asc r) λe=>e▸B,λr h=>(fJ h).elim (H.rng r) λe=>e▸u⟩
theorem Yt{o:Int->List Int}:∀(r l:List Int),(r.foldl (λl j=>l.filter λx=>(o j).contains x) l).Sublist l
 | [],_=>List.Sublist.refl _
 |_::r,_=>(Yt r _).trans List.filter_sublist
theorem Ye{o:Int->List Int}(ks:List Int):IA o ks= []\/∃k∈ks,(IA o ks).Sublist (o k):=by
 unfold IA;cases e:ks.filter λk=>!(o k).isEmpty with
 |nil=>exact .inl V
 |cons k r=>exact .inr ⟨k,(fD.1 (e▸fB:k∈ks.filter λk=>!(o k).isEmpty)).1,Yt r _⟩
theorem R3(H:RowsA f out)(ks:List Int):Asc (IA (D3 out) ks):=by
 rcases Ye (o:=D3 out) ks with h|⟨k,_,h⟩
 ·rw[h];exact cJ
 ·exact(Ln H k).sublist h
theorem N9(H:RowsA f out)(hx:x∈IA (D3 out) ks):0<=x/\x.toNat < f.blocks.length:=by
 rcases Ye (o:=D3 out) ks with h|⟨k,_,h⟩
 ·rw[h]at hx;cases hx
 ·exact RK H (h.subset hx)
theorem Afd{o:Int->List Int}{k:Int}:IA o (ks++[k])=if(o k).isEmpty then IA o ks else if ks.any (λk=>!(o k).isEmpty)then(IA o ks).filter (λx=>(o k).contains x)else o k:=by
 unfold IA;rw[dF];cases hk:(o k).isEmpty with
 |true=>simp[hk]
 |false=>
  simp only[dH,hk,aS,if_true,dM,aN,if_false];cases e:ks.filter λk=>!(o k).isEmpty with
  |nil=>
   rw[show ks.any (λk=>!(o k).isEmpty)=aL from ?_]
   ·simp
   ·rw[cN];exact dK.1 e
  |cons a r=>
   rw[show ks.any (λk=>!(o k).isEmpty)=aZ from ?_]
   ·simp
   ·have:a∈ks.filter λk=>!(o k).isEmpty:=e▸fB
    exact cO.2 ⟨a,(fD.1 this).1,(fD.1 this).2⟩
theorem KP(h:Asc l)(u:∀x∈l,0<=x/\x.toNat < n):l.length<=n:=Hc (PJ h) u
theorem Ao2(c:g8 f)(H:RowsA f out){r2:List (List Int)}{i:Int}(I:ixD r2 (ixD r1 i)=ks)(hk:∀k∈ks,0<=k/\k.toNat < f.blocks.length)(O:ks.length<=2147483648):
 (iG (C5 r1 r2 out i) ([],aL,0)).to (IA (D3 out) ks):=by
 have T:=c.small.blocks;have J:=BN (step:=C5 r1 r2 out i) (λk:Nat=>(IA (D3 out) (ks.take k),(ks.take k).any (λk=>!(D3 out k).isEmpty),(k:Int))) ks.length (r:=IA (D3 out) ks) (λk B=>?_) ?_ (j:=0) (jE _)
 ·exact J
 ·obtain⟨x,hx⟩:∃x,ks[k]? =jK x:=⟨_,dW B⟩
  have u:=hk x (fH hx);have D:Ch out x=aZ:=BP.2 ⟨u.1,by rw[H.len];exact u.2⟩;simp only[C5,I,B7 hx,<-Mu (out:=out) u.1];refine AI (decide_eq_true (by omega)) (Am (Ae (E8 B) (Ae D (a:=(IA (D3 out) (ks.take (k+1)),(ks.take (k+1)).any (λk=>!(D3 out k).isEmpty))) ?_)) ?_)
  ·rw[gI,hx,jL,Afd,List.any_append];cases N:(D3 out x).isEmpty with
   |true=>
    refine AI V ?_;simp only[if_true,cM,N,aU,List.any_nil,aX];exact Ag _
   |false=>
    refine AA V ?_;simp only[aN,if_false,cM,N,aS,Bool.true_or,aY];cases U:(ks.take k).any (λk=>!(D3 out k).isEmpty)with
    |false=>
     simp only[aN,if_false];exact AI V (Ae D (Ag _))
    |true=>
     simp only[if_true];have L:=R3 H (ks.take k);refine AA V (Ae D (Am (Ag6 ?_ (Ln H x) ?_ λy F=>?_) (Ag _)))
     ·have:=KP L λy F=>N9 H F
      omega
     ·have:=KP (Ln H x) λy F=>RK H F
      omega
     ·have:=N9 H F;exact Aco (by omega)
  ·rw[Ait B O];exact Ag _
 ·simp only[C5,I,gJ];exact AA (decide_eq_false (by omega)) (Ag _)
def CE(f:g9)(out:List (List Int))(b:Int):List Int:=SR (D3 out) (JY f) b
theorem Te(H:RowsA f out)(b:Int):Asc (CE f out b):=by
 unfold CE SR;refine YT ?_;split
 ·exact cJ
 ·exact R3 H _
theorem Td(H:RowsA f out){b:Int}(h0:0<=b/\b.toNat < f.blocks.length)(hx:x∈CE f out b):0<=x/\x.toNat < f.blocks.length:=by
 unfold CE SR at hx;rcases LN.1 hx with h|h
 ·rw[h];exact h0
 ·split at h
  ·cases h
  ·exact N9 H h
theorem Axi(c:g8 f)(H:RowsA f out){k:Nat}{b:Int}{more:Bool}(hb:r1[k]? =jK b)(U:r1.length<=2147483648)(h0:0<=b/\b.toNat < f.blocks.length):
 (CF r1 (GR f f.blocks.length) (more,(k:Int),out)).to (.inl (more||(CE f out b !=D3 out b),((k+1:Nat):Int),out.set b.toNat (CE f out b))):=by
 have hn:=c.small.blocks;have hk:=(dY.1 hb).1;have O:ixD r1 (k:Int)=b:=B7 hb;have T:ixD (GR f f.blocks.length) b=JY f b:=by
  unfold JY;rw[if_pos h0];rfl
 have B:Ch out b=aZ:=BP.2 ⟨h0.1,by rw[H.len];exact h0.2⟩;have F:Ch (GR f f.blocks.length) b=aZ:=BP.2 ⟨h0.1,by rw[F9];exact h0.2⟩;have Z:∀x∈JY f b,0<=x/\x.toNat < f.blocks.length:=λx hx=>by
  unfold JY at hx;rw[if_pos h0]at hx;obtain⟨k',N,rfl⟩:=(JX h0.2 x).1 hx;exact⟨by omega,by simpa using(Ie N).1⟩
 have aa:(JY f b).length<=2147483648:=by
  have:JY f b∈GR f f.blocks.length:=by
   rw[<-T];exact fH (BS F)
  have:=Sr f f.blocks.length _ this;omega
 have Y:=Ao2 c H (r1:=r1) (r2:=GR f f.blocks.length) (i:=(k:Int)) (ks:=JY f b) (by rw[O,T]) Z aa;have hL:∀l,l=(if b=0 then []else IA (D3 out) (JY f b))->Asc l/\l.length<=2147483648:=λl U=>by
  have h1:Asc l:=by
   rw[U];split
   ·exact cJ
   ·exact R3 H _
  refine⟨h1,?_⟩;have:=KP (n:=f.blocks.length) h1 λx hx=>by
   rw[U]at hx;split at hx
   ·cases hx
   ·exact N9 H hx
  omega
 obtain⟨l,u⟩:∃l,l=(if b=0 then []else IA (D3 out) (JY f b)):=⟨_,rfl⟩
 obtain⟨L,J⟩:=hL l u;have I:CE f out b=Afz l b:=by unfold CE SR;rw[u]
 have hne:CE f out b≠[]:=by rw[I];exact WA
 have W:=Te H b;have ac:=KP W λx hx=>Td H h0 hx
 simp only[CF,O];refine AI (decide_eq_true (by omega)) (Am (Ae (E8 hk) (Ae F (Am Y (Am (a:=l) ?_ (Am (Tm b L J) (Am (a:=CE f out b) ?_ (Ae B (Am (a:=(CE f out b ==D3 out b)) ?_ (b:=(more||(CE f out b !=D3 out b),out.set b.toNat (CE f out b))) ?_)))))))) ?_)
 ·by_cases D:b=0
  ·rw[u,if_pos D];exact AI (by simp[D]) (Ag _)
  ·rw[u,if_neg D];exact AA (by simp[D]) (Ag _)
 ·cases hc:l.contains b with
  |true=>
   refine AA V ?_;rw[I,Apb L (cV.1 hc)];exact Ag _
  |false=>
   have ab:l.countP (λx=>decide (x < b))<=l.length:=cZ;refine AI V (Am (Ae (decide_eq_true J) (Ag _)) (Ae (Aco (by omega)) (Ae ?_ (Ae (decide_eq_true J) ?_))))
   ·exact decide_eq_true ⟨by simp only;omega,by simp only[cF];exact ab⟩
   ·simp only[cF];rw[I,<-Akp L (λe=>by rw[cV.2 e]at hc;cases hc)];exact Ag _
 ·rw[Mu h0.1];exact Ak4 _ _ (by omega)
 ·cases N:(CE f out b ==D3 out b)with
  |true=>
   refine AA V ?_;have e:CE f out b=D3 out b:=beq_iff_eq.1 N;rw[show(CE f out b !=D3 out b)=aL from by unfold bne;rw[N];rfl,aX];rw[show out.set b.toNat (CE f out b)=out from ?_]
   ·exact Ag _
   ·rw[e,Mu h0.1];have hg:=BS B;refine dE λj=>?_
    rw[eD];split
    ·rename_i hj;subst hj;rw[if_pos (BP.1 B).2,hg]
    ·rfl
  |false=>
   refine AI V (Ae B (Ae ?_ ?_))
   ·cases hs:CE f out b with
    |nil=>exact absurd hs hne
    |cons _ _=>rfl
   ·rw[show(CE f out b !=D3 out b)=aZ from by unfold bne;rw[N];rfl,aY];exact Ag _
 ·rw[Ait hk U];exact Ag _
end
theorem Ac6{α:Type}{g:α->Nat}:∀{l:List α} {i:Nat} {x y:α},l[i]? =jK x->((l.set i y).map g).sum+g x=(l.map g).sum+g y
 | [],_,_,_,h=>by simp at h
 |a::l,0,x,y,h=>by
  simp at h;subst h;simp only[List.set_cons_zero,eT,gH];omega
 |a::l,i+1,x,y,h=>by
  have:=Ac6 (g:=g) (l:=l) (i:=i) (x:=x) (y:=y) (by simpa using h);simp only[List.set_cons_succ,eT,gH];omega
section
variable{f:g9}
def muA(f:g9)(out:List (List Int)):Nat:=(out.map λl=>if l.isEmpty then f.blocks.length+1 else l.length).sum
structure OrdP(f:Func)(ord:List Int):Prop where
 len:ord.length<=f.blocks.length
 mem:∀b,b∈ord↔RchF f (-1) b
 par:∀(j:Nat) (b:Int),ord[j]? =some b->b=0\/∃(k:Int) (i:Nat),i < j/\ord[i]? =some k/\b∈nextL f k
theorem Atk(H:WalkP f (-1) l):OrdP f l.reverse:=by
 refine⟨?_,λb=>by rw[fM];exact H.mem b,λj b L=>?_⟩
 ·rw[eP];exact Hc H.nod λb hb=>((H.mem b).1 hb).lt
 ·have hb:b∈l:=fM.1 (fH L);rcases H.par b hb with h|⟨k,h1,U,B,u,h2⟩
  ·exact .inl h
  ·refine .inr ⟨k,u.length,?_,?_,h1⟩
   ·have D:l.reverse.Nodup:=List.pairwise_reverse.2 (H.nod.imp λh=>h.symm);have T:l.reverse[u.length+1+B.length]? =jK b:=by
     rw[h2];simp only[gF,gG,cP,cU,fP];rw[dV (by simp;omega)];simp only[eP];rw[show u.length+1+B.length - u.length=B.length+1 by omega,List.getElem?_cons_succ,dV (by simp)];simp
    have W:j=u.length+1+B.length:=by
     obtain⟨I,O⟩:=dY.1 L;obtain⟨F,N⟩:=dY.1 T;have J:=fV.1 D;rcases i7 j (u.length+1+B.length)with h|h|h
     ·exact absurd (O.trans N.symm) (J _ _ I F h)
     ·exact h
     ·exact absurd (N.trans O.symm) (J _ _ F I h)
    omega
   ·rw[h2];simp only[gF,gG,cP,cU,fP];rw[dV (by simp)];simp
structure RndI(f:Func)(ord:List Int)(out0:List (List Int))(more:Bool)(k:Nat)(out:List (List Int)):Prop where
 rows:RowsA f out
 dom:DomI f (JY f) (D3 out)
 known:∀(j:Nat) (b:Int),j < k->ord[j]? =some b->D3 out b≠[]
 same:more=false->out=out0/\∀(j:Nat) (b:Int),j < k->ord[j]? =some b->CE f out b=D3 out b
 le:muA f out<=muA f out0
 lt:more=true->muA f out < muA f out0
theorem Azu(f:g9)(b k:Int):k∈JY f b↔RchF f (-1) k/\b∈nextL f k\/(k∈JY f b/\¬RchF f (-1) k):=by
 by_cases h:RchF f (-1) k
 ·rw[Ez];exact⟨λe=>.inl ⟨h,e⟩,λe=>e.elim (·.2) λe=>absurd h e.2⟩
 ·exact⟨λe=>.inr ⟨e,h⟩,λe=>e.elim (λe=>absurd e.1 h) (·.1)⟩
theorem RndI.next{D out:List (List Int)}{more:Bool}{k:Nat}{b:Int}(O:OrdP f ord)(H:RndI f ord D more k out)(hb:ord[k]? =jK b):RndI f ord D (more||(CE f out b !=D3 out b)) (k+1) (out.set b.toNat (CE f out b)):=by
 have hr:=(O.mem b).1 (fH hb);have W:=hr.lt;have U:b.toNat < out.length:=by rw[H.rows.len];exact W.2
 have hk:b≠0->∃k∈JY f b,D3 out k≠[]:=λh0=>by
  rcases O.par k b hb with h|⟨q,i,hi,hq,hn⟩
  ·exact absurd h h0
  ·exact⟨q,Ez.2 hn,H.known i q hi hq⟩
 obtain⟨hD,hS⟩:=H.dom.step (Azu f) hr hk;have B:=Ai8 (out:=out) (l:=CE f out b) W.1 U;have L:=Te H.rows b;have N:∀x∈CE f out b,0<=x/\x.toNat < f.blocks.length:=λx hx=>Td H.rows W hx
 have hne:CE f out b≠[]:=by unfold CE SR;exact WA
 have F:out[b.toNat]? =jK (D3 out b):=by
  rw[Mu W.1];exact BS (BP.2 ⟨W.1,U⟩)
 have Z:=Ac6 (g:=λl:List Int=>if l.isEmpty then f.blocks.length+1 else l.length) (y:=CE f out b) F;have u:(if(CE f out b).isEmpty then f.blocks.length+1 else(CE f out b).length)=(CE f out b).length:=by
  cases hs:CE f out b with
  |nil=>exact absurd hs hne
  |cons _ _=>rfl
 have ab:=KP L N;simp only[u]at Z;have Y:CE f out b≠D3 out b->(CE f out b).length < (if(D3 out b).isEmpty then f.blocks.length+1 else(D3 out b).length):=λI=>by
  cases ho:D3 out b with
  |nil=>simp;omega
  |cons x l=>
   have h1:D3 out b≠[]:=by rw[ho];simp
   have:=Xh L (Ln H.rows b) (hS h1) I;rw[ho]at this;exact this
 have aa:∀c,D3 out c≠[]->D3 (out.set b.toNat (CE f out b)) c≠[]:=λc hc=>by
  rw[B];unfold An6;split
  ·exact hne
  ·exact hc
 have T:muA f (out.set b.toNat (CE f out b))<=muA f out/\(CE f out b≠D3 out b->muA f (out.set b.toNat (CE f out b)) < muA f out):=by
  by_cases I:CE f out b=D3 out b
  ·have:(CE f out b).length=(if(D3 out b).isEmpty then f.blocks.length+1 else(D3 out b).length):=by rw[<-I,u]
   exact⟨by unfold muA;omega,λh=>absurd I h⟩
  ·have:=Y I;exact⟨by unfold muA;omega,λ_=>by unfold muA;omega⟩
 have J:CE f out b=D3 out b->out.set b.toNat (CE f out b)=out:=λe=>by
  rw[e];refine dE λj=>?_
  rw[eD];split
  ·rename_i hj;subst hj;exact F.symm
  ·rfl
 have ac:=H.le;refine⟨H.rows.set L N,by rw[B];exact hD,λj c hj hc=>?_,λhm=>?_,by omega,λhm=>?_⟩
 ·by_cases e:j=k
  ·subst e;rw[hb]at hc;cases hc;rw[B];unfold An6;rw[if_pos V];exact hne
  ·exact aa c (H.known j c (by omega) hc)
 ·rw[aV]at hm;have I:CE f out b=D3 out b:=by simpa using hm.2
  obtain⟨h1,h2⟩:=H.same hm.1;rw[J I];refine⟨h1,λj c hj hc=>?_⟩;by_cases e:j=k
  ·subst e;rw[hb]at hc;cases hc;exact I
  ·exact h2 j c (by omega) hc
 ·rw[aW]at hm;rcases hm with hm|hm
  ·have:=H.lt hm;omega
  ·have:=T.2 (by simpa using hm);omega
theorem Ajb(c:g8 f)(O:OrdP f ord){u:List (List Int)}(h0:RowsA f u)(L:DomI f (JY f) (D3 u)):
 ∃r,(iG (CF ord (GR f f.blocks.length)) (aL,0,u)).to r/\RndI f ord u r.1 ord.length r.2:=by
 have N:=c.small.blocks;have J:=O.len;refine iI (step:=CF ord (GR f f.blocks.length)) (λq=>∃k:Nat,q.2.1=(k:Int)/\k<=ord.length/\RndI f ord u q.1 k q.2.2) (λq=>ord.length - q.2.1.toNat) (λr=>RndI f ord u r.1 ord.length r.2) ?_ _ ⟨0,rfl,jE _,h0,L,(λj b D=>absurd D (jC _)),λ_=>⟨rfl,λj b D=>absurd D (jC _)⟩,iY _,λe=>by cases e⟩;rintro⟨more,i,out⟩ ⟨k,e,hk,H⟩;have e:i=(k:Int):=e;subst e;by_cases B:k < ord.length
 ·obtain⟨b,hb⟩:∃b,ord[k]? =jK b:=⟨_,dW B⟩
  have I:=((O.mem b).1 (fH hb)).lt;refine⟨_,Axi c H.rows hb (by omega) I,λF h=>?_,λr h=>by cases h⟩;cases h;exact⟨⟨k+1,rfl,B,H.next O hb⟩,by simp only[cF];omega⟩
 ·have:k=ord.length:=by omega
  subst this;refine⟨.inr (more,out),?_,(λF h=>by cases h),λr h=>by cases h;exact H⟩;simp only[CF];exact AA (decide_eq_false (by omega)) (Ag _)
structure AboveP(f:Func)(out:List (List Int)):Prop where
 rows:RowsA f out
 mem:∀b x,x∈D3 out b↔RchF f (-1) b/\¬RchF f x b
theorem Al0(c:g8 f):∃out,(C6 f).to out/\AboveP f out:=by
 have hn:=c.small.blocks;obtain⟨l,_,hw,W⟩:=Ajx c;have O:=Atk hw;have u:∀b,D3 (gE f.blocks.length ([]:List Int)) b= []:=λb=>by
  unfold D3;split
  ·rw[dT,eC];split <;> rfl
  ·rfl
 obtain⟨out,h1,h2⟩:=iI (step:=Ib l.reverse (GR f f.blocks.length)) (λq=>RowsA f q.2/\DomI f (JY f) (D3 q.2)/\(q.1=aL->∀b,RchF f (-1) b->D3 q.2 b≠[]/\CE f q.2 b=D3 q.2 b)) (λq=>if q.1 then muA f q.2+1 else 0) (λout=>AboveP f out) (by
  rintro⟨more,out⟩ ⟨F,I,U⟩;have F:RowsA f out:=F;cases more with
  |true=>
   obtain⟨⟨N,J⟩,Z,H⟩:=Ajb c O F I;refine⟨.inl (N,J),AI V (Am Z (Ag _)),λT h=>?_,λr h=>by cases h⟩;cases h;refine⟨⟨H.rows,H.dom,λY b hb=>?_⟩,?_⟩
   ·obtain⟨j,L⟩:=eA ((O.mem b).2 hb);have D:=(dY.1 L).1;exact⟨H.known j b D L,(H.same Y).2 j b D L⟩
   ·cases N with
    |true=>
     have:muA f J < muA f out:=H.lt V;simp only[if_true];show muA f J+1 < muA f out+1;omega
    |false=>simp
  |false=>
   refine⟨.inr out,AA V (Ag _),(λT h=>by cases h),λr h=>?_⟩;cases h;have B:=U V;refine⟨F,λb x=>⟨λhx=>?_,λh=>?_⟩⟩
   ·have hb:=I.reach b (fO hx);exact⟨hb,(I.fin (λb k _ h=>Ez.2 h) (λb hb=>(B b hb).1) (λb hb=>(B b hb).2) hb x).1 hx⟩
   ·exact(I.fin (λb k _ h=>Ez.2 h) (λb hb=>(B b hb).1) (λb hb=>(B b hb).2) h.1 x).2 h.2)
  (aZ,gE f.blocks.length []) ⟨⟨by simp,λr h=>by rw[(fL.1 h).2];exact cJ,λr h x hx=>by rw[(fL.1 h).2]at hx;cases hx⟩,
   ⟨λb h=>absurd (u b) h,λb h=>absurd (u b) h,λb h=>absurd (u b) h,λb _ h=>absurd (u b) h,λb _ h=>absurd (u b) h⟩,λh=>by cases h⟩
 refine⟨out,Am W (Am (Ae (BJ.2 c) (Ag _)) (Ae ?_ (Am ?_ (Ag _)))),h2⟩
 ·unfold VO cC;simp;omega
 ·rw[cF];exact h1
end
section
variable{f:g9}{out:List (List Int)}
theorem Pa{b k:Int}(h:b∈nextL f k):0<=k/\k.toNat < f.blocks.length:=by
 have hb:=EY h;have h1:=(Ez (f:=f)).2 h;unfold JY at h1;rw[if_pos hb]at h1;obtain⟨q,h2,rfl⟩:=(JX hb.2 k).1 h1;exact⟨by omega,by simpa using(Ie h2).1⟩
def Fu(f:g9)(out:List (List Int))(h:Int):List Int:=(JY f h).filter λz=>(D3 out z).contains h
theorem NU(H:AboveP f out){b:Int}:b∈Fu f out h↔h∈nextL f b/\RchF f (-1) b/\¬RchF f h b:=by
 unfold Fu;rw[fD,Ez,cV,H.mem]
theorem Og(b:Int):(JY f b).length<=2 * f.blocks.length:=by
 unfold JY;split
 ·unfold Su;rw[dT];cases h:(GR f f.blocks.length)[b.toNat]? with
  |none=>simp
  |some l=>exact Sr f _ l (fH h)
 ·simp
theorem Ahj(h0:0<=h)(u:h.toNat < f.blocks.length):Ch (GR f f.blocks.length) h=aZ/\ixD (GR f f.blocks.length) h=JY f h:=by
 refine⟨BP.2 ⟨h0,by rw[F9];exact u⟩,?_⟩;unfold JY Su ixD;rw[if_pos ⟨h0,u⟩];rfl
theorem U9(c:g8 f):(F1 f).to (GR f f.blocks.length):=Ae (BJ.2 c) (Ag _)
theorem KM{n:Int}(h:l.length<=2147483648):(Ei l n).to (l.contains n):=Ae (decide_eq_true h) (Ag _)
theorem wfN(h0:0<=h)(B:h.toNat < n)(u:n<=4611686018427387904):wfB .i64 h=aZ:=by
 unfold wfB;simp[Lit.wf,bG,bF,bH,bD];omega
theorem Ap5{k:Nat}(hk:k < n)(u:n<=4611686018427387904):bE.wrap ((k:Int)+1)=((k+1:Nat):Int):=by rw[bI _ ⟨by omega,by omega⟩];omega
theorem XH(c:g8 f)(F:(C6 f).to out)(H:AboveP f out)(h:Int):(FJ f h).to (Fu f out h):=by
 have I:=c.small.blocks;unfold FJ;by_cases hh:0<=h/\h.toNat < f.blocks.length
 ·obtain⟨h1,h2⟩:=Ahj hh.1 hh.2;have B:(JY f h).length<=2147483648:=by have:=Og (f:=f) h;omega
  refine AA (by simp;omega) (Am F (Am (U9 c) (Ae h1 ?_)));rw[h2];refine Am (Ae (decide_eq_true B) (Ag _)) (Ae (wfN hh.1 hh.2 (by omega)) (Ae (decide_eq_true B) (Ae (cL.2 λz u=>?_) ?_)))
  ·have:=Pa (Ez.1 u);exact wfN this.1 this.2 (by omega)
  ·have e:Fu f out h=(JY f h).filter λz=>!!((D3 out z).contains h):=by unfold Fu;simp only[aT]
   rw[e];refine Am (Ags λz u=>?_) (Ag _);have u:=Pa (Ez.1 u);rw[Mu u.1];have D:(ixD out z).length<=2147483648:=by
    rw[<-Mu u.1];have:=KP (Ln H.rows z) λx hx=>RK H.rows hx
    omega
   exact Ae (BP.2 ⟨u.1,by rw[H.rows.len];exact u.2⟩) (Am (KM D) (Ag _))
 ·have e:Fu f out h= []:=by unfold Fu JY;rw[if_neg hh];rfl
  rw[e];refine AI ?_ (Ag _);simp only[zar];omega
def Anv(f:g9):List Int:=(fY f.blocks.length).map λk:Nat=>(k:Int)
theorem Yd{b:Int}:b∈Anv f↔0<=b/\b.toNat < f.blocks.length:=by
 unfold Anv;simp only[fG,fK];constructor
 ·rintro⟨k,hk,rfl⟩;exact⟨by omega,by simpa using hk⟩
 ·rintro⟨h0,h1⟩;exact⟨b.toNat,h1,by omega⟩
theorem Aee(n:Nat):Asc ((fY n).map λk:Nat=>(k:Int)):=by
 unfold Asc;rw[fW];exact List.pairwise_lt_range.imp λh=>by omega
theorem Alq(f:g9):Asc (Anv f):=Aee _
theorem Alp(f:g9):(Anv f).length=f.blocks.length:=by simp[Anv]
def Ja(f:g9)(out:List (List Int)):List Int:=(Anv f).filter λh=>!(Fu f out h).isEmpty
theorem Agq{k:Nat}:(((fY (k+1)).map λk:Nat=>(k:Int)).filter p)=(((fY k).map λk:Nat=>(k:Int)).filter p)++(if p (k:Int)then [(k:Int)]else []):=by
 rw[gD,eS,dF];simp[dH]
theorem Ak2{k:Nat}:(((fY k).map λk:Nat=>(k:Int)).filter p).length<=k:=by
 have:=eL p ((fY k).map λk:Nat=>(k:Int));simpa using this
theorem Aja(h:n<=8796093022208):Fj n 8=aZ:=by
 unfold Fj cC;simp;omega
theorem Aks(c:g8 f)(u:(C6 f).to out)(H:AboveP f out):(Hj f).to (Ja f out):=by
 have B:=c.small.blocks;unfold Hj;refine Am (a:=Ja f out) (BN (λk:Nat=>((k:Int),((fY k).map λk:Nat=>(k:Int)).filter λh=>!(Fu f out h).isEmpty)) f.blocks.length (λk hk=>?_) ?_ (jE _)) (Ag _)
 ·simp only[FC];refine AI (decide_eq_true (by omega)) (Am (a:=((fY (k+1)).map λk:Nat=>(k:Int)).filter λh=>!(Fu f out h).isEmpty) (Am (XH c u H _) ?_) ?_)
  ·rw[Agq];cases ht:Fu f out (k:Int)with
   |nil=>simp;exact Ag _
   |cons x l=>
    simp only[List.isEmpty_cons,aS,if_true];have:=Ak2 (p:=λh=>!(Fu f out h).isEmpty) (k:=k);exact AI (decide_eq_true (by simp only[eK];omega)) (Ae (wfN (by omega) (n:=f.blocks.length) (by simpa using hk) (by omega)) (Ae (Aja (by simp only[zah];omega)) (Ag _)))
  ·rw[Ap5 hk (by omega)];exact Ag _
 ·simp only[FC];exact AA (decide_eq_false (by omega)) (Ag _)
inductive LoopI(f:Func)(h:Int):Int->Prop
 |tail {b:Int}:b≠h->h∈nextL f b->RchF f (-1) b->¬RchF f h b->LoopI f h b
 |step {b k:Int}:b≠h->RchF f (-1) b->k∈nextL f b->k≠h->LoopI f h k->LoopI f h b
theorem LoopI.rch{b:Int}(H:LoopI f h b):RchF f (-1) b:=by cases H <;> assumption
open Classical in
noncomputable def Es(f:g9)(out:List (List Int))(h:Int):List Int:=if(Fu f out h).isEmpty then []else(Anv f).filter λb=>decide (b=h\/LoopI f h b)
theorem LQ(h:Int):Asc (Es f out h):=by
 unfold Es;split
 ·exact cJ
 ·exact(Alq f).filter _
theorem XI{b:Int}(hb:b∈Fu f out h):0<=h/\h.toNat < f.blocks.length:=by
 unfold Fu JY at hb;split at hb
 ·assumption
 ·cases hb
theorem Afi{b:Int}(ht:Fu f out h≠[]):b∈Es f out h↔b=h\/LoopI f h b:=by
 unfold Es;rw[if_neg (by simpa using ht),fD,Yd];simp only[decide_eq_true_eq];refine⟨(·.2),λe=>⟨?_,e⟩⟩;rcases e with e|e
 ·obtain⟨x,hx⟩:=dD _ ht;rw[e];exact XI hx
 ·exact e.rch.lt
structure LoopS(f:Func)(out:List (List Int))(h:Int)(at':Nat)(wait o:List Int):Prop where
 head:h∈o
 nod:o.Nodup
 inn:∀b∈o,b≠h->LoopI f h b
 rng:∀b∈o,0<=b/\b.toNat < f.blocks.length
 wrng:∀b∈wait,0<=b/\b.toNat < f.blocks.length
 win:∀b∈wait,RchF f (-1) b->b≠h->LoopI f h b
 tls:∀b∈Fu f out h,b∈wait
 bef:∀k∈o,k≠h->∀b∈JY f k,b∈wait
 done:∀(j:Nat) (b:Int),j < at'->wait[j]? =some b->RchF f (-1) b->b∈o
 le:at'<=wait.length
 few:wait.length<=2 * f.blocks.length * o.length
theorem LoopS.fin{u o:List Int}(H:AboveP f out)(S:LoopS f out h u.length u o):∀b,b∈o↔b=h\/LoopI f h b:=λb=>by
 have hw:∀b∈u,RchF f (-1) b->b∈o:=λb hb J=>by
  obtain⟨j,F⟩:=eA hb;exact S.done j b (dY.1 F).1 F J
 constructor
 ·intro hb;by_cases e:b=h
  ·exact .inl e
  ·exact .inr (S.inn b hb e)
 ·rintro(e|e)
  ·rw[e];exact S.head
  ·induction e with
   |tail h1 h2 B D=>exact hw _ (S.tls _ ((NU H).2 ⟨h2,B,D⟩)) B
   |step h1 h2 B D _ I=>exact hw _ (S.bef _ I D _ (Ez.2 B)) h2
theorem LoopS.skip{b:Int}{u o:List Int}(S:LoopS f out h at' u o)(hb:u[at']? =jK b)(D:RchF f (-1) b->b∈o):LoopS f out h (at'+1) u o:=
 ⟨S.head,S.nod,S.inn,S.rng,S.wrng,S.win,S.tls,S.bef,λj c F hc B=>by
  by_cases e:j=at'
  ·subst e;rw[hb]at hc;cases hc;exact D B
  ·exact S.done j c (by omega) hc B,(dY.1 hb).1,S.few⟩
theorem LoopS.add{b:Int}{u o:List Int}(S:LoopS f out h at' u o)(hb:u[at']? =jK b)(J:RchF f (-1) b)(L:b∉o):LoopS f out h (at'+1) (u++JY f b) (o++[b]):=by
 have B:b≠h:=λe=>L (e▸S.head)
 have N:=S.win b (fH hb) J B;have F:=(dY.1 hb).1;refine⟨eX _ S.head,?_,λc hc hne=>?_,λc hc=>?_,λc hc=>?_,λc hc h1 h2=>?_,λc hc=>eX _ (S.tls c hc),λk hk I c hc=>?_,λj c T hc D=>?_,by rw[eJ];omega,?_⟩
 ·rw[fQ];exact⟨S.nod,by simp,λx hx y O=>by rw[fN.1 O];exact λe=>L (e▸hx)⟩
 ·rcases eW.1 hc with hc|hc
  ·exact S.inn c hc hne
  ·rw[fN.1 hc];exact N
 ·rcases eW.1 hc with hc|hc
  ·exact S.rng c hc
  ·rw[fN.1 hc];exact J.lt
 ·rcases eW.1 hc with hc|hc
  ·exact S.wrng c hc
  ·exact Pa (Ez.1 hc)
 ·rcases eW.1 hc with hc|hc
  ·exact S.win c hc h1 h2
  ·exact .step h2 h1 (Ez.1 hc) B N
 ·rcases eW.1 hk with hk|hk
  ·exact eX _ (S.bef k hk I c hc)
  ·rw[fN.1 hk]at hc;exact eY _ hc
 ·by_cases e:j=at'
  ·subst e;rw[dU F,hb]at hc;cases hc;exact eY _ (by simp)
  ·rw[dU (by omega)]at hc;exact eX _ (S.done j c (by omega) hc D)
 ·have h1:=S.few;have h2:=Og (f:=f) b;rw[eJ,eJ,i8];simp only[zah];omega
theorem T7{o:List Int}(h:o.Nodup)(u:∀b∈o,0<=b/\b.toNat < n):o.length<=n:=Hc h u
theorem Ao4(c:g8 f)(ho:(C6 f).to out)(H:AboveP f out)(h:Int):(Jk f h).to (Es f out h):=by
 have hn:=c.small.blocks;unfold Jk;refine Am (XH c ho H h) ?_;by_cases ht:Fu f out h= []
 ·rw[ht];have:Es f out h= []:=by unfold Es;rw[ht];rfl
  rw[this];exact AI V (Ag _)
 ·obtain⟨x,hx⟩:=dD _ ht;have Y:=XI hx;obtain⟨l,_,U,W⟩:=Zw c;refine AA (by simpa using ht) (Am (U9 c) (Am W (Ae (wfN Y.1 Y.2 (by omega)) ?_)));have N:∀b:Int,0<=b->b.toNat < f.blocks.length->(ixD (IG f.blocks.length l l.length) b=aZ↔RchF f (-1) b):=λb h0 h1=>by
   have:=Aiy (l:=l) h1;rw[cG h0]at this;rw[this,cV,U.mem]
  have q1:∀b∈Fu f out h,0<=b/\b.toNat < f.blocks.length:=λb hb=>((NU H).1 hb).2.1.lt
  have q2:∀b∈Fu f out h,RchF f (-1) b->b≠h->LoopI f h b:=λb hb I hne=>.tail hne ((NU H).1 hb).1 I ((NU H).1 hb).2.2
  have q3:(Fu f out h).length<=2 * f.blocks.length * [h].length:=by
   have h3:=Og (f:=f) h;have h4:(Fu f out h).length<=(JY f h).length:=eL _ _;simp only[jD,jB,zah];exact iZ h4 h3
  obtain⟨r,h1,h2⟩:=iI (step:=FA (GR f f.blocks.length) (IG f.blocks.length l l.length)) (λq=>∃k:Nat,q.1=(k:Int)/\LoopS f out h k q.2.1 q.2.2) (λq=>(f.blocks.length+1 - q.2.2.length) *(2 * f.blocks.length+1)+(q.2.1.length - q.1.toNat)) (λr=>r=Es f out h) (by
   rintro⟨i,u,o⟩ ⟨k,e,S⟩;have e:i=(k:Int):=e;subst e;have S:LoopS f out h k u o:=S;have Z:=T7 S.nod S.rng;have ae:u.length<=2 * f.blocks.length * f.blocks.length:=iZ S.few (jA _ Z);have af:2 * f.blocks.length * f.blocks.length<=2 * 2097152 * 2097152:=i9 (by omega) hn;simp only[FA];by_cases hk:k=u.length
   ·subst hk;refine⟨.inr (o.mergeSort λx y=>decide (x<=y)),AI (by simp) (Ae (decide_eq_true (by omega)) (Ag _)),(λs' e=>by cases e),λr e=>?_⟩;cases e;refine GS (Oh S.nod) (LQ h) λb=>?_
    rw[List.mem_mergeSort,S.fin H,Afi ht]
   ·have L:k < u.length:=by have:=S.le;omega
    obtain⟨b,hb⟩:∃b,u[k]? =jK b:=⟨_,dW L⟩
    have D:=S.wrng b (fH hb);have ab:ixD u (k:Int)=b:=B7 hb;rw[ab];have O:Ch (IG f.blocks.length l l.length) b=aZ:=BP.2 ⟨D.1,by rw[Ot];exact D.2⟩;by_cases F:RchF f (-1) b/\b∉o
    ·have T:=S.add hb F.1 F.2;have J:=T7 T.nod T.rng;rw[eJ]at J;simp only[zah]at J;obtain⟨g1,g2⟩:=Ahj D.1 D.2;have ad:u.length+(JY f b).length<=2 * f.blocks.length * f.blocks.length:=by
      have:=T.few;rw[eJ,eJ]at this;exact iZ this (jA _ J)
     have ag:=Og (f:=f) b;have B:=(N b D.1 D.2).2 F.1;refine⟨.inl (((k+1:Nat):Int),u++JY f b,o++[b]),AA (by simp;omega) (Am (a:=(u++JY f b,o++[b])) (Ae (E8 L) (Ae O (Am (BB B (KM (by omega))) (AI (by rw[B];simpa using F.2) (Ae (wfN D.1 D.2 (by omega)) (Ae (Aja (by simp only[zah];omega)) (Ae g1 ?_))))))) ?_),λs' e=>?_,λr e=>by cases e⟩
     ·rw[g2];exact Ae (Aja (by omega)) (Ag _)
     ·rw[Ap5 L (by omega)];exact Ag _
     ·cases e;refine⟨⟨k+1,rfl,T⟩,?_⟩;have h5:f.blocks.length+1 - o.length=(f.blocks.length+1 - (o.length+1))+1:=by omega
      simp only[cF,jD,zau];rw[h5,Nat.add_mul];omega
    ·refine⟨.inl (((k+1:Nat):Int),u,o),AA (by simp;omega) (Am (a:=(u,o)) (Ae (E8 L) (Ae O ?_)) ?_),λs' e=>?_,λr e=>by cases e⟩
     ·by_cases I:RchF f (-1) b
      ·have B:=(N b D.1 D.2).2 I;have ac:b∈o:=a7 λe=>F ⟨I,e⟩
       exact Am (BB B (KM (by omega))) (AA (by rw[B];simpa using ac) (Ag _))
      ·have B:ixD (IG f.blocks.length l l.length) b=aL:=by
        cases e:ixD (IG f.blocks.length l l.length) b with
        |false=>rfl
        |true=>exact absurd ((N b D.1 D.2).1 e) I
       exact Am (iM B) (AA (by rw[B];rfl) (Ag _))
     ·rw[Ap5 L (by omega)];exact Ag _
     ·cases e;refine⟨⟨k+1,rfl,S.skip hb λI=>a7 λe=>F ⟨I,e⟩⟩,?_⟩;simp only[cF];omega)
   (0,Fu f out h,[h]) ⟨0,rfl,⟨by simp,by simp,λb hb hne=>absurd (fN.1 hb) hne,λb hb=>by rw[fN.1 hb];exact Y,q1,q2,λb hb=>hb,λk hk aa=>absurd (fN.1 hk) aa,λj b hj=>absurd hj (jC _),jE _,q3⟩⟩
  rw[<-h2];exact h1
end
theorem snoc_ind{u:List α->Prop}(nil:u [])(append_singleton:∀l x,u l->u (l++[x]))(l:List α):u l:=by
 have h:∀l:List α,u l.reverse:=λl=>by
  induction l with
  |nil=>exact nil
  |cons x l B=>rw[gG];exact append_singleton _ _ B
 have:=h l.reverse;rwa [List.reverse_reverse]at this
section
variable{f:g9}
end
section
variable{f:g9}{out:List (List Int)}
theorem Yq:(Ja f out).length<=f.blocks.length:=by
 unfold Ja;have:=eL (λh=>!(Fu f out h).isEmpty) (Anv f);rwa [Alp]at this
def WB(l:List Int)(L:List Int):List Int:=L.foldl (λl b=>l.set b.toNat (ixD l b+1)) l
theorem Pn{L:List Int}{b:Int}:WB l (L++[b])=(WB l L).set b.toNat (ixD (WB l L) b+1):=by
 unfold WB;rw[dP];rfl
theorem R9:∀L:List Int,(WB l L).length=l.length:=λL=>by
 induction L using snoc_ind with
 |nil=>rfl
 |append_singleton L b u=>rw[Pn,eQ,u]
theorem Af2(hx:0<=x):∀{L:List Int},L.Nodup->(∀b∈L,0<=b/\b.toNat < l.length)->ixD (WB l L) x=ixD l x+if x∈L then 1 else 0:=by
 intro L;induction L using snoc_ind with
 |nil=>intro _ _;simp[WB]
 |append_singleton L b J=>
  intro N I;have B:=fQ.1 N;have u:=J B.1 λc hc=>I c (eX _ hc)
  have F:=I b (by simp);rw[Pn];by_cases e:x=b
  ·subst e;have D:x∉L:=λh=>B.2.2 x h x (by simp) V
   rw[if_neg D]at u;unfold ixD at u⊢;rw[dT,eF (by rw[R9];exact F.2),if_pos (by simp)];simp only[jF];omega
  ·have h1:x∈L++[b]↔x∈L:=by simp[e]
   simp only[h1];rw[<-u];unfold ixD;rw[dT,eE (by omega),dT]
noncomputable def depthK(f:g9)(out:List (List Int))(k:Nat):List Int:=((Ja f out).take k).foldl (λl h=>WB l (Es f out h)) (gE f.blocks.length 0)
noncomputable def CZ(f:g9)(out:List (List Int)):List Int:=depthK f out (Ja f out).length
theorem PB{k:Nat}(hk:(Ja f out)[k]? =jK h):depthK f out (k+1)=WB (depthK f out k) (Es f out h):=by
 unfold depthK;rw[gI,hk,dP];rfl
theorem JV(k:Nat):(depthK f out k).length=f.blocks.length:=by
 unfold depthK;generalize (Ja f out).take k=L;induction L using snoc_ind with
 |nil=>simp
 |append_singleton L b u=>rw[dP];simp only[dQ,List.foldl_nil];rw[R9,u]
theorem LP{b:Int}(hb:b∈Es f out h):0<=b/\b.toNat < f.blocks.length:=by
 unfold Es at hb;split at hb
 ·cases hb
 ·exact Yd.1 (fD.1 hb).1
theorem Afj(h:Int):(Es f out h).length<=f.blocks.length:=KP (LQ h) λx hx=>LP hx
theorem Agz(hx:0<=x)(u:x.toNat < f.blocks.length):∀k,k<=(Ja f out).length->ixD (depthK f out k) x=((((Ja f out).take k).countP λh=>(Es f out h).contains x:Nat):Int):=by
 intro k;induction k with
 |zero=>
  intro _;unfold depthK ixD;simp[eC,u]
 |succ k B=>
  intro hk;obtain⟨h,hh⟩:∃h,(Ja f out)[k]? =jK h:=⟨_,dW hk⟩
  rw[PB hh,Af2 hx (PJ (LQ h)) (λb hb=>by rw[JV];exact LP hb),B (by omega),gI,hh,List.countP_append];simp only[jL,List.countP_cons,List.countP_nil,cV,jD];split <;> simp
theorem UQ(hx:0<=x)(u:x.toNat < f.blocks.length){k:Nat}(hk:k<=(Ja f out).length):0<=ixD (depthK f out k) x/\ixD (depthK f out k) x<=(k:Int):=by
 rw[Agz hx u k hk];have:=cZ (p:=λh=>(Es f out h).contains x) (l:=(Ja f out).take k);rw[eR]at this;omega
theorem Af1(c:g8 f){k:Nat}(hk:k < (Ja f out).length)(hq:(Es f out h)[q]? =jK x):
 Ch (WB (depthK f out k) ((Es f out h).take q)) x=aZ/\wfB .i64 (bE.wrap (ixD (WB (depthK f out k) ((Es f out h).take q)) x+1))=aZ/\
  (WB (depthK f out k) ((Es f out h).take q)).set (Int.toNat x) (bE.wrap (ixD (WB (depthK f out k) ((Es f out h).take q)) x+1))=WB (depthK f out k) ((Es f out h).take (q+1)):=by
 have L:=c.small.blocks;have u:=LP (fH hq);have J:=Yq (f:=f) (out:=out);have N:=UQ (f:=f) (out:=out) u.1 u.2 (k:=k) (by omega);have B:=PJ (LQ (f:=f) (out:=out) h);have F:(Es f out h).take (q+1)=(Es f out h).take q++[x]:=by rw[gI,hq];rfl
 have I:x∉(Es f out h).take q:=λe=>by
  have h2:((Es f out h).take (q+1)).Nodup:=B.sublist (gN _ _);rw[F]at h2;exact(fQ.1 h2).2.2 x e x (by simp) V
 have D:=Af2 (l:=depthK f out k) u.1 (B.sublist (gN q _)) λb hb=>by rw[JV];exact LP (fI hb)
 rw[if_neg I,Int.add_zero]at D;have hw:bE.wrap (ixD (depthK f out k) x+1)=ixD (depthK f out k) x+1:=bI _ (by omega);refine⟨BP.2 ⟨u.1,by rw[R9,JV];exact u.2⟩,?_,?_⟩
 ·rw[D,hw];exact wfN (n:=f.blocks.length+2) (by omega) (by omega) (by omega)
 ·rw[F,Pn,D,hw]
theorem Ak8(c:g8 f)(u:(C6 f).to out)(H:AboveP f out):(Hl f).to (CZ f out):=by
 have I:=c.small.blocks;have D:=Yq (f:=f) (out:=out);unfold Hl;refine Ae (by unfold VO cC;simp;omega) (Am (Aks c u H) (Am (a:=CZ f out) (BN (step:=Ex f (Ja f out)) (λk:Nat=>((k:Int),depthK f out k)) (Ja f out).length (λk hk=>?_) ?_ (jE _)) (Ag _)))
 ·obtain⟨h,hh⟩:∃h,(Ja f out)[k]? =jK h:=⟨_,dW hk⟩
  simp only[Ex,B7 hh];have B:=Afj (f:=f) (out:=out) h;refine AI (decide_eq_true (by omega)) (Ae (E8 hk) (Am (Ao4 c u H h) (Am (a:=depthK f out (k+1)) ?_ (by rw[Aw8 hk (by omega)];exact Ag _))));rw[PB hh];refine BN (step:=DT (Es f out h)) (λq:Nat=>((q:Int),WB (depthK f out k) ((Es f out h).take q))) (Es f out h).length (λq hq=>?_) ?_ (jE _)
  ·obtain⟨x,hx⟩:∃x,(Es f out h)[q]? =jK x:=⟨_,dW hq⟩
   obtain⟨h1,h2,F⟩:=Af1 c hk hx;simp only[DT,B7 hx];refine AI (decide_eq_true (by omega)) (Ae (E8 hq) (Ae h1 (Ae h2 ?_)));rw[F,Aw8 hq (by omega)];exact Ag _
  ·rw[gJ];simp only[DT];exact AA (decide_eq_false (by omega)) (Ag _)
 ·simp only[Ex];exact AA (decide_eq_false (by omega)) (Ag _)
end
def pwI(d:Int):Nat:=(if 4 < d then 4 else d).toNat
def Eo(d:Int):Int:=10 ^ pwI d
theorem Amq(d:Int):pwI d<=4:=by unfold pwI;split <;> omega
theorem Ati{d:Int}(h:0<=d):((pwI d:Nat):Int)=if 4 < d then 4 else d:=by unfold pwI;split <;> omega
theorem TO(d:Int):Eo d=1/\pwI d=0\/Eo d=10/\pwI d=1\/Eo d=100/\pwI d=2\/Eo d=1000/\pwI d=3\/Eo d=10000/\pwI d=4:=by
 have h:=Amq d;unfold Eo;have h2:pwI d=0\/pwI d=1\/pwI d=2\/pwI d=3\/pwI d=4:=by omega
 rcases h2 with e|e|e|e|e <;> rw[e] <;> simp
theorem Zx(d:Int):1<=Eo d/\Eo d<=10000:=by rcases TO d with⟨e,_⟩|⟨e,_⟩|⟨e,_⟩|⟨e,_⟩|⟨e,_⟩ <;> rw[e] <;> omega
def rnG(f:g9)(dl:List Int)(k:Nat):List (Int×Int):=(Nt (f.blocks.getD k default)).map λr=>(r,Eo (ixD dl (k:Int)))
def rnK(f:g9)(dl:List Int)(k:Nat):List (Int×Int):=((fY f.blocks.length).take k).flatMap (rnG f dl)
def rnF(f:g9)(dl:List Int):List (Int×Int):=(fY f.blocks.length).flatMap (rnG f dl)
theorem Yu{β:Type}(g:α->List β)(l:List α)(k:Nat):(l.take k).flatMap g <+:l.flatMap g:=by
 conv=>rhs;rw[<-List.take_append_drop k l]
 rw[List.flatMap_append];exact List.prefix_append _ _
section
variable{f:g9}{dl:List Int}
theorem XT{k:Nat}(hk:k < f.blocks.length):rnK f dl (k+1)=rnK f dl k++rnG f dl k:=by
 unfold rnK;exact Dk (eB hk)
theorem Aoh(k:Nat):rnK f dl k <+:rnF f dl:=Yu _ _ _
theorem Aoi:rnK f dl f.blocks.length=rnF f dl:=by
 unfold rnK rnF;rw[show(fY f.blocks.length).take f.blocks.length=fY f.blocks.length from gK (by simp)]
theorem Aml{k:Nat}{b:gU}(hb:f.blocks[k]? =jK b):rnG f dl k=(Nt b).map λr=>(r,Eo (ixD dl (k:Int))):=by
 unfold rnG;rw[dT,hb];rfl
def rnI(f:g9)(dl:List Int)(k:Nat)(b:gU)(i:Nat):List (Int×Int):=rnK f dl k++((b.ins.take i).flatMap Bz).map λr=>(r,Eo (ixD dl (k:Int)))
def rnR(f:g9)(dl:List Int)(k:Nat)(b:gU)(i:Nat)(x:Ins)(q:Nat):List (Int×Int):=rnI f dl k b i++((Bz x).take q).map λr=>(r,Eo (ixD dl (k:Int)))
theorem Aje{k:Nat}{b:gU}:rnI f dl k b 0=rnK f dl k:=by simp[rnI]
theorem Aok{k:Nat}{b:gU}(hb:f.blocks[k]? =jK b):rnI f dl k b b.ins.length=rnK f dl (k+1):=by
 rw[XT (dY.1 hb).1,Aml hb];unfold rnI Nt;rw[gJ]
theorem Ajd{k:Nat}{b:gU}{x:Ins}:rnR f dl k b i x 0=rnI f dl k b i:=by simp[rnR]
theorem Ad3{k:Nat}{b:gU}{x:Ins}(hx:b.ins[i]? =jK x):rnR f dl k b i x (Bz x).length=rnI f dl k b (i+1):=by
 unfold rnR rnI;rw[gJ,Dk hx,eS,cP]
theorem XS{k:Nat}{b:gU}{x:Ins}{r:Int}(u:(Bz x)[q]? =jK r):rnR f dl k b i x (q+1)=rnR f dl k b i x q++[(r,Eo (ixD dl (k:Int)))]:=by
 unfold rnR;rw[gI,u,eS,cP];rfl
theorem Aoj{k:Nat}{b:gU}(hb:f.blocks[k]? =jK b):rnI f dl k b i <+:rnF f dl:=by
 refine List.IsPrefix.trans ?_ (Aoh (k+1));rw[XT (dY.1 hb).1,Aml hb];unfold rnI Nt;exact(fX _).2 ((Yu _ _ _).map _)
theorem Aog{k:Nat}{b:gU}{x:Ins}(hb:f.blocks[k]? =jK b)(hx:b.ins[i]? =jK x):rnR f dl k b i x q <+:rnF f dl:=by
 refine List.IsPrefix.trans ?_ (Aoj hb (i:=i+1));rw[<-Ad3 hx];unfold rnR;rw[gJ];exact(fX _).2 ((List.take_prefix _ _).map _)
theorem V4:(rnF f dl).map (·.1)=Nv f:=by
 unfold rnF Nv;rw[List.map_flatMap];have e:(fY f.blocks.length).map (λk=>f.blocks.getD k default)=f.blocks:=by
  refine dE λk=>?_
  rw[dZ];by_cases hk:k < f.blocks.length
  ·rw[eB hk];show jK (f.blocks.getD k default)=_;rw[dT,dW hk];rfl
  ·rw[dX (by simpa using hk),dX (by omega)];rfl
 conv=>rhs;rw[<-e]
 rw[List.flatMap_map];congr 1;funext k;unfold rnG;rw[eU];exact List.map_id'' (λ_=>rfl) _
theorem V3:(rnF f dl).length=(Nv f).length:=by rw[<-V4 (dl:=dl),eM]
theorem Aol{p:Int×Int}(h:p∈rnF f dl):1<=p.2/\p.2<=10000:=by
 unfold rnF at h;obtain⟨k,_,h⟩:=fE.1 h;unfold rnG at h;obtain⟨r,_,rfl⟩:=fG.1 h;exact Zx _
theorem Aom{x:Ins}(u:okIns x)(B:x.args.length<=2097152):(Ji x).to (Bz x):=by
 unfold Ji Bz;have h1:(Ky x).to (readsC x):=Ae (by rw[aI];exact⟨Dz.2 u,decide_eq_true B⟩) (Ag _);have h2:(IQ x).to (if Bd x then x.d else 0,Bd x):=Ae (Dz.2 u) (Ag _);have D:=Mw B;refine Am h1 (Am (a:=readsC x++if Bd x then [x.d]else []) (Am h2 ?_) (Ag _));cases Bd x with
 |true=>exact AI V (Ae u.d (Ae (Aja (by simp only[zah];omega)) (Ag _)))
 |false=>
  simp only[aN,if_false,cR];exact AA V (Ag _)
theorem Aoo{d:List Int}{k:Int}(h:0<=ixD d k):(iG (DC d k) (1,0)).to (Eo (ixD d k)):=by
 have B:=Ati h;have F:=Amq (ixD d k);unfold Eo;refine BN (step:=DC d k) (λj:Nat=>((10:Int) ^ j,(j:Int))) (pwI (ixD d k)) (λj D=>?_) ?_ (jE _)
 ·simp only[DC];refine AI (decide_eq_true (by rw[<-B];omega)) ?_;have e:bE.wrap ((10:Int) ^ j * 10)=(10:Int) ^ (j+1):=by
   have u:j=0\/j=1\/j=2\/j=3:=by omega
   rcases u with rfl|rfl|rfl|rfl <;> rfl
  rw[e,Ap5 D (by omega)];exact Ag _
 ·simp only[DC];exact AA (decide_eq_false (by rw[<-B];omega)) (Ag _)
theorem Abd(c:g8 f){b:gU}(hb:b∈f.blocks){x:Ins}(hx:x∈b.ins):okIns x/\x.args.length<=2097152:=⟨(c.ok.blocks b hb).ins x hx,by
 have:=((c.small.all b hb).all x hx)
 omega⟩
variable{out:List (List Int)}{σ:Type}{step:σ->Int->Int->M σ}
theorem Aas{k:Nat}(hk:k < f.blocks.length):0<=ixD (CZ f out) (k:Int):=(UQ (f:=f) (out:=out) (x:=(k:Int)) (by omega) (by simpa using hk) (iY _)).1
theorem Aqn(c:g8 f)(O:(C6 f).to out)(H:AboveP f out)(G:List (Int×Int)->σ)(L:∀u p,u++[p] <+:rnF f (CZ f out)->(step (G u) p.1 p.2).to (G (u++[p]))):
 (Jj step f (G [])).to (G (rnF f (CZ f out))):=by
 have U:=c.small.blocks;have J:(CZ f out).length=f.blocks.length:=JV _;unfold Jj;refine Am (Ak8 c O H) (Am (a:=G (rnF f (CZ f out))) ?_ (Ag _));rw[<-Aoi];refine BN (step:=Fa step f (CZ f out)) (λk:Nat=>((k:Int),G (rnK f (CZ f out) k))) f.blocks.length (λk hk=>?_) ?_ (jE _)
 ·obtain⟨b,hb⟩:∃b,f.blocks[k]? =jK b:=⟨_,dW hk⟩
  have T:=c.ins b (fH hb);simp only[Fa];refine AI (decide_eq_true (by omega)) (Ae (E8 (by omega)) (Am (Aoo (Aas hk)) (Ae (E8 hk) (Am (a:=G (rnK f (CZ f out) (k+1))) ?_ (by rw[Ap5 hk (by omega)];exact Ag _)))));rw[<-Aok hb];refine(show(iG (DB step f (k:Int) (Eo (ixD (CZ f out) (k:Int)))) (0,G (rnK f (CZ f out) k))).to _ from ?_);rw[<-Aje (b:=b)];refine BN (step:=DB step f (k:Int) (Eo (ixD (CZ f out) (k:Int)))) (λi:Nat=>((i:Int),G (rnI f (CZ f out) k b i))) b.ins.length (λi hi=>?_) ?_ (jE _)
  ·obtain⟨x,hx⟩:∃x,b.ins[i]? =jK x:=⟨_,dW hi⟩
   obtain⟨I,B⟩:=Abd c (fH hb) (fH hx);simp only[DB,B7 hb,B7 hx];refine AI (decide_eq_true (by omega)) (Ae (E8 hi) (Am (Aom I B) (Am (a:=G (rnI f (CZ f out) k b (i+1))) ?_ (by rw[Ap5 hi (by omega)];exact Ag _))));rw[<-Ad3 hx,<-Ajd (x:=x)];have N:(Bz x).length<=2097155:=by
    have:=Mw B;unfold Bz;rw[eJ];split <;> simp <;> omega
   refine BN (step:=Ew step (Eo (ixD (CZ f out) (k:Int))) (Bz x)) (λq:Nat=>((q:Int),G (rnR f (CZ f out) k b i x q))) (Bz x).length (λq hq=>?_) ?_ (jE _)
   ·obtain⟨r,F⟩:∃r,(Bz x)[q]? =jK r:=⟨_,dW hq⟩
    simp only[Ew,B7 F];have D:=L (rnR f (CZ f out) k b i x q) (r,Eo (ixD (CZ f out) (k:Int))) (by rw[<-XS F];exact Aog hb hx);rw[XS F];exact AI (decide_eq_true (by omega)) (Ae (E8 hq) (Am D (by rw[Ap5 hq (by omega)];exact Ag _)))
   ·simp only[Ew];exact AA (decide_eq_false (by omega)) (Ag _)
  ·simp only[DB,B7 hb];exact AA (decide_eq_false (by omega)) (Ag _)
 ·simp only[Fa,J];exact AA (decide_eq_false (by omega)) (Ag _)
def Kb(r:Int)(l:List (Int×Int)):Int:=((l.filter λp=>p.1 ==r).map (·.2)).sum
theorem PD(r:Int)(l m:List (Int×Int)):Kb r (l++m)=Kb r l+Kb r m:=by simp[Kb,dF]
theorem PC(r:Int)(p:Int×Int):Kb r [p]=if p.1 ==r then p.2 else 0:=by
 unfold Kb;rw[dH];split <;> simp
theorem UV(r:Int):∀{l:List (Int×Int)},(∀p∈l,1<=p.2/\p.2<=10000)->0<=Kb r l/\Kb r l<=10000 *(l.length:Int)
 | [],_=>by simp[Kb]
 |p::l,h=>by
  have u:=UV r (l:=l) λq hq=>h q (fA _ hq)
  have B:=h p (by simp);rw[show p::l= [p]++l from V,PD,PC,eJ];simp only[zah];split <;> omega
theorem Aop{u:List (Int×Int)}(c:g8 f)(h:u <+:rnF f dl)(r:Int):0<=Kb r u/\Kb r u<=30000000000:=by
 have h1:=UV r (l:=u) λp B=>Aol (h.subset B)
 have h2:=h.length_le;have D:=c.all;rw[V3]at h2;omega
def J8(l:List (Int×Int)):List (Int×Int):=l.foldl (λm p=>B6 m p.1 ((getK m p.1).getD 0+p.2)) []
theorem QF(l:List (Int×Int))(p:Int×Int):J8 (l++[p])=B6 (J8 l) p.1 ((getK (J8 l) p.1).getD 0+p.2):=by
 unfold J8;rw[dP];rfl
theorem Rh{r:Int}{l:List (Int×Int)}(h:r∉l.map (·.1)):Kb r l=0:=by
 unfold Kb;rw[dK.2 λp u=>by
  intro e;exact h (fG.2 ⟨p,u,by simpa using e⟩)]
 rfl
theorem NW(l:List (Int×Int)):Ea (J8 l)/\(J8 l).length<=l.length/\∀x,getK (J8 l) x=if x∈l.map (·.1)then jK (Kb x l)else jJ:=by
 induction l using snoc_ind with
 |nil=>exact⟨Ea.nil,iY _,λx=>rfl⟩
 |append_singleton l p B=>
  obtain⟨h1,h2,u⟩:=B;rw[QF];refine⟨h1.put _ _,?_,λx=>?_⟩
  ·have:=EZ (l:=J8 l) p.1 ((getK (J8 l) p.1).getD 0+p.2);rw[eJ];simp only[zah];omega
  ·rw[BH h1,eS,PD,PC];by_cases e:x=p.1
   ·subst e;rw[if_pos V,if_pos (by simp),u];split
    ·simp
    ·rename_i D;rw[Rh D];simp
   ·rw[if_neg e,u];have I:(p.1 ==x)=aL:=by simpa using λk=>e k.symm
    rw[I];have F:x∈l.map (·.1)++[p].map (·.1)↔x∈l.map (·.1):=by simp[e]
    simp only[F];simp
theorem Acr(l:List (Int×Int))(x:Int):Qe (J8 l) x=Kb x l:=by
 unfold Qe;rw[(NW l).2.2 x];split
 ·rfl
 ·rename_i h;rw[Rh h];rfl
theorem Afp:keysK (J8 (rnF f dl))=AK f:=by
 obtain⟨h1,_,F⟩:=NW (rnF f dl);refine GS (fW.2 h1) (CI f).1 λx=>?_
 rw[(CI f).2,<-V4 (dl:=dl)];have u:=F x;constructor
 ·intro hx;obtain⟨p,B,e⟩:=fG.1 hx;have D:getK (J8 (rnF f dl)) x=jK p.2:=(CH h1).2 (by rw[<-e];exact B);rw[D]at u;split at u
  ·assumption
  ·cases u
 ·intro hx;rw[if_pos hx]at u;exact fG.2 ⟨_,(CH h1).1 u,rfl⟩
def Ans(f:g9)(dl:List Int):List Int:=Kx (J8 (rnF f dl)) (AK f)
theorem Alm(c:g8 f)(L:(C6 f).to out)(H:AboveP f out):(MV f).to (Ans f (CZ f out)):=by
 unfold MV;have I:=c.all;have hk:=NW (rnF f (CZ f out));rw[V3]at hk;refine Am (a:=J8 (rnF f (CZ f out))) (Aqn c L H J8 λu p F=>?_) (Ae (decide_eq_true ⟨by omega,hk.1⟩) ?_)
 ·have B:p∈rnF f (CZ f out):=F.subset (by simp);have hw:wfB .i64 p.1=aZ:=Xi c.ok p.1 (by rw[<-V4 (dl:=CZ f out)];exact fG.2 ⟨p,B,rfl⟩);have D:=F.length_le;rw[V3,eJ]at D;have h2:=(NW u).2.1;have N:(getK (J8 u) p.1).getD 0=Kb p.1 u:=Acr u p.1;have J:=Aop c F p.1;rw[PD,PC]at J;simp only[beq_self_eq_true,if_true]at J;rw[QF];simp only[GE];refine Ae hw (Ae (decide_eq_true (by unfold cC;omega)) ?_);rw[N,bI _ (by omega)];exact Ag _
 ·rw[Afp];exact Ag _
end
end Mu
namespace Mu
open Go Go.RowKit Go.Proofs Go.Maps
variable{f:g9}{r:Bool}
def partN(f:g9)(r:Int):Nat:=((regsB f).filter λy=>Eq f r y).length
structure ColOK(f:Func)(r:Plan×Int):Prop where
 no:IB f=false->r=(⟨false,0,[]⟩,2)
 err:IB f=true->r.2=0
 right:IB f=true->Fp f r.1=true
 ok:okPlan r.1
 wf:∀x∈r.1.at_,Cl x
 lf:IB f=true->leaf f.blocks=true->(∀x∈regsB f,partN f x < 7)->r.1.leaf=true
 few:IB f=true->(∀x∈regsB f,partN f x < 14)->r.1.slots=0
 many:r.1.slots≠0->r.1.slots+14<=((regsB f).length:Int)
theorem XY(u:List Int)(r:Int):14<=(BD u r aL).length:=by
 rcases TR u r aL with⟨h,_⟩|⟨_,_,h2⟩|⟨_,_,h2⟩
 ·cases h
 ·rw[h2];decide
 ·rw[h2];decide
theorem Ao9(g:CV f=aL):(Rm f).length<=2097152:=by
 have h1:=Ob 250 (λb:gU=>b.ins) f.blocks λb hb=>Uu g hb
 have h2:=Nm g;show(f.blocks.flatMap λb=>b.ins).length<=_;omega
theorem Adp(G:gV)(A:List (Int×Int)):IJ G [] A=(A,0):=rfl
theorem Ag7(f:g9)(c:g8 f)(an:Dw.bulk f<=2097152)(g:CV f=aL):∃r:iT×Int,Fn bT 9 [.agg (Ak f)] (.tup [.agg (Cy r.1),.lit (.int .i64 r.2)])/\ColOK f r:=by
 have hr:=JE g;have I:=Amw f c (by omega);cases U:IB f with
 |false=>
  rw[U]at I;exact⟨(⟨aL,0,[]⟩,2),WY f I,⟨λ_=>rfl,λh=>(by rw[U]at h;cases h),λh=>(by rw[U]at h;cases h),⟨Mp ⟨by decide,by decide⟩⟩,λx hx=>(by cases hx),λh=>(by rw[U]at h;cases h),λh=>(by rw[U]at h;cases h),λh=>absurd V h⟩⟩
 |true=>
  rw[U]at I;have J:=U1 (f:=f) (Ae (by rw[aI];exact⟨BJ.2 c,decide_eq_true an⟩) (Ag _));obtain⟨out,ho,HA⟩:=Al0 c;have ak:=UU (Alm c ho HA);obtain⟨ch,ah⟩:∃x,x=Ans f (CZ f out):=⟨_,rfl⟩
  rw[<-ah]at ak;have T:ch.Perm (AK f):=by rw[ah];exact GW _ _
  have aq:=Aqe g;have am:ch.length<=1000:=by rw[T.length_eq];omega
  have ag:∀r∈ch,r∈AK f:=λr h=>T.mem_iff.1 h
  have hE:(De f).length<=3600:=LB g _;have hM:(mvL f).length<=3600:=LB g _;have aa:∀lf,Fn bT 25 [.agg (Ak f),.lit (.bool lf)] (.bp Bc (Cr f lf ch) 0):=λlf=>Z9 f lf ch c (by omega) ak (by omega) (by omega) (QX c _) (QX c _) (Ao9 g) (iZ (Ra g lf) (by decide)) (λx hx=>by
   obtain⟨h1,n,e,h2,_⟩:=Af6 hx;exact⟨EW c.ok h1,by rw[e];exact Mp ⟨by omega,by omega⟩⟩) (λr h=>EW c.ok h)
  have L:∀lf,iN (Cr f lf ch):=λlf=>Aj2 c g ag am
  have hS:∀lf,SymG (Cr f lf ch):=λlf=>Ac5
  have B:0<=f.regs/\f.regs<=4096:=by
   have h:=U;unfold IB Aj4 at h;simp only[zan]at h;omega
  have Y:∀lf r,∀p∈Qv (Cr f lf ch) r,4<=p/\p < 32:=λlf r p N=>by
   rw[Hn]at N;split at N
   ·exact Ly N
   ·cases N
  have W:∀lf m,(∀r,m<=(BD (Ci f) r lf).length)->(∀x∈regsB f,partN f x < m)->∀out,(BF (Cr f lf ch) out).2= []:=λlf m h1 h2 out=>ZE (L lf).toOkG (λr D=>by
   have D:r∈regsB f:=D;rw[Hn,if_pos D];have h3:=Afa (f:=f) (lf:=lf) (ch:=ch) r;have h4:=h2 r D;have h5:=h1 r;unfold partN at h4;exact⟨(OV _ _ _).2.2,by omega⟩) out
  by_cases hL:leaf f.blocks=aZ/\(BF (Cr f aZ ch) []).2= []
  ·obtain⟨aj,ai⟩:=hL;rw[aj]at J;have hq:=Ado (L aZ).toOkG (hS aZ) (out:=[]) Ea.nil (λx v h=>by cases h) (λx h=>by cases h) ai;rw[Adp]at hq;obtain⟨A,hA⟩:∃A,A=(BF (Cr f aZ ch) []).1:=⟨_,rfl⟩
   rw[<-hA]at hq;have ab:∀r p,getK A r=jK p->Cl p:=λr p h=>by
    rcases hq.cl r p h with h1|⟨h1,h2⟩
    ·have:=Y aZ r p h1;exact Mp ⟨by omega,by omega⟩
    ·exact Mp ⟨by omega,by have h2:p < 32+0:=h2;omega⟩
   have ac:=L7 (Aeq (lf:=aZ) (slots:=0) B.1 B.2 ab);obtain⟨k1,k2⟩:=QU U hq (λ_=>⟨aj,rfl⟩) (by decide);rw[hA]at ac;refine⟨(⟨aZ,0,atP f.regs.toNat A⟩,0),?_,⟨λh=>(by rw[U]at h;cases h),λ_=>rfl,λ_=>k1,⟨Mp ⟨by show(-1:Int)<=0;decide,by show(0:Int)<=4294967296;decide⟩⟩,k2,λ_ _ _=>rfl,λ_ _=>rfl,λh=>absurd V h⟩⟩;rw[hA];exact WZ f I _ _ J (aa aZ) (L aZ) ai ac
  ·obtain⟨n,hn,Z⟩:=Gy (let ⟨n,h,_⟩:=W6 (L aL).toOkG;⟨n,h⟩:∃n,(BF (Cr f aL ch) (DL (Cr f aL ch) n)).2= []);have ae:∀k,k < n->(BF (Cr f aL ch) (DL (Cr f aL ch) k)).2≠[]:=λk hk e=>by
    have:=Z k e;omega
   obtain⟨O,hO⟩:∃O,O=DL (Cr f aL ch) n:=⟨_,rfl⟩
   have hq:=Ado (L aL).toOkG (hS aL) (Gt (L aL).toOkG n).1 (LG (L aL).toOkG n) (JL (L aL).toOkG n) hn;rw[<-hO]at hq;obtain⟨s,hs⟩:∃s,s=IJ (Cr f aL ch) O (BF (Cr f aL ch) O).1:=⟨_,rfl⟩
   rw[<-hs]at hq;have u:s.2<=(O.length:Int):=by
    have N:=X0 (L aL).toOkG (hS aL) O;have al:SltQ (Cr f aL ch) ((BF (Cr f aL ch) O).1,0) λx=>x∈(Cr f aL ch).regs/\(getK O x).getD 0=0:=⟨N.asc,N.nocl,λr p h=>.inl (N.cl r p h),λr=>⟨N.key r,λh=>(N.all r h).resolve_right λh=>by rw[hO,hn]at h;cases h⟩,cE 0,λz h2 h3=>by have h3:z < 32+0:=h3;omega⟩
    have h1:=XM (λr p N=>(Y aL r p N).2) (hS aL) (keysK O) al (Cn (by rw[hO];exact(Gt (L aL).toOkG n).1)) λx hx hh=>by
     obtain⟨v,hv⟩:=jG.1 (CK.1 hx);have h2:=hh.2;rw[hv,LG (L aL).toOkG n x v (by rw[<-hO];exact hv)]at h2;cases h2
    rw[hs];have h2:(keysK O).length=O.length:=by simp[keysK]
    rw[h2]at h1;have h3:(IJ (Cr f aL ch) O (BF (Cr f aL ch) O).1).2<=0+(O.length:Int):=h1;omega
   have F:=Aou (L aL) (hS aL) 14 (λr D=>by
    have D:r∈regsB f:=D;rw[Hn,if_pos D];exact⟨(OV _ _ _).2.2,XY _ _⟩) n ae
   rw[<-hO]at F;have F:O= []\/O.length+14<=(regsB f).length:=F;have ao:0<=s.2:=hq.pos;have ap:O.length<=126:=by
    rcases F with h|h
    ·rw[h];exact jE _
    ·omega
   have ab:∀r p,getK s.1 r=jK p->Cl p:=λr p h=>by
    rcases hq.cl r p h with h1|⟨h1,h2⟩
    ·have:=Y aL r p h1;exact Mp ⟨by omega,by omega⟩
    ·exact Mp ⟨by omega,by omega⟩
   have ad:=L7 (Aeq (lf:=aL) (slots:=s.2) B.1 B.2 ab);obtain⟨k1,k2⟩:=QU (lf:=aL) (A:=s.1) (slots:=s.2) U hq (λh=>by cases h) (by omega);have af:(∀x∈regsB f,partN f x < 14)->s.2=0:=λh=>by
    have h1:=W aL 14 (XY _) h [];have h2:n=0:=Nat.le_zero.1 (Z 0 h1);have h3:O= []:=by rw[hO,h2];rfl
    rw[h3]at u;have u:s.2<=0:=u;omega
   refine⟨(⟨aL,s.2,atP f.regs.toNat s.1⟩,0),?_,⟨λh=>(by rw[U]at h;cases h),λ_=>rfl,λ_=>k1,⟨Mp ⟨by show -1<=s.2;omega,by show s.2<=_;omega⟩⟩,k2,λ_ h1 h2=>absurd ⟨h1,W aZ 7 (λr=>(OV _ _ _).1) h2 []⟩ hL,λ_ h=>af h,λh=>?_⟩⟩
   ·rw[hs,hO]at ad⊢;exact UX f I _ _ _ n _ J (λ_=>aa aZ) (L aZ) (λh e=>hL ⟨h,e⟩) (aa aL) (L aL) hn ae ad
   ·have h:s.2≠0:=h;show s.2+14<=_;rcases F with h1|h1
    ·rw[h1]at u;have u:s.2<=0:=u;omega
    ·omega
noncomputable section
open Classical in
def Ns(f:g9):iT×Int:=if h:∃r:iT×Int,Fn bT 9 [.agg (Ak f)] (.tup [.agg (Cy r.1),.lit (.int .i64 r.2)])/\ColOK f r then h.choose else(⟨aL,0,[]⟩,0)
open Classical in
def Cu(f:g9):M (iT×Int):=iB (a8 (∃r:iT×Int,Fn bT 9 [.agg (Ak f)] (.tup [.agg (Cy r.1),.lit (.int .i64 r.2)])/\ColOK f r)) (iK (Ns f))
theorem CM{r:iT×Int}(H:(Cu f).to r):Fn bT 9 [.agg (Ak f)] (.tup [.agg (Cy r.1),.lit (.int .i64 r.2)]):=by
 obtain⟨c,H⟩:=Aj.1 H;obtain rfl:=Ac.1 H;have c:=@of_decide_eq_true _ (_) c;unfold Ns;rw[dif_pos c];exact c.choose_spec.1
theorem UW(c:g8 f)(u:Dw.bulk f<=2097152)(g:CV f=aL):(Cu f).to (Ns f)/\ColOK f (Ns f):=by
 have h:=Ag7 f c u g;refine⟨Ae (@decide_eq_true _ (Classical.propDecidable _) h) (Ag _),?_⟩;unfold Ns;rw[dif_pos h];exact h.choose_spec.2
def Hm(f:g9):M Bool:=iB (NQ f&&a8 ((regsB f).length<=2147483648)) (iK (IB f))
theorem Nq(H:(Hm f).to r):Fn bT 11 [.agg (Ak f)] (.lit (.bool r)):=by
 obtain⟨c,H⟩:=Aj.1 H;obtain rfl:=Ac.1 H;rw[aI]at c;exact Amw f (BJ.1 c.1) (of_decide_eq_true c.2)
def Rl(p:Int):M Bool:=iK (Akj p)
theorem U6{p:Int}(H:(Rl p).to r):Fn bT 23 [.lit (.int .i64 p)] (.lit (.bool r)):=by
 obtain rfl:=Ac.1 H;exact Afv p
end
end Mu
