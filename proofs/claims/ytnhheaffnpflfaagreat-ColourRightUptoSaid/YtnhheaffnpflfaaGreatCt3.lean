/-
  Lemmas for S, part 3.
  Conditions: as each lemma says.
-/
import Derived.Test.YtnhheaffnpflfaaGreatCt2
import Derived.Shelf.Strconv.Itoa3
import Derived.Shelf.Slices.Empties
import Derived.Shelf.SlSortCmp.NoneTotal
import Derived.Shelf.SlicesG.Cmp
import Derived.StillTailTactics
set_option maxRecDepth 100000
set_option maxHeartbeats 8000000
set_option linter.unusedSimpArgs false
set_option linter.unusedVariables false
open Array renaming getElem?_eq_some_iff->aA,getElem?_modify->aB,getElem?_toList->aC,length_toList->aD,mem_append->aE,toList_map->aF
open Bool renaming and_eq_true->aG,decide_or->aH,false->aI,false_eq_true->aJ,false_or->aK,or_assoc->aL,or_eq_true->aM,true->aN
open Decidable renaming decide->aO
open Go renaming Calls->aP,CallsIn->aR,DataW->aS,FuncId->aU,MapEntry->a6,MemPlace->a8,Oper->bC,Operand->bD,Program->bE,TypeId->eQ,Value->eR,World->eX,callsIn_wide->fA,execOp->fB,getObj->fC,heap_alloc_new->fD,maxLen->fE,plainElem->fF,rounds_succ->fG
open Go.Fence renaming wide->aT
open Go.Instr renaming entry->aV,mapUpdate->aW
open Go.IntKind renaming i64->aX
open Go.Lib renaming compact->aY,compareInt->aZ
open Go.Maps renaming size->a7
open Go.Obj renaming cells->bA
open Go.Op renaming operands->bB
open Go.Proofs.Tryz renaming func107->bF,func111->bG,func126->bH,func127->bI,func128->bJ,func146->bK,func147->bL,func97->bM,func99->bN,isAgg0->bO,isAgg104->bP,isAgg143->bR,isAgg144->bS,isAgg151->bT,isAgg166->bU,isAgg170->bV,isAgg185->bW,isAgg186->bX,isAgg27->bY,isAgg3->bZ,isAgg4->b9,isAgg45->cA,isAgg5->cB,isAgg68->cC,isAgg9->cD,ntmps128->cE,prog->cF,sizeOf0->cG,sizeOf104->cH,sizeOf143->cI,sizeOf144->cJ,sizeOf151->cL,sizeOf166->cM,sizeOf170->cN,sizeOf185->cO,sizeOf186->cP,sizeOf27->cQ,sizeOf3->cR,sizeOf4->cT,sizeOf45->cU,sizeOf5->cV,sizeOf68->cW,sizeOf9->cX,underlying0->cY,underlying104->cZ,underlying109->dA,underlying143->dB,underlying144->dC,underlying151->dD,underlying166->dE,underlying170->dF,underlying185->dG,underlying186->dH,underlying27->dI,underlying3->dJ,underlying4->dK,underlying41->dL,underlying45->dM,underlying5->dN,underlying51->dO,underlying68->dP,underlying9->dQ,zeroValue0->dR,zeroValue104->dT,zeroValue143->dU,zeroValue144->dV,zeroValue151->dW,zeroValue166->dX,zeroValue170->dY,zeroValue185->dZ,zeroValue186->eA,zeroValue27->eB,zeroValue3->eC,zeroValue4->eD,zeroValue45->eE,zeroValue5->eF,zeroValue68->eG,zeroValue9->eH
open Go.Result renaming andThen->eI,andThen_ok->eJ
open Go.RowKit.Below renaming refl->eK
open Go.Shelf renaming Ren->eL
open Go.Sort renaming ahead->eM,alloc_eq_grow->eN,putCells->eO,putRow->eP
open Go.Value renaming int->eS,map->eT
open Go.WideElems renaming rd_key->eU,rg->eV,rg_of->eW
open Go.World renaming cell?->eY,drew->eZ
open List renaming all_eq_true->fI,any_eq_true->fJ,append_assoc->fK,append_nil->fL,cons_append->fM,contains_eq_mem->fN,contains_iff_mem->fO,count_append->fP,count_cons_self->fQ,drop_eq_getElem_cons->fR,drop_eq_nil_of_le->fS,drop_zero->fT,eq_nil_of_length_eq_zero->fU,ext_getElem->fV,ext_getElem?->fW,filter_append->fX,filter_cons->fY,filter_eq_nil_iff->fZ,filter_nil->gB,findIdx?_eq_none_iff->gC,findIdx?_eq_some_iff_getElem->gD,flatMap_append->gE,flatMap_cons->gF,flatMap_nil->gG,foldl_append->gH,foldl_cons->gI,getD_eq_getElem?_getD->gJ,getElem?_append_right->gK,getElem?_cons_zero->gL,getElem?_drop->gN,getElem?_eq_getElem->gO,getElem?_eq_none->gP,getElem?_eq_some_iff->gQ,getElem?_map->gR,getElem?_range->gT,getElem?_replicate->gU,getElem?_set_ne->gV,getElem?_set_self->gW,getElem?_take_eq_none->gX,getElem?_take_of_lt->gY,getElem_map->gZ,getElem_mem->g8,getElem_range->g9,getElem_set->hZ,head?_drop->iA,length_append->iB,length_cons->iC,length_erase_of_mem->iD,length_filter_le->iE,length_map->iF,length_mergeSort->iG,length_nil->iH,length_pos_of_mem->iI,length_replicate->iJ,length_reverse->iK,length_take->iL,map_append->iM,map_congr_left->iN,map_cons->iO,map_nil->iP,mem_append->iQ,mem_cons->iR,mem_cons_of_mem->iS,mem_cons_self->iT,mem_erase_of_ne->iU,mem_filter->iV,mem_flatMap->iW,mem_iff_getElem?->iX,mem_map->iY,mem_of_getElem?->iZ,mem_of_mem_drop->i6,mem_of_mem_take->i7,mem_or_eq_of_mem_set->i8,mem_range->i9,mem_reverse->jA,mem_singleton->jB,mergeSort_perm->jC,nil_append->jD,nodup_append->jE,nodup_cons->jF,nodup_nil->jG,not_mem_nil->jH,pairwise_append->jI,pairwise_cons->jJ,pairwise_map->jK,pairwise_reverse->jL,range->jM,range_succ->jN,replicate->jO,set_cons_succ->jP,set_cons_zero->jQ,set_eq_take_append_cons_drop->jR,sum_append->jS,sum_cons->jT,take_add_one->jU,take_append_drop->jV,take_length->jW,take_of_length_le->jX,take_one->jY,take_zero->jZ
open List.Pairwise renaming nil->fH
open Mu renaming ABlk->j5,Block->kA,Edge->kE,EncOf->kF,Func->kL,LOut->kM
open Mu.AV renaming bs->j6,cl->j7,rel->j8
open Mu.Awp renaming region->j9
open Mu.Cut renaming cons->kB,dead->kC,nil->kD
open Mu.Fin renaming cl->kG,own->kH
open Mu.Fit renaming bool->kI,bs->kJ,int->kK
open Mu.OpnB renaming any->kO,keep->kP,nil->kQ,ptr->kR
open Mu.St renaming le->kS
open Mu.Ty renaming bool->kT
open Nat renaming add_assoc->kU,add_mul->kV,add_zero->kW,le_of_ble_eq_true->kX,le_refl->kY,le_trans->kZ,lt_of_lt_of_le->lA,mul_le_mul->lB,mul_one->lC,sub_zero->lD,zero_add->lE,zero_le->lF,zero_lt_one->lG
open Ne renaming symm->lH
open Option renaming isSome_map->lI,none->lJ,some->lK,toList_some->lN
open Option.some renaming inj->lL,injEq->lM
abbrev Mu.zau.{u}:=And.intro @iQ.{u} (And.intro @iR.{u} (@jH.{u}))
abbrev Mu.zaw.{u}:=And.intro @iB.{u} (And.intro @iC.{u} (@iH.{u}))
namespace Mu
open Go Go.RowKit Go.Proofs Go.Maps
variable{S:Int->Bool}{ds:List Ins}{k:Nat}
instance Ap2:AG cF 156 aI 1:=⟨by kernel_rfl⟩
instance Ap1:SZ cF 156 1:=⟨by kernel_rfl⟩
instance Ap0:AG cF 27 aI 1:=⟨by kernel_rfl⟩
instance Apz:SZ cF 27 1:=⟨by kernel_rfl⟩
instance Apy:ES cF 27 1:=⟨by kernel_rfl⟩
instance Apx:SL cF 27:=⟨by kernel_rfl⟩
instance Apw:RT cF 27 3 1 8:=⟨by kernel_rfl⟩
instance Apv:AG cF 66 aI 1:=⟨by kernel_rfl⟩
instance Apu:SZ cF 66 1:=⟨by kernel_rfl⟩
instance Ano:ES cF 66 1:=⟨by kernel_rfl⟩
instance Ann:AG cF 47 aN 9:=⟨by kernel_rfl⟩
instance Anm:SZ cF 47 9:=⟨by kernel_rfl⟩
instance Anl:AG cF 48 aI 1:=⟨by kernel_rfl⟩
instance Ank:ES cF 48 9:=⟨by kernel_rfl⟩
instance Anj:SL cF 48:=⟨by kernel_rfl⟩
instance Ani:RT cF 48 47 9 88:=⟨by kernel_rfl⟩
instance Anh:AG cF 3 aI 1:=⟨by kernel_rfl⟩
instance Ang:SZ cF 3 1:=⟨by kernel_rfl⟩
instance Anf:ZC cF 156 [.map lJ]:=⟨by kernel_rfl⟩
instance Ane:ZC cF 47 [.int .u8 0,.int .i64 0,.int .i64 0,.int .i64 0,.int .u32 0,.int .i64 0,.slice lJ 0 0,.int .i64 0,.int .i64 0]:=⟨by kernel_rfl⟩
instance And:ZC cF 66 [.slice lJ 0 0]:=⟨by kernel_rfl⟩
def bkS(ds:List Ins)(S:Int->Bool)(k:Nat):Int->Bool:=inS (ds.drop (ds.length - k)) S
theorem Su(ds:List Ins)(S:Int->Bool):bkS ds S 0=S:=by
 unfold bkS;rw[lD,fS (kY _)];rfl
theorem Aq7(ds:List Ins)(S:Int->Bool):bkS ds S ds.length=inS ds S:=by
 unfold bkS;rw[Nat.sub_self];rfl
theorem YN{d:Ins}(a:ds[ds.length - 1 - k]? =lK d)(hk:k < ds.length):bkS ds S (k+1)=MY d (bkS ds S k):=by
 unfold bkS;have h1:ds.length - (k+1)=ds.length - 1 - k:=by omega
 have h2:ds.length - k=ds.length - 1 - k+1:=by omega
 rw[h1,h2,fR (by omega)];have:ds[ds.length - 1 - k]=d:=by
  rw[gO (by omega)]at a;exact lL a
 rw[this];rfl
theorem W9{L:List Int}(h:Sub L S)(hx:∀x∈ds,∀r∈readsC x,r∈L)(k:Nat):Sub L (bkS ds S k):=
 h.inS λx a=>hx x (i6 a)
def H5(R:List Int)(ds:List Ins)(S:Int->Bool):List (List Int):=(jM (ds.length+1)).map λi=>R.filter (inS (ds.drop i) S)
theorem We(R:List Int)(ds:List Ins)(S:Int->Bool):(H5 R ds S).length=ds.length+1:=by simp[H5]
def FX(R:List Int)(ds:List Ins)(S:Int->Bool)(k:Nat):List AV:=(jM (ds.length+1)).map λi=>if ds.length - k<=i then .bs tInt (R.filter (inS (ds.drop i) S))else .lit (.slice lJ 0 0)
theorem QW(R:List Int)(ds:List Ins)(S:Int->Bool)(k:Nat):(FX R ds S k).length=ds.length+1:=by simp[FX]
theorem Wh(R:List Int)(ds:List Ins)(S:Int->Bool):(jO (ds.length+1) (AV.lit (.slice lJ 0 0))).set ds.length (.bs tInt (R.filter S))=FX R ds S 0:=by
 refine fV (by simp[FX]) λi h1 h2=>?_
 simp only[FX,gZ,g9,hZ,List.getElem_replicate,lD];simp only[List.length_set,iJ]at h1;by_cases e:ds.length=i
 ·subst e;rw[if_pos V,if_pos (kY _),fS (kY _)];rfl
 ·rw[if_neg e,if_neg (by omega)]
theorem Wi(R:List Int)(ds:List Ins)(S:Int->Bool)(hk:k < ds.length):(FX R ds S k).set (ds.length - 1 - k) (.bs tInt (R.filter (bkS ds S (k+1))))=FX R ds S (k+1):=by
 refine fV (by simp[FX]) λi h1 h2=>?_
 simp only[FX,gZ,g9,hZ];by_cases e:ds.length - 1 - k=i
 ·subst e;rw[if_pos V,if_pos (by omega),show ds.length - 1 - k=ds.length - (k+1)by omega];rfl
 ·rw[if_neg e];by_cases a:ds.length - k<=i
  ·rw[if_pos a,if_pos (by omega)]
  ·rw[if_neg a,if_neg (by omega)]
theorem Am3(l:List AV)(i:Nat)(y:AV)(h:i < l.length):l.take i++[y]++l.drop (i+ [y].length)=l.set i y:=by
 rw[jR,if_pos h,fK];rfl
theorem ZE(R:List Int)(ds:List Ins)(S:Int->Bool):FX R ds S ds.length=(H5 R ds S).map λl=>j6 tInt l:=by
 unfold FX H5;rw[List.map_map];refine iN λi _=>?_
 rw[if_pos (by omega)];rfl
theorem Vm{C:Ctx}(r:C.std){t:List AV}{h:List j5}(i j:Nat){O n:Nat}{b:List (List Int)}(g:b.length=n)(m:n<=fE)(hi:h[i]? =lK (.res (Be O (b.map λl=>j6 tInt l))))(c:t[j]? =lK (.lit (.slice (lK ⟨O,0,lJ⟩) n n))):
 kS C ⟨t,h⟩ ⟨t.set j (.bs tInt.slice b),h.set i .dead⟩:=
 Hp i j hi V V c (Ux r hi V) λS ψ w v H a=>by
  unfold j8 at a⊢;subst a;obtain⟨cs,e,q,d⟩:=(H.blk i _ hi).2;subst g;refine⟨lK ⟨O,0,lJ⟩,b.length,rfl,kY _,⟨m,λe=>by cases e⟩,λk l o=>⟨O,0,rfl,.inr V,?_⟩⟩;obtain⟨u,f,a⟩:=BY d (i:=k) (x:=j6 tInt l) (by rw[gR,o];rfl);unfold j8 at a;refine⟨[u],tInt.slice.keepS a (λ_ _=>rfl) λ_ hk=>.inl hk,λj s c=>?_⟩;cases j with
  |zero=>
   cases c;show w.cell? ⟨O,0+k * 1+0,lJ⟩=lK u;rw[lC,lE,kW];simp[eY,q,f]
  |succ j=>cases c
def Amw:Ty (Int->Bool) where
 size:=1
 bulk:=λ_=>1
 RS:=λw S cs d=>∃m,cs= [.map (lK m)]/\S m/\IH w m d
 len:=by rintro _ _ _ _ ⟨m,rfl,_⟩;rfl
 keepS:=by
  rintro w w' S S' cs d ⟨m,rfl,h1,h2⟩ a b;exact⟨m,rfl,b m h1,h2.keep (a m h1)⟩
theorem Aq1:Enc Amw λd=>[.tv Amw d]:=by
 intro w S h ψ cs d H;obtain⟨m,rfl,_⟩:=id H;unfold Ae;refine⟨_,_,rfl,?_,?_⟩
 ·unfold j8;exact H
 ·unfold Ae;rfl
instance Anc:kF Amw λd=>[.tv Amw d]:=⟨Aq1,by
 rintro w S cs d ⟨m,rfl,_⟩ u a;simp only[jB]at a;subst a;rfl,by decide⟩
theorem Alz(S:Int->Bool):M3 cF 150 [.tv Amw S] (IF S) (λp=>.map (lK p)):=by
 refine⟨by kernel_rfl,λw T vs h d=>?_⟩;obtain⟨u,rfl,b⟩:=Ach d;unfold j8 at b;obtain⟨m,e,_,f⟩:=b;obtain rfl:u= .map (lK m):=by simpa using e
 refine(UZ w f).mono ?_;rintro e w' ⟨rfl,h1,g,c,rfl⟩;have a:Below w.heap.size w (w.alloc (.map g c)):=(eK _ _).alloc (kY _) _;exact⟨_,rfl,⟨a.os,a.tape,a.output,a.size,λk hk _=>a.block k hk⟩,w.heap.size,rfl,h1,λk hk=>by
  have hk:k=w.heap.size:=hk;subst hk;exact⟨.inr (kY _),h1.lt⟩⟩
theorem TM(b:kA)(S:Int->Bool)(R:List Int)(I:okBlock b)(H:smallB b)(t:RegsR R)(n:Sub R S)(hx:∀x∈b.ins,∀r∈readsC x,r∈R):
 Fn cF 130 [.agg (D1 b),.tv Amw S] (.bs tInt.slice (H5 R b.ins S)):=by
 have y:=H.ins;obtain⟨ds,a⟩:∃ds,ds=b.ins:=⟨_,rfl⟩
 have s:ds.length+1<=fE:=by
  rw[a];unfold fE;omega
 have u:aX.wrap ((b.ins.length:Int)+1)=((ds.length+1:Nat):Int):=by rw[a,IntWalk.i64_in _ (by omega)];rfl
 refine FM Tryz.func130 V (by kernel_rfl) V Tryz.ntmps130 λC L v=>?_
 refine nS ?_;refine wS (sB (sT (wN ?_)));refine wRK λY h2=>sT (sT (sT (sT ?_)))
 rw[u];refine AC V (Aio (e:=27) (z:=.slice lJ 0 0) (bytes:=24) V (by kernel_rfl) V V (by rw[a];omega) s λO=>?_);refine sNt ?_;refine sA0 (sW (wN (h2 _ ?_)));refine wRK λX F=>sT ?_
 refine AC V (Cr V (Alz S) (λ_=>rfl) V V λm=>?_);refine sNt ?_;refine sA0 (sW (wN (F _ ?_)));refine Bt 3 V V V (λg=>(A2 (.ptr 1 0::A2 (.lit (.pointer (lK ⟨g,0,lJ⟩))::.ptr 5 0::A20 (A10 []))))) (λg=>(by(repeat(first|exact kQ|refine kR ?_|refine kO ?_|refine kP V ?_)))) λj=>?_
 refine Bt 5 V V V (λg=>(A2 (.ptr 1 0::A2 (.lit (.pointer (lK ⟨j,0,lJ⟩))::.lit (.pointer (lK ⟨g,0,lJ⟩))::A20 (A10 []))))) (λg=>(by(repeat(first|exact kQ|refine kR ?_|refine kO ?_|refine kP V ?_)))) λo=>?_
 refine nT ?_;have f:∀k,FnR cF 151 (IF (bkS ds S k) m) [.lit (.map (lK m))] (.bs tInt (R.filter (bkS ds S k))):=λk=>Z0 _ _ R m t (W9 n (by rw[a];exact hx) k).inR λ_ _ h=>h
 have h0:=f 0;rw[Su]at h0;refine dS 7 (hq:=qT (qT (qT (qT (qT ?_)))));rw[<-a];refine qA ?_ (KW (i:=4) V V h0 V V V);refine qA (hq:=J3 V V V (Nat.lt_succ_self _)) (hk:=qN ?_);refine AC V (It (i:=2) (new:=[.bs tInt (R.filter S)]) V V V (PW.one One.bs) V V (by rw[iJ];exact kY _) ?_);rw[Am3 _ _ _ (by simp),Wh];refine sNt (hk:=wN ?_);refine Ab λW P=>?_
 refine wRK λU N=>sT (sT ?_)
 rw[<-a];refine AC V (Cr V (Nu ds) (λ_=>rfl) V V λp=>?_);refine sNt (hk:=Au (N _ ?_));refine AE ⟨(A5 (.lit (.pointer (lK ⟨j,0,lJ⟩))::.lit (.pointer (lK ⟨o,0,lJ⟩))::A10 (A8 (.lit (bkF p)::A10 [.any])))),[.res (Bk []),.box (D1 b),.res (Be O (FX R ds S 0)),.res (Be j [.lit (.slice (lK ⟨O,0,lJ⟩) (ds.length+1) (ds.length+1))]),.res (IF (bkS ds S 0) m),.res (Be o [.lit (.map (lK m))]),.res (bkR ds p)]⟩ ?_ ?_
 ·rw[Su];exact AS
 refine Ac ?_;refine Hw 6 0 (λk=>[.dead,.dead,.res (Be O (FX R ds S k)),.res (Be j [.lit (.slice (lK ⟨O,0,lJ⟩) (ds.length+1) (ds.length+1))]),.res (IF (bkS ds S k) m),.res (Be o [.lit (.map (lK m))]),.dead]) v V (by decide) V V V ?_ V (λ_=>rfl) (λ_=>rfl) V (Aoa _) (Ahq _) (PY (by kernel_rfl) λw T h1 h2 F=>Ma ds (by rw[a];exact y) p w T h1 h2 F) ?_ ?_
 ·exact⟨.dead (.dead (.cons (.cons (.cons (.cons (.dead (.nil _))))))),λc hc=>fI.1 (show bdH [.dead,.dead,.res (Be O (FX R ds S 0)),.res (Be j [.lit (.slice (lK ⟨O,0,lJ⟩) (ds.length+1) (ds.length+1))]),.res (IF (bkS ds S 0) m),.res (Be o [.lit (.map (lK m))]),.dead]=aN from V) c hc⟩
 ·intro k hk C' J;obtain⟨d,A⟩:∃d,ds[ds.length - 1 - k]? =lK d:=⟨_,gO (by omega)⟩
  have q:d∈b.ins:=by rw[<-a];exact iZ A
  have B:bkE ds k= [.lit (.int .i64 ((ds.length - 1 - k:Nat):Int)),.agg (BV d)]:=by unfold bkE;rw[A]
  have E:d.args.length<=2097152:=by have:=H.all d q;omega
  rw[B];refine C3 (t':=(A5 (.lit (.pointer (lK ⟨j,0,lJ⟩))::.lit (.pointer (lK ⟨o,0,lJ⟩))::A10 (A8 (.lit (bkF p)::.lit (.int .i64 ((ds.length - 1 - k:Nat):Int))::.agg (BV d)::A9 []))))) V V ?_;refine wS (sT (wN ?_));refine wSE (sA0 (sW (wN ?_)));refine An ?_;intro Z K;refine Ac ?_;refine wRK λQ G=>sT (sT ?_)
  refine AC V (BQ (i:=4) V V (Vb d _ R m (I.ins d q) E t (W9 n (by rw[a];exact hx) k).inR (hx d q)) (λ_=>rfl) V V λ_=>?_);refine sNt (hk:=Au (G _ ?_));rw[<-YN A hk];refine dSE 5 (hq:=qT (qT (qT ?_)));refine qA ?_ (KW (i:=4) V V (f (k+1)) V V V);refine qA (hq:=J3 V V V (by omega)) (hk:=qN ?_);refine AC V (It (i:=2) (new:=[.bs tInt (R.filter (bkS ds S (k+1)))]) V V V (PW.one One.bs) V V (by rw[QW];show _+1<=_;omega) ?_);rw[Am3 _ _ _ (by rw[QW];omega),Wi R ds S hk];refine sNt (hk:=Au ?_);exact⟨rfl,.cons (.cons (.cons (.cons (.cons (.cons (.cons (.nil _))))))),λc hc=>fI.1 (show bdH [.dead,.dead,.res (Be O (FX R ds S (k+1))),.res (Be j [.lit (.slice (lK ⟨O,0,lJ⟩) (ds.length+1) (ds.length+1))]),.res (IF (bkS ds S (k+1)) m),.res (Be o [.lit (.map (lK m))]),.dead]=aN from V) c hc⟩
 ·intro D;rw[ZE];refine P _ ?_;refine C3 (t':=(A5 (.lit (.pointer (lK ⟨j,0,lJ⟩))::.lit (.pointer (lK ⟨o,0,lJ⟩))::A10 (A8 (.lit (bkF p)::A10 [.any]))))) (h':=[.res (Bk [D]),.dead,.res (Be O ((H5 R ds S).map λl=>j6 tInt l)),.res (Be j [.lit (.slice (lK ⟨O,0,lJ⟩) (ds.length+1) (ds.length+1))]),.res (IF (bkS ds S ds.length) m),.res (Be o [.lit (.map (lK m))]),.dead]) V V ?_;refine wS (sT (sT (wN ?_)));refine AE _ (Vm L 2 4 (We R ds S) s V V) ?_;subst a;exact Aw ⟨.inr V,[D],rfl,rfl,kG V⟩
end Mu
namespace Mu
open Go Go.RowKit Go.Proofs
variable{b:Nat}{f:kL}{l:List Ins}
def Tb(l:List Ins)(m:Nat):Nat:=((l.take m).map λx=>x.args.length).sum
def sumB(f:kL)(b:Nat):Nat:=((f.blocks.take b).map λa=>a.ins.length+Tb a.ins 200).sum
def Jg(f:kL):Bool:=aO (40 < f.blocks.length)||decide (250 < sumB f 60)
theorem Ta{m:Nat}{x:Ins}(hx:l[m]? =lK x):Tb l (m+1)=Tb l m+x.args.length:=by
 unfold Tb;rw[jU,hx,iM,jS];simp
theorem S9{x:kA}(hx:f.blocks[b]? =lK x):sumB f (b+1)=sumB f b+(x.ins.length+Tb x.ins 200):=by
 unfold sumB;rw[jU,hx,iM,jS];simp
theorem Adb(h:∀x∈l,x.args.length<=2097152)(m:Nat):Tb l m<=m * 2097152:=by
 induction m with
 |zero=>simp[Tb]
 |succ m a=>
  cases hx:l[m]? with
  |none=>
   have:Tb l (m+1)=Tb l m:=by unfold Tb;rw[jU,hx];simp
   omega
  |some x=>
   rw[Ta hx];have:=h x (iZ hx);omega
theorem Aon(c:smallF f)(b:Nat):sumB f b<=b * 421527552:=by
 induction b with
 |zero=>simp[sumB]
 |succ b d=>
  cases hx:f.blocks[b]? with
  |none=>
   have:sumB f (b+1)=sumB f b:=by unfold sumB;rw[jU,hx];simp
   omega
  |some x=>
   rw[S9 hx];have h1:=c.all x (iZ hx);have h2:=h1.ins;have e:=Adb (l:=x.ins) (λy a=>by have:=h1.all y a;omega) 200;omega
theorem Ajb{i:Nat}(hi:i<=l.length)(h:¬(i < l.length/\i < 200))(h2:i<=200):Tb l i=Tb l 200:=by
 by_cases a:i < l.length
 ·have:i=200:=by omega
  rw[this]
 ·have:i=l.length:=by omega
  unfold Tb;rw[jX (by omega),jX (by omega)]
theorem Aja(hi:b<=f.blocks.length)(h:¬(b < f.blocks.length/\b < 60))(h2:b<=60):sumB f b=sumB f 60:=by
 by_cases a:b < f.blocks.length
 ·have:b=60:=by omega
  rw[this]
 ·have:b=f.blocks.length:=by omega
  unfold sumB;rw[jX (by omega),jX (by omega)]
theorem S5{p q:Bool}(h:¬(p=aN/\q=aN)):p=aI\/(p=aN/\q=aI):=by cases p <;> cases q <;> simp at h⊢
theorem Aac(f:kL)(B:smallF f):Fn cF 19 [.agg (Ak f)] (.lit (.bool (Jg f))):=by
 have W:=B.blocks;refine AQ Tryz.func19 V (by kernel_rfl) V Tryz.ntmps19 λC hC=>?_
 refine nS ?_;refine rRS ?_;refine rRS ?_;refine Ab λK3 h3=>?_
 refine rRS ?_;refine Ac ?_;refine AB (λb:Nat=>⟨(.any::.ptr 0 0::.any::.lit (.int .i64 (sumB f b:Int))::.lit (.int .i64 (b:Int))::A40 (A10 (A7 []))),[.box (Ak f)]⟩) (λb=>b<=f.blocks.length/\b<=60) (λb=>f.blocks.length - b) 0 ⟨lF _,lF _⟩ (BU) ?_;rintro b ⟨d,v⟩;have L:=Aon B b;refine Ab λK5 h5=>?_
 by_cases e:b < f.blocks.length/\b < 60
 ·have U:aO ((b:Int) < (f.blocks.length:Int))=aN:=by simpa using e.1
  have T:aO ((b:Int) < 60)=aN:=by simp;omega
  obtain⟨c,u⟩:∃c,f.blocks[b]? =lK c:=⟨_,gO e.1⟩
  have r:=B.all c (iZ u);have X:=r.ins;have s:=S9 u;refine rRS ?_;refine Ag V (λY=>?_) (λd=>by cases d);refine Al ?_;refine h5 _ ?_;refine nT ?_;refine Ab λK8 Z=>?_
  refine Ac ?_;refine rRS ?_;refine rRS ?_;refine Ac ?_;refine AB (λi:Nat=>⟨(.any::.ptr 0 0::.any::.lit (.int .i64 ((sumB f b+c.ins.length+Tb c.ins i:Nat):Int))::.lit (.int .i64 (b:Int))::.lit (.int .i64 (i:Int))::A40 (A10 (A6 []))),[.box (Ak f)]⟩) (λi=>i<=c.ins.length/\i<=200) (λi=>c.ins.length - i) 0 ⟨lF _,lF _⟩ (BU) ?_;rintro i ⟨hi,q⟩;have N:=Adb (l:=c.ins) (λy J=>by have:=r.all y J;omega) i;refine Ab λac F=>?_
  by_cases g:i < c.ins.length/\i < 200
  ·have Q:aO ((i:Int) < (c.ins.length:Int))=aN:=by simpa using g.1
   have P:aO ((i:Int) < 200)=aN:=by simp;omega
   obtain⟨x,hx⟩:∃x,c.ins[i]? =lK x:=⟨_,gO g.1⟩
   have K:=r.all x (iZ hx);have A:=Ta hx;refine rRS ?_;refine Ag V (λH=>?_) (λd=>by cases d);refine Al ?_;refine F _ ?_;refine nT ?_;refine Ab λab D=>?_
   refine Ac ?_;refine rR ?_;refine D _ ?_;refine nT ?_;refine rR ?_;refine An ⟨i+1,⟨by omega,by omega⟩,by omega,?_⟩;rw[A,<-kU];exact BU
  ·have m:aO ((i:Int) < (c.ins.length:Int))=aI\/(aO ((i:Int) < (c.ins.length:Int))=aN/\aO ((i:Int) < 200)=aI):=S5 λh=>g ⟨by simpa using h.1,by have:=of_decide_eq_true h.2;omega⟩
   refine Ab λG E=>?_
   have n:=Ajb hi g q;have a:∀j:St,kS C j ⟨(.any::.ptr 0 0::.any::.lit (.int .i64 ((sumB f b+c.ins.length+Tb c.ins 200:Nat):Int))::.lit (.int .i64 (b:Int))::A20 (A10 (A3 (.lit (.bool aI)::A20 (A3 []))))),[.box (Ak f)]⟩->G j:=λj o=>by
    refine E _ (AE _ o ?_);refine Ag V (λd=>by cases d) (λd=>?_);refine Ay ?_;refine Z _ ?_;refine nT ?_;refine rR ?_;refine An ⟨b+1,⟨by omega,by omega⟩,by omega,?_⟩;rw[s,<-kU];exact BU
   rw[<-n]at a;rcases m with z|⟨z,I⟩
   all_goals
    refine rR ?_;refine An (a _ ?_);exact BU
 ·have m:aO ((b:Int) < (f.blocks.length:Int))=aI\/(aO ((b:Int) < (f.blocks.length:Int))=aN/\aO ((b:Int) < 60)=aI):=S5 λh=>e ⟨by simpa using h.1,by have:=of_decide_eq_true h.2;omega⟩
  refine Ab λK6 h6=>?_
  have n:=Aja d e v;have a:∀j:St,kS C j ⟨(.any::.ptr 0 0::.any::.lit (.int .i64 (sumB f 60:Int))::A10 (.lit (.bool aI)::A40 (A7 []))),[.box (Ak f)]⟩->K6 j:=λj o=>by
   refine h6 _ (AE _ o ?_);refine Ag V (λd=>by cases d) (λd=>?_);refine Ay ?_;refine h3 _ ?_;refine nT ?_;refine Ab λaa w=>?_
   have t:aO ((f.blocks.length:Int) > 40)=aO (40 < f.blocks.length):=by rw[decide_eq_decide];omega
   have O:aO ((sumB f 60:Int) > 250)=aO (250 < sumB f 60):=by rw[decide_eq_decide];omega
   rcases hq1:aO (40 < f.blocks.length)with _|_
   ·rw[hq1]at t;refine rR ?_;refine w _ ?_;refine nT ?_;refine Aw ?_;have:Jg f=aO (250 < sumB f 60):=by unfold Jg;rw[hq1];rfl
    rw[this];exact⟨.inr V,kG V⟩
   ·rw[hq1]at t;refine rR ?_;refine w _ ?_;refine nT ?_;refine Aw ?_;have:Jg f=aN:=by unfold Jg;rw[hq1];rfl
    rw[this];exact⟨.inr V,kG V⟩
  rw[<-n]at a;rcases m with z|⟨z,I⟩
  all_goals
   refine rR ?_;refine An (a _ ?_);exact BU
end Mu
namespace Mu
open Go
variable{L:List Int}{S:Int->Bool}{Ss Ss0:List (Int->Bool)}{b:Nat}{f:kL}{k:Nat}{r:Int}
def Sw(f:kL)(b:Nat):List Int:=(GM f f.blocks.length).getD b []
theorem Vj{f:kL}(m b:Nat)(j:b < f.blocks.length):∀(a:List (Blk f)) (c:List (List Int)),c.length=f.blocks.length->∀x,x∈(KP m a c).getD b []↔x∈c.getD b []\/(x=(m:Int)/\∃y∈a,y.1=b)
 | [],c,_,x=>by simp[KP]
 |y::a,c,i,x=>by
  show x∈(KP m a (Aci m c y)).getD b []↔_;rw[Vj m b j a (Aci m c y) (by simp[Aci,i]) x];have e:x∈(Aci m c y).getD b []↔x∈c.getD b []\/(x=(m:Int)/\y.1=b):=by
   unfold Aci;by_cases g:y.1=b
   ·rw[<-g,gJ,gW (by rw[i];exact y.2)];simp
   ·rw[gJ,gV g,<-gJ];simp[g]
  rw[e];constructor
  ·rintro((h|h)|⟨h1,z,h2,d⟩)
   ·exact .inl h
   ·exact .inr ⟨h.1,y,by simp,h.2⟩
   ·exact .inr ⟨h1,z,by simp[h2],d⟩
  ·rintro(h|⟨h1,z,h2,d⟩)
   ·exact .inl (.inl h)
   ·rcases iR.1 h2 with rfl|h2
    ·exact .inl (.inr ⟨h1,d⟩)
    ·exact .inr ⟨h1,z,h2,d⟩
theorem YO{f:kL}(b:Nat)(c:b < f.blocks.length):∀(m:Nat) (x:Int),x∈(GM f m).getD b []↔∃k:Nat,k < m/\kE f k b/\x=(k:Int)
 |0,x=>by
  rw[GM,gJ,gU];split <;> simp
 |m+1,x=>by
  rw[GM,Vj m b c _ _ (F8 f m),YO b c m];constructor
  ·rintro(⟨k,h1,h2,a⟩|⟨h1,y,h2,a⟩)
   ·exact⟨k,by omega,h2,a⟩
   ·exact⟨m,by omega,⟨y,h2,a⟩,h1⟩
  ·rintro⟨k,h1,h2,a⟩;by_cases hk:k=m
   ·subst hk;obtain⟨y,e,d⟩:=h2;exact .inr ⟨a,y,e,d⟩
   ·exact .inl ⟨k,by omega,h2,a⟩
theorem Ii(h:kE f k b):k < f.blocks.length/\b < f.blocks.length:=by
 obtain⟨y,h1,rfl⟩:=h;refine⟨?_,y.2⟩;unfold G6 at h1;rw[if_pos (by omega)]at h1;simp only[Int.toNat_natCast]at h1;cases hk:f.blocks[k]? with
 |none=>rw[hk]at h1;cases h1
 |some a=>exact(gQ.1 hk).1
theorem JY(c:b < f.blocks.length)(x:Int):x∈Sw f b↔∃k:Nat,kE f k b/\x=(k:Int):=by
 unfold Sw;rw[YO b c];constructor
 ·rintro⟨k,_,h2,a⟩;exact⟨k,h2,a⟩
 ·rintro⟨k,h2,a⟩;exact⟨k,(Ii h2).1,h2,a⟩
def at_(Ss:List (Int->Bool))(k:Nat):Int->Bool:=Ss.getD k λ_=>aI
theorem Ahw{j:Nat}(hk:k < Ss.length):at_ (Ss.set k S) j=if j=k then S else at_ Ss j:=by
 unfold at_;by_cases a:j=k
 ·subst a;rw[if_pos V,gJ,gW hk];rfl
 ·rw[if_neg a,gJ,gV (lH a),<-gJ]
def Pg(L:List Int)(Ss:List (Int->Bool)):Nat:=(Ss.map λS=>L.length - (L.filter S).length).sum
theorem Yh{L:List Int}:∀{Ss:List (Int->Bool)} {k:Nat} {S N:Int->Bool},Ss[k]? =lK S->(L.filter S).length < (L.filter N).length->Pg L (Ss.set k N) < Pg L Ss
 | [],k,S,N,h,_=>by simp at h
 |T::Ss,0,S,N,h,a=>by
  have h:T=S:=by simpa using h
  subst h;have:=iE N L;simp only[Pg,jQ,iO,jT];omega
 |T::Ss,k+1,S,N,h,a=>by
  have:=Yh (L:=L) (Ss:=Ss) (k:=k) (by simpa using h) a;simp only[Pg,jP,iO,jT]at this⊢;omega
theorem Apm(L:List Int)(Ss:List (Int->Bool)):Pg L Ss<=Ss.length * L.length:=by
 induction Ss with
 |nil=>simp[Pg]
 |cons S Ss a=>
  simp only[Pg,iO,jT,iC]at a⊢;rw[kV,Nat.one_mul];omega
structure AllI(f:Func)(L:List Int)(wait:List Nat)(Ss:List (Int->Bool)):Prop where
 len:Ss.length=f.blocks.length
 lt:∀b∈wait,b < f.blocks.length
 sound:∀k r,at_ Ss k r=true->LOut f k r
 sub:∀k,Sub L (at_ Ss k)
 closed:∀k b,Edge f k b->b∉wait->∀r,inS (Cl f b) (at_ Ss b) r=true->at_ Ss k r=true
structure AllJ(f:Func)(L:List Int)(b:Nat)(wait0:List Nat)(Ss0:List (Int->Bool))(pre:List Int)(wait:List Nat)(Ss:List (Int->Bool)):Prop where
 len:Ss.length=f.blocks.length
 lt:∀b∈wait,b < f.blocks.length
 sound:∀k r,at_ Ss k r=true->LOut f k r
 sub:∀k,Sub L (at_ Ss k)
 mono:∀k r,at_ Ss0 k r=true->at_ Ss k r=true
 kept:∀k,k∉wait->at_ Ss k=at_ Ss0 k/\k∉wait0
 done:∀k:Nat,(k:Int)∈pre->∀r,inS (Cl f b) (at_ Ss0 b) r=true->at_ Ss k r=true
 less:2 * Pg L Ss+wait.length<=2 * Pg L Ss0+wait0.length
theorem AllI.start{a:List Nat}(d:∀b,b∈a↔b < f.blocks.length):AllI f L a (jO f.blocks.length λ_=>aI):=by
 have h0:∀k,at_ (jO f.blocks.length λ_=>aI) k=λ_=>aI:=λk=>by
  unfold at_;rw[gJ,gU];split <;> rfl
 refine⟨by simp,λb c=>(d b).1 c,λk r e=>(by rw[h0]at e;cases e),λk x hx=>(by rw[h0]at hx;cases hx),λk b g c=>?_⟩;exact absurd ((d b).2 (Ii g).2) c
theorem AllI.split{a:List Nat}(h:AllI f L (a++[b]) Ss):AllJ f L b a Ss [] a Ss:=
 ⟨h.len,λc hc=>h.lt c (by simp[hc]),h.sound,h.sub,λ_ _ h=>h,λk hk=>⟨rfl,hk⟩,λk hk=>by simp at hk,kY _⟩
theorem AllJ.done_all{a d:List Nat}(h0:AllI f L (a++[b]) Ss0)(h:AllJ f L b a Ss0 (Sw f b) d Ss):AllI f L d Ss:=by
 refine⟨h.len,h.lt,h.sound,h.sub,λk c i hc r g=>?_⟩;obtain⟨m,j⟩:=h.kept c hc;rw[m]at g;by_cases e:c=b
 ·subst e;exact h.done k ((JY (Ii i).2 _).2 ⟨k,i,rfl⟩) r g
 ·exact h.mono k r (h0.closed k c i (by simp[j,e]) r g)
theorem AllJ.step{a d:List Nat}{n:List Int}(h0:AllI f L (a++[b]) Ss0)(h:AllJ f L b a Ss0 n d Ss)(z:kE f k b)(u:Ss[k]? =lK S)
 (A:∀x∈Cl f b,∀r∈readsC x,r∈L):
 let N:=inS (Cl f b) (at_ Ss0 b)
 AllJ f L b a Ss0 (n++[(k:Int)]) (if(L.filter S).length < (L.filter (uni S N)).length then d++[k]else d) (Ss.set k (uni S N)):=by
 intro N;have m:k < Ss.length:=(gQ.1 u).1;have t:at_ Ss k=S:=by unfold at_;rw[gJ,u];rfl
 have y:Sub L N:=(h0.sub b).inS A;have w:∀r,N r=aN->kM f k r:=λr g=>Abw z (λh=>h0.sound b r h) g
 have o:∀j r,at_ (Ss.set k (uni S N)) j r=aN↔at_ Ss j r=aN\/(j=k/\N r=aN):=λj r=>by
  rw[Ahw m];by_cases hj:j=k
  ·subst hj;rw[if_pos V,t];simp[uni]
  ·rw[if_neg hj];simp[hj]
 have q:(Ss.set k (uni S N)).length=f.blocks.length:=by simp[h.len]
 refine⟨q,λc hc=>?_,λj r g=>?_,λj r g=>?_,λj r g=>(o j r).2 (.inl (h.mono j r g)),λj hj=>?_,λj hj r g=>?_,?_⟩
 ·split at hc
  ·rcases iQ.1 hc with h1|h1
   ·exact h.lt c h1
   ·have:c=k:=by simpa using h1
    subst this;exact(Ii z).1
  ·exact h.lt c hc
 ·rcases(o j r).1 g with h1|⟨rfl,h1⟩
  ·exact h.sound j r h1
  ·exact w r h1
 ·rcases(o j r).1 g with h1|⟨rfl,h1⟩
  ·exact h.sub j r h1
  ·exact y r h1
 ·split at hj
  ·rename_i i;have s:j∉d/\j≠k:=by simpa using hj
   rw[Ahw m,if_neg s.2];exact h.kept j s.1
  ·rename_i i;have e:uni S N=S:=XB y (by omega);rw[e,Ahw m];split
   ·rename_i v;subst v;rw[<-t];exact h.kept j hj
   ·exact h.kept j hj
 ·rw[iQ]at hj;rcases hj with hj|hj
  ·exact(o j r).2 (.inl (h.done j hj r g))
  ·have:j=k:=by
    have:(j:Int)=(k:Int):=by simpa using hj
    omega
   exact(o j r).2 (.inr ⟨this,g⟩)
 ·have h1:=h.less;split
  ·rename_i i;have:=Yh (L:=L) u i;simp only[iB,List.length_singleton];omega
  ·rename_i i;have e:uni S N=S:=XB y (by omega);rw[e];have:Ss.set k S=Ss:=by
    apply fW;intro j;by_cases hj:k=j
    ·subst hj;rw[gW m,u]
    ·rw[gV hj]
   rw[this];exact h1
noncomputable def X5(f:kL)(k:Nat):Int->Bool:=λr=>@decide (kM f k r) (Classical.propDecidable _)
theorem N5:X5 f k r=aN↔kM f k r:=by simp[X5]
theorem AllI.end_(h:AllI f L [] Ss):Ss=(jM f.blocks.length).map (X5 f):=by
 have a:∀k r,kM f k r->at_ Ss k r=aN:=λk r i=>by
  induction i with
  |read c h1=>exact h.closed _ _ c (by simp) _ (by rw[Uo,h1];rfl)
  |pass c h1 _ g=>exact h.closed _ _ c (by simp) _ (by rw[Uo,h1,g];simp)
 apply fW;intro k;by_cases hk:k < f.blocks.length
 ·rw[gR,gT hk,gO (by rw[h.len];exact hk)];congr 1;funext r;have e:at_ Ss k=Ss[k]'(by rw[h.len];exact hk):=by unfold at_;rw[gJ,gO (by rw[h.len];exact hk)];rfl
  rw[<-e];cases d:X5 f k r
  ·cases j:at_ Ss k r
   ·rfl
   ·have:=N5.2 (h.sound k r j);rw[d]at this;cases this
  ·exact a k r (N5.1 d)
 ·rw[gP (by rw[h.len];omega),gP (by simp;omega)]
theorem Amz{L:List Int}{r:Int}:∀{ds:List Ins},(∀x∈ds,∀r∈readsC x,r∈L)->rdB r ds=aN->r∈L
 | [],_,h=>by simp[rdB]at h
 |x::ds,a,h=>by
  simp only[rdB,fO,zay]at h;rcases h with h|⟨_,h⟩
  ·exact a x (by simp) r h
  ·exact Amz (λy c=>a y (by simp[c])) h
theorem Ak1(c:∀b∈f.blocks,∀x∈b.ins,∀r∈readsC x,r∈L)(b:Nat):∀x∈Cl f b,∀r∈readsC x,r∈L:=λx hx=>by
 unfold Cl at hx;split at hx
 ·rename_i d a;exact c d (iZ a) x hx
 ·cases hx
theorem X4(h:∀b∈f.blocks,∀x∈b.ins,∀r∈readsC x,r∈L)(k:Nat):Sub L (X5 f k):=λr e=>by
 have a:∀k r,kM f k r->r∈L:=λk r c=>by
  induction c with
  |read g h1=>exact Amz (Ak1 h _) h1
  |pass g h1 c d=>exact d
 exact a k r (N5.1 e)
open Go.RowKit Go.Proofs Go.Maps
variable{Ss:List (Int->Bool)}{i:Nat}
theorem LK{k:Nat}(h:k<=9223372036854775807):wfI .i64 (k:Int):=by
 simp[wfI,Lit.wf,IntKind.min,IntKind.max,IntKind.signed,IntKind.bits];omega
def setsA(p:Nat×List Nat)(Ss:List (Int->Bool)):Res:=⟨[],λg=>g=p.1\/g∈p.2,λw _=>(∃e,w.heap[p.1]? =lK (.cells (p.2.map λm=>eT (lK m)).toArray e (0,0)))/\p.2.length=Ss.length/\p.2.Nodup/\∀(i m:Nat) (S:Int->Bool),p.2[i]? =lK m->Ss[i]? =lK S->IH w m S,
 λh hk _ _=>⟨let ⟨e,h1⟩:=h.1;⟨e,(hk p.1 (.inl V)).trans h1⟩,h.2.1,h.2.2.1,λi m S a c=>(h.2.2.2 i m S a c).keep (hk m (.inr (iZ a)))⟩⟩
def Fa(m:Nat):AV:=.lit (.map (lK m))
theorem QP{w:eX}{S:Nat->Prop}:∀{a:List Nat} {cs:List eR},Ae w S [] ψ0 (a.map Fa) cs->cs=a.map λm=>eT (lK m)
 | [],cs,h=>by unfold Ae at h;exact h
 |m::a,cs,h=>by
  simp only[iO]at h;unfold Ae at h;obtain⟨v,vs,rfl,h1,h2⟩:=h;unfold Fa j8 at h1;rw[h1,QP h2];rfl
section
variable{C:Ctx}{t:List AV}{h:List j5}{o:bC}
theorem Xm{j O:Nat}{a:List Nat}(c:i≠j)(hi:h[i]? =lK (.res (Be O (a.map Fa))))(d:h[j]? =lK (.res (mapsR a Ss))):kS C ⟨t,h⟩ ⟨t,(h.set j .dead).set i (.res (setsA (O,a) Ss))⟩:=
 KQ c hi d V V V (λg hg=>hg) λw S ⟨cs,e,h1,h2⟩ m _=>by
  rw[QP h2]at h1;exact⟨⟨e,h1⟩,m⟩
theorem Amn{n:Nat}{p:Nat×List Nat}(hi:h[i]? =lK (.res (setsA p Ss)))(A:Ss.length=n)(E:n<=fE)(a:mkD h= []:=by rfl):Fin h (.lit (.slice (lK ⟨p.1,0,lJ⟩) n n)) (.bs Amw Ss):=⟨a,λC S ψ w v I H g=>by
 unfold j8 at g;subst g;obtain⟨y,⟨e,G⟩,B,z,F⟩:=H.blk i _ hi;refine⟨λk=>S k\/(setsA p Ss).F k,λ_ h=>.inl h,λk hk=>?_,λk hk=>?_,?_⟩
 ·rcases hk with hk|hk
  ·exact .inl hk
  ·exact .inr (Nat.le_of_not_lt λc=>(y k hk).1 (I k c))
 ·rcases hk with hk|hk
  ·exact H.lt k hk
  ·exact(y k hk).2.2
 ·unfold j8;subst A;refine⟨_,_,rfl,kY _,⟨E,λe=>by cases e⟩,λj d x=>⟨p.1,0,rfl,.inr (.inl V),?_⟩⟩;have D:j < p.2.length:=by rw[B];exact(gQ.1 x).1
  obtain⟨m,a⟩:∃m,p.2[j]? =lK m:=⟨_,gO D⟩
  refine⟨[.map (lK m)],⟨m,rfl,.inr (.inr (iZ a)),F j m d a x⟩,λq u s=>?_⟩;cases q with
  |zero=>
   cases s;show w.cell? ⟨p.1,0+j * 1+0,lJ⟩=_;rw[lC,lE,kW];exact Oe G (by rw[gR,a];rfl)
  |succ q=>cases s⟩
end
end Mu
namespace Mu
open Go Go.RowKit Go.Proofs
variable{f:kL}{k:Nat}{l:List Int}{p:Int->Bool}{x:Int}{α β:Type}
theorem ZW(f:kL)(b:Int)(c:¬(0<=b/\b < f.blocks.length)):Fn cF 128 [.agg (Ak f),.lit (.int .i64 b)] (.bs tInt []):=by
 refine VB (AQ bJ V (by kernel_rfl) V cE λC g=>?_);refine nS ?_;refine rRS ?_;refine Ab λm h2=>?_
 refine Ab λj d=>?_
 rcases hb:aO (b < 0)with _|_
 ·have e:aO (b≥(f.blocks.length:Int))=aN:=by simp at hb⊢;omega
  refine rR ?_;refine d _ ?_;refine nT ?_;refine Ag V (λa=>?_) (λa=>by cases a);refine rRS ?_;refine Aw ?_;exact⟨.inr V,kG V⟩
 ·refine rR ?_;refine d _ ?_;refine nT ?_;refine Ag V (λa=>?_) (λa=>by cases a);refine rRS ?_;refine Aw ?_;exact⟨.inr V,kG V⟩
theorem ZX(f:kL)(k:Nat)(c:kA)(hk:f.blocks[k]? =lK c)(m:f.blocks.length<=2097152)(d:c.ins= []):Fn cF 128 [.agg (Ak f),.lit (.int .i64 (k:Int))] (.bs tInt []):=by
 have e:k < f.blocks.length:=(gQ.1 hk).1;have n:aO ((k:Int) < 0)=aI:=by simp
 have j:aO ((k:Int)≥(f.blocks.length:Int))=aI:=by simp;omega
 have g:((c.ins.length:Int) ==0)=aN:=by simp[d]
 refine VB (AQ bJ V (by kernel_rfl) V cE λC q=>?_);refine nS ?_;refine rRS ?_;refine Ab λs h2=>?_
 refine rRS ?_;refine Ag V (λa=>?_) (λa=>by cases a);refine rRS ?_;refine Aw ?_;exact⟨.inr V,kG V⟩
theorem Afg(f:kL)(k:Nat)(n:kA)(x:Ins)(hk:f.blocks[k]? =lK n)(W:f.blocks.length<=2097152)(hi:n.ins.length<=2097152)(hx:n.ins.getLast? =lK x)(v:okIns x):
 Fn cF 128 [.agg (Ak f),.lit (.int .i64 (k:Int))] (.bs tInt ((if QF f x then [x.l1]else [])++if Ai3 f x then [x.l2]else [])):=by
 have P:k < f.blocks.length:=(gQ.1 hk).1;have F:0 < n.ins.length:=by
  cases G:n.ins with
  |nil=>rw[G]at hx;cases hx
  |cons y l=>simp
 have H:n.ins[((n.ins.length:Int) - 1).toNat]? =lK x:=by
  rw[List.getLast?_eq_getElem?]at hx;rw[<-hx];congr 1;omega
 have g:aO ((k:Int) < 0)=aI:=by simp
 have T:aO ((k:Int)≥(f.blocks.length:Int))=aI:=by simp;omega
 have Q:((n.ins.length:Int) ==0)=aI:=beq_eq_false_iff_ne.2 (by omega);have J:=v.l1;have I:=v.l2;have K:(1:Nat)<=fE:=by decide
 refine AQ bJ V (by kernel_rfl) V cE λC X=>?_
 refine nS ?_;refine rRS ?_;refine Ab λZ h2=>?_
 refine rRS ?_;refine Ag V (λw=>by cases w) (λw=>?_);refine Al ?_;refine h2 _ ?_;refine nT ?_;refine Ab λY U=>?_
 (refine Aij 47 17 16 (by kernel_rfl) (by kernel_rfl) (by decide) V V ?_;simp only[zad];(repeat((first|(refine AAj V V V ?_;(first|refine ER (AT.move V (by(conv=>lhs;whnf);try rfl)) ⟨rfl,?_⟩|refine ER (AT.assign V (by(conv=>lhs;whnf);try rfl)) ⟨rfl,?_⟩|refine ER (Br V V V) ⟨rfl,?_⟩|refine ER (Cq V V) ⟨rfl,?_⟩|refine ER (CI V V V) ⟨rfl,?_⟩|refine ER (Bf V V V V) ⟨rfl,?_⟩|refine ER (AA V V V) ⟨rfl,?_⟩|refine ER (Bq V V V (by assumption) V) ⟨rfl,?_⟩|refine ER (AR V V V V) ⟨rfl,?_⟩|refine ER (DW V V V) ⟨rfl,?_⟩|refine ER (Is V V V V (by assumption)) ⟨rfl,?_⟩|refine ER (Ht V V V V (by first|decide|omega) (by assumption)) ⟨rfl,?_⟩|refine ER (Jy V V V V V (by first|assumption|omega)) ⟨rfl,?_⟩|refine ER (FL V V V V V (by first|decide|omega) (by first|assumption|omega)) ⟨rfl,?_⟩|refine ER (AT.ln V V) ⟨rfl,?_⟩|refine ER (Gd V V V) ⟨rfl,?_⟩|refine ER (Jw V V) ⟨rfl,?_⟩|refine ER (Ea V V V (by omega)) ⟨rfl,?_⟩|refine ER (EO V V V (by omega)) ⟨rfl,?_⟩|refine ER (Hu V V V V (by assumption)) ⟨rfl,?_⟩|refine ER (CQ V V V V) ⟨rfl,?_⟩|refine ER (Co V V) ⟨rfl,?_⟩|refine ER (AT.pick V V (by(conv=>lhs;whnf);try rfl)) ⟨rfl,?_⟩|refine ER (AT.extract V V V) ⟨rfl,?_⟩|refine ER (Cg V V V (by rfl) (by decide) (by first|exact kI|exact kJ|exact kK (by assumption))) ⟨rfl,?_⟩|refine ER (AT.max2 V V V) ⟨rfl,?_⟩|refine ER (AT.min2 V V V) ⟨rfl,?_⟩))|refine bQ_skip V V V ?_|refine Azj V V V V ?_);refine Azi (by(try simp only[Bl,zac]);exact V) ?_));refine Ax4 ?_;(repeat((first|(refine AC V ?_;(first|refine AX (AT.move V (by(conv=>lhs;whnf);try rfl)) ?_|refine AX (AT.assign V (by(conv=>lhs;whnf);try rfl)) ?_|refine AX (Br V V V) ?_|refine AX (Cq V V) ?_|refine AX (CI V V V) ?_|refine AX (Bf V V V V) ?_|refine AX (AA V V V) ?_|refine AX (Bq V V V (by assumption) V) ?_|refine AX (AR V V V V) ?_|refine AX (DW V V V) ?_|refine AX (Is V V V V (by assumption)) ?_|refine AX (Ht V V V V (by first|decide|omega) (by assumption)) ?_|refine AX (Jy V V V V V (by first|assumption|omega)) ?_|refine AX (FL V V V V V (by first|decide|omega) (by first|assumption|omega)) ?_|refine AX (AT.ln V V) ?_|refine AX (Gd V V V) ?_|refine AX (Jw V V) ?_|refine AX (Ea V V V (by omega)) ?_|refine AX (EO V V V (by omega)) ?_|refine AX (Hu V V V V (by assumption)) ?_|refine AX (CQ V V V V) ?_|refine AX (Co V V) ?_|refine AX (AT.pick V V (by(conv=>lhs;whnf);try rfl)) ?_|refine AX (AT.extract V V V) ?_|refine AX (Cg V V V (by rfl) (by decide) (by first|exact kI|exact kJ|exact kK (by assumption))) ?_|refine AX (AT.max2 V V V) ?_|refine AX (AT.min2 V V V) ?_|refine AOp.box V Vx.agg ?_|refine Y3 V ?_|refine CR V V V (M0 V) V (kX V) ?_|refine SS V V V V V (by first|assumption|(simp[fE];done)|(simp[fE];omega)) (by first|assumption|(simp;done)|(simp;omega)) ?_|refine Dx V V V (by assumption) (by first|exact kI|exact kJ|exact kK (by assumption)) V ?_))|refine PL V ?_);refine Arf (by(try simp only[Bl,zac]);exact V) (by(try simp only[Nat.reduceAdd,zab]);exact V) ?_));refine Au ?_)
 refine U _ ?_;refine nT ?_;refine rRS ?_;refine AE ⟨(A2 (.ptr 0 0::A2 (.ptr 1 0::.own 2 0::A80 (A10 [])))),[.box (Ak f),.box (BV x),.row 0 3 tInt []]⟩ ((Cz 6 3 tInt V lG).trans (BU)) ?_;refine SO ⟨(A2 (.ptr 0 0::A2 (.ptr 1 0::.own 2 (if QF f x then 1 else 0)::A80 (A10 [])))),[.box (Ak f),.box (BV x),.row (if QF f x then 1 else 0) 3 tInt (if QF f x then [x.l1]else [])]⟩ ?_ ?_
 ·rcases hc1:QF f x with _|_
  all_goals refine Ab λD A=>?_
  ·have a:((x.op ==8)=aI/\(x.op ==9)=aI)\/(((x.op ==8)=aN\/((x.op ==8)=aI/\(x.op ==9)=aN))/\(aO (x.l1≥0)=aI\/(aO (x.l1≥0)=aN/\aO (x.l1 < (f.blocks.length:Int))=aI))):=by
    unfold QF inB at hc1;cases B:(x.op ==8) <;> cases m:(x.op ==9) <;> cases z:aO (x.l1≥0) <;> cases j:aO (x.l1 < (f.blocks.length:Int)) <;> simp[B,m,z,j]at hc1⊢
   have c:∀d:St,kS C d ⟨(A2 (.ptr 0 0::A2 (.ptr 1 0::.own 2 0::A40 (A10 (A5 (.lit (.bool aI)::A20 (A10 (A4 [])))))))),[.box (Ak f),.box (BV x),.row 0 3 tInt []]⟩->D d:=λd e=>by
    refine A _ (AE _ e ?_);refine Ag V (λg=>by cases g) (λg=>?_);refine Al ?_;refine An ?_;exact BU
   rcases a with⟨q,u⟩|⟨q|⟨q,u⟩,s|⟨s,E⟩⟩
   all_goals
    refine rR ?_;exact An (c _ (BU))
  ·have a:((x.op ==8)=aN\/((x.op ==8)=aI/\(x.op ==9)=aN))/\aO (x.l1≥0)=aN/\aO (x.l1 < (f.blocks.length:Int))=aN:=by
    unfold QF inB at hc1;cases B:(x.op ==8) <;> cases m:(x.op ==9) <;> cases z:aO (x.l1≥0) <;> cases j:aO (x.l1 < (f.blocks.length:Int)) <;> simp[B,m,z,j]at hc1⊢
   have c:∀d:St,kS C d ⟨(A2 (.ptr 0 0::A2 (.ptr 1 0::.own 2 0::A40 (A10 (A5 (.lit (.bool aN)::A20 (A10 (A4 [])))))))),[.box (Ak f),.box (BV x),.row 0 3 tInt []]⟩->D d:=λd e=>by
    refine A _ (AE _ e ?_);refine Ag V (λg=>?_) (λg=>by cases g);refine rR ?_;refine An ?_;exact BU
   obtain⟨q|⟨q,u⟩,s,E⟩:=a;all_goals
    refine rR ?_;exact An (c _ (BU))
 ·refine SO ⟨(A6 (.own 2 ((if QF f x then 1 else 0)+if Ai3 f x then 1 else 0)::A80 (A10 []))),[.dead,.dead,.row ((if QF f x then 1 else 0)+if Ai3 f x then 1 else 0) 3 tInt ((if QF f x then [x.l1]else [])++if Ai3 f x then [x.l2]else [])]⟩ ?_ ?_
  ·rcases hc2:Ai3 f x with _|_
   all_goals refine Ab λD A=>?_
   ·have a:(x.op ==9)=aI\/((x.op ==9)=aN/\((x.l2 !=x.l1)=aI\/((x.l2 !=x.l1)=aN/\(aO (x.l2≥0)=aI\/(aO (x.l2≥0)=aN/\aO (x.l2 < (f.blocks.length:Int))=aI))))):=by
     unfold Ai3 inB at hc2;cases B:(x.l2 !=x.l1) <;> cases m:(x.op ==9) <;> cases z:aO (x.l2≥0) <;> cases j:aO (x.l2 < (f.blocks.length:Int)) <;> simp only[B,m,z,j,Bool.and_true,Bool.and_false,Bool.true_eq_false,aJ,true_and,or_true,true_or,and_true,false_and,or_false]at hc2⊢
    have c:∀d:St,kS C d ⟨(A2 (.ptr 0 0::A2 (.ptr 1 0::.own 2 (if QF f x then 1 else 0)::A80 (A3 (.lit (.bool aI)::A6 []))))),[.box (Ak f),.box (BV x),.row (if QF f x then 1 else 0) 3 tInt (if QF f x then [x.l1]else [])]⟩->D d:=λd e=>by
     refine A _ (AE _ e ?_);refine Ag V (λg=>by cases g) (λg=>?_);refine Al ?_;refine An ?_;simp only[aJ,if_false,kW,fL];exact Ki (kC (kC (Cut.refl _)))
    rcases a with q|⟨q,u|⟨u,s|⟨s,E⟩⟩⟩
    all_goals
     refine rR ?_;exact An (c _ (BU))
   ·have a:(x.op ==9)=aN/\(x.l2 !=x.l1)=aN/\aO (x.l2≥0)=aN/\aO (x.l2 < (f.blocks.length:Int))=aN:=by
     unfold Ai3 inB at hc2;simpa[aG,and_assoc]using hc2
    have c:∀d:St,kS C d ⟨(A2 (.ptr 0 0::A2 (.ptr 1 0::.own 2 (if QF f x then 1 else 0)::A80 (A3 (.lit (.bool aN)::A6 []))))),[.box (Ak f),.box (BV x),.row (if QF f x then 1 else 0) 3 tInt (if QF f x then [x.l1]else [])]⟩->D d:=λd e=>by
     refine A _ (AE _ e ?_);refine Ag V (λg=>?_) (λg=>by cases g);have N:(if QF f x then [x.l1]else []:List Int).length+ [x.l2].length<=fE:=by split <;> simp[fE]
     have O:((if QF f x then [x.l1]else []:List Int).length+ [x.l2].length) * 8<=140737488355328:=by split <;> simp
     refine rR ?_;refine An ?_;simp only[if_true];exact Ki (kC (kC (Cut.refl _)))
    obtain⟨q,u,s,E⟩:=a;refine rR ?_;exact An (c _ (BU))
  ·refine rRS ?_;refine Aw ?_;exact⟨.inr V,kH V⟩
def De(f:kL)(a:List Bool)(b:Int):Bool:=(nextL f b).any λk=>a.getD k.toNat aI
theorem EX{b:Int}(h:x∈nextL f b):0<=x/\x.toNat < f.blocks.length:=by
 unfold nextL at h;obtain⟨y,_,rfl⟩:=iY.1 h;have:=y.2;simp[Fm];exact this
theorem Aff(f:kL)(b:Int)(m:okFunc f)(e:smallF f):Fn cF 128 [.agg (Ak f),.lit (.int .i64 b)] (.bs tInt (nextL f b)):=by
 by_cases c:0<=b/\b < f.blocks.length
 ·obtain⟨k,rfl⟩:=Int.eq_ofNat_of_zero_le c.1;have hk:k < f.blocks.length:=by omega
  have a:f.blocks[k]? =lK f.blocks[k]:=gO hk;rw[RX a];cases d:(f.blocks[k]).ins.getLast? with
  |none=>
   have g:(f.blocks[k]).ins= []:=List.getLast?_eq_none_iff.1 d;rw[T9 g];exact ZX f k _ a e.blocks g
  |some x=>
   rw[ZV d];have j:=g8 hk;exact Afg f k _ x a e.blocks (e.all _ j).ins d ((m.blocks _ j).ins x (List.mem_of_getLast? d))
 ·rw[T7 c];exact ZW f b c
theorem Ama(hx:l[k]? =lK x)(c:(l.take k).any p=aI)(a:p x=aI):(l.take (k+1)).any p=aI:=by
 rw[jU,hx,List.any_append,c];simp[a]
theorem EJ(f:kL)(a:List Bool)(b:Int)(u:okFunc f)(s:smallF f)(A:a.length=f.blocks.length):Fn cF 103 [.agg (Ak f),.bs kT a,.lit (.int .i64 b)] (.lit (.bool (De f a b))):=by
 have v:(nextL f b).length<=2:=by unfold nextL;rw[iF];exact LI f b
 refine AQ Tryz.func103 V (by kernel_rfl) V Tryz.ntmps103 λC B=>?_
 refine nS ?_;refine rRS ?_;refine Ab λG h2=>?_
 (refine j9 ?_;(repeat(first|refine sQ ?_ (AT.call V (Aff f b u s) V V V)|refine sQ ?_|refine AM ?_|refine Bp ?_));refine Au ?_)
 refine h2 _ ?_;refine nT ?_;refine Ab λF z=>?_
 refine rRS ?_;refine Ac ?_;refine AB (λk:Nat=>⟨(.any::.bs kT a::A5 (.bs tInt (nextL f b)::.lit (.int .i64 (k:Int))::A10 (A6 []))),[]⟩) (λk=>k<=(nextL f b).length/\((nextL f b).take k).any (λk=>a.getD k.toNat aI)=aI) (λk=>(nextL f b).length - k) 0 ⟨lF _,by simp⟩ (Ki (kD _)) ?_;rintro k ⟨hk,d⟩;refine Ab λE y=>?_
 refine rRS ?_;refine Ag V (λe=>?_) (λe=>?_)
 ·have m:k < (nextL f b).length:=by simpa using e
  obtain⟨x,hx⟩:∃x,(nextL f b)[k]? =lK x:=⟨_,gO m⟩
  have j:=EX (iZ hx);have n:=j.1;obtain⟨q,hq⟩:∃q,a[x.toNat]? =lK q:=⟨_,gO (by omega)⟩
  have g:a.getD x.toNat aI=q:=by rw[gJ,hq];rfl
  refine Al ?_;refine y _ ?_;refine nT ?_;refine Ab λD w=>?_
  refine Ac ?_;refine rRS ?_;refine Ag V (λc=>?_) (λc=>?_)
  ·refine rRS ?_;refine Aw ?_;have hc:De f a b=aN:=fJ.2 ⟨x,iZ hx,by rw[g];exact c⟩;rw[hc];exact⟨.inr V,kG V⟩
  ·refine Al ?_;refine w _ ?_;refine nT ?_;refine rR ?_;refine An ⟨k+1,⟨by omega,Ama hx d (by rw[g];exact c)⟩,by omega,?_⟩;exact BU
 ·refine Ay ?_;refine z _ ?_;refine nT ?_;have:k=(nextL f b).length:=by
   have:¬k < (nextL f b).length:=by simpa using e
   omega
  have hc:De f a b=aI:=by
   rw[this,jW]at d;exact d
  refine rRS ?_;refine Aw ?_;rw[hc];exact⟨.inr V,kG V⟩
def goB(f:kL)(r:Int)(out:List Bool)(b:Nat):Bool:=(CM r (Cl f b)).1||(!(CM r (Cl f b)).2&&De f out b)
def Mp(f:kL)(r:Int)(out:List Bool)(b:Nat):List Bool:=if goB f r out b then out.set b aN else out
def foldI(f:kL)(r:Int)(out:List Bool)(m:Nat):List Bool:=(jM m).foldl (Mp f r) out
def roundsI(f:kL)(r:Int):Nat->List Bool
 |0=>jO f.blocks.length aI
 |m+1=>foldI f r (roundsI f r m) f.blocks.length
def Lb(f:kL)(r:Int):List Bool:=roundsI f r (f.blocks.length+1)
theorem EI(f:kL)(r:Int)(out:List Bool)(m:Nat):foldI f r out (m+1)=Mp f r (foldI f r out m) m:=by unfold foldI;rw[jN,gH];rfl
theorem Add(f:kL)(r:Int)(out:List Bool)(b:Nat):(Mp f r out b).length=out.length:=by unfold Mp;split <;> simp
theorem UA(f:kL)(r:Int)(out:List Bool)(m:Nat):(foldI f r out m).length=out.length:=by
 induction m with
 |zero=>rfl
 |succ m a=>rw[EI,Add,a]
theorem KB(f:kL)(r:Int)(m:Nat):(roundsI f r m).length=f.blocks.length:=by
 induction m with
 |zero=>simp[roundsI]
 |succ m a=>unfold roundsI;rw[UA,a]
theorem Yl(f:kL)(r:Int)(F:okFunc f)(E:smallF f):Fn cF 66 [.agg (Ak f),.lit (.int .i64 r)] (.bs kT (Lb f r)):=by
 have Q:=E.blocks;refine AQ Tryz.func66 V (by kernel_rfl) V Tryz.ntmps66 λC hC=>?_
 refine nS ?_;refine rRS ?_;refine Ab λK2 h2=>?_
 refine j9 ?_
 iterate 3 (first|refine sQ ?_|refine AM ?_|refine Bp ?_)
 refine AC V ?_;refine Aip (e:=4) (z:=.bool aI) (bytes:=1) (T:=kT) aI V (by kernel_rfl) V (λ_ _=>rfl) V V (by omega) (by unfold fE;omega) ?_;refine sNt ?_
 iterate 1 (first|refine sQ ?_|refine AM ?_|refine Bp ?_)
 refine Au ?_;refine h2 _ ?_;refine nT ?_;refine Ab λK3 X=>?_
 refine rRS ?_;refine Ac ?_;refine AB (λm:Nat=>⟨(.any::.lit (.int .i64 r)::.ptr 0 0::A2 (.own 1 0::.lit (.int .i64 (m:Int))::A40 (A6 []))),[.box (Ak f),.row 0 4 kT (roundsI f r m)]⟩) (λm=>m<=f.blocks.length+1) (λm=>f.blocks.length+1 - m) 0 (lF _) (BU) ?_;rintro m hm;refine Ab λK6 W=>?_
 refine rRS ?_;refine Ag V (λu=>?_) (λu=>?_)
 ·have N:m<=f.blocks.length:=by simpa using u
  refine Al ?_;refine W _ ?_;refine nT ?_;refine Ab λK9 U=>?_
  refine Ac ?_;refine rRS ?_;refine Ac ?_;refine AB (λk:Nat=>⟨(.any::.lit (.int .i64 r)::.ptr 0 0::A2 (.own 1 0::.lit (.int .i64 (m:Int))::.lit (.int .i64 (k:Int))::A40 (A5 []))),[.box (Ak f),.row 0 4 kT (foldI f r (roundsI f r m) k)]⟩) (λk=>k<=f.blocks.length) (λk=>f.blocks.length - k) 0 (lF _) (BU) ?_;rintro k hk;refine Ab λab K=>?_
  refine rRS ?_;have w:(foldI f r (roundsI f r m) k).length=f.blocks.length:=by rw[UA,KB]
  refine Ag V (λd=>?_) (λd=>?_)
  ·have H:k < f.blocks.length:=by simpa using d
   obtain⟨g,B⟩:∃g,f.blocks[k]? =lK g:=⟨_,gO H⟩
   have s:=iZ B;have A:Cl f k=g.ins:=by unfold Cl;rw[B]
   have a:goB f r (foldI f r (roundsI f r m) k) k=((CM r g.ins).1||(!(CM r g.ins).2&&De f (foldI f r (roundsI f r m) k) k)):=by unfold goB;rw[A]
   obtain⟨q0,O⟩:∃q,(foldI f r (roundsI f r m) k)[k]? =lK q:=⟨_,gO (by omega)⟩
   have P:k < (foldI f r (roundsI f r m) k).length:=by omega
   have n:goB f r (foldI f r (roundsI f r m) k) k=aN->foldI f r (roundsI f r m) (k+1)=(foldI f r (roundsI f r m) k).set k aN:=λh=>by rw[EI,Mp,if_pos h]
   have y:goB f r (foldI f r (roundsI f r m) k) k=aI->foldI f r (roundsI f r m) (k+1)=foldI f r (roundsI f r m) k:=λh=>by rw[EI,Mp,if_neg (by simp[h])]
   refine Al ?_;refine K _ ?_;refine nT ?_;refine Ab λaa j=>?_
   refine Ac ?_;refine Ab λZ J=>?_
   (refine j9 ?_;(repeat(first|refine sQ ?_ (AT.call V (Mv g 0 r (F.blocks g s) (E.all g s) (lF _)) V V V)|refine sQ ?_|refine AM ?_|refine Bp ?_));refine Au ?_)
   rw[fT];refine J _ ?_;refine nT ?_;rcases hr1:(CM r g.ins).1 with _|_
   ·rcases hr2:(CM r g.ins).2 with _|_
    ·rw[hr1,hr2]at a;refine Ab λY D=>?_
     rcases hbb:De f (foldI f r (roundsI f r m) k) k with _|_
     ·rw[hbb]at a
      (refine j9 ?_;(repeat(first|refine sQ ?_ (J2 V (by have:=EJ f (foldI f r (roundsI f r m) k) k F E w;rw[hbb]at this;exact this) (.cl V (.own V (.cl V .nil))))|refine sQ ?_|refine AM ?_|refine Bp ?_));refine Au ?_)
      refine D _ ?_;refine nT ?_;refine Ag V (λv=>by cases v) (λc=>?_);refine Al ?_;refine j _ ?_;refine nT ?_;refine rR ?_;refine An ⟨k+1,by omega,by omega,?_⟩;rw[y a];exact BU
     ·rw[hbb]at a
      (refine j9 ?_;(repeat(first|refine sQ ?_ (J2 V (by have:=EJ f (foldI f r (roundsI f r m) k) k F E w;rw[hbb]at this;exact this) (.cl V (.own V (.cl V .nil))))|refine sQ ?_|refine AM ?_|refine Bp ?_));refine Au ?_)
      refine D _ ?_;refine nT ?_;refine Ag V (λc=>?_) (λv=>by cases v);refine rR ?_;refine j _ ?_;refine nT ?_;refine rR ?_;refine An ⟨k+1,by omega,by omega,?_⟩;rw[n a];exact BU
    ·rw[hr1,hr2]at a;refine rRS ?_;refine Ag V (λv=>by cases v) (λc=>?_);refine Al ?_;refine j _ ?_;refine nT ?_;refine rR ?_;refine An ⟨k+1,by omega,by omega,?_⟩;rw[y a];exact BU
   ·rw[hr1]at a;refine rRS ?_;refine Ag V (λc=>?_) (λv=>by cases v);refine rR ?_;refine j _ ?_;refine nT ?_;refine rR ?_;refine An ⟨k+1,by omega,by omega,?_⟩;rw[n a];exact BU
  ·refine Ay ?_;refine U _ ?_;refine nT ?_;have I:k=f.blocks.length:=by
    have:¬k < f.blocks.length:=by simpa using d
    omega
   refine rR ?_;refine An ⟨m+1,by omega,by omega,?_⟩;rw[I];exact BU
 ·refine Ay ?_;refine X _ ?_;refine nT ?_;have G:m=f.blocks.length+1:=by
   have:¬m<=f.blocks.length:=by simpa using u
   omega
  refine rRS ?_;refine Aw ?_;rw[G];exact⟨.inr V,kH V⟩
def swapL(l:List Int)(q:Nat):List Int:=(l.set q (l.getD (q+1) 0)).set (q+1) (l.getD q 0)
def OA:Nat->List Int->List Int
 |0,l=>l
 |q+1,l=>if l.getD q 0 > l.getD (q+1) 0 then OA q (swapL l q)else l
def IM(l:List Int):List Int:=OA (l.length - 1) l
theorem Ou(l:List Int)(q:Nat):(swapL l q).length=l.length:=by simp[swapL]
theorem Tm:∀(k:Nat) (l:List Int),(OA k l).length=l.length
 |0,l=>rfl
 |q+1,l=>by
  unfold OA;split
  ·rw[Tm q,Ou]
  ·rfl
theorem XI(h:Bg l){q:Nat}(hq:q+1 < l.length):Bg (swapL l q):=by
 intro x hx;unfold swapL at hx;have a:q < l.length:=by omega
 have h1:l.getD q 0∈l:=by rw[gJ,gO a];exact g8 _
 have h2:l.getD (q+1) 0∈l:=by rw[gJ,gO hq];exact g8 _
 rcases i8 hx with h3|h3
 ·rcases i8 h3 with h4|h4
  ·exact h x h4
  ·rw[h4];exact h _ h2
 ·rw[h3];exact h _ h1
theorem VV(l:List Int)(H:Bg l)(h0:0 < l.length)(P:l.length<=4194304):Amm cF 101 3 tInt l (IM l):=by
 refine Vz Tryz.func101 V (by kernel_rfl) V Tryz.ntmps101 (λ_ _ _ _ _ h=>h) λC=>?_
 refine nS ?_;refine rRS ?_;refine Ab λU h2=>?_
 refine rRS ?_;refine Ac ?_;have z:((l.length:Int) - 1)=((l.length - 1:Nat):Int):=by omega
 rw[z];refine AB (λp:Nat×List Int=>⟨(.own 0 0::A2 (.lit (.int .i64 (p.1:Int))::A20 (A10 (A6 [])))),[.row 0 3 tInt p.2]⟩) (λp=>p.2.length=l.length/\p.1 < l.length/\Bg p.2/\OA p.1 p.2=IM l) (λp=>p.1) (l.length - 1,l) ⟨rfl,by omega,H,rfl⟩ (BU) ?_;rintro⟨k,m⟩ ⟨j,w,d,c⟩;dsimp only at j w d c⊢;refine Ab λT K=>?_
 refine Ab λQ A=>?_
 cases k with
 |zero=>
  have I:aO (((0:Nat):Int) > 0)=aI:=by decide
  (refine NP 14 (hh:=?_);(repeat(first|refine qQ ?_|refine G5 ?_));refine Fc ?_;(repeat(first|refine sQ ?_|refine AM ?_|refine Bp ?_));refine Au ?_)
  refine A _ ?_;refine nT ?_;refine Ag V (λa=>by cases a) (λa=>?_);refine Ay ?_;refine h2 _ ?_;refine nT ?_;refine rRS ?_;refine Aw ?_;exact⟨.inr V,0,0,rfl,by rw[<-c];rfl,rfl⟩
 |succ q=>
  have I:aO (((q+1:Nat):Int) > 0)=aN:=by simp
  have u:m[(((q+1:Nat):Int) - 1).toNat]? =lK (m.getD q 0):=by
   have:(((q+1:Nat):Int) - 1).toNat=q:=by omega
   rw[this,gJ,gO (by omega)];rfl
  have e:m[q+1]? =lK (m.getD (q+1) 0):=by
   rw[gJ,gO (by omega)];rfl
  have G:=d _ (iZ u);have F:=d _ (iZ e);have g:q+1 < m.length:=by omega
  have E:(m.set (((q+1:Nat):Int) - 1).toNat (m.getD (q+1) 0))[q+1]? =lK (m.getD (q+1) 0):=by
   rw[gV (by omega)];exact e
  have B:q+1 < (m.set (((q+1:Nat):Int) - 1).toNat (m.getD (q+1) 0)).length:=by simpa using g
  rw[OA]at c;rcases hc:aO (m.getD q 0 > m.getD (q+1) 0)with _|_
  ·rw[if_neg (by simpa using hc)]at c
   (refine NP 14 (hh:=?_);(repeat(first|refine qQ ?_|refine G5 ?_));refine Fc ?_;(repeat(first|refine sQ ?_|refine AM ?_|refine Bp ?_));refine Au ?_)
   refine A _ ?_;refine nT ?_;refine Ag V (λa=>by cases a) (λa=>?_);refine Ay ?_;refine h2 _ ?_;refine nT ?_;refine rRS ?_;refine Aw ?_;exact⟨.inr V,0,0,rfl,by rw[<-c];rfl,rfl⟩
  ·rw[if_pos (by simpa using hc)]at c
   (refine NP 14 (hh:=?_);(repeat(first|refine qQ ?_|refine G5 ?_));refine Fc ?_;(repeat(first|refine sQ ?_|refine AM ?_|refine Bp ?_));refine Au ?_)
   refine A _ ?_;refine nT ?_;refine Ag V (λa=>?_) (λa=>by cases a);refine Al ?_;refine K _ ?_;refine nT ?_;refine Ab λD J=>?_
   refine Ac ?_
   (refine Aii 15 [3,4] [0,1,2,5,6,7,8,9,10,11,12,13,14] (by kernel_rfl) (by kernel_rfl) (by decide) V ?_;refine Aod (by(try simp only[Bl,evA,gL,List.getElem?_cons_succ,Option.getD_some,jQ,jP]);exact V) ?_;(repeat(refine Azk (by simp only[gL,zaq];exact V) V ?_;(first|refine EQ (AT.move V (by(conv=>lhs;whnf);try rfl)) ?_|refine EQ (AT.assign V (by(conv=>lhs;whnf);try rfl)) ?_|refine EQ (Br V V V) ?_|refine EQ (Cq V V) ?_|refine EQ (CI V V V) ?_|refine EQ (Bf V V V V) ?_|refine EQ (AA V V V) ?_|refine EQ (Bq V V V (by assumption) V) ?_|refine EQ (AR V V V V) ?_|refine EQ (DW V V V) ?_|refine EQ (Is V V V V (by assumption)) ?_|refine EQ (Ht V V V V (by first|decide|omega) (by assumption)) ?_|refine EQ (Jy V V V V V (by first|assumption|omega)) ?_|refine EQ (FL V V V V V (by first|decide|omega) (by first|assumption|omega)) ?_|refine EQ (AT.ln V V) ?_|refine EQ (Gd V V V) ?_|refine EQ (Jw V V) ?_|refine EQ (Ea V V V (by omega)) ?_|refine EQ (EO V V V (by omega)) ?_|refine EQ (Hu V V V V (by assumption)) ?_|refine EQ (CQ V V V V) ?_|refine EQ (Co V V) ?_|refine EQ (AT.pick V V (by(conv=>lhs;whnf);try rfl)) ?_|refine EQ (AT.extract V V V) ?_|refine EQ (Cg V V V (by rfl) (by decide) (by first|exact kI|exact kJ|exact kK (by assumption))) ?_|refine EQ (AT.max2 V V V) ?_|refine EQ (AT.min2 V V V) ?_);refine Aod (by(try simp only[Bl,zac]);exact V) ?_));refine Arg ?_)
   have n:∀s:St,kS C s ⟨(.own 0 0::A2 (.lit (.int .i64 ((q+1:Nat):Int))::A20 (A10 (A6 [])))),[.row 0 3 tInt (swapL m q)]⟩->D s:=λs v=>by
    refine J _ (AE _ v ?_);refine rR ?_;refine An ⟨(q,swapL m q),⟨by rw[Ou];exact j,by omega,XI d g,c⟩,by simp,?_⟩;have N:(((q+1:Nat):Int) - 1)=(q:Int):=by omega
    rw[N];exact BU
   have y:∀t:List AV,Fgt 1 t (.own 0 0::A2 (.lit (.int .i64 ((q+1:Nat):Int))::A20 (A10 (A6 []))))->D ⟨t,[.row 0 3 tInt ((m.set (((q+1:Nat):Int) - 1).toNat (m.getD (q+1) 0)).set (q+1) (m.getD q 0))]⟩:=λt ht=>by
    have O:(((q+1:Nat):Int) - 1).toNat=q:=by omega
    rw[O];exact n _ (Xl V ht)
   refine Lg [15] (by kernel_rfl) (by simp) (Lh (by simp only[gL,zaq];exact V) V ?_ AP)
   (first|refine oQ ?_|refine Azc ?_)
   refine Lg [16] (by kernel_rfl) (by simp) (Lh (by simp only[gL,zaq];exact V) V ?_ AP)
   (first|refine oQ ?_|refine Azc ?_)
   refine Lg [17] (by kernel_rfl) (by simp) (Lh (by simp only[gL,zaq];exact V) V ?_ AP)
   (first|refine oQ ?_|refine Azc ?_)
   exact S8 (by kernel_rfl) (y _ (by(try simp only[Bl,zac]);repeat(first|exact Fgt.nil|refine Fgt.keep V ?_|refine Fgt.any ?_)))
def Ce(f:kL):List Int:=f.blocks.flatMap λb=>b.ins.flatMap readsC
def Pi(out:List Int)(x:Int):List Int:=if out.contains x then out else IM (out++[x])
def Cy(l:List Int):List Int:=l.foldl Pi []
def Bz(f:kL):List Int:=Cy (Ce f)
theorem V6(l:List Int)(x:Int):Cy (l++[x])=Pi (Cy l) x:=by simp[Cy]
theorem Ox(l:List Int):(IM l).length=l.length:=Tm _ _
theorem XL:∀(k:Nat) (l:List Int),k < l.length->Bg l->Bg (OA k l)
 |0,l,_,h=>h
 |q+1,l,hq,h=>by
  unfold OA;split
  ·exact XL q _ (by rw[Ou];omega) (XI h hq)
  ·exact h
theorem Akz(out:List Int)(x:Int):(Pi out x).length<=out.length+1:=by
 unfold Pi;split
 ·omega
 ·rw[Ox];simp
theorem Apq{out:List Int}(h:Bg out)(hx:wfI .i64 x):Bg (Pi out x):=by
 unfold Pi;split
 ·exact h
 ·unfold IM;refine XL _ _ (by simp) λy a=>?_
  rcases iQ.1 a with h1|h1
  ·exact h y h1
  ·simp at h1;rw[h1];exact hx
theorem QQ(l:List Int):(Cy l).length<=l.length/\(Bg l->Bg (Cy l)):=by
 have a:∀(l out:List Int),(l.foldl Pi out).length<=out.length+l.length/\(Bg l->Bg out->Bg (l.foldl Pi out)):=by
  intro l;induction l with
  |nil=>intro out;exact⟨by simp,λ_ h=>h⟩
  |cons x l e=>
   intro out;obtain⟨h1,h2⟩:=e (Pi out x);have:=Akz out x;refine⟨by simp only[gI,iC];omega,λd g=>h2 (λy c=>d y (by simp[c])) (Apq g (d x (by simp)))⟩
 obtain⟨h1,h2⟩:=a l [];unfold Cy;exact⟨by simpa using h1,λh=>h2 h λy c=>by cases c⟩
theorem Agq{l:List Ins}(h:∀x∈l,okIns x):Bg (l.flatMap readsC):=λr a=>by
 obtain⟨x,hx,h1⟩:=iW.1 a;exact FU (h x hx) r h1
theorem PG(h:okFunc f):Bg (Ce f):=λr a=>by
 obtain⟨b,c,h1⟩:=iW.1 a;exact Agq (h.blocks b c).ins r h1
theorem L2(g:α->List Int)(l:List α)(k:Nat):((l.take k).flatMap g).length<=(l.flatMap g).length:=by
 have:l.flatMap g=(l.take k).flatMap g++(l.drop k).flatMap g:=by rw[<-gE,jV]
 rw[this,iB];omega
theorem Kk(g:α->List Int){l:List α}{x:α}(hx:l[k]? =lK x):(l.take (k+1)).flatMap g=(l.take k).flatMap g++g x:=by
 rw[jU,hx,gE];simp
theorem Aec(f:kL)(ho:okFunc f)(hs:smallF f)(hT:(Ce f).length<=2097152):Fn cF 65 [.agg (Ak f)] (.bs tInt (Bz f)):=by
 have aq:=hs.blocks;refine AQ Tryz.func65 V (by kernel_rfl) V Tryz.ntmps65 λC hC=>?_
 refine nS ?_;refine rRS ?_;refine rRS ?_;refine Ab λK3 h3=>?_
 refine rRS ?_;refine Ac ?_;refine AB (λp:Nat×Nat=>⟨(.any::.ptr 0 0::.any::.own 1 p.2::.lit (.int .i64 (p.1:Int))::A40 (A10 (A3 []))),[.box (Ak f),.row p.2 3 tInt (Cy ((f.blocks.take p.1).flatMap λb=>b.ins.flatMap readsC))]⟩) (λp=>p.1<=f.blocks.length) (λp=>f.blocks.length - p.1) (0,0) (lF _) ((Cz 3 3 tInt V lG).trans (BU)) ?_;rintro⟨b,ver⟩ X;dsimp only at X⊢;refine Ab λK6 h6=>?_
 refine rRS ?_;refine Ag V (λI=>?_) (λI=>?_)
 ·have ad:b < f.blocks.length:=by simpa using I
  obtain⟨a,U⟩:∃a,f.blocks[b]? =lK a:=⟨_,gO ad⟩
  have d:=iZ U;have am:=(hs.all a d).ins;have j:=Kk (λb:kA=>b.ins.flatMap readsC) U;have F:=L2 (λb:kA=>b.ins.flatMap readsC) f.blocks (b+1);have E:Bg ((f.blocks.take b).flatMap λb=>b.ins.flatMap readsC):=λr J=>PG ho r (by
   obtain⟨c,hc,h1⟩:=iW.1 J;exact iW.2 ⟨c,i7 hc,h1⟩)
  generalize ((f.blocks.take b).flatMap λb=>b.ins.flatMap readsC)=A at j E⊢;rw[j]at F;have H:(A++a.ins.flatMap readsC).length<=2097152:=kZ F hT;refine Al ?_;refine h6 _ ?_;refine nT ?_;refine Ab λK9 h9=>?_
  refine Ac ?_;refine rRS ?_;refine Ac ?_;refine AB (λp:Nat×Nat=>⟨(.any::.ptr 0 0::.any::.own 1 p.2::.lit (.int .i64 (b:Int))::.lit (.int .i64 (p.1:Int))::A40 (A10 (A2 []))),[.box (Ak f),.row p.2 3 tInt (Cy (A++(a.ins.take p.1).flatMap readsC))]⟩) (λp=>p.1<=a.ins.length) (λp=>a.ins.length - p.1) (0,ver) (lF _) (by simp only[jZ,gG,fL];exact BU) ?_;rintro⟨i,w⟩ hi;dsimp only at hi⊢;refine Ab λay ak=>?_
  refine rRS ?_;refine Ag V (λv=>?_) (λv=>?_)
  ·have T:i < a.ins.length:=by simpa using v
   obtain⟨x,hx⟩:∃x,a.ins[i]? =lK x:=⟨_,gO T⟩
   have O:=iZ hx;have N:=(ho.blocks a d).ins x O;have al:=(hs.all a d).all x O;have g:=Kk readsC hx;have s:=L2 readsC a.ins (i+1);have D:Bg (A++(a.ins.take i).flatMap readsC):=λr J=>by
    rcases iQ.1 J with h1|h1
    ·exact E r h1
    ·exact Agq (λy K=>(ho.blocks a d).ins y (i7 K)) r h1
   rw[g]at s;have q:(A++(a.ins.take i).flatMap readsC).length+(readsC x).length<=2097152:=by
    simp only[iB]at H s⊢;omega
   generalize hB:A++(a.ins.take i).flatMap readsC=B at D q⊢;have P:=FU N;have an:(readsC x).length<=2097152:=by omega
   refine Al ?_;refine ak _ ?_;refine nT ?_;refine Ab λax aj=>?_
   refine Ac ?_;refine Ab λaw ai=>?_
   (refine j9 ?_;(repeat(first|refine sQ ?_ (AT.call V (Gj x N (by omega)) V V V)|refine sQ ?_|refine AM ?_|refine Bp ?_));refine Au ?_)
   refine ai _ ?_;refine nT ?_;refine rRS ?_;refine Ac ?_;refine AB (λp:Nat×Nat=>⟨(.any::.ptr 0 0::.any::.own 1 p.2::.lit (.int .i64 (b:Int))::.lit (.int .i64 (i:Int))::.bs tInt (readsC x)::.lit (.int .i64 (p.1:Int))::A40 (A10 [])),[.box (Ak f),.row p.2 3 tInt (Cy (B++(readsC x).take p.1))]⟩) (λp=>p.1<=(readsC x).length) (λp=>(readsC x).length - p.1) (0,w) (lF _) (by simp only[jZ,fL];exact BU) ?_;rintro⟨k,e⟩ hk;dsimp only at hk⊢;refine Ab λav ah=>?_
   refine rRS ?_;refine Ag V (λu=>?_) (λu=>?_)
   ·have Q:k < (readsC x).length:=by simpa using u
    obtain⟨r,J⟩:∃r,(readsC x)[k]? =lK r:=⟨_,gO Q⟩
    have aa:=P r (iZ J);have G:Cy (B++(readsC x).take (k+1))=Pi (Cy (B++(readsC x).take k)) r:=by
     rw[jU,J,<-fK];exact V6 _ _
    obtain⟨ac,ab⟩:=QQ (B++(readsC x).take k);have z:=ab λy K=>by
     rcases iQ.1 K with h1|h1
     ·exact D y h1
     ·exact P y (i7 h1)
    have m:(Cy (B++(readsC x).take k)).length<=2097152:=by
     simp only[iB,iL]at ac q;omega
    generalize Cy (B++(readsC x).take k)=out at G m z⊢;refine Al ?_;refine ah _ ?_;refine nT ?_;refine Ab λau Z=>?_
    refine Ac ?_;refine Ab λar Y=>?_
    rcases hc:out.contains r with _|_
    ·have n:Pi out r=IM (out++[r]):=by unfold Pi;rw[if_neg (by rw[hc];simp)]
     have ap:out.length+ [r].length<=fE:=by simp[fE];omega
     have ao:(out.length+ [r].length) * 8<=140737488355328:=by simp;omega
     (refine j9 ?_;(repeat(first|refine sQ ?_ (J2 V (by have:=WD out r m;rw[hc]at this;exact this) (.own V (.cl V .nil)))|refine sQ ?_|refine AM ?_|refine Bp ?_));refine Au ?_)
     refine Y _ ?_;refine nT ?_;refine Ag V (λW=>?_) (λX=>by cases X)
     (refine j9 ?_;(repeat(first|(refine AC V (P7 V (VV (out++[r]) (λy K=>(iQ.1 K).elim (z y) λh=>by simp at h;rw[h];exact aa) (by simp) (by simp;omega)) V V ?_);refine sNt ?_)|refine sQ ?_|refine AM ?_|refine Bp ?_));refine Au ?_)
     refine Z _ ?_;refine nT ?_;refine rR ?_;refine An ⟨(k+1,e+1+1),by omega,by dsimp only;omega,?_⟩;dsimp only;rw[G,n];exact BU
    ·have n:Pi out r=out:=by unfold Pi;rw[if_pos hc]
     (refine j9 ?_;(repeat(first|refine sQ ?_ (J2 V (by have:=WD out r m;rw[hc]at this;exact this) (.own V (.cl V .nil)))|refine sQ ?_|refine AM ?_|refine Bp ?_));refine Au ?_)
     refine Y _ ?_;refine nT ?_;refine Ag V (λX=>by cases X) (λW=>?_);refine Al ?_;refine Z _ ?_;refine nT ?_;refine rR ?_;refine An ⟨(k+1,e),by omega,by dsimp only;omega,?_⟩;dsimp only;rw[G,n];exact BU
   ·refine Ay ?_;refine aj _ ?_;refine nT ?_;have ae:k=(readsC x).length:=by
     have:¬k < (readsC x).length:=by simpa using u
     omega
    refine rR ?_;refine An ⟨(i+1,e),by omega,by dsimp only;omega,?_⟩;dsimp only;rw[g,ae,jW,<-fK,hB];exact BU
  ·refine Ay ?_;refine h9 _ ?_;refine nT ?_;have af:i=a.ins.length:=by
    have:¬i < a.ins.length:=by simpa using v
    omega
   refine rR ?_;refine An ⟨(b+1,w),by omega,by dsimp only;omega,?_⟩;dsimp only;rw[j,af,jW];exact BU
 ·refine Ay ?_;refine h3 _ ?_;refine nT ?_;have ag:b=f.blocks.length:=by
   have:¬b < f.blocks.length:=by simpa using I
   omega
  refine rRS ?_;refine Aw ?_;rw[ag,jW];exact⟨.inr V,kH V⟩
def Fp(f:kL)(b i:Nat)(r:Int):Bool:=(CM r ((Cl f b).drop i)).1||(!(CM r ((Cl f b).drop i)).2&&De f (Lb f r) b)
def Df(f:kL)(regs:List Int)(b i:Nat):List Int:=regs.filter (Fp f b i)
def B6(f:kL)(b:Nat):List (List Int):=(jM ((Cl f b).length+1)).map (Df f (Bz f) b)
def PH(f:kL):List (List (List Int)):=(jM f.blocks.length).map (B6 f)
theorem DZ(hx:l[k]? =lK x):(l.take (k+1)).filter p=(l.take k).filter p++if p x then [x]else []:=by
 rw[jU,hx,fX];cases h:p x <;> simp[h]
theorem LU(f:kL)(r:Int):(Lb f r).length=f.blocks.length:=KB f r _
theorem ZG(f:kL)(regs:List Int)(b i:Nat)(e:kA)(v:okFunc f)(n:smallF f)(K:Bg regs)(J:regs.length<=2097152)(m:f.blocks[b]? =lK e)(hi:i<=e.ins.length):
 Fn cF 67 [.agg (Ak f),.bs tInt regs,.bs kT.slice (regs.map (Lb f)),.lit (.int .i64 (b:Int)),.lit (.int .i64 (i:Int))] (.bs tInt (Df f regs b i)):=by
 have Q:=n.blocks;have c:=iZ m;have z:Cl f b=e.ins:=by unfold Cl;rw[m]
 refine AQ Tryz.func67 V (by kernel_rfl) V Tryz.ntmps67 λC X=>?_
 refine nS ?_;refine rRS ?_;refine rRS ?_;refine Ab λK3 U=>?_
 refine rRS ?_;refine Ac ?_;refine AB (λp:Nat×Nat=>⟨(.any::.bs tInt regs::.bs kT.slice (regs.map (Lb f))::.lit (.int .i64 (b:Int))::.lit (.int .i64 (i:Int))::.ptr 0 0::A5 (.own 1 p.2::.lit (.int .i64 (p.1:Int))::A40 (A4 []))),[.box (Ak f),.row p.2 3 tInt ((regs.take p.1).filter (Fp f b i))]⟩) (λp=>p.1<=regs.length) (λp=>regs.length - p.1) (0,0) (lF _) ((Cz 11 3 tInt V lG).trans (BU)) ?_;rintro⟨k,ver⟩ hk;dsimp only at hk⊢;refine Ab λZ T=>?_
 refine rRS ?_;refine Ag V (λu=>?_) (λu=>?_)
 ·have E:k < regs.length:=by simpa using u
  obtain⟨r,q⟩:∃r,regs[k]? =lK r:=⟨_,gO E⟩
  have I:=K r (iZ q);have P:(regs.map (Lb f))[k]? =lK (Lb f r):=by rw[gR,q];rfl
  have w:=DZ (p:=Fp f b i) q;have D:=iE (Fp f b i) (regs.take k);have y:((regs.take k).filter (Fp f b i)).length<=2097152:=by simp only[iL]at D;omega
  have a:Fp f b i r=((CM r (e.ins.drop i)).1||(!(CM r (e.ins.drop i)).2&&De f (Lb f r) b)):=by unfold Fp;rw[z]
  have g:Fp f b i r=aN->(regs.take (k+1)).filter (Fp f b i)=(regs.take k).filter (Fp f b i)++[r]:=λh=>by rw[w,if_pos h]
  have s:Fp f b i r=aI->(regs.take (k+1)).filter (Fp f b i)=(regs.take k).filter (Fp f b i):=λh=>by rw[w,if_neg (by simp[h]),fL]
  generalize H:(regs.take k).filter (Fp f b i)=out at g s y⊢;have O:out.length+ [r].length<=fE:=by simp[fE];omega
  have N:(out.length+ [r].length) * 8<=140737488355328:=by simp;omega
  refine Al ?_;refine T _ ?_;refine nT ?_;refine Ab λY B=>?_
  refine Ac ?_;refine Ab λW G=>?_
  (refine NP 16 (hh:=?_);(repeat(first|refine qQ ?_ (AT.call V (Mv e i r (v.blocks e c) (n.all e c) hi) V V V)|refine qQ ?_|refine G5 ?_));refine Fc ?_;(repeat(first|refine sQ ?_ (AT.call V (Mv e i r (v.blocks e c) (n.all e c) hi) V V V)|refine sQ ?_|refine AM ?_|refine Bp ?_));refine Au ?_)
  refine G _ ?_;refine nT ?_;rcases hr1:(CM r (e.ins.drop i)).1 with _|_
  ·rcases hr2:(CM r (e.ins.drop i)).2 with _|_
   ·rw[hr1,hr2]at a;refine Ab λA d=>?_
    rcases hbb:De f (Lb f r) b with _|_
    ·rw[hbb]at a
     (refine NP 14 (hh:=?_);(repeat(first|refine qQ ?_ (AT.call V (by have:=EJ f (Lb f r) b v n (LU f r);rw[hbb]at this;exact this) V V V)|refine qQ ?_|refine G5 ?_));refine Fc ?_;(repeat(first|refine sQ ?_ (AT.call V (by have:=EJ f (Lb f r) b v n (LU f r);rw[hbb]at this;exact this) V V V)|refine sQ ?_|refine AM ?_|refine Bp ?_));refine Au ?_)
     refine d _ ?_;refine nT ?_;refine Ag V (λm=>by cases m) (λj=>?_);refine Al ?_;refine B _ ?_;refine nT ?_;refine rR ?_;refine An ⟨(k+1,ver),by omega,by dsimp only;omega,?_⟩;dsimp only;rw[s a];exact BU
    ·rw[hbb]at a
     (refine NP 14 (hh:=?_);(repeat(first|refine qQ ?_ (AT.call V (by have:=EJ f (Lb f r) b v n (LU f r);rw[hbb]at this;exact this) V V V)|refine qQ ?_|refine G5 ?_));refine Fc ?_;(repeat(first|refine sQ ?_ (AT.call V (by have:=EJ f (Lb f r) b v n (LU f r);rw[hbb]at this;exact this) V V V)|refine sQ ?_|refine AM ?_|refine Bp ?_));refine Au ?_)
     refine d _ ?_;refine nT ?_;refine Ag V (λj=>?_) (λm=>by cases m);refine rR ?_;refine B _ ?_;refine nT ?_;refine rR ?_;refine An ⟨(k+1,ver+1),by omega,by dsimp only;omega,?_⟩;dsimp only;rw[g a];exact BU
   ·rw[hr1,hr2]at a;refine Ab λA d=>?_
    (refine NP 14 (hh:=?_);(repeat(first|refine qQ ?_|refine G5 ?_));refine Fc ?_;(repeat(first|refine sQ ?_|refine AM ?_|refine Bp ?_));refine Au ?_)
    refine d _ ?_;refine nT ?_;refine Ag V (λm=>by cases m) (λj=>?_);refine Al ?_;refine B _ ?_;refine nT ?_;refine rR ?_;refine An ⟨(k+1,ver),by omega,by dsimp only;omega,?_⟩;dsimp only;rw[s a];exact BU
  ·rw[hr1]at a;refine Ab λA d=>?_
   (refine NP 14 (hh:=?_);(repeat(first|refine qQ ?_|refine G5 ?_));refine Fc ?_;(repeat(first|refine sQ ?_|refine AM ?_|refine Bp ?_));refine Au ?_)
   refine d _ ?_;refine nT ?_;refine Ag V (λj=>?_) (λm=>by cases m);refine rR ?_;refine B _ ?_;refine nT ?_;refine rR ?_;refine An ⟨(k+1,ver+1),by omega,by dsimp only;omega,?_⟩;dsimp only;rw[g a];exact BU
 ·refine Ay ?_;refine U _ ?_;refine nT ?_;have F:k=regs.length:=by
   have:¬k < regs.length:=by simpa using u
   omega
  refine rRS ?_;refine Aw ?_;rw[F,jW];exact⟨.inr V,kH V⟩
theorem R6(g:α->β){l:List α}{x:α}(hx:l[k]? =lK x):(l.take (k+1)).map g=(l.take k).map g++[g x]:=by
 rw[jU,hx,iM];simp
theorem Kh(g:Nat->β)(k:Nat):(jM (k+1)).map g=(jM k).map g++[g k]:=by rw[jN,iM];rfl
theorem YU(f:kL)(z:okFunc f)(n:smallF f)(hT:(Ce f).length<=2097152):Fn cF 33 [.agg (Ak f)] (.bs tInt.slice.slice (PH f)):=by
 have af:=n.blocks;obtain⟨u,v⟩:=QQ (Ce f);have H:(Bz f).length<=2097152:=kZ u hT;have G:Bg (Bz f):=v (PG z);refine AQ Tryz.func33 V (by kernel_rfl) V Tryz.ntmps33 λC hC=>?_
 refine nS ?_;refine rRS ?_;refine Ab λK2 h2=>?_
 (refine j9 ?_;(repeat(first|refine sQ ?_ (AT.call V (Aec f z n hT) V V V)|refine sQ ?_|refine AM ?_|refine Bp ?_));refine Au ?_)
 refine h2 _ ?_;refine nT ?_;refine rRS ?_;refine Ab λK4 h4=>?_
 refine rRS ?_;refine Ac ?_;refine AB (λp:Nat×Nat=>⟨(.any::.ptr 0 0::.any::.bs tInt (Bz f)::.own 1 p.2::.lit (.int .i64 (p.1:Int))::A40 (A10 (A3 []))),[.box (Ak f),.row p.2 99 kT.slice (((Bz f).take p.1).map (Lb f))]⟩) (λp=>p.1<=(Bz f).length) (λp=>(Bz f).length - p.1) (0,0) (lF _) ((Cz 4 99 kT.slice V lG).trans (BU)) ?_;rintro⟨k,ver⟩ hk;dsimp only at hk⊢;refine Ab λK7 h7=>?_
 refine rRS ?_;refine Ag V (λm=>?_) (λm=>?_)
 ·have O:k < (Bz f).length:=by simpa using m
  obtain⟨r,I⟩:∃r,(Bz f)[k]? =lK r:=⟨_,gO O⟩
  have s:=R6 (Lb f) I;have J:(((Bz f).take k).map (Lb f)).length<=2097152:=by simp only[iF,iL];omega
  generalize ((Bz f).take k).map (Lb f)=out at s J⊢;have N:out.length+ [Lb f r].length<=fE:=by simp[fE];omega
  have K:(out.length+ [Lb f r].length) * 24<=140737488355328:=by simp;omega
  refine Al ?_;refine h7 _ ?_;refine nT ?_;refine Ab λam ab=>?_
  refine Ac ?_
  (refine NP 8 (hh:=?_);(repeat(first|refine qQ ?_ (AT.call V (Yl f r z n) V V V)|refine qQ ?_|refine G5 ?_));refine Fc ?_;(repeat(first|refine sQ ?_ (AT.call V (Yl f r z n) V V V)|refine sQ ?_|refine AM ?_|refine Bp ?_));refine Au ?_)
  refine ab _ ?_;refine nT ?_;refine rR ?_;refine An ⟨(k+1,ver+1),by omega,by dsimp only;omega,?_⟩;dsimp only;rw[s];exact BU
 ·refine Ay ?_;refine h4 _ ?_;refine nT ?_;have P:k=(Bz f).length:=by
   have:¬k < (Bz f).length:=by simpa using m
   omega
  rw[P,jW];refine AE ⟨(.any::.ptr 0 0::.any::.bs tInt (Bz f)::.bs kT.slice ((Bz f).map (Lb f))::A40 (A10 (A4 []))),[.box (Ak f),.dead]⟩ ((Oi hC 1 V).trans (by simp only[fzH,Eh,AV.fz,ABlk.fz,iO,iP,jQ,jP,and_self,if_true,Ak];exact BU)) ?_;refine rRS ?_;refine Ab λal aa=>?_
  refine rRS ?_;refine Ac ?_;refine AB (λp:Nat×Nat=>⟨(.any::.ptr 0 0::.any::.bs tInt (Bz f)::.bs kT.slice ((Bz f).map (Lb f))::.any::.own 2 p.2::.lit (.int .i64 (p.1:Int))::A40 (A10 [.any])),[.box (Ak f),.dead,.row p.2 66 tInt.slice.slice ((jM p.1).map (B6 f))]⟩) (λp=>p.1<=f.blocks.length) (λp=>f.blocks.length - p.1) (0,0) (lF _) ((Cz 6 66 tInt.slice.slice V lG).trans (BU)) ?_;rintro⟨b,ver⟩ hb;dsimp only at hb⊢;refine Ab λak Z=>?_
  refine rRS ?_;refine Ag V (λc=>?_) (λc=>?_)
  ·have D:b < f.blocks.length:=by simpa using c
   obtain⟨d,j⟩:∃d,f.blocks[b]? =lK d:=⟨_,gO D⟩
   have A:=iZ j;have ac:=(n.all d A).ins;have E:Cl f b=d.ins:=by unfold Cl;rw[j]
   have g:=Kh (B6 f) b;have F:B6 f b=(jM (d.ins.length+1)).map (Df f (Bz f) b):=by unfold B6;rw[E]
   have y:((jM b).map (B6 f)).length<=2097152:=by simp;omega
   generalize (jM b).map (B6 f)=out at g y⊢;have N:out.length+ [B6 f b].length<=fE:=by simp[fE];omega
   have K:(out.length+ [B6 f b].length) * 24<=140737488355328:=by simp;omega
   refine Al ?_;refine Z _ ?_;refine nT ?_;refine Ab λaj Y=>?_
   refine Ac ?_;refine rRS ?_;refine Ab λai X=>?_
   refine rRS ?_;refine Ac ?_;refine AB (λp:Nat×Nat=>⟨(.any::.ptr 0 0::.any::.bs tInt (Bz f)::.bs kT.slice ((Bz f).map (Lb f))::.any::.own 2 ver::.lit (.int .i64 (b:Int))::.own 3 p.2::.lit (.int .i64 (p.1:Int))::A40 (A9 [])),[.box (Ak f),.dead,.row ver 66 tInt.slice.slice out,.row p.2 27 tInt.slice ((jM p.1).map (Df f (Bz f) b))]⟩) (λp=>p.1<=d.ins.length+1) (λp=>d.ins.length+1 - p.1) (0,0) (lF _) ((Cz 8 27 tInt.slice V lG).trans (BU)) ?_;rintro⟨i,q⟩ hi;dsimp only at hi⊢;refine Ab λah W=>?_
   refine rRS ?_;refine Ag V (λa=>?_) (λa=>?_)
   ·have B:i<=d.ins.length:=by simpa using a
    have e:=Kh (Df f (Bz f) b) i;have w:((jM i).map (Df f (Bz f) b)).length<=2097152:=by simp;omega
    generalize (jM i).map (Df f (Bz f) b)=l at e w⊢;have ae:l.length+ [Df f (Bz f) b i].length<=fE:=by simp[fE];omega
    have ad:(l.length+ [Df f (Bz f) b i].length) * 24<=140737488355328:=by simp;omega
    refine Al ?_;refine W _ ?_;refine nT ?_;refine Ab λag U=>?_
    refine Ac ?_
    (refine j9 ?_;(repeat(first|refine sQ ?_ (AT.call V (ZG f (Bz f) b i d z n G H j B) V V V)|refine sQ ?_|refine AM ?_|refine Bp ?_));refine Au ?_)
    refine U _ ?_;refine nT ?_;refine rR ?_;refine An ⟨(i+1,q+1),by omega,by dsimp only;omega,?_⟩;dsimp only;rw[e];exact BU
   ·refine Ay ?_;refine X _ ?_;refine nT ?_;have Q:i=d.ins.length+1:=by
     have:¬i<=d.ins.length:=by simpa using a
     omega
    rw[Q,<-F];refine AE ⟨(.any::.ptr 0 0::.any::.bs tInt (Bz f)::.bs kT.slice ((Bz f).map (Lb f))::.any::.own 2 ver::.lit (.int .i64 (b:Int))::.bs tInt.slice (B6 f b)::A40 (A10 [])),[.box (Ak f),.dead,.row ver 66 tInt.slice.slice out,.dead]⟩ ((Oi hC 3 V).trans (by simp only[fzH,Eh,AV.fz,ABlk.fz,iO,iP,jQ,jP,and_self,if_true,Ak,Nat.reduceEqDiff,false_and,if_false];exact BU)) ?_;refine rR ?_;refine Y _ ?_;refine nT ?_;refine rR ?_;refine An ⟨(b+1,ver+1),by omega,by dsimp only;omega,?_⟩;dsimp only;rw[g];exact Ki (kB (kB (kB (kD _))))
  ·refine Ay ?_;refine aa _ ?_;refine nT ?_;have T:b=f.blocks.length:=by
    have:¬b < f.blocks.length:=by simpa using c
    omega
   refine rRS ?_;refine Aw ?_;rw[T];exact⟨.inr V,kH V⟩
end Mu
namespace Mu
open Go
variable{A B:List Int}{b:Nat}{f:kL}{k:Nat}{out:List Bool}{q:Nat}{r x:Int}
def LIn(f:kL)(b:Nat)(r:Int):Prop:=rdB r (Cl f b)=aN\/(Ais r (Cl f b)=aN/\kM f b r)
theorem Akq:kM f k r↔∃b,kE f k b/\LIn f b r:=by
 constructor
 ·intro h;cases h with
  |read a h=>exact⟨_,a,.inl h⟩
  |pass a h c=>exact⟨_,a,.inr ⟨h,c⟩⟩
 ·rintro⟨b,a,h|⟨h,c⟩⟩
  ·exact .read a h
  ·exact .pass a h c
theorem MX:De f out (k:Int)=aN↔∃b,kE f k b/\out.getD b aI=aN:=by
 unfold De nextL kE;rw[fJ];constructor
 ·rintro⟨x,hx,h⟩;obtain⟨y,a,rfl⟩:=iY.1 hx;exact⟨y.1,⟨y,a,rfl⟩,by simpa[Fm]using h⟩
 ·rintro⟨b,⟨y,a,rfl⟩,h⟩;exact⟨Fm y,iY.2 ⟨y,a,rfl⟩,by simpa[Fm]using h⟩
theorem Aqq(f:kL)(r:Int)(out:List Bool)(b:Nat):goB f r out b=(rdB r (Cl f b)||(Ais r (Cl f b)&&De f out b)):=by
 have h:=Tz r (Cl f b) (λ_=>De f out b);rw[Uo]at h;exact h
theorem Ag5(h:kE f k b):b < f.blocks.length:=by
 obtain⟨x,_,rfl⟩:=h;exact x.2
def Rp(f:kL)(r:Int)(out:List Bool):Prop:=∀b,out.getD b aI=aN->LIn f b r
theorem M8(h:Rp f r out)(d:De f out (k:Int)=aN):kM f k r:=by
 obtain⟨b,c,a⟩:=MX.1 d;exact Akq.2 ⟨b,c,h b a⟩
theorem Zf(h:Rp f r out)(b:Nat):Rp f r (Mp f r out b):=by
 unfold Mp;split
 ·rename_i hg;intro c hc;by_cases a:b=c
  ·subst a;rw[Aqq]at hg;simp only[zay]at hg;rcases hg with hg|⟨h1,h2⟩
   ·exact .inl hg
   ·exact .inr ⟨h1,M8 h h2⟩
  ·rw[gJ,gV a,<-gJ]at hc;exact h c hc
 ·exact h
theorem Zg(h:Rp f r out)(m:Nat):Rp f r (foldI f r out m):=by
 induction m with
 |zero=>exact h
 |succ m a=>rw[EI];exact Zf a m
theorem Tg(f:kL)(r:Int)(m:Nat):Rp f r (roundsI f r m):=by
 induction m with
 |zero=>
  intro b a;unfold roundsI at a;rw[gJ,gU]at a;split at a <;> simp at a
 |succ m c=>exact Zg c _
theorem QK(f:kL)(r:Int)(out:List Bool)(b:Nat):out.count aN<=(Mp f r out b).count aN/\(Mp f r out b≠out->out.count aN < (Mp f r out b).count aN):=by
 unfold Mp;split
 ·by_cases g:b < out.length
  ·have e:out.set b aN=out.take b++aN::out.drop (b+1):=jR .. |>.trans (by rw[if_pos g])
   have c:out=out.take b++out[b]::out.drop (b+1):=by rw[<-fR g,jV]
   have h1:(out.set b aN).count aN=(out.take b).count aN+1+(out.drop (b+1)).count aN:=by rw[e,fP,fQ];omega
   cases a:out[b]with
   |true=>
    have h2:out.count aN=(out.take b).count aN+1+(out.drop (b+1)).count aN:=by
     conv=>lhs;rw[c,a]
     rw[fP,fQ];omega
    refine⟨by omega,λd=>absurd ?_ d⟩;rw[e]
    conv=>rhs;rw[c,a]
   |false=>
    have h2:out.count aN=(out.take b).count aN+(out.drop (b+1)).count aN:=by
     conv=>lhs;rw[c,a]
     rw[fP,List.count_cons_of_ne (by simp)]
    exact⟨by omega,λ_=>by omega⟩
  ·rw[List.set_eq_of_length_le (by omega)];exact⟨kY _,λh=>absurd V h⟩
 ·exact⟨kY _,λh=>absurd V h⟩
theorem Ra(f:kL)(r:Int)(out:List Bool)(m:Nat):out.count aN<=(foldI f r out m).count aN/\(foldI f r out m≠out->out.count aN < (foldI f r out m).count aN):=by
 induction m with
 |zero=>exact⟨kY _,λh=>absurd V h⟩
 |succ m d=>
  rw[EI];obtain⟨h1,h2⟩:=QK f r (foldI f r out m) m;refine⟨by omega,λa=>?_⟩;by_cases c:foldI f r out m=out
  ·rw[c]at h1 h2 a⊢;exact h2 a
  ·have:=d.2 c;omega
theorem Q9{n:Nat}(h:foldI f r out n=out):∀m,m<=n->foldI f r out m=out:=by
 intro m e;by_cases c:foldI f r out m=out
 ·exact c
 ·exfalso;have h1:=(Ra f r out m).2 c;have a:∀k,(foldI f r out m).count aN<=(foldI f r out (m+k)).count aN:=by
   intro k;induction k with
   |zero=>exact kY _
   |succ k d=>rw[<-kU,EI];exact kZ d (QK f r _ _).1
  have h2:=a (n - m);rw[show m+(n - m)=n by omega,h]at h2;omega
theorem Ys(a:out.length=f.blocks.length)(h:foldI f r out f.blocks.length=out)(c:b < f.blocks.length)(hg:goB f r out b=aN):out.getD b aI=aN:=by
 have h1:=Q9 h (b+1) (by omega);rw[EI,Q9 h b (by omega),Mp,if_pos hg]at h1;rw[<-h1,gJ,gW (by omega)];rfl
theorem Agu(d:out.length=f.blocks.length)(h:foldI f r out f.blocks.length=out)(c:kM f k r):De f out (k:Int)=aN:=by
 induction c with
 |read a h1=>exact MX.2 ⟨_,a,Ys d h (Ag5 a) (by rw[Aqq,h1];rfl)⟩
 |pass a h1 _ e=>exact MX.2 ⟨_,a,Ys d h (Ag5 a) (by rw[Aqq,h1,e h];simp)⟩
theorem Tq(f:kL)(r:Int):foldI f r (Lb f r) f.blocks.length=Lb f r:=by
 have d:∀m,(∃j,j < m/\roundsI f r (j+1)=roundsI f r j)\/m<=(roundsI f r m).count aN:=by
  intro m;induction m with
  |zero=>exact .inr (lF _)
  |succ m e=>
   rcases e with⟨j,n,c⟩|h
   ·exact .inl ⟨j,by omega,c⟩
   ·by_cases c:roundsI f r (m+1)=roundsI f r m
    ·exact .inl ⟨m,by omega,c⟩
    ·have:=(Ra f r (roundsI f r m) f.blocks.length).2 c;exact .inr (Nat.lt_of_le_of_lt h this)
 rcases d (f.blocks.length+1)with⟨j,n,c⟩|h
 ·have g:∀k,roundsI f r (j+k)=roundsI f r j:=by
   intro k;induction k with
   |zero=>rfl
   |succ k e=>
    show foldI f r (roundsI f r (j+k)) f.blocks.length=_;rw[e];exact c
  have h1:Lb f r=roundsI f r j:=by
   unfold Lb;rw[show f.blocks.length+1=j+(f.blocks.length+1 - j)by omega];exact g _
  rw[h1];exact c
 ·have:=List.count_le_length (a:=aN) (l:=roundsI f r (f.blocks.length+1));rw[KB]at this;omega
theorem PC(f:kL)(r:Int)(k:Nat):De f (Lb f r) (k:Int)=aN↔kM f k r:=
 ⟨λh=>M8 (Tg f r _) h,λh=>Agu (LU f r) (Tq f r) h⟩
theorem Afr(f:kL)(S:Int->Bool)(b i:Nat)(a:∀r,S r=aN↔kM f b r)(r:Int):Fp f b i r=inS ((Cl f b).drop i) S r:=by
 unfold Fp;have e:De f (Lb f r) (b:Int)=S r:=by
  cases h1:De f (Lb f r) (b:Int) <;> cases h2:S r
  ·rfl
  ·have:=(PC f r b).2 ((a r).1 h2);rw[h1]at this;cases this
  ·have:=(a r).2 ((PC f r b).1 h1);rw[h2]at this;cases this
  ·rfl
 rw[e];exact Tz r _ S
def Jc(x:Int):List Int->List Int
 | []=>[x]
 |a::l=>if a > x then a::Jc x l else x::a::l
theorem Se(h:A.length=q):(A++x::B).getD q 0=x:=by
 rw[gJ,gK (by omega)];simp[h]
theorem Ai9{a:Int}(h:A.length=q):swapL (A++a::x::B) q=A++x::a::B:=by
 unfold swapL;have h1:(A++a::x::B).getD q 0=a:=Se h;have h2:(A++a::x::B).getD (q+1) 0=x:=by
  rw[show A++a::x::B=(A++[a])++x::B by simp];exact Se (by simp[h])
 rw[h1,h2];subst h;simp[List.set_append]
theorem Adv(x:Int):∀(R B:List Int),OA R.length (R.reverse++x::B)=(Jc x R).reverse++B
 | [],B=>by simp[OA,Jc]
 |a::R,B=>by
  have d:R.reverse.length=R.length:=iK;have e:(a::R).reverse++x::B=R.reverse++a::x::B:=by simp
  rw[e,iC,OA];have h1:(R.reverse++a::x::B).getD R.length 0=a:=Se d;have h2:(R.reverse++a::x::B).getD (R.length+1) 0=x:=by
   rw[show R.reverse++a::x::B=(R.reverse++[a])++x::B by simp];exact Se (by simp)
  rw[h1,h2,Ai9 d];unfold Jc;by_cases c:a > x
  ·rw[if_pos c,if_pos c,Adv x R (a::B)];simp
  ·rw[if_neg c,if_neg c];simp
theorem Ti(l:List Int)(x:Int):IM (l++[x])=(Jc x l.reverse).reverse:=by
 have h:=Adv x l.reverse [];rw[List.reverse_reverse,iK,fL]at h;unfold IM;simpa using h
theorem MI{x y:Int}:∀{l:List Int},y∈Jc x l↔y=x\/y∈l
 | []=>by simp[Jc]
 |a::l=>by
  unfold Jc;split
  ·rw[iR,MI (l:=l),iR];constructor
   ·rintro(h|h|h) <;> simp[h]
   ·rintro(h|h|h) <;> simp[h]
  ·rw[iR]
theorem Ph{x:Int}:∀{l:List Int},l.Pairwise (λa b=>b < a)->x∉l->(Jc x l).Pairwise λa b=>b < a
 | [],_,_=>by simp[Jc]
 |a::l,h,hx=>by
  rw[jJ]at h;simp only[iR,not_or]at hx;unfold Jc;split
  ·rename_i c;refine jJ.2 ⟨λy hy=>?_,Ph h.2 hx.2⟩;rcases MI.1 hy with rfl|hy
   ·exact c
   ·exact h.1 y hy
  ·rename_i c;refine jJ.2 ⟨λy hy=>?_,jJ.2 h⟩;rcases iR.1 hy with rfl|hy
   ·omega
   ·have:=h.1 y hy;omega
theorem Ak0{l:List Int}(h:Asc l):Asc (Pi l x)/\∀y,y∈Pi l x↔y=x\/y∈l:=by
 unfold Pi;split
 ·rename_i hc;have a:x∈l:=by simpa using hc
  refine⟨h,λy=>⟨λhy=>.inr hy,?_⟩⟩;rintro(rfl|hy)
  ·exact a
  ·exact hy
 ·rename_i hc;have a:x∉l:=by simpa using hc
  rw[Ti];refine⟨?_,λy=>by rw[jA,MI,jA]⟩;unfold Asc at *;rw[jL];exact Ph (by rw[jL];exact h) (by rw[jA];exact a)
theorem EF(l:List Int):Asc (Cy l)/\∀y,y∈Cy l↔y∈l:=by
 have a:∀(l out:List Int),Asc out->Asc (l.foldl Pi out)/\∀y,y∈l.foldl Pi out↔y∈out\/y∈l:=by
  intro l;induction l with
  |nil=>intro out h;exact⟨h,λy=>by simp⟩
  |cons x l c=>
   intro out h;obtain⟨h1,h2⟩:=Ak0 (x:=x) h;obtain⟨e,d⟩:=c _ h1;refine⟨e,λy=>?_⟩;rw[gI,d y,h2 y,iR];constructor
   ·rintro((h|h)|h) <;> simp[h]
   ·rintro(h|h|h) <;> simp[h]
 obtain⟨h1,h2⟩:=a l [] fH;exact⟨h1,λy=>by unfold Cy;rw[h2 y];simp⟩
theorem Tv(f:kL):Asc (Bz f):=(EF _).1
theorem I1:r∈Bz f↔∃b∈f.blocks,∃x∈b.ins,r∈readsC x:=by
 unfold Bz;rw[(EF _).2 r];unfold Ce;simp only[iW]
open Go.RowKit Go.Proofs Go.Maps
variable{Q:Exit->St->Prop}{b id:Nat}{ms:List Nat}{n:Nat}{s:St}
instance:AG cF 157 aI 1:=⟨by kernel_rfl⟩
instance:SZ cF 157 1:=⟨by kernel_rfl⟩
instance:ES cF 157 1:=⟨by kernel_rfl⟩
instance:SL cF 157:=⟨by kernel_rfl⟩
instance:RT cF 157 156 1 8:=⟨by kernel_rfl⟩
instance:AG cF 156 aI 1:=⟨by kernel_rfl⟩
instance:SZ cF 156 1:=⟨by kernel_rfl⟩
instance:ZC cF 156 [.map lJ]:=⟨by kernel_rfl⟩
theorem Ahv{i:Nat}{K:St->Prop}(h:Q (.exit i) s):Ke K Q (.exit i) s:=h
theorem Abm(h:Q .normal s):Jt id Q (.exit id) s:=by simp[Jt,h]
theorem Ame(h:Q .normal s):Jt id Q .normal s:=h
theorem Ay5:GB cF 157=lK (156,.map lJ,8):=by kernel_rfl
theorem Acz:cF.underlying 156=lK (.map 3 3):=by kernel_rfl
theorem Dm(l:List Int):(Cy l).length<=l.length:=by
 have c:∀(l a:List Int),(l.foldl Pi a).length<=a.length+l.length:=by
  intro l;induction l with
  |nil=>intro a;simp
  |cons x l d=>
   intro a;have:=d (Pi a x);have h2:(Pi a x).length<=a.length+1:=by
    unfold Pi;split
    ·omega
    ·rw[Ox];simp
   simp only[gI,iC];omega
 simpa[Cy]using c l []
theorem RL(f:kL)(a:okFunc f)(d:(Ce f).length<=2097152):RegsR (Bz f):=by
 refine⟨Tv f,λx hx=>?_,?_⟩
 ·obtain⟨b,h1,y,h2,c⟩:=I1.1 hx;exact FU ((a.blocks b h1).ins y h2) x c
 ·have:=Dm (Ce f);unfold Bz;omega
def Km(ms:List Nat)(n:Nat):List AV:=ms.map Fa++jO (n - ms.length) (.lit (.map lJ))
theorem Aba{m:Nat}(a:ms.length=b)(c:b < n):(Km ms n).take b++[Fa m]++(Km ms n).drop (b+1)=Km (ms++[m]) n:=by
 unfold Km;have h1:(ms.map Fa).length=b:=by simp[a]
 rw[List.take_append_of_le_length (by omega),jX (by omega),List.drop_append,fS (by simp;omega),jD,h1,List.drop_replicate,iM,iB,fK,fK];congr 3;simp;omega
theorem Abb(h:ms.length<=n):(Km ms n).length=n:=by
 unfold Km;simp;omega
theorem W6(h:ms.length=n):Km ms n=ms.map Fa:=by
 unfold Km;rw[h];simp
def MJ(l:List Nat):List Int:=l.map λk:Nat=>(k:Int)
theorem Gu(l:List Nat):(MJ l).length=l.length:=by simp[MJ]
theorem LX(l:List Nat)(b:Nat):MJ (l++[b])=MJ l++[(b:Int)]:=by simp[MJ]
theorem At7{a c:Nat}(d:b<=2097152)(hc:c<=2097152)(h:a<=b * c):a<=4398046511104:=kZ h (kZ (lB d hc) (by decide))
theorem Aoc(f:kL)(H:okFunc f)(G:smallF f)(hT:(Ce f).length<=2097152):Fn cF 131 [.agg (Ak f)] (.bs Amw ((jM f.blocks.length).map (X5 f))):=by
 have bw:=G.blocks;have Z:=RL f H hT;have cb:(Bz f).length<=2097152:=kZ (Dm _) hT;have ae:∀b∈f.blocks,∀x∈b.ins,∀r∈readsC x,r∈Bz f:=λb hb x hx r hr=>I1.2 ⟨b,hb,x,hx,hr⟩
 have c:8 * f.blocks.length<=281474976710656:=by omega
 have a:f.blocks.length<=fE:=by unfold fE;omega
 refine FM Tryz.func131 V (by kernel_rfl) V Tryz.ntmps131 λC hC bi=>?_
 refine nS ?_;refine Ab λK1 h1=>?_
 refine rR ?_;refine h1 _ ?_;refine nT ?_;refine Bt 1 V V V (λg=>(.any::.lit (.pointer (lK ⟨g,0,lJ⟩))::A80 (A20 [.any]))) (λg=>(by(repeat(first|exact kQ|refine kR ?_|refine kO ?_|refine kP V ?_)))) λE=>?_
 refine Ab λK2 h2=>?_
 (refine j9 ?_;(repeat(first|refine sQ ?_|refine AM ?_|refine Bp ?_)))
 refine AC V (Aio V Ay5 V V c a λO=>?_);refine sNt ?_
 (repeat(first|refine sQ ?_|refine AM ?_|refine Bp ?_))
 refine Au ?_;refine h2 _ ?_;refine nT ?_;refine AE ⟨(.any::.lit (.pointer (lK ⟨E,0,lJ⟩))::.any::.lit (.slice (lK ⟨O,0,lJ⟩) f.blocks.length f.blocks.length)::A80 (A10 (A9 []))),[.res (Bk []),.res (Be E (Ak f)),.res (Be O (jO f.blocks.length (.lit (.map lJ))))]⟩ (BU) ?_;refine Ab λK3 h3=>?_
 suffices y:∀s':St,kS C s' ⟨(.any::.lit (.pointer (lK ⟨E,0,lJ⟩))::.any::.lit (.slice (lK ⟨O,0,lJ⟩) f.blocks.length f.blocks.length)::.own 3 0::.bs tInt.slice (GM f f.blocks.length)::A80 (A10 (A7 []))),[.res (Bk []),.res (Be E (Ak f)),.res (Be O (jO f.blocks.length (.lit (.map lJ)))),.row 0 3 tInt []]⟩->K3 s' by
  (refine Aih 0 (by kernel_rfl) (by kernel_rfl) ?_;refine Fc ?_;(refine BN [0,4] (tC ?_ (tC ?_ AP));(refine oQ ?_;(refine BN [1,4] (tC ?_ (tC ?_ AP));(refine oQ ?_;(refine BN [2,4] (tC ?_ (tC ?_ AP));(refine oQ ?_;(refine BN [3,4] (tC ?_ (tC ?_ AP));((refine Ec (T:=tInt) (m:=1) (e:=3) V V (by decide) V V c a ?_;refine tNt ?_);(refine BN [4] (tC ?_ AP);(refine oQ ?_;(refine BN [5] (tC ?_ AP);(refine oQ ?_ (AT.call V (Cu f H G) V V V);(refine BN [6] (tC ?_ AP);(refine oQ ?_;(refine BN [7] (tC ?_ AP);(refine oQ ?_;(exact Kx (y _ (BU))))))))))));(refine oQ ?_;(refine BN [3,5] (tC ?_ (tC ?_ AP));((refine Ec (T:=tInt) (m:=1) (e:=3) V V (by decide) V V c a ?_;refine tNt ?_);(refine BN [5] (tC ?_ AP);(refine oQ ?_ (AT.call V (Cu f H G) V V V);(refine BN [6] (tC ?_ AP);(refine oQ ?_;(refine BN [7] (tC ?_ AP);(refine oQ ?_;(exact Kx (y _ (BU))))))))));(refine oQ ?_ (AT.call V (Cu f H G) V V V);(refine BN [3] (tC ?_ AP);((refine Ec (T:=tInt) (m:=1) (e:=3) V V (by decide) V V c a ?_;refine tNt ?_);(refine BN [6] (tC ?_ AP);(refine oQ ?_;(refine BN [7] (tC ?_ AP);(refine oQ ?_;(exact Kx (y _ (BU))))))))))))));(refine oQ ?_;(refine BN [2,5] (tC ?_ (tC ?_ AP));(refine oQ ?_;(refine BN [3,5] (tC ?_ (tC ?_ AP));((refine Ec (T:=tInt) (m:=1) (e:=3) V V (by decide) V V c a ?_;refine tNt ?_);(refine BN [5] (tC ?_ AP);(refine oQ ?_ (AT.call V (Cu f H G) V V V);(refine BN [6] (tC ?_ AP);(refine oQ ?_;(refine BN [7] (tC ?_ AP);(refine oQ ?_;(exact Kx (y _ (BU))))))))));(refine oQ ?_ (AT.call V (Cu f H G) V V V);(refine BN [3] (tC ?_ AP);((refine Ec (T:=tInt) (m:=1) (e:=3) V V (by decide) V V c a ?_;refine tNt ?_);(refine BN [6] (tC ?_ AP);(refine oQ ?_;(refine BN [7] (tC ?_ AP);(refine oQ ?_;(exact Kx (y _ (BU))))))))))));(refine oQ ?_ (AT.call V (Cu f H G) V V V);(refine BN [2] (tC ?_ AP);(refine oQ ?_;(refine BN [3] (tC ?_ AP);((refine Ec (T:=tInt) (m:=1) (e:=3) V V (by decide) V V c a ?_;refine tNt ?_);(refine BN [6] (tC ?_ AP);(refine oQ ?_;(refine BN [7] (tC ?_ AP);(refine oQ ?_;(exact Kx (y _ (BU))))))))))))))));(refine oQ ?_;(refine BN [1,5] (tC ?_ (tC ?_ AP));(refine oQ ?_;(refine BN [2,5] (tC ?_ (tC ?_ AP));(refine oQ ?_;(refine BN [3,5] (tC ?_ (tC ?_ AP));((refine Ec (T:=tInt) (m:=1) (e:=3) V V (by decide) V V c a ?_;refine tNt ?_);(refine BN [5] (tC ?_ AP);(refine oQ ?_ (AT.call V (Cu f H G) V V V);(refine BN [6] (tC ?_ AP);(refine oQ ?_;(refine BN [7] (tC ?_ AP);(refine oQ ?_;(exact Kx (y _ (BU))))))))));(refine oQ ?_ (AT.call V (Cu f H G) V V V);(refine BN [3] (tC ?_ AP);((refine Ec (T:=tInt) (m:=1) (e:=3) V V (by decide) V V c a ?_;refine tNt ?_);(refine BN [6] (tC ?_ AP);(refine oQ ?_;(refine BN [7] (tC ?_ AP);(refine oQ ?_;(exact Kx (y _ (BU))))))))))));(refine oQ ?_ (AT.call V (Cu f H G) V V V);(refine BN [2] (tC ?_ AP);(refine oQ ?_;(refine BN [3] (tC ?_ AP);((refine Ec (T:=tInt) (m:=1) (e:=3) V V (by decide) V V c a ?_;refine tNt ?_);(refine BN [6] (tC ?_ AP);(refine oQ ?_;(refine BN [7] (tC ?_ AP);(refine oQ ?_;(exact Kx (y _ (BU))))))))))))));(refine oQ ?_ (AT.call V (Cu f H G) V V V);(refine BN [1] (tC ?_ AP);(refine oQ ?_;(refine BN [2] (tC ?_ AP);(refine oQ ?_;(refine BN [3] (tC ?_ AP);((refine Ec (T:=tInt) (m:=1) (e:=3) V V (by decide) V V c a ?_;refine tNt ?_);(refine BN [6] (tC ?_ AP);(refine oQ ?_;(refine BN [7] (tC ?_ AP);(refine oQ ?_;(exact Kx (y _ (BU))))))))))))))))));(refine oQ ?_;(refine BN [0,5] (tC ?_ (tC ?_ AP));(refine oQ ?_;(refine BN [1,5] (tC ?_ (tC ?_ AP));(refine oQ ?_;(refine BN [2,5] (tC ?_ (tC ?_ AP));(refine oQ ?_;(refine BN [3,5] (tC ?_ (tC ?_ AP));((refine Ec (T:=tInt) (m:=1) (e:=3) V V (by decide) V V c a ?_;refine tNt ?_);(refine BN [5] (tC ?_ AP);(refine oQ ?_ (AT.call V (Cu f H G) V V V);(refine BN [6] (tC ?_ AP);(refine oQ ?_;(refine BN [7] (tC ?_ AP);(refine oQ ?_;(exact Kx (y _ (BU))))))))));(refine oQ ?_ (AT.call V (Cu f H G) V V V);(refine BN [3] (tC ?_ AP);((refine Ec (T:=tInt) (m:=1) (e:=3) V V (by decide) V V c a ?_;refine tNt ?_);(refine BN [6] (tC ?_ AP);(refine oQ ?_;(refine BN [7] (tC ?_ AP);(refine oQ ?_;(exact Kx (y _ (BU))))))))))));(refine oQ ?_ (AT.call V (Cu f H G) V V V);(refine BN [2] (tC ?_ AP);(refine oQ ?_;(refine BN [3] (tC ?_ AP);((refine Ec (T:=tInt) (m:=1) (e:=3) V V (by decide) V V c a ?_;refine tNt ?_);(refine BN [6] (tC ?_ AP);(refine oQ ?_;(refine BN [7] (tC ?_ AP);(refine oQ ?_;(exact Kx (y _ (BU))))))))))))));(refine oQ ?_ (AT.call V (Cu f H G) V V V);(refine BN [1] (tC ?_ AP);(refine oQ ?_;(refine BN [2] (tC ?_ AP);(refine oQ ?_;(refine BN [3] (tC ?_ AP);((refine Ec (T:=tInt) (m:=1) (e:=3) V V (by decide) V V c a ?_;refine tNt ?_);(refine BN [6] (tC ?_ AP);(refine oQ ?_;(refine BN [7] (tC ?_ AP);(refine oQ ?_;(exact Kx (y _ (BU))))))))))))))));(refine oQ ?_ (AT.call V (Cu f H G) V V V);(refine BN [0] (tC ?_ AP);(refine oQ ?_;(refine BN [1] (tC ?_ AP);(refine oQ ?_;(refine BN [2] (tC ?_ AP);(refine oQ ?_;(refine BN [3] (tC ?_ AP);((refine Ec (T:=tInt) (m:=1) (e:=3) V V (by decide) V V c a ?_;refine tNt ?_);(refine BN [6] (tC ?_ AP);(refine oQ ?_;(refine BN [7] (tC ?_ AP);(refine oQ ?_;(exact Kx (y _ (BU))))))))))))))))))))
 intro s' br
 ·refine h3 _ (AE _ br ?_);refine AE _ (Abn (R:=mapsR [] []) (λ_ _=>⟨rfl,jG,λi m S hm=>by simp at hm⟩) (λg hg=>by cases hg) V) ?_;refine Ab λK4 h4=>?_
  refine Ab λK5 h5=>?_
  refine rR ?_;refine h5 _ ?_;refine nT ?_;refine Ac ?_;refine AB (λp:Nat×Nat×List Nat=>⟨(.any::.lit (.pointer (lK ⟨E,0,lJ⟩))::.any::.lit (.slice (lK ⟨O,0,lJ⟩) f.blocks.length f.blocks.length)::.own 3 p.2.1::.bs tInt.slice (GM f f.blocks.length)::A20 (.lit (.int .i64 (f.blocks.length:Int))::.lit (.int .i64 (p.1:Int))::A40 (A20 (A10 (A5 []))))),[.res (Bk []),.res (Be E (Ak f)),.res (Be O (Km p.2.2 f.blocks.length)),.row p.2.1 3 tInt (MJ (jM p.1)),.res (mapsR p.2.2 (jO p.1 λ_=>aI))]⟩) (λp=>p.1<=f.blocks.length/\p.2.2.length=p.1) (λp=>f.blocks.length - p.1) (0,0,[]) ⟨lF _,rfl⟩ (BU) ?_;rintro⟨b,ver,ms⟩ ⟨U,ab⟩;dsimp only at U ab⊢;refine Ab λK7 h7=>?_
  refine rR ?_;refine h7 _ ?_;refine nT ?_;refine Ab λK8 h8=>?_
  refine Ag V (λak=>?_) (λak=>?_)
  ·have ac:b < f.blocks.length:=by simpa using ak
   have aj:b+ [Fa 0].length<=(Km ms f.blocks.length).length:=by rw[Abb (by omega)];exact ac
   have hw:=LK (k:=b) (by omega);have bn:(MJ (jM b)).length+ [(b:Int)].length<=fE:=by rw[Gu];simp[fE];omega
   have bm:((MJ (jM b)).length+ [(b:Int)].length) * 8<=140737488355328:=by rw[Gu];simp;omega
   refine Al ?_;refine h8 _ ?_;refine nT ?_;refine Ab λdz cv=>?_
   refine Ac ?_;refine Ab λdy cu=>?_
   refine rR ?_;refine cu _ ?_;refine nT ?_;refine Ab λdx ct=>?_
   (refine j9 ?_;(repeat(first|refine sQ ?_|refine AM ?_|refine Bp ?_)))
   refine AC V (P5 V λm=>?_);refine sNt ?_
   (repeat(first|refine sQ ?_|refine AM ?_|refine Bp ?_))
   refine AC V (It (i:=2) (new:=[Fa m]) V V V (PW.one (One.lit V)) V V aj ?_);refine sNt ?_;refine Au ?_;rw[Aba ab ac];refine ct _ ?_;refine nT ?_;refine AE _ (Abo (i:=4) (j:=5) (by decide) V V) ?_;refine rR ?_;refine cv _ ?_;refine nT ?_;refine rR ?_;refine An ⟨(b+1,ver+1,ms++[m]),⟨by omega,by simp[ab]⟩,by dsimp only;omega,?_⟩;dsimp only;rw[jN,LX,List.replicate_succ'];exact Ki (kB (kB (kB (kB (kB (kD _))))))
  ·refine Ay ?_;have ax:b=f.blocks.length:=by
    have:¬b < f.blocks.length:=by simpa using ak
    omega
   subst ax;refine h4 _ ?_;refine nT ?_;rw[W6 ab];refine Ab λdw cs=>?_
   refine Ac ?_;have cc:AllI f (Bz f) (jM f.blocks.length) (jO f.blocks.length λ_=>aI):=AllI.start λb=>i9
   have aq:=Apm (Bz f) (jO f.blocks.length λ_=>aI);rw[iJ]at aq;have cy:=At7 bw cb aq;refine AB (λp:List Nat×Nat×List Nat×List (Int->Bool)=>⟨(.any::.lit (.pointer (lK ⟨E,0,lJ⟩))::.any::.lit (.slice (lK ⟨O,0,lJ⟩) f.blocks.length f.blocks.length)::.own 3 p.2.1::.bs tInt.slice (GM f f.blocks.length)::A80 (A10 (A7 []))),[.res (Bk p.1),.res (Be E (Ak f)),.res (Be O (ms.map Fa)),.row p.2.1 3 tInt (MJ p.2.2.1),.res (mapsR ms p.2.2.2)]⟩) (λp=>AllI f (Bz f) p.2.2.1 p.2.2.2/\2 * Pg (Bz f) p.2.2.2+p.2.2.1.length<=10000000000000) (λp=>2 * Pg (Bz f) p.2.2.2+p.2.2.1.length) ([],ver,jM f.blocks.length,jO f.blocks.length λ_=>aI) ⟨cc,by dsimp only;rw[List.length_range];omega⟩ (BU) ?_;rintro⟨ds,ver,K,Ss⟩ ⟨hI,aa⟩;dsimp only at hI aa⊢;refine Ab λdv cr=>?_
   refine Ab λdu cq=>?_
   refine rR ?_;refine cq _ ?_;refine nT ?_;refine Ag V (λY=>?_) (λY=>?_)
   ·have bk:K≠[]:=λe=>by subst e;simp[MJ]at Y
    obtain⟨w0,b,rfl⟩:∃w0 b,K=w0++[b]:=⟨_,_,(List.dropLast_concat_getLast bk).symm⟩
    have hl:(MJ (w0++[b])).length=w0.length+1:=by rw[Gu];simp
    have db:w0.length<=10000000000000:=by simp at aa;omega
    have cz:(MJ (w0++[b]))[(((MJ (w0++[b])).length:Int) - 1).toNat]? =lK (b:Int):=by
     rw[hl,LX,show(((w0.length+1:Nat):Int) - 1).toNat=(MJ w0).length by rw[Gu];omega];simp
    have aw:AV.lit (.int .i64 (((MJ (w0++[b])).length:Int) - 1))= .lit (.int .i64 (w0.length:Int)):=by
     rw[hl,show(((w0.length+1:Nat):Int) - 1)=(w0.length:Int)by omega]
    have bv:w0.length<=(MJ (w0++[b])).length:=by omega
    have bh:(MJ (w0++[b])).take w0.length=MJ w0:=by rw[LX,<-Gu w0];simp
    have U:b < f.blocks.length:=hI.lt b (by simp);obtain⟨m,hm⟩:∃m,ms[b]? =lK m:=⟨_,gO (by omega)⟩
    obtain⟨S,hS⟩:∃S,Ss[b]? =lK S:=⟨_,gO (by rw[hI.len];exact U)⟩
    obtain⟨z,ag⟩:∃z,f.blocks[b]? =lK z:=⟨_,gO U⟩
    have az:at_ Ss b=S:=by unfold at_;rw[gJ,hS];rfl
    have af:Cl f b=z.ins:=by unfold Cl;rw[ag]
    have F:=iZ ag;have ap:=G.all z F;have bj:=H.blocks z F;have bb:Sub (Bz f) S:=by have:=hI.sub b;rwa [az]at this
    have dd:(ms.map Fa)[b]? =lK (Fa m):=by rw[gR,hm];rfl
    refine Al ?_;refine cr _ ?_;refine nT ?_;refine Ac ?_;refine Ab λdt cp=>?_
    refine rR ?_;refine cp _ ?_;refine nT ?_;refine Ab λdr co=>?_
    (refine j9 ?_;(repeat(first|refine sQ ?_|refine AM ?_|refine Bp ?_)))
    refine AC V (M5 (i:=3) (m:=w0.length) V V V V ⟨.i64,aw⟩ bv ?_);refine sNt ?_
    (repeat(first|refine sQ ?_|refine AM ?_|refine Bp ?_))
    refine Au ?_;rw[bh];refine co _ ?_;refine nT ?_;refine Ab λdq cn=>?_
    (refine j9 ?_;(repeat(first|refine sQ ?_|refine AM ?_|refine Bp ?_)))
    refine AC V (VJ (i:=4) V V (Aa6 hm hS) (λ_=>rfl) V V λN=>?_);refine sNt ?_
    (repeat(first|(refine AC V (CR (new:=[_]) V V V (PW.one (One.lit V)) V (kX V) ?_);refine sNt ?_)|refine sQ ?_|refine AM ?_|refine Bp ?_))
    refine Au ?_;refine cn _ ?_;refine nT ?_;refine Bt 6 V V V (λg=>(.any::.lit (.pointer (lK ⟨E,0,lJ⟩))::.any::.lit (.slice (lK ⟨O,0,lJ⟩) f.blocks.length f.blocks.length)::.own 3 (ver+1)::.bs tInt.slice (GM f f.blocks.length)::.any::.lit (.int .i64 (b:Int))::.lit (.pointer (lK ⟨g,0,lJ⟩))::A80 (A10 (A4 [])))) (λg=>(by(repeat(first|exact kQ|refine kR ?_|refine kO ?_|refine kP V ?_)))) λW=>?_
    refine VC 3 V V (λv=>(.any::.lit (.pointer (lK ⟨E,0,lJ⟩))::.any::.lit (.slice (lK ⟨O,0,lJ⟩) f.blocks.length f.blocks.length)::.lit v::.bs tInt.slice (GM f f.blocks.length)::.any::.lit (.int .i64 (b:Int))::.lit (.pointer (lK ⟨W,0,lJ⟩))::A80 (A10 (A4 [])))) (λv=>(by(repeat(first|exact Opn.nil|refine Opn.own ?_|refine Opn.any ?_|refine Opn.keep V ?_)))) λvw=>?_
    refine Ab λdp cm=>?_
    refine Ab λdn ck=>?_
    (refine j9 ?_;(repeat(first|refine sQ ?_|refine AM ?_|refine Bp ?_)))
    refine AC V (Cr V (Nu z.ins) (λ_=>rfl) V V λp=>?_);refine sNt ?_
    (repeat(first|refine sQ ?_|refine AM ?_|refine Bp ?_))
    refine Au ?_;refine ck _ ?_;refine nT ?_;refine AE ⟨(.any::.lit (.pointer (lK ⟨E,0,lJ⟩))::.any::.lit (.slice (lK ⟨O,0,lJ⟩) f.blocks.length f.blocks.length)::.lit vw::.bs tInt.slice (GM f f.blocks.length)::.any::.lit (.int .i64 (b:Int))::.lit (.pointer (lK ⟨W,0,lJ⟩))::A40 (A10 (A5 (.lit (bkF p)::A20 (A10 (A8 [])))))),[.res (Bk ds),.res (Be E (Ak f)),.res (Be O (ms.map Fa)),.res (rowR vw 3 tInt (MJ w0)),.res (mapsR ms Ss),.res (IF S N),.res (Be W [Fa N]),.res (bkR z.ins p)]⟩ (BU) ?_;refine Ac ?_;obtain⟨sg,P⟩:∃sg:(Int->Bool)->List j5,sg=λT=>[.dead,.res (Be E (Ak f)),.res (Be O (ms.map Fa)),.res (rowR vw 3 tInt (MJ w0)),.res (mapsR ms Ss),.res (IF T N),.res (Be W [Fa N]),.dead]:=⟨_,rfl⟩
    refine Hw 7 0 (λk=>sg (bkS z.ins S k)) bi V (by decide) V V V ?hdrop ?hd1 ?hd2 ?hd3 V (Aoa _) (Ahq _) (PY (by kernel_rfl) λw T h1 h2 h3=>Ma z.ins ap.ins p w T h1 h2 h3) ?hround ?hdone
    case hdrop=>
     rw[Su,P];exact⟨kC (kB (kB (kB (kB (kB (kB (kC (kD _)))))))),λb hb=>fI.1 (show bdH [.dead,.res (Be E (Ak f)),.res (Be O (ms.map Fa)),.res (rowR vw 3 tInt (MJ w0)),.res (mapsR ms Ss),.res (IF S N),.res (Be W [Fa N]),.dead]=aN from V) b hb⟩
    case hd1=>rw[P];rfl
    case hd2=>intro k;rw[P];rfl
    case hd3=>intro k;rw[P];rfl
    case hround=>
     intro k hk C' dc;obtain⟨d,hd⟩:∃d,z.ins[z.ins.length - 1 - k]? =lK d:=⟨_,gO (by omega)⟩
     have ai:=iZ hd;have bx:bkE z.ins k= [.lit (.int .i64 ((z.ins.length - 1 - k:Nat):Int)),.agg (BV d)]:=by unfold bkE;rw[hd]
     have ao:=W9 bb (ae z F) k;have ca:d.args.length<=2097152:=by have:=ap.all d ai;omega
     rw[bx,P];refine C3 (t':=(.any::.lit (.pointer (lK ⟨E,0,lJ⟩))::.any::.lit (.slice (lK ⟨O,0,lJ⟩) f.blocks.length f.blocks.length)::.lit vw::.bs tInt.slice (GM f f.blocks.length)::.any::.lit (.int .i64 (b:Int))::.lit (.pointer (lK ⟨W,0,lJ⟩))::A40 (A10 (A5 (.lit (bkF p)::.lit (.int .i64 ((z.ins.length - 1 - k:Nat):Int))::.agg (BV d)::A20 (A10 (A6 []))))))) V V ?_;refine rR ?_;refine An ?_;intro ea cw;refine nT ?_;refine Ac ?_
     (refine j9 ?_;(repeat(first|refine sQ ?_|refine AM ?_|refine Bp ?_)))
     refine AC V (BQ (i:=5) V V (Vb d _ (Bz f) N (bj.ins d ai) ca Z ao.inR (ae z F d ai)) (λ_=>rfl) V V λ_=>?_);refine sNt ?_;refine Au ?_;refine⟨rfl,?_⟩;rw[YN hd hk];exact⟨kB (kB (kB (kB (kB (kB (kB (kB (kD _)))))))),λb hb=>fI.1 (show bdH [.dead,.res (Be E (Ak f)),.res (Be O (ms.map Fa)),.res (rowR vw 3 tInt (MJ w0)),.res (mapsR ms Ss),.res (IF (MY d (bkS z.ins S k)) N),.res (Be W [Fa N]),.dead]=aN from V) b hb⟩
    case hdone=>
     intro D;have bz:(GM f f.blocks.length)[b]? =lK (Sw f b):=by
      unfold Sw;rw[gJ,gO (by rw[F8];exact U)];rfl
     have ax:=Sv f f.blocks.length _ (iZ bz);have bc:Sub (Bz f) (inS z.ins S):=bb.inS (ae z F);rw[Aq7,P];refine cm _ ?_;refine C3 (t':=(.any::.lit (.pointer (lK ⟨E,0,lJ⟩))::.any::.lit (.slice (lK ⟨O,0,lJ⟩) f.blocks.length f.blocks.length)::.lit vw::.bs tInt.slice (GM f f.blocks.length)::.any::.lit (.int .i64 (b:Int))::.lit (.pointer (lK ⟨W,0,lJ⟩))::A40 (A10 (A5 (.lit (bkF p)::A20 (A10 (A8 []))))))) (h':=[.res (Bk (D::ds)),.res (Be E (Ak f)),.res (Be O (ms.map Fa)),.res (rowR vw 3 tInt (MJ w0)),.res (mapsR ms Ss),.res (IF (inS z.ins S) N),.res (Be W [Fa N]),.dead]) V V ?_;refine AE _ (Im 3 (ver:=ver+1) (t':=(.any::.lit (.pointer (lK ⟨E,0,lJ⟩))::.any::.lit (.slice (lK ⟨O,0,lJ⟩) f.blocks.length f.blocks.length)::.own 3 (ver+1)::.bs tInt.slice (GM f f.blocks.length)::.any::.lit (.int .i64 (b:Int))::.lit (.pointer (lK ⟨W,0,lJ⟩))::A80 (A10 (A4 [])))) V V (by(try simp only[Bl,zac]);(repeat(first|exact Cls.nil|refine Cls.own ?_|refine Cls.any ?_|refine Cls.keep V ?_)))) ?_;refine Ab λdl ci=>?_
     refine rR ?_;refine ci _ ?_;refine nT ?_;refine Ac ?_;refine AB (λp:Nat×Nat×List Nat×List (Int->Bool)=>⟨(.any::.lit (.pointer (lK ⟨E,0,lJ⟩))::.any::.lit (.slice (lK ⟨O,0,lJ⟩) f.blocks.length f.blocks.length)::.own 3 p.2.1::.bs tInt.slice (GM f f.blocks.length)::A2 (.lit (.pointer (lK ⟨W,0,lJ⟩))::A40 (A20 (A4 (.bs tInt (Sw f b)::.lit (.int .i64 ((Sw f b).length:Int))::.lit (.int .i64 (p.1:Int))::A20 (A7 [])))))),[.res (Bk (D::ds)),.res (Be E (Ak f)),.res (Be O (ms.map Fa)),.row p.2.1 3 tInt (MJ p.2.2.1),.res (mapsR ms p.2.2.2),.res (IF (inS z.ins S) N),.res (Be W [Fa N]),.dead]⟩) (λp=>p.1<=(Sw f b).length/\AllJ f (Bz f) b w0 Ss ((Sw f b).take p.1) p.2.2.1 p.2.2.2) (λp=>(Sw f b).length - p.1) (0,ver+1,w0,Ss) ⟨lF _,hI.split⟩ (BU) ?_;rintro⟨i,v2,wt,Ts⟩ ⟨bt,hJ⟩;dsimp only at bt hJ⊢;have bq:=hJ.less;have da:wt.length<=10000000000000:=by simp at aa;omega
     refine Ab λdk ch=>?_
     refine rR ?_;refine ch _ ?_;refine nT ?_;refine Ab λdj cg=>?_
     refine Ag V (λX=>?_) (λX=>?_)
     ·have ac:i < (Sw f b).length:=by simpa using X
      obtain⟨x,am⟩:∃x,(Sw f b)[i]? =lK x:=⟨_,gO ac⟩
      obtain⟨k,av,rfl⟩:=(JY U x).1 (iZ am);have ar:=(Ii av).1;obtain⟨mk,I⟩:∃mk,ms[k]? =lK mk:=⟨_,gO (by omega)⟩
      obtain⟨T,ad⟩:∃T,Ts[k]? =lK T:=⟨_,gO (by rw[hJ.len];exact ar)⟩
      have cx:(ms.map Fa)[k]? =lK (Fa mk):=by rw[gR,I];rfl
      have ay:at_ Ts k=T:=by unfold at_;rw[gJ,ad];rfl
      have al:Sub (Bz f) T:=by have:=hJ.sub k;rwa [ay]at this
      have ba:Sub (Bz f) (uni T (inS z.ins S)):=λr hr=>by
       unfold uni at hr;rw[aM]at hr;rcases hr with hr|hr
       ·exact al r hr
       ·exact bc r hr
      have ah:(Ts.set k (uni T (inS z.ins S)))[k]? =lK (uni T (inS z.ins S)):=gW (by rw[hJ.len];exact ar);have u:=hJ.step hI av ad (by rw[af];exact ae z F);dsimp only at u;rw[af,az]at u;have an:(Sw f b).take (i+1)=(Sw f b).take i++[(k:Int)]:=by rw[jU,am];rfl
      rw[<-an]at u;have hw:=LK (k:=k) (by omega);have bn:(MJ wt).length+ [(k:Int)].length<=fE:=by rw[Gu];simp[fE];omega
      have bm:((MJ wt).length+ [(k:Int)].length) * 8<=140737488355328:=by rw[Gu];simp;omega
      refine Al ?_;refine cg _ ?_;refine nT ?_;refine Ab λdi bf=>?_
      refine Ac ?_;refine Ab λdh cf=>?_
      refine rR ?_;refine cf _ ?_;refine nT ?_;refine Ab λdg ce=>?_
      (refine j9 ?_;(repeat(first|refine sQ ?_ (Hs (i:=4) V Acz V V (Ja I ad) Z al.inR)|refine sQ ?_|refine AM ?_|refine Bp ?_));refine Au ?_)
      refine ce _ ?_;refine nT ?_;refine Ab λdf cd=>?_
      (refine NP 5 (hh:=?_);(repeat(first|refine qQ ?_|refine G5 ?_));refine Fc ?_;(repeat(first|(refine AC V (SR (i:=4) (j:=5) (by decide) V V V (Aa4 I ad Z al.inR bc.inR) (λ_=>rfl) V V λ_=>?_);refine sNt ?_)|refine sQ ?_|refine AM ?_|refine Bp ?_));refine Au ?_)
      refine cd _ ?_;refine nT ?_;refine Ab λde be=>?_
      rcases hc:aO ((((Bz f).filter (uni T (inS z.ins S))).length:Int) > (((Bz f).filter T).length:Int))with _|_
      ·rw[if_neg (by simpa using hc)]at u
       (refine j9 ?_;(repeat(first|refine sQ ?_ (Hs (i:=4) V Acz V V (Ja I ah) Z ba.inR)|refine sQ ?_|refine AM ?_|refine Bp ?_));refine Au ?_)
       refine be _ ?_;refine nT ?_;refine Ag V (λJ=>by cases J) (λJ=>?_);refine Al ?_;refine bf _ ?_;refine nT ?_;refine rR ?_;refine An ⟨(i+1,v2,wt,Ts.set k (uni T (inS z.ins S))),⟨by omega,u⟩,by dsimp only;omega,?_⟩;exact BU
      ·rw[if_pos (by simpa using hc)]at u
       (refine j9 ?_;(repeat(first|refine sQ ?_ (Hs (i:=4) V Acz V V (Ja I ah) Z ba.inR)|refine sQ ?_|refine AM ?_|refine Bp ?_));refine Au ?_)
       refine be _ ?_;refine nT ?_;refine Ag V (λJ=>?_) (λJ=>by cases J);refine rR ?_;refine bf _ ?_;refine nT ?_;refine rR ?_;refine An ⟨(i+1,v2+1,wt++[k],Ts.set k (uni T (inS z.ins S))),⟨by omega,u⟩,by dsimp only;omega,?_⟩;dsimp only;rw[LX];exact BU
     ·refine Ay ?_;have bu:i=(Sw f b).length:=by
       have:¬i < (Sw f b).length:=by simpa using X
       omega
      subst bu;rw[jW]at hJ;refine Ahv (Ahv ?_);refine Abm ?_;refine Ame ?_;refine An ⟨(D::ds,v2,wt,Ts),⟨hJ.done_all hI,by dsimp only;simp at aa;omega⟩,by dsimp only;simp;omega,?_⟩;dsimp only;exact Ki (kB (kB (kB (kB (kB (kD _))))))
   ·refine Ay ?_;have bg:K= []:=fU (by
     have:¬(0:Int) < ((MJ K).length:Int):=by simpa using Y
     rw[Gu]at this;omega)
    subst bg;refine cs _ ?_;refine nT ?_;have au:=hI.end_;have bo:=hI.len;subst au;refine AE _ (Xm (i:=2) (j:=4) (by decide) V V) ?_;refine Ab λdm cj=>?_
    refine rR ?_;refine cj _ ?_;refine nT ?_;refine Aw ?_;exact⟨.inr V,ds,rfl,rfl,Amn (i:=2) (p:=(O,ms)) V bo a⟩
instance:AG cF 66 aI 1:=⟨by kernel_rfl⟩
instance:SZ cF 66 1:=⟨by kernel_rfl⟩
instance:ES cF 66 1:=⟨by kernel_rfl⟩
instance:SL cF 66:=⟨by kernel_rfl⟩
instance:RT cF 66 27 1 24:=⟨by kernel_rfl⟩
instance:AG cF 27 aI 1:=⟨by kernel_rfl⟩
instance:SZ cF 27 1:=⟨by kernel_rfl⟩
instance:ES cF 27 1:=⟨by kernel_rfl⟩
instance:SL cF 27:=⟨by kernel_rfl⟩
instance:RT cF 27 3 1 8:=⟨by kernel_rfl⟩
instance:AG cF 22 aI 1:=⟨by kernel_rfl⟩
instance:SZ cF 22 1:=⟨by kernel_rfl⟩
instance:ES cF 22 2:=⟨by kernel_rfl⟩
instance:SL cF 22:=⟨by kernel_rfl⟩
instance:RT cF 22 63 2 40:=⟨by kernel_rfl⟩
instance:AG cF 63 aN 2:=⟨by kernel_rfl⟩
instance:SZ cF 63 2:=⟨by kernel_rfl⟩
theorem QV(R:List Int)(ds:List Ins)(S:Int->Bool):H5 R ds S=(jM (ds.length+1)).map λi=>R.filter (inS (ds.drop i) S):=rfl
theorem Aob(f:kL)(b:Nat):H5 (Bz f) (Cl f b) (X5 f b)=B6 f b:=by
 rw[QV];unfold B6 Df;refine iN λi _=>?_
 congr 1;funext r;exact(Afr f (X5 f b) b i (λr=>N5) r).symm
theorem MW(f:kL)(b:Nat):(B6 f b).length=(Cl f b).length+1:=by simp[B6]
noncomputable def inL(f:kL)(b:Nat):List Int:=(Bz f).filter (inS (Cl f b) (X5 f b))
def atF(f:kL)(b:Int):List (List Int):=if 0<=b/\b < f.blocks.length then B6 f b.toNat else []
theorem Gy(f:kL)(b:Nat):(B6 f b)[0]? =lK (inL f b):=by
 rw[<-Aob,QV,gR,gT (by omega)];rfl
theorem Rx{h:List j5}{α:Type}{T:Ty α}(c:mkD h= []:=by rfl):Fin h (.lit (.slice lJ 0 0)) (.bs T []):=⟨c,λC S ψ w v d H a=>⟨S,λ_ h=>h,λ_ h=>.inl h,H.lt,by
 unfold j8 at a⊢;rw[a];exact T.slice_nilS _ _⟩⟩
theorem Ax6(f:kL)(b:Int)(u:okFunc f)(m:smallF f)(z:(Ce f).length<=2097152):Fn cF 108 [.agg (Ak f),.lit (.int .i64 b)] (.bs tInt.slice (atF f b)):=by
 have G:=m.blocks;have y:=RL f u z;have g:∀b∈f.blocks,∀x∈b.ins,∀r∈readsC x,r∈Bz f:=λb H x hx r F=>I1.2 ⟨b,H,x,hx,F⟩
 refine AQ Tryz.func108 V (by kernel_rfl) V Tryz.ntmps108 λC J=>?_
 refine nS ?_;refine rRS ?_;refine Ab λO h2=>?_
 refine Ab λN D=>?_
 rcases hd1:aO (b < 0)with _|_
 ·rcases hd2:aO (b≥(f.blocks.length:Int))with _|_
  ·have h0:0<=b:=by simpa using hd1
   have v:b.toNat < f.blocks.length:=by
    have:b < (f.blocks.length:Int):=by simpa using hd2
    omega
   obtain⟨e,j⟩:∃e,f.blocks[b.toNat]? =lK e:=⟨_,gO v⟩
   have a:=iZ j;have w:Cl f b.toNat=e.ins:=by unfold Cl;rw[j]
   have E:((jM f.blocks.length).map (X5 f))[b.toNat]? =lK (X5 f b.toNat):=by rw[gR,gT v];rfl
   have c:atF f b=H5 (Bz f) e.ins (X5 f b.toNat):=by
    unfold atF;rw[if_pos ⟨h0,by omega⟩,<-w,Aob]
   refine rR ?_;refine D _ ?_;refine nT ?_;refine Ag V (λd=>by cases d) (λd=>?_);refine Al ?_;refine h2 _ ?_;refine nT ?_;refine Ab λK I=>?_
   (refine NP 12 (hh:=?_);(repeat(first|refine qQ ?_ (AT.call V (Aoc f u m z) V V V)|refine qQ ?_ (AT.call V (TM e (X5 f b.toNat) (Bz f) (u.blocks e a) (m.all e a) y (X4 g _) (g e a)) V V V)|refine qQ ?_|refine G5 ?_));refine Fc ?_;(repeat(first|refine sQ ?_ (AT.call V (Aoc f u m z) V V V)|refine sQ ?_ (AT.call V (TM e (X5 f b.toNat) (Bz f) (u.blocks e a) (m.all e a) y (X4 g _) (g e a)) V V V)|refine sQ ?_|refine AM ?_|refine Bp ?_));refine Au ?_)
   refine I _ ?_;refine nT ?_;refine Aw ?_;rw[c];exact⟨.inr V,kG V⟩
  ·have c:atF f b= []:=by
    have:(f.blocks.length:Int)<=b:=by simpa using hd2
    unfold atF;rw[if_neg (by omega)]
   refine rR ?_;refine D _ ?_;refine nT ?_;refine Ag V (λd=>?_) (λd=>by cases d);refine rRS ?_;refine Aw ?_;rw[c];exact⟨.inr V,Rx⟩
 ·have c:atF f b= []:=by
   have:b < 0:=by simpa using hd1
   unfold atF;rw[if_neg (by omega)]
  refine rR ?_;refine D _ ?_;refine nT ?_;refine Ag V (λd=>?_) (λd=>by cases d);refine rRS ?_;refine Aw ?_;rw[c];exact⟨.inr V,Rx⟩
end Mu
namespace Mu
open Go Go.RowKit Go.Proofs Go.Shelf
variable{b:Nat}{f:kL}{i:Nat}{l:List Int}{x:Ins}{α:Type}
attribute [local go_sem] Oper.semAt_some
def ZQ{α:Type}(g:Nat->List α)(b:Nat):Nat:=((jM b).flatMap g).length
theorem O4(g:Nat->List α)(b:Nat):ZQ g (b+1)=ZQ g b+(g b).length:=by
 unfold ZQ;rw[jN,gE,iB];simp
theorem Ae9(g:Nat->List α)(b k:Nat):ZQ g b<=ZQ g (b+k):=by
 induction k with
 |zero=>exact kY _
 |succ k a=>rw[<-kU,O4];omega
theorem Afa{α:Type}(g:Nat->List α):∀(n b i:Nat),b < n->i < (g b).length->((jM n).flatMap g)[ZQ g b+i]? =(g b)[i]?
 |0,b,i,h,_=>by omega
 |n+1,b,i,h,hi=>by
  rw[jN,gE];by_cases a:b=n
  ·subst a;rw[gK (by unfold ZQ;omega)];unfold ZQ;simp
  ·have h1:ZQ g b+i < ((jM n).flatMap g).length:=by
    have h2:=Ae9 g (b+1) (n - (b+1));rw[show b+1+(n - (b+1))=n by omega,O4]at h2;unfold ZQ at h2⊢;omega
   rw[List.getElem?_append_left h1];exact Afa g n b i (by omega) hi
def ED(f:kL)(b:Nat):List (Ins×List Int):=(Cl f b).zip ((B6 f b).drop 1)
def stepsL(f:kL):List (Ins×List Int):=(jM f.blocks.length).flatMap (ED f)
theorem QJ(f:kL)(b:Nat):(ED f b).length=(Cl f b).length:=by
 unfold ED;rw[List.length_zip,List.length_drop,MW];omega
theorem Td(hx:(Cl f b)[i]? =lK x)(a:(B6 f b)[i+1]? =lK l):(ED f b)[i]? =lK (x,l):=by
 unfold ED;rw[List.getElem?_zip_eq_some];refine⟨hx,?_⟩;rw[gN,Nat.add_comm];exact a
theorem Tc(c:b < f.blocks.length)(hx:(Cl f b)[i]? =lK x)(a:(B6 f b)[i+1]? =lK l):(stepsL f)[ZQ (ED f) b+i]? =lK (x,l):=by
 have h:=Td hx a;unfold stepsL;rw[Afa (ED f) _ b i c (gQ.1 h).1,h]
def stE(f:kL)(k:Nat):List AV:=match(stepsL f)[k]? with
 |some q=>[.agg (BV q.1),.bs tInt q.2]
 |none=>(A2 [])
theorem XJ{k:Nat}{q:Ins×List Int}(h:(stepsL f)[k]? =lK q):stE f k= [.agg (BV q.1),.bs tInt q.2]:=by unfold stE;rw[h]
theorem Adh(f:kL)(k:Nat):Bh (stE f k)=aN:=by
 unfold stE;split <;> rfl
theorem VU(f:kL)(k:Nat):(stE f k).length=2:=by
 unfold stE;split <;> rfl
theorem Ajd(F:Fence)(n:Nat)(hF:F.fn 88)(hro:F.round=lJ)(cs:List eR)(w:eX)(hcs:cs.length=4):
 aR F n cF 88 #[.agg cs.toArray] w λe w'=>e= .returned (.func (.func 115) #[] #[.pointer (lK ⟨w.heap.size,0,lJ⟩)])/\w'=w.alloc (.cells cs.toArray 24):=by
 match cs,hcs with
 | [a,b,c,d],_=>
  refine callsIn_of_wp Tryz.func88 V hF ?_ hro;simp only[Tryz.ntmps88,Nat.reduceAdd,Nat.reduceSub,zae]
  gi_wp2
  go_ret
  exact⟨rfl,rfl⟩
def stF(p:Nat):eR:=.func (.func 115) #[] #[.pointer (lK ⟨p,0,lJ⟩)]
theorem Ov(f:kL):M3 cF 88 [.agg (Ak f)] (λp=>Be p (Ak f)) stF:=by
 refine⟨by kernel_rfl,λw S vs j d=>?_⟩;obtain⟨v,rfl,c⟩:=Ach d;obtain⟨cs,rfl,hc⟩:=IZ c;have g:cs.length=4:=by rw[Bw hc];rfl
 refine((fA (n:=4)).1 (Ajd aT 4 trivial V cs w g)).mono ?_;rintro e w' ⟨rfl,rfl⟩;have a:Below w.heap.size w (w.alloc (.cells cs.toArray 24)):=(eK _ _).alloc (kY _) _;exact⟨_,rfl,⟨a.os,a.tape,a.output,a.size,λk hk _=>a.block k hk⟩,w.heap.size,rfl,⟨cs,24,fD w _,Az (Ext.grow [] ψ0 (λk hk=>a.block k (j k hk)) λ_ h=>h) _ _ hc⟩,λk hk=>by
  have hk:k=w.heap.size:=hk;subst hk;exact⟨.inr (kY _),by simp⟩⟩
theorem Mo(f:kL)(ho:okFunc f)(hs:smallF f)(hT:(Ce f).length<=2097152)(N:∀b∈f.blocks,b.ins.length+1<=2097152)(u:Nat):
 Aic cF 115 [.pointer (lK ⟨u,0,lJ⟩)] (Be u (Ak f)) (stE f) (stepsL f).length:=by
 have ad:=hs.blocks;refine ND Tryz.func115 V (by kernel_rfl) V Tryz.ntmps115 V λC H ι l F I hY q0=>?_
 simp only[iO,iP,Nat.reduceAdd,Nat.reduceSub,zaa];refine Ab λK1 h1=>?_
 refine rR ?_;refine h1 _ ?_;refine nT ?_;refine Ac ?_;refine AB (λp:Nat×ι=>⟨(.lit (.func (.yield l) #[] #[])::.lit (.pointer (lK ⟨u,0,lJ⟩))::A7 (.lit (.int .i64 (f.blocks.length:Int))::.lit (.int .i64 (p.1:Int))::A20 (A8 []))),[.res (F (ZQ (ED f) p.1) p.2),.res (Be u (Ak f))]⟩) (λp=>p.1<=f.blocks.length) (λp=>f.blocks.length - p.1) (0,q0) (lF _) (BU) ?_;rintro⟨b,q⟩ O;dsimp only at O⊢;refine Ab λK3 h3=>?_
 refine rR ?_;refine h3 _ ?_;refine nT ?_;refine Ab λK4 h4=>?_
 refine Ag V (λm=>?_) (λm=>?_)
 ·have y:b < f.blocks.length:=by simpa using m
  obtain⟨a,g⟩:∃a,f.blocks[b]? =lK a:=⟨_,gO y⟩
  have w:=iZ g;have d:Cl f b=a.ins:=by unfold Cl;rw[g]
  have ac:=N a w;have T:atF f (b:Int)=B6 f b:=by
   unfold atF;rw[if_pos ⟨by omega,by omega⟩,Int.toNat_natCast]
  have hA:=Ax6 f (b:Int) ho hs hT;rw[T]at hA;have G:(ED f b).length=a.ins.length:=by rw[QJ,d]
  have c:=O4 (ED f) b;rw[G]at c;generalize J:ZQ (ED f) b=k0 at c⊢;refine Al ?_;refine h4 _ ?_;refine nT ?_;refine Ab λK6 h6=>?_
  refine Ac ?_;refine Ab λK7 h7=>?_
  refine rR ?_;refine h7 _ ?_;refine nT ?_;refine Ab λK8 h8=>?_
  (refine j9 ?_;(repeat(first|refine sQ ?_ (AT.call V hA V V V)|refine sQ ?_|refine AM ?_|refine Bp ?_));refine Au ?_)
  refine h8 _ ?_;refine nT ?_;refine Ab λK9 h9=>?_
  refine rR ?_;refine h9 _ ?_;refine nT ?_;refine Ac ?_;refine AB (λp:Nat×ι=>⟨(.lit (.func (.yield l) #[] #[])::.lit (.pointer (lK ⟨u,0,lJ⟩))::.any::.lit (.int .i64 (b:Int))::.bs tInt.slice (B6 f b)::A4 (.lit (.int .i64 (f.blocks.length:Int))::.lit (.int .i64 (b:Int))::A10 (.bs Ei a.ins::.lit (.int .i64 (a.ins.length:Int))::.lit (.int .i64 (p.1:Int))::A10 (A5 [])))),[.res (F (k0+p.1) p.2),.res (Be u (Ak f))]⟩) (λp=>p.1<=a.ins.length) (λp=>a.ins.length - p.1) (0,q) (lF _) (BU) ?_;rintro⟨i,q⟩ hi;dsimp only at hi⊢;refine Ab λai aa=>?_
  refine rR ?_;refine aa _ ?_;refine nT ?_;refine Ab λah Z=>?_
  refine Ag V (λe=>?_) (λe=>?_)
  ·have z:i < a.ins.length:=by simpa using e
   obtain⟨x,hx⟩:∃x,a.ins[i]? =lK x:=⟨_,gO z⟩
   obtain⟨E,D⟩:∃E,(B6 f b)[i+1]? =lK E:=⟨_,gO (by rw[MW,d];omega)⟩
   have ab:(B6 f b)[((i:Int)+1).toNat]? =lK E:=by rw[show((i:Int)+1).toNat=i+1 by omega];exact D
   have v:(stepsL f)[k0+i]? =lK (x,E):=by rw[<-J];exact Tc y (by rw[d];exact hx) D
   have U:∀q,Ah7 cF l C.S0 C.w0.heap.size (F (k0+i) q) [.agg (BV x),.bs tInt E] (F (k0+i+1)):=λq=>by
    have:=hY (k0+i) q (gQ.1 v).1;rwa [XJ v]at this
   refine Al ?_;refine Z _ ?_;refine nT ?_;refine Ab λag Y=>?_
   refine Ac ?_;refine Ab λaf X=>?_
   refine rR ?_;refine X _ ?_;refine nT ?_;refine Ab λae W=>?_
   refine Mh 7 (by kernel_rfl) (by kernel_rfl) ?_;simp only[zad]
   (repeat(first|refine qQ ?_|refine G5 ?_))
   refine Fc ?_;refine PM V (Ayh.yield (i:=0) H V (λp=>by rw[I,I]) V V V V (U q) λq'=>?_);refine Di (by(try simp only[Bl,zac]);exact V) (by(try simp only[Nat.reduceAdd,zab]);exact V) ?_;refine Ik V (AX (Co V V) ?_);refine Ga ?_;refine W _ ?_;refine nT ?_;refine Ag V (λj=>by cases j) (λj=>?_);refine Al ?_;refine Y _ ?_;refine nT ?_;refine rR ?_;refine An ⟨(i+1,q'),by dsimp only;omega,by dsimp only;omega,?_⟩;exact Ki (.cons (.cons (kD _)))
  ·have K:i=a.ins.length:=by
    have:¬i < a.ins.length:=by simpa using e
    omega
   subst K;rw[<-c];refine Ay ?_;refine h6 _ ?_;refine nT ?_;refine rR ?_;refine An ⟨(b+1,q),by dsimp only;omega,by dsimp only;omega,?_⟩;exact BU
 ·have P:b=f.blocks.length:=by
   have:¬b < f.blocks.length:=by simpa using m
   omega
  subst P;refine Ay ?_;exact⟨.inl V,q,rfl,by simp[mkD,ABlk.mrk,I];rfl⟩
end Mu
section
namespace Go.Proofs
open Go.Shelf
def Tryz.keysK_ren:eL:=⟨fun|7=>57|10=>97|n=>n,fun|23=>51|26=>3|3=>3|28=>90|0=>0|27=>89|33=>50|4=>4|n=>n,fun|n=>n⟩
theorem Tryz.keysK:Go.Proofs.SlLaysZI.n7 cF Tryz.keysK_ren:={
 mixed:=by kernel_rfl
 f7:=⟨Tryz.f57.name,by decide,Tryz.func57.trans (congrArg lK (by kernel_rfl))⟩
 f10:=⟨Tryz.f97.name,by decide,bM.trans (congrArg lK (by kernel_rfl))⟩
 t0:=cY
 a0:=bO
 z0:=cG
 v0:=dR
 t4:=dK
 a4:=b9
 z4:=cT
 v4:=eD
 t23:=dO
 a23:=Tryz.isAgg51
 z23:=Tryz.sizeOf51
 v23:=Tryz.zeroValue51
 t26:=dJ
 a26:=bZ
 z26:=cR
 v26:=eC
 t27:=Tryz.underlying89
 a27:=Tryz.isAgg89
 z27:=Tryz.sizeOf89
 v27:=Tryz.zeroValue89
 t28:=Tryz.underlying90
 a28:=Tryz.isAgg90
 z28:=Tryz.sizeOf90
 v28:=Tryz.zeroValue90
 t33:=Tryz.underlying50
 a33:=Tryz.isAgg50
 z33:=Tryz.sizeOf50
 v33:=Tryz.zeroValue50}
end Go.Proofs
end
namespace Mu
open Go Go.RowKit Go.Proofs Go.Maps Go.Shelf
section
variable{P:bE}{C:Ctx}{t:List AV}{h:List j5}{o:bC}
def Az5(P:bE)(f:aU)(R1 R2:Res)(args:List AV)(r:AV):Prop:=
 Ca P f=aN/\∀(w:eX) (S:Nat->Prop) (vs:List eR),(∀k,S k->k < w.heap.size)->(∀g,R1.F g->g < w.heap.size)->(∀g,R2.F g->g < w.heap.size)->R1.R w S->R2.R w S->Ae w S [] ψ0 args vs->
  aP P f vs.toArray w λe w'=>∃v,e= .returned v/\YZ w S [] ψ0 r v w'
theorem Vv{f:aU}{args:Array bD}{m:Array eQ}{xs:List AV}{r:AV}{R1 R2:Res}(i j:Nat)(hi:h[i]? =lK (.res R1))(J:h[j]? =lK (.res R2))
 (y:o.op= .call {callee:=.value (.func f),args:=args,argTypes:=m})(z:Az5 P f R1 R2 xs r)(hx:args.toList.map (evA t)=xs)(hc:Bh xs=aN)(I:j7 r=aN):AT P C t h o r:=by
 intro S ψ w ρ H a;have h1:ρ (.func f)= .func (.func f) #[] #[]:=by
  have:=a (.func f) (by rw[y];exact aE.2 (.inl (by simp)));simpa[evA,j8]using this
 rw[Cv y z.1 ρ w h1];refine⟨rfl,?_⟩;have h2:Ae w S h ψ xs (args.toList.map ρ):=by
  rw[<-hx];exact Cd λx u=>a x (by rw[y];exact aE.2 (.inr (Array.mem_toList_iff.1 u)))
 have d:=H.blk i _ hi;have c:=H.blk j _ J;have O:=z.2 w S (args.toList.map ρ) H.lt (λg hg=>(d.1 g hg).2.2) (λg hg=>(c.1 g hg).2.2) d.2 c.2 (Bi _ _ hc h2);rw[show(args.map ρ)=(args.toList.map ρ).toArray from(by rw[<-aF])];refine O.mono ?_;rintro e w' ⟨v,K,N,S',G,F,E,D⟩;exact⟨v,K,N,S',G,F,E,Dv _ _ I D⟩
end
section
variable{C:Ctx}{t:List AV}{h:List j5}{o:bC}
theorem Y1{ty:eQ}{x y z:bD}(i:Nat){m:Nat}{S:Int->Bool}{R:List Int}{r:Int}{K:St->Prop}(u:o.op= .mapUpdate ty x y z)(v:cF.underlying ty=lK (.map 3 3))(hi:h[i]? =lK (.res (IF S m)))
 (hx:evA t x= .lit (.map (lK m)))(W:evA t y= .lit (.int .i64 r))(U:evA t z= .lit (.int .i64 1))(hR:RegsR R)(F:InR R S)(X:Ch r)(hK:K ⟨Bl t o.dst (.lit undef),h.set i (.res (IF (Ah3 S r) m))⟩):AOp cF C o ⟨t,h⟩ K:=by
 refine AOp.turn (ι:=Unit) (Rs:=λ_=>IF (Ah3 S r) m) (val:=λ_=>undef) hi (λ_=>rfl) (λT ψ w ρ H I Z c=>?_) (λ_=>hK);have h1:=c x (by simp[u,bB]);have h2:=c y (by simp[u,bB]);have J:=c z (by simp[u,bB]);rw[hx]at h1;rw[W]at h2;rw[U]at J;unfold j8 at h1 h2 J;obtain⟨D,a,O⟩:=(show IH w m S from I)
 have E:=GV a O hR F;obtain⟨w',j,d,hg⟩:=a.update Qj v (by have:=E.2;unfold fE;omega) (Ayl X) (plainElem_int dJ X6);have g:=IH.put a O d;have e:(fB ρ o).run cF w= .ok .skip w'\/(fB ρ o).run cF w= .ok (.value undef) w':=by
  simp[fB,u,h1,h2,J,j,eI]
 have N:Turns w T (IF S m).F (λ_:Unit=>IF (Ah3 S r) m) (λ_=>undef) undef w':=
  ⟨Bs hg |> λG=>⟨G.os,G.tape,G.output,G.size,λk hk Y=>G.block k hk λe=>Y (by cases e;rfl)⟩,(),rfl,g,λk hk=>⟨.inl hk,by
   have hk:k=m:=hk;subst hk;exact g.lt⟩⟩
 rcases e with e|e
 ·rw[e];exact N
 ·rw[e];exact N
end
theorem Afz(m:Nat):M3 cF 57 [.lit (.map (lK m))] (λp=>Be p [.lit (.map (lK m))]) (λp=>.func (.func 97) #[] #[.pointer (lK ⟨p,0,lJ⟩)]):=by
 refine⟨by kernel_rfl,λw S vs j c=>?_⟩;obtain⟨g,rfl,h0⟩:=Ek c;unfold Ae at h0;subst h0;have d:aR aT 5 cF 57 #[.map (lK m)] w λe w'=>e= .returned (.func (.func 97) #[] #[.pointer (lK ⟨w.heap.size,0,lJ⟩)])/\w'=w.alloc (.cells #[.map (lK m)] 51):=AnyZI.keys_in Tryz.keysK aT 5 trivial V (lK m) w
 refine((fA (n:=5)).1 d).mono ?_;rintro e w' ⟨rfl,rfl⟩;have a:Below w.heap.size w (w.alloc (.cells #[.map (lK m)] 51)):=(eK _ _).alloc (kY _) _;exact⟨_,rfl,⟨a.os,a.tape,a.output,a.size,λk hk _=>a.block k hk⟩,w.heap.size,rfl,⟨[.map (lK m)],51,fD w _,FT [.map (lK m)]⟩,λk hk=>by
  have hk:k=w.heap.size:=hk;subst hk;exact⟨.inr (kY _),by simp⟩⟩
theorem Zi(p m:Nat)(S:Int->Bool)(R:List Int)(z:RegsR R)(hi:InR R S):
 Az5 cF 56 (Be p [.lit (.map (lK m))]) (IF S m) [.lit (.func (.func 97) #[] #[.pointer (lK ⟨p,0,lJ⟩)])] (.bs tInt (R.filter S)):=by
 refine⟨by kernel_rfl,λw T vs hT U ac I hs hr=>?_⟩;obtain⟨Z,rfl,h0⟩:=Ek hr;unfold Ae at h0;subst h0;obtain⟨cs,e,hp,K⟩:=I;obtain⟨Z,rfl,h1⟩:=Ek K;unfold Ae at h1;subst h1;have J:=U p V;have u:w.cell? ⟨p,0,lJ⟩=lK (.map (lK m)):=by simp[eY,hp]
 obtain⟨D,d,hS⟩:=(show IH w m S from hs)
 obtain⟨g,E⟩:=V0 d hS z.asc z.wf hi.mem;have aa:=iE S R;have ab:=z.len;have H:a7 D<=fE:=by rw[E];unfold fE;omega
 have c:a7 D * 8<=140737488355328:=by rw[E];omega
 have F:SeqGives aT 2 cF 97 #[.pointer (lK ⟨p,0,lJ⟩)] encZ (λss=>ss.Perm (intKeys D)) (a7 D) w:=
  AnyZI.keys_gives (ρ:=Tryz.keysK_ren) {Tryz.keysK with} aT _ trivial rfl (by omega) p m (a7 D) D _ J u d
 have Y:=AnyZI.sorted_in Tryz.sortedM aT 5 trivial trivial trivial trivial V (by omega) (Adk _) (enters_of Tryz.func62 (by kernel_rfl) V) 97 #[.pointer (lK ⟨p,0,lJ⟩)] trivial (enters_of bM (by kernel_rfl) V) _ _ H c _ F;change aR _ _ cF 56 _ _ _ at Y;refine((fA (n:=5)).1 Y).mono ?_;rintro e w' ⟨v,ss,rfl,N,G,W,X⟩;have j:ss.Perm (R.filter S):=N.trans g;have he:(ss.mergeSort λx y=>decide (x<=y))=R.filter S:=
  GN (Og (j.nodup_iff.2 (z.asc.filter S).nodup)) (z.asc.filter S) (λx=>((jC ss _).mem_iff).trans j.mem_iff)
 have a:w'.ownsRow w.heap.size 3 1 v ss.length ((ss.mergeSort (λx y=>decide (x<=y))).map encZ):=G;rw[he]at a;have O:Gf w' w.heap.size v (R.filter S):=.of a j.length_eq V;refine⟨v,rfl,X,λk=>T k\/v.ownBlock=lK k,λ_ h=>.inl h,λk hk=>?_,λk hk=>?_,?_⟩
 ·rcases hk with hk|hk
  ·exact .inl hk
  ·exact .inr (O.lt k hk).1
 ·rcases hk with hk|hk
  ·exact lA (hT k hk) X.size
  ·exact(O.lt k hk).2
 ·unfold j8;exact tInt.slice.keepS (LB O λx hx=>z.wf x (iV.1 hx).1) (λ_ _=>rfl) λk hk=>.inr hk
end Mu
namespace Mu
open Go Go.RowKit Go.Proofs Go.Maps
variable{L:List Int}{S:Int->Bool}{f:kL}{i:Nat}{q:Ins×List Int}{r:Int}
instance Atn:AG cF 51 aI 1:=⟨by kernel_rfl⟩
instance Atm:SZ cF 51 1:=⟨by kernel_rfl⟩
instance Atl:ZC cF 51 [.map lJ]:=⟨by kernel_rfl⟩
def Fr(q:Ins×List Int):List Int:=if q.1.op !=5&&q.1.op !=7 then []else q.2.filter λr=>q.1.op ==7||r !=q.1.d
def F5(f:kL)(k:Nat):Int->Bool:=addL (λ_=>aI) (((stepsL f).take k).flatMap Fr)
def B5(f:kL):List Int:=(Bz f).filter (F5 f (stepsL f).length)
theorem Xi(S:Int->Bool)(l m:List Int):addL S (l++m)=addL (addL S l) m:=by
 funext x;simp only[addL,fN,iQ,aH,aL]
theorem WM{k:Nat}(h:(stepsL f)[k]? =lK q):F5 f (k+1)=addL (F5 f k) (Fr q):=by
 unfold F5;rw[jU,h,lN,gE,Xi];simp
theorem C8(h:q∈stepsL f):(∃b∈f.blocks,q.1∈b.ins)/\(∀r∈q.2,r∈Bz f)/\q.2.length<=(Bz f).length:=by
 unfold stepsL at h;obtain⟨b,m,hq⟩:=iW.1 h;have m:=i9.1 m;unfold ED at hq;have h1:=(List.of_mem_zip (a:=q.1) (b:=q.2) hq)
 obtain⟨g,d⟩:∃g,f.blocks[b]? =lK g:=⟨_,gO m⟩
 have c:Cl f b=g.ins:=by unfold Cl;rw[d]
 have h2:=i6 h1.2;unfold B6 at h2;obtain⟨i,_,e⟩:=iY.1 h2;refine⟨⟨g,iZ d,by rw[<-c];exact h1.1⟩,λr j=>?_,by rw[<-e];exact iE _ _⟩;rw[<-e]at j;unfold Df at j;exact(iV.1 j).1
theorem JX(h:∀r∈q.2,r∈L):∀r∈Fr q,r∈L:=λr a=>by
 unfold Fr at a;split at a
 ·cases a
 ·exact h r (iV.1 a).1
theorem US(f:kL)(k:Nat):InR (Bz f) (F5 f k):=⟨λx _ hx=>by
 unfold F5 addL at hx;simp only[aK,fO]at hx;obtain⟨q,hq,hx⟩:=iW.1 hx;exact JX (C8 (i7 hq)).2.1 x hx⟩
def Iz(S:Int->Bool)(q:Ins×List Int)(i:Nat):Int->Bool:=addL S ((q.2.take i).filter λr=>q.1.op ==7||r !=q.1.d)
theorem WN(S:Int->Bool)(q:Ins×List Int):Iz S q 0=S:=by
 unfold Iz;rw[jZ,gB,Oh]
theorem Aa0(h:q.2[i]? =lK r)(hq:(q.1.op ==7||r !=q.1.d)=aN):Iz S q (i+1)=Ah3 (Iz S q i) r:=by
 unfold Iz;rw[jU,h,lN,fX,fY,hq,gB];simp only[if_true];exact PJ _ _ _
theorem Ahb(h:q.2[i]? =lK r)(hq:(q.1.op ==7||r !=q.1.d)=aI):Iz S q (i+1)=Iz S q i:=by
 unfold Iz;rw[jU,h,lN,fX,fY,hq,gB];simp
theorem Ahc(h:InR L S)(hq:∀r∈q.2,r∈L)(i:Nat):InR L (Iz S q i):=h.addL λr a=>hq r (i7 (iV.1 a).1)
theorem Alr(f:kL)(K:okFunc f)(hs:smallF f)(W:(Ce f).length<=2097152)(T:∀b∈f.blocks,b.ins.length+1<=2097152):Fn cF 71 [.agg (Ak f)] (.bs tInt (B5 f)):=by
 have ah:=hs.blocks;have v:=RL f K W;have aj:(Bz f).length<=2097152:=kZ (Dm _) W;refine FM Tryz.func71 V (by kernel_rfl) V Tryz.ntmps71 λC hC H=>?_
 refine nS ?_;refine Ab λK1 h1=>?_
 refine rC ?_;refine h1 _ ?_;refine nT ?_;refine Ab λK2 h2=>?_
 (refine j9 ?_;(repeat(first|refine sQ ?_ (Ax V V V V)|refine sQ ?_ (Av V V V V)|refine sQ ?_|refine AM ?_|refine sG ?_|refine Bp ?_)))
 refine AC V (P5 V λm=>?_);refine sNt ?_
 (repeat(first|refine sQ ?_ (Ax V V V V)|refine sQ ?_ (Av V V V V)|refine sQ ?_|refine AM ?_|refine sG ?_|refine Bp ?_))
 refine Au ?_;refine h2 _ ?_;refine nT ?_;refine Bt 3 V V V (λg=>(.agg (Ak f)::.ptr 1 0::.any::.lit (.pointer (lK ⟨g,0,lJ⟩))::A4 (.lit (.map (lK m))::A20 (A10 (A3 []))))) (λg=>(by(repeat(first|exact kQ|refine kR ?_|refine kO ?_|refine kP V ?_)))) λj=>?_
 refine Ab λK3 h3=>?_
 refine Ab λK4 h4=>?_
 (refine j9 ?_;(repeat(first|refine sQ ?_ (Ax V V V V)|refine sQ ?_ (Av V V V V)|refine sQ ?_|refine AM ?_|refine sG ?_|refine Bp ?_)))
 refine AC V (Cr V (Ov f) (λ_=>rfl) V V λp=>?_);refine sNt ?_;refine Au ?_;refine h4 _ ?_;refine nT ?_;refine Ac ?_;refine AE ⟨(.agg (Ak f)::A2 (.lit (.pointer (lK ⟨j,0,lJ⟩))::A6 (.lit (stF p)::A20 (A10 [.any])))),[.res (Bk []),.dead,.res (IF (F5 f 0) m),.res (Be j [.lit (.map (lK m))]),.res (Be p (Ak f))]⟩ (Ki (.cons (.dead (.cons (.cons (.cons (kD _))))))) ?_;refine Hw 4 0 (λk=>[.dead,.dead,.res (IF (F5 f k) m),.res (Be j [.lit (.map (lK m))]),.dead]) H (by kernel_rfl) (by decide) V V V ?hdrop V (λ_=>rfl) (λ_=>rfl) V (Adh f) (VU f) (Mo f K hs W T p) ?hround ?hdone
 case hdrop=>
  exact⟨kC (kB (kB (kB (kC (kD _))))),λb z=>fI.1 (show bdH [.dead,.dead,.res (IF (F5 f 0) m),.res (Be j [.lit (.map (lK m))]),.dead]=aN from V) b z⟩
 case hround=>
  intro k hk C' ae;obtain⟨q,hq⟩:∃q,(stepsL f)[k]? =lK q:=⟨_,gO hk⟩
  obtain⟨⟨bl,U,F⟩,w,af⟩:=C8 (iZ hq);have ag:=(K.blocks bl U).ins q.1 F;have u:=WM hq;have y:=US f k;dsimp only;rw[XJ hq];generalize ai:F5 f k=S0 at u y⊢;refine C3 (t':=(.agg (Ak f)::A2 (.lit (.pointer (lK ⟨j,0,lJ⟩))::A6 (.lit (stF p)::.agg (BV q.1)::.bs tInt q.2::A20 (A9 []))))) V V ?_;refine Ab λK6 h6=>?_
  refine rC ?_;refine h6 _ ?_;refine nT ?_;refine rC ?_;refine An λar ad=>?_
  refine nT ?_;refine Ac ?_;refine Ab λK8 h8=>?_
  refine Ab λK9 h9=>?_
  refine rC ?_;refine h9 _ ?_;refine nT ?_;refine Ag V (λd=>?_) (λd=>?_)
  ·have e:Fr q= []:=by unfold Fr;rw[if_pos d]
   rw[u,e,Oh];refine Ay ?_;exact⟨rfl,⟨.cons (.cons (.cons (.cons (.cons (kD _))))),λb z=>fI.1 (show bdH [.dead,.dead,.res (IF S0 m),.res (Be j [.lit (.map (lK m))]),.dead]=aN from V) b z⟩⟩
  ·have e:Fr q=q.2.filter λr=>q.1.op ==7||r !=q.1.d:=by unfold Fr;rw[if_neg (by rw[d];simp)]
   have J:=λi=>Ahc y w i
   refine Al ?_;refine h8 _ ?_;refine nT ?_;refine Ab λaq ac=>?_
   refine rC ?_;refine ac _ ?_;refine nT ?_;refine Ac ?_;refine AB (λi:Nat=>⟨(A3 (.lit (.pointer (lK ⟨j,0,lJ⟩))::.ptr 5 0::A10 (A6 (.bs tInt q.2::.lit (.int .i64 (q.2.length:Int))::.lit (.int .i64 (i:Int))::A10 (A8 []))))),[.dead,.dead,.res (IF (Iz S0 q i) m),.res (Be j [.lit (.map (lK m))]),.dead,.box (BV q.1)]⟩) (λi=>i<=q.2.length) (λi=>q.2.length - i) 0 (lF _) (by rw[WN];exact BU) ?_;intro i hi
   (try dsimp only at hi);(try dsimp only)
   refine Ab λap ab=>?_
   refine rC ?_;refine ab _ ?_;refine nT ?_;refine Ab λao aa=>?_
   refine Ag V (λc=>?_) (λc=>?_)
   ·have N:i < q.2.length:=by simpa using c
    obtain⟨r,I⟩:∃r,q.2[i]? =lK r:=⟨_,gO N⟩
    have G:=v.wf r (w r (iZ I));refine Al ?_;refine aa _ ?_;refine nT ?_;refine Ab λan E=>?_
    refine Ac ?_;refine Ab λam Z=>?_
    refine rC ?_;refine Z _ ?_;refine nT ?_;refine Ab λal Y=>?_
    refine rC ?_;refine Y _ ?_;refine nT ?_;refine Ag V (λa=>?_) (λa=>?_)
    ·have e2:=Aa0 (S:=S0) I a
     (refine j9 ?_;(repeat(first|refine sQ ?_ (Ax V V V V)|refine sQ ?_ (Av V V V V)|refine sQ ?_|refine AM ?_|refine sG ?_|refine Bp ?_)))
     refine AC V (Y1 2 V dO V V V V v (J i) G ?_);refine sNt ?_;refine Au ?_;refine E _ ?_;refine nT ?_;refine rC ?_;refine An ⟨i+1,by omega,by omega,?_⟩;rw[e2];exact BU
    ·have e2:=Ahb (S:=S0) I a;refine Al ?_;refine E _ ?_;refine nT ?_;refine rC ?_;refine An ⟨i+1,by omega,by omega,?_⟩;rw[e2];exact BU
   ·have O:i=q.2.length:=by
     have:¬i < q.2.length:=by simpa using c
     omega
    subst O;have e3:Iz S0 q q.2.length=F5 f (k+1):=by rw[u,e];unfold Iz;rw[jW]
    rw[e3];refine Ay ?_;exact⟨rfl,⟨.cons (.cons (.cons (.cons (.cons (kD _))))),λb z=>fI.1 (show bdH [.dead,.dead,.res (IF (F5 f (k+1)) m),.res (Be j [.lit (.map (lK m))]),.dead]=aN from V) b z⟩⟩
 case hdone=>
  intro D;refine h3 _ ?_;refine C3 (t':=(.agg (Ak f)::A2 (.lit (.pointer (lK ⟨j,0,lJ⟩))::A6 (.lit (stF p)::A20 (A10 [.any]))))) (h':=[.res (Bk [D]),.dead,.res (IF (F5 f (stepsL f).length) m),.res (Be j [.lit (.map (lK m))]),.dead]) V V ?_;refine Ab λak X=>?_
  (refine j9 ?_;(repeat(first|refine sQ ?_ (Ax V V V V)|refine sQ ?_ (Av V V V V)|refine sQ ?_|refine AM ?_|refine sG ?_|refine Bp ?_)))
  refine AC V (Cr V (Afz m) (λ_=>rfl) V V λp2=>?_);refine sNt ?_
  (repeat(first|refine sQ ?_ (Vv 5 2 V V V (Zi p2 m _ _ v (US f _)) V V V)|refine sQ ?_ (Ax V V V V)|refine sQ ?_ (Av V V V V)|refine sQ ?_|refine AM ?_|refine sG ?_|refine Bp ?_))
  refine Au ?_;refine X _ ?_;refine nT ?_;refine Aw ?_;exact⟨.inr V,[D],rfl,rfl,kG V⟩
end Mu
section
namespace Go.Proofs
open Go.Shelf
def Tryz.laysNm225_ren:eL:=⟨fun|25=>38|31=>73|32=>74|37=>107|n=>n,fun|22=>27|3=>3|4=>4|40=>104|0=>0|n=>n,fun|n=>n⟩
theorem Tryz.laysNm225:Go.Proofs.Lays2.n25 cF Tryz.laysNm225_ren:={
 mixed:=by kernel_rfl
 f25:=Tryz.func38.trans (congrArg lK (by kernel_rfl))
 f31:=Tryz.func73.trans (congrArg lK (by kernel_rfl))
 f32:=Tryz.func74.trans (congrArg lK (by kernel_rfl))
 f37:=bF.trans (congrArg lK (by kernel_rfl))
 t0:=cY
 a0:=bO
 z0:=cG
 v0:=dR
 t3:=dJ
 a3:=bZ
 z3:=cR
 v3:=eC
 t4:=dK
 a4:=b9
 z4:=cT
 v4:=eD
 t22:=dI
 a22:=bY
 z22:=cQ
 v22:=eB
 t40:=cZ
 a40:=bP
 z40:=cH
 v40:=dT}
open Go.RowKit Go.Lib in
theorem Tryz.slices_BinarySearch_int(b off n c:Nat)(zs:List Int)(x:Int)(w:eX)(d:n<=zs.length)(a:n < 4611686018427387904)(hc:∀j,j < zs.length->w.cell? ⟨b,off+j,lJ⟩=lK (.int .i64 (zs.getD j 0)))(g:(zs.take n).Pairwise (·<=·)):
 aP cF 38 #[.slice (lK ⟨b,off,lJ⟩) n c,.int .i64 x] w λe w'=>e= .returned (.tuple #[.int .i64 ((zs.take n).countP (· < x):Nat),.bool ((zs.take n).contains x)])/\∃q,w'=w.drewN q:=Any.slices_BinarySearch_int Tryz.laysNm225 b off n c zs x w d a hc g
open Go.RowKit Go.Lib in
theorem Tryz.slices_BinarySearch_int_empty(a:Option Addr)(c:Nat)(x:Int)(w:eX):
 aP cF 38 #[.slice a 0 c,.int .i64 x] w λe w'=>e= .returned (.tuple #[.int .i64 0,.bool aI])/\w'=w:=Any.slices_BinarySearch_int_empty Tryz.laysNm225 a c x w
end Go.Proofs
end
namespace Mu
open Go Go.RowKit Go.Proofs
section
variable{P:bE}{C:Ctx}{t:List AV}{h:List j5}{o:bC}
theorem Md{ty:eQ}{a:Array (Nat×bD)}{zs:List eR}{d:List (Nat×Nat)}{rs:List AV}[ZC P ty zs](j:o.op= .build ty a)(c:Eq P ty=lK d)
 (e:putCells d (zs.map .lit) (a.toList.map λp=>(p.1,evA t p.2))=lK rs)(h1:(a.toList.all λp=>Wx (evA t p.2))=aN):AT P C t h o (.agg rs):=
 AT.build j ZC.eq c e λp g=>Mf (fI.1 h1 p g)
theorem Fit.agg{α:Type}{T:Ty α}{enc:α->List AV}{x:α}(c:∀w S cs ψ,Ae w S h ψ (enc x) cs->T.RS w S cs x):Fit h T (.agg (enc x)) x:=λC S ψ w v H a=>by
 unfold j8 at a;obtain⟨cs,rfl,d⟩:=a;exact c w S cs ψ d
end
theorem Qi:Eq cF 47=lK [(0,1),(1,1),(2,1),(3,1),(4,1),(5,1),(6,1),(7,1),(8,1)]:=by kernel_rfl
theorem Ao7:Eq cF 63=lK [(0,1),(1,1)]:=by kernel_rfl
theorem At2:Eq cF 24=lK [(0,1),(1,1),(2,1),(3,1)]:=by kernel_rfl
open Go.Shelf
variable{cs:List eR}
structure Hint where
 r:Int
 at_:Int
def Gg:Ty Hint:=(tInt.cons (tInt.cons Dj)).via (λx=>⟨x.1,x.2.1⟩) (λh=>(h.r,h.at_,()))
theorem Ac7{w:eX}{S:Nat->Prop}{x:Hint}:Gg.RS w S cs x↔cs= [.int .i64 x.r,.int .i64 x.at_]/\wfI .i64 x.r/\wfI .i64 x.at_:=by
 constructor
 ·rintro⟨⟨_,_,rfl,⟨rfl,h0⟩,_,_,rfl,⟨rfl,h1⟩,rfl⟩,_⟩;exact⟨rfl,h0,h1⟩
 ·rintro⟨rfl,h0,h1⟩;exact⟨⟨[_],_,rfl,⟨rfl,h0⟩,[_],_,rfl,⟨rfl,h1⟩,rfl⟩,rfl⟩
@[reducible] def GK(x:Hint):List AV:=[.lit (.int .i64 x.r),.lit (.int .i64 x.at_)]
theorem Yz:Enc Gg GK:=by
 intro w S h ψ cs d H;obtain⟨rfl,_,_⟩:=Ac7.1 H;simp only[GK,Ae,j8];exact⟨_,_,rfl,rfl,_,_,rfl,rfl,rfl⟩
theorem Ae5:SK Gg:=D4 Yz λd x hx=>by
 simp only[GK,or_false,zak]at hx;rcases hx with rfl|rfl <;> exact .inl ⟨_,rfl,rfl⟩
instance Axl:kF Gg GK:=⟨Yz,Ae5,by decide⟩
theorem Ajz{w:eX}{S:Nat->Prop}{h:List j5}{ψ:Nat->eR}{x:Hint}(h0:wfI .i64 x.r)(h1:wfI .i64 x.at_)(H:Ae w S h ψ (GK x) cs):Gg.RS w S cs x:=by
 simp only[GK,Ae,j8]at H;obtain⟨_,_,rfl,rfl,_,_,rfl,rfl,rfl⟩:=H;exact Ac7.2 ⟨rfl,h0,h1⟩
theorem Ob{h:List j5}{r a:Int}(h0:wfI .i64 r)(h1:wfI .i64 a):Fit h Gg (.agg [.lit (.int .i64 r),.lit (.int .i64 a)]) ⟨r,a⟩:=Fit.agg (enc:=GK) (x:=⟨r,a⟩) λ_ _ _ _ H=>Ajz h0 h1 H
instance Axk:AG cF 84 aN 2:=⟨by kernel_rfl⟩
instance Axj:SZ cF 84 2:=⟨by kernel_rfl⟩
instance Axi:ES cF 81 2:=⟨by kernel_rfl⟩
instance Axh:SL cF 81:=⟨by kernel_rfl⟩
instance Axg:RT cF 81 84 2 16:=⟨by kernel_rfl⟩
instance Axf:FO cF 84 0 0:=⟨by kernel_rfl⟩
instance As9:FO cF 84 1 1:=⟨by kernel_rfl⟩
instance As8:ZC cF 84 [.int .i64 0,.int .i64 0]:=⟨by kernel_rfl⟩
instance As7:TyOf cF 84 _ Gg:=⟨trivial⟩
theorem XX:Eq cF 84=lK [(0,1),(1,1)]:=by kernel_rfl
section
variable{N S:Nat->Prop}{w:eX}{h:List j5}{ψ:Nat->eR}{v:eR}{ver:Nat}{l:List Int}
theorem JI(H:Hv N w S h ψ v (.row ver 3 tInt l)):Gf w 0 v l/\Bg l:=by
 obtain⟨cells,h1,_,h2,_⟩:=H;have u:cells.length=l.length:=by have:=h1.1;rw[show tInt.size=1 from V,lC]at this;exact this
 have a:∀i d,l[i]? =lK d->cells[i]? =lK (eS .i64 d)/\wfI .i64 d:=λi d m=>by
  obtain⟨e,g⟩:=DJ.1 (h2 i d m);rw[show tInt.size=1 from V,lC,jY,iA]at e;cases hc:cells[i]? with
  |none=>rw[hc]at e;cases e
  |some c=>
   rw[hc]at e;simp only[lN,List.cons.injEq,and_true]at e;exact⟨by rw[e],g⟩
 have hc:cells=l.map (eS .i64):=by
  apply fW;intro i;by_cases hi:i < l.length
  ·rw[gR,gO hi];exact(a i _ (gO hi)).1
  ·rw[gP (by omega),gP (by simp;omega)]
 refine⟨.of h1 V hc,λr j=>?_⟩;obtain⟨i,hi⟩:=iX.1 j;exact(a i r hi).2
theorem LE{base:Nat}(e:Gf w base v l)(c:Bg l)(j:∀g,v.ownBlock=lK g->¬N g/\¬S g):Hv N w S h ψ v (.row ver 3 tInt l):=by
 refine⟨_,e.mono (lF _),by decide,λi d a=>?_,j⟩;show tInt.RS w S (((l.map (eS .i64)).drop (i * 1)).take 1) d;have hi:(l.map (eS .i64))[i]? =lK (.int .i64 d):=by rw[gR,a];rfl
 rw[lC,jY,iA,hi];exact DJ.2 ⟨rfl,c d (iZ a)⟩
end
theorem O1{l:List Int}(h:Bg l):Bg (l.mergeSort λx y=>decide (x<=y)):=λr a=>h r ((jC l _).mem_iff.1 a)
section
variable{C:Ctx}{t:List AV}{h:List j5}{o:bC}{K:St->Prop}
theorem P3{x:bD}{E:Array eQ}{i ver:Nat}{l:List Int}(I:o.op= .call {callee:=.value (.func 62),args:=#[x],argTypes:=E})(hx:evA t x= .own i ver)(hi:h[i]? =lK (.row ver 3 tInt l))(U:l.length<=2147483648)
 (Y:K ⟨Bl t o.dst .any,h.set i (.row ver 3 tInt (l.mergeSort λx y=>decide (x<=y)))⟩):AOp cF C o ⟨t,h⟩ K:=by
 rintro Q' a w ⟨W,S,ψ,H,u⟩;refine⟨λc e=>(by rw[I]at e;cases e),?_⟩;have j:=Bv u x;rw[show evA (St.mk t h).t x= .own i ver from hx]at j;unfold j8 at j;have T:=(j.2 _ (by rw[hi];rfl)).2 V;have D:=H.blk i _ hi;have m:=D.lt V;obtain⟨J,O⟩:=JI D;unfold Oper.wp;rw[Cv I (by kernel_rfl) a.eval w V];simp only[Oper.upon];rw[show(#[x].map a.eval)= #[ψ i]from by simp[T]];refine(Aje J U).mono ?_;rintro r w' ⟨rfl,G,F⟩;have d:w.grownBy w' (Bu (ψ i)):=by
  have e:Bu (ψ i)=(ψ i).ownBlock:=by
   rcases J.2 with⟨e,_⟩|⟨g,cap,cur,e,_⟩ <;> rw[e] <;> rfl
  rw[e];exact F
 have z:∀k,S k->w'.heap[k]? =w.heap[k]?:=λk hk=>d.block k (H.lt k hk) λe=>(m k e.symm).2.2 hk
 have X:Ext w S h ψ w' S (h.set i (.row ver 3 tInt (l.mergeSort λx y=>decide (x<=y)))) (Bo ψ i (ψ i)):=Ext.set z hi (λZ hc=>by
  simp only[ABlk.ver,lM]at hc;exact⟨ver,rfl,by omega,λ_=>⟨rfl,rfl⟩⟩) λh=>by simp[AZ]at h
 exact⟨_,Y,Iw (s:=⟨t,h⟩) hi W u (H.set hi V (Bs d) X (LE G (O1 O) λg hg=>⟨(m g (AU hg)).1,(m g (AU hg)).2.2⟩) λg hg=>.inl hg) X (by unfold j8;trivial)⟩
end
theorem WV(l:List Int):(aY l).length<=l.length:=by
 unfold aY Lib.compactUpTo;rw[iF];exact kZ (iE _ _) (by simp)
theorem WT{l:List Int}(z:l.length<=2147483648)(y:Bg (aY l)):Amm cF 63 3 tInt l (aY l):=by
 refine⟨by kernel_rfl,λN S w v F E u=>?_⟩;obtain⟨m,_⟩:=JI u;have c:=u.lt V;have e:Bu v=v.ownBlock:=by
  rcases m.2 with⟨e,_⟩|⟨g,cap,cur,e,_⟩ <;> rw[e] <;> rfl
 refine(WU m z).mono ?_;rintro r w' ⟨v',rfl,a,d,j⟩;have D:Bu v'=v'.ownBlock:=by
  rcases a.2 with⟨e,_⟩|⟨g,cap,cur,e,_⟩ <;> rw[e] <;> rfl
 refine⟨v',rfl,by rw[e];exact d,LE a y λg hg=>?_,λg hg=>.inl (by rw[e,<-j,<-D];exact hg)⟩;have:=c g (show Bu v=lK g by rw[e,<-j];exact hg);exact⟨this.1,this.2.2⟩
theorem PP{C:Ctx}{t:List AV}{h:List j5}(j:Nat){α:Type}(T:Ty α)(g:t[j]? =lK (.lit (.slice lJ 0 0))):kS C ⟨t,h⟩ ⟨t.set j (.bs T []),h⟩:=λa w ⟨m,S,ψ,H,e⟩=>by
 refine⟨m,S,ψ,H,?_⟩;obtain⟨v,c,d⟩:=BY e g;unfold j8 at d;subst d;have:=HV e j (x:=.bs T []) (v:=.slice lJ 0 0) (by unfold j8;exact T.slice_nilS _ _);rwa [show a.tmps.toList.set j (.slice lJ 0 0)=a.tmps.toList from fW λk=>by
  by_cases hk:j=k
  ·subst hk;rw[gW (gQ.1 c).1,c]
  ·rw[gV hk]]at this
end Mu
namespace Mu
open Go Go.RowKit Go.Proofs
variable{S:Nat->Prop}{α:Type}{T:Ty α}{cs:List eR}{d:α}{off:Nat}{w:eX}{z:Int}
structure CGraph where
 regs:List Int
 cls:List (Int×List Int)
 near:List (Int×List Int)
 likes:List (Int×List Int)
 moves:List (Int×List Int)
 cheap:List Int
def Bc:Ty CGraph:=(tInt.slice.cons (Kw.cons (Kw.cons (Kw.cons (Kw.cons (tInt.slice.cons Dj)))))).via (λx=>⟨x.1,x.2.1,x.2.2.1,x.2.2.2.1,x.2.2.2.2.1,x.2.2.2.2.2.1⟩) (λg=>(g.regs,g.cls,g.near,g.likes,g.moves,g.cheap,()))
theorem Gb(h1:T.size=1)(h:T.RS w S cs d):∃v,cs= [v]:=List.length_eq_one_iff.1 ((T.len h).trans h1)
theorem Ot{g:CGraph}:Bc.RS w S cs g↔∃u m j e c a,cs= [u,m,j,e,c,a]/\tInt.slice.RS w S [u] g.regs/\Kw.RS w S [m] g.cls/\Kw.RS w S [j] g.near/\Kw.RS w S [e] g.likes/\Kw.RS w S [c] g.moves/\tInt.slice.RS w S [a] g.cheap:=by
 constructor
 ·rintro⟨⟨O,_,rfl,h0,J,_,rfl,h1,I,_,rfl,h2,H,_,rfl,E,G,_,rfl,D,F,_,rfl,y,rfl⟩,_⟩;obtain⟨u,rfl⟩:=Gb V h0;obtain⟨m,rfl⟩:=Gb V h1;obtain⟨j,rfl⟩:=Gb V h2;obtain⟨e,rfl⟩:=Gb V E;obtain⟨c,rfl⟩:=Gb V D;obtain⟨a,rfl⟩:=Gb V y;exact⟨u,m,j,e,c,a,rfl,h0,h1,h2,E,D,y⟩
 ·rintro⟨u,m,j,e,c,a,rfl,h0,h1,h2,E,D,y⟩;exact⟨⟨[u],_,rfl,h0,[m],_,rfl,h1,[j],_,rfl,h2,[e],_,rfl,E,[c],_,rfl,D,[a],_,rfl,y,rfl⟩,rfl⟩
@[reducible] def Pt(g:CGraph):List AV:=[.bs tInt g.regs,.tv Kw g.cls,.tv Kw g.near,.tv Kw g.likes,.tv Kw g.moves,.bs tInt g.cheap]
theorem Aan:Enc Bc Pt:=by
 intro w S h ψ cs d H;obtain⟨D,y,u,m,j,g,rfl,h0,h1,h2,e,c,a⟩:=Ot.1 H;simp only[Pt,Ae,j8];exact⟨_,_,rfl,h0,_,_,rfl,h1,_,_,rfl,h2,_,_,rfl,e,_,_,rfl,c,_,_,rfl,a,rfl⟩
theorem JO:SK (Ac5 T):=by
 rintro w S cs d ⟨_,⟨rfl,_⟩|⟨_,_,rfl,_⟩⟩ u a <;> rw[jB.1 a] <;> rfl
theorem Wq:SK Bc:=by
 intro w S cs g H u a;obtain⟨G,F,E,D,y,m,rfl,h0,h1,h2,j,e,c⟩:=Ot.1 H;simp only[or_false,zak]at a;rcases a with rfl|rfl|rfl|rfl|rfl|rfl
 ·exact one1_slice _ _ _ _ h0 _ (jB.2 V)
 ·exact JO _ _ _ _ h1 _ (jB.2 V)
 ·exact JO _ _ _ _ h2 _ (jB.2 V)
 ·exact JO _ _ _ _ j _ (jB.2 V)
 ·exact JO _ _ _ _ e _ (jB.2 V)
 ·exact one1_slice _ _ _ _ c _ (jB.2 V)
instance Aqi:kF Bc Pt:=⟨Aan,Wq,by decide⟩
theorem Aq3:Enc (Ac5 T) λd=>[.tv (Ac5 T) d]:=by
 intro w S h ψ cs d H;obtain⟨v,rfl⟩:=Gb V H;simp only[Ae,j8];exact⟨_,_,rfl,H,rfl⟩
instance Anq{α:Type}{T:Ty α}:kF (Ac5 T) λd=>[.tv (Ac5 T) d]:=⟨Aq3,JO,by show 0 < 1;decide⟩
def J8{α:Type}(T:Ty α):Ty α where
 size:=1
 bulk:=λd=>T.bulk d+1
 RS:=λw S cs d=>∃b o,cs= [.pointer (lK ⟨b,o,lJ⟩)]/\T.AtS w S b o d
 len:=by rintro _ _ _ _ ⟨_,_,rfl,_⟩;rfl
 keepS:=by
  rintro w w' S S' cs d ⟨b,o,rfl,h⟩ c a;exact⟨b,o,rfl,h.keep c a⟩
theorem Aq2:Enc (J8 T) λd=>[.bp T d 0]:=by
 rintro w S h ψ cs d ⟨b,o,rfl,H⟩;simp only[Ae,j8];exact⟨_,_,rfl,⟨b,o,rfl,H⟩,rfl⟩
instance Anp{α:Type}{T:Ty α}:kF (J8 T) λd=>[.bp T d 0]:=⟨Aq2,by
 rintro w S cs d ⟨b,o,rfl,_⟩ u a;rw[jB.1 a];rfl,by show 0 < 1;decide⟩
theorem One.tv{h:List j5}(h1:SK T):One h (.tv T d):=λC S ψ w u H a=>by
 unfold j8 at a;exact h1 w S [u] d a u (jB.2 V)
theorem One.bp{h:List j5}:One h (.bp T d off):=λC S ψ w u H a=>by
 unfold j8 at a;obtain⟨b,o,rfl,_⟩:=a;rfl
theorem M2.int{h:List j5}(c:wfI .i64 z):M2 h (.lit (.int .i64 z)) (.tv tInt z):=λC S ψ w v H a=>by
 unfold j8 at a⊢;subst a;exact DJ.2 ⟨rfl,c⟩
section
variable{P:bE}{C:Ctx}{t:List AV}{h:List j5}{o:bC}
theorem Ck{x:bD}(g:o.op= .nilCheck x)(hx:evA t x= .bp T d off):AT P C t h o (.bp T d off):=
 AL λS ψ w ρ H a=>by
  have h1:=a x (by simp[g,bB]);rw[hx]at h1;unfold j8 at h1;obtain⟨b,q,e,c⟩:=h1;refine⟨.pointer (lK ⟨b,q+off,lJ⟩),by simp[fB,g,e],?_⟩;unfold j8;exact⟨b,q,rfl,c⟩
end
instance Aqh:AG cF 53 aI 1:=⟨by kernel_rfl⟩
instance Aqg:AG cF 77 aI 1:=⟨by kernel_rfl⟩
instance Anz:AG cF 51 aI 1:=⟨by kernel_rfl⟩
instance Anx:SZ cF 51 1:=⟨by kernel_rfl⟩
instance Anw:FO cF 79 0 0:=⟨by kernel_rfl⟩
instance Anv:FO cF 79 1 1:=⟨by kernel_rfl⟩
instance Anu:FO cF 79 2 2:=⟨by kernel_rfl⟩
instance Ant:FO cF 79 3 3:=⟨by kernel_rfl⟩
instance Ans:FO cF 79 4 4:=⟨by kernel_rfl⟩
instance Anr:FO cF 79 5 5:=⟨by kernel_rfl⟩
def RE(v:eR):Ty Unit where
 size:=1
 bulk:=λ_=>1
 RS:=λ_ _ cs _=>cs= [v]/\v.oneCell'=aN
 len:=by rintro _ _ _ _ ⟨rfl,_⟩;rfl
 keepS:=λh _ _=>h
instance Ath{v:eR}:kF (RE v) λ_=>[.lit v]:=⟨λw S h ψ cs d H=>by
 obtain⟨rfl,_⟩:=(show cs= [v]/\v.oneCell'=aN from H)
 simp only[Ae,j8];exact⟨_,_,rfl,rfl,rfl⟩,λw S cs d H u a=>by
 obtain⟨rfl,h1⟩:=(show cs= [v]/\v.oneCell'=aN from H)
 rw[jB.1 a];exact h1,by show 0 < 1;decide⟩
def Y0(x:AV){α:Type}(T:Ty α)(d:α):Prop:=j7 x=aN/\∀(w:eX) (S:Nat->Prop) (v:eR),j8 w S [] ψ0 x v->T.RS w S [v] d
theorem Y0.lit{v:eR}(h1:v.oneCell'=aN):Y0 (.lit v) (RE v) ():=⟨rfl,λw S u a=>by unfold j8 at a;rw[a];exact⟨rfl,h1⟩⟩
theorem Y0.int(c:wfI .i64 z):Y0 (.lit (.int .i64 z)) tInt z:=⟨rfl,λw S u a=>by unfold j8 at a;rw[a];exact DJ.2 ⟨rfl,c⟩⟩
theorem Y0.bp:Y0 (.bp T d 0) (J8 T) d:=⟨rfl,λw S u c=>by
 unfold j8 at c;obtain⟨b,o,rfl,a⟩:=c;exact⟨b,o,rfl,a⟩⟩
theorem EN{C:Ctx}(G:C.std){t:List AV}{h:List j5}(i j:Nat){x:AV}(hi:h[i]? =lK (.box [x]))(F:t[j]? =lK (.ptr i 0))(hx:Y0 x T d):kS C ⟨t,h⟩ ⟨t.set j (.bp T d 0),h.set i .dead⟩:=
 Hp i j hi V V F (Ux G hi V) λS ψ w v H m=>by
  obtain⟨g,cs,e0,hg,W,U,E,D⟩:=H.blk i _ hi;unfold j8 at m;obtain⟨X,c,e⟩:=m.2 (by rw[hi];rfl);rw[hg]at c;cases c;unfold j8;rw[e];refine⟨g,0,rfl,.inr (by rw[hg];rfl),?_⟩;have a:Ae w S [] ψ0 [x] cs:=Bi _ _ (show Bh [x]=aN by unfold Bh;rw[hx.1];rfl) D;unfold Ae at a;obtain⟨u,J,rfl,I,y⟩:=a;unfold Ae at y;subst y;refine⟨[u],T.keepS (hx.2 w S u I) (λ_ _=>rfl) λk hk=>.inl hk,λq O hq=>?_⟩;unfold eY;simp[E,hq]
open Go.Maps Go.Shelf Go.ChangeMaps Go.MapKept
section
variable{H:Type}{P:bE}{k:eQ}{R:eR->Option (aS H×List a8)}{w:eX}{b r n:Nat}{D:aS H}{left:Lit->Bool}{cnt:Nat}
theorem TA{t e:eQ}(h:w.ranges P k R b r n D left cnt)(K:Keyed P k)(ht:P.underlying t=lK (.map k e))(hn:n < fE){key val:eR}{kl:Lit}{d:aS H}{ps:List a8}
 (g:keyOf P k key=lK kl)(hv:R val=lK (d,ps))(Z:has D kl=aN):
 ∃w',(aW t (.map (lK b)) key val).run P w= .ok () w'/\w'.ranges P k R b r n (D.put kl d) left cnt/\w.mapTurned w' b:=by
 have aq:=h.ne;obtain⟨w',U,ag,al⟩:=h.owns.store K ht hn g hv;obtain⟨J,u,E,seen,c0,hb,F,hs,hD,hr,W,hc,ah,ar,an,am⟩:=h;refine⟨w',U,?_,al⟩;rcases K.find w g J.toList F.keys with⟨_,f2⟩|⟨j,e0,f1,f2,f3⟩
 ·exfalso;rw[hD,has_eq]at Z;obtain⟨p,hp,ap⟩:=fJ.1 Z;obtain⟨x,hx,rfl⟩:=iY.1 (mem_sorted.1 hp);have h1:=WideAt.sameKey_eq ap;obtain⟨y,O⟩:=F.reads x hx;rw[eW O]at h1;exact f2 x hx (K.inj (h1▸eU O) g)
 ·have hj:J[j]? =lK e0:=by simpa using f2
  have aa:j < J.toList.length:=(gQ.1 f2).1;have G:(aW t (.map (lK b)) key val).run P w= .ok () (setBlock w b (.map (J.modify j (λe'=>{e' with key:=key,val:=val})) u)):=by
   simp[aW,run_underlying ht,MapKept.run_getObj_map hb,K.check w aI g,f1,hj,f3,K.stays w g,MapKept.run_setObj_map _ hb,eI,setBlock]
  rw[U]at G;have hw:w'=setBlock w b (.map (J.modify j (λe'=>{e' with key:=key,val:=val})) u):=by
   injection G
  obtain⟨m,I⟩:∃m,m=J.modify j (λe'=>{e' with key:=key,val:=val}):=⟨_,rfl⟩
  rw[<-I]at hw;have aj:w'.heap[b]? =lK (.map m u):=by rw[hw];exact heap_setBlock_same hb _
  have ao:w'.heap[r]? =lK (.mapIter (lK b) E seen c0):=by rw[hw];exact(heap_setBlock_other hb _ aq).trans hr
  obtain⟨ax,ak,ai,F2,aw,au⟩:=ag;rw[aj]at ai;cases ai;have c:m.toList=J.toList.set j {e0 with key:=key,val:=val}:=by rw[I,Array.toList_modify,modify_eq_set _ _ _ _ f2]
  have av:m.size=J.size:=by rw[I];simp
  have ab:e0∈J.toList:=iZ f2;have ad:∀x∈m.toList,x= {e0 with key:=key,val:=val}\/x∈J.toList:=λx hx=>by
   rw[c]at hx;exact(i8 hx).symm
  have Y:(eV P k R e0).1=kl:=by
   obtain⟨y,O⟩:=F.reads e0 ab;rw[eW O];have:=eU O;rw[f3,g]at this;exact(lL this).symm
  have X:(eV P k R {e0 with key:=key,val:=val}).1=kl:=by
   have hm:({e0 with key:=key,val:=val}:a6)∈m.toList:=by rw[c];exact iZ (gW aa)
   obtain⟨y,O⟩:=F2.reads _ hm;rw[eW O];have:=eU O;rw[show({e0 with key:=key,val:=val}:a6).key=key from V,g]at this;exact(lL this).symm
  have ac:m.toList.map (·.born)=J.toList.map (·.born):=by
   rw[c,List.map_set];refine fW λq=>?_
   rw[List.getElem?_set];split
   ·rename_i hq;subst hq;rw[if_pos (by simpa using aa),gR,f2];rfl
   ·rfl
  refine⟨m,u,E,seen,c0,aj,F2,by omega,au,ao,λx hx=>?_,?_,λx hx=>?_,λq hq=>?_,an,am⟩
  ·rcases ad x hx with rfl|hx
   ·exact W e0 ab
   ·exact W x hx
  ·have e1:∀a:Array a6,(leftOf a seen).size=((a.toList.map (·.born)).filter λe=>!seen.contains e).length:=λa=>by
    unfold leftOf;rw[<-aD,Array.toList_filter,List.filter_map,iF];rfl
   rw[e1,ac,<-e1,hc]
  ·rcases ad x hx with rfl|hx
   ·rw[X,<-Y];exact ah e0 ab
   ·exact ah x hx
  ·obtain⟨x,hx,ae⟩:=ar q hq;by_cases af:x=e0
   ·refine⟨{e0 with key:=key,val:=val},?_,?_⟩
    ·rw[c];exact iZ (gW aa)
    ·rw[X,<-Y,<-af];exact ae
   ·refine⟨x,?_,ae⟩;obtain⟨i,hi⟩:=iX.1 hx;rw[c];refine iZ (i:=i) ?_;rw[gV (λe=>af (by subst e;rw[f2]at hi;exact(lL hi).symm)),hi]
end
theorem HJ{α:Type}{l:List (Int×α)}(h:Eb l){k:Int}(hk:(getK l k).isSome=aN)(v:α):(B7 l k v).length=l.length:=by
 have c:∀{β:Type} (m:List (Int×β)) q,q∈keysK m↔(getK m q).isSome=aN:=λm q=>by
  unfold keysK getK;rw[lI,List.find?_isSome];simp
 have a:∀{β:Type} {m:List (Int×β)},Eb m->(keysK m).Nodup:=λh=>jK.2 (h.imp λg e=>by omega)
 have:=((List.perm_ext_iff_of_nodup (a (h.put k v)) (a h)).2 λq=>by
  rw[c,c,BH h];by_cases e:q=k
  ·rw[if_pos e,e,hk];rfl
  ·rw[if_neg e]).length_eq
 simpa[keysK]using this
theorem Aia.put{w:eX}{m r:Nat}{l:List (Int×eR)}{ks:List Int}{ty e:eQ}(h:Aia w m r l ks)(u:cF.underlying ty=lK (.map 3 e))(J:l.length < fE){k:Int}(hk:Ch k)(a:(getK l k).isSome=aN)(v:eR):
 ∃w',(aW ty (.map (lK m)) (.int .i64 k) v).run cF w= .ok () w'/\Aia w' m r (B7 l k v) ks/\w.grownBy w' (lK m)/\w'.heap.size=w.heap.size:=by
 obtain⟨h0,left,cnt,I,O,E,y⟩:=h;obtain⟨w',c,g,ht⟩:=TA I Qj u J (keyOf_int_mk dJ hk) (d:=.held v) (ps:=[]) V (by rw[Eu];exact a);refine⟨w',c,⟨h0.put hk v,left,cnt,?_,λx hx=>?_,λx hx=>?_,y⟩,ht.grown,?_⟩
 ·rw[HJ h0.1 a,<-Ym h0 hk v (g.owns.canon Qj)];exact g
 ·rw[O x hx,BH h0.1];by_cases F:x=k
  ·rw[if_pos F,F,a];rfl
  ·rw[if_neg F]
 ·rw[BH h0.1];split
  ·rfl
  ·exact E x hx
 ·obtain⟨X,G,U,j,W,rfl⟩:=ht;simp[Go.ChangeMaps.setBlock]
section
variable{C:Ctx}{t:List AV}{h:List j5}{o:bC}{K:St->Prop}{ty e:eQ}{x y z:bD}{m r:Nat}{l:List (Int×Int)}{ks:List Int}{k v:Int}
theorem Ab8(i:Nat)(E:o.op= .mapUpdate ty x y z)(F:cF.underlying ty=lK (.map 3 e))(hx:evA t x= .lit (.map (lK m)))(X:evA t y= .lit (.int .i64 k))(W:evA t z= .lit (.int .i64 v))(hk:wfB .i64 k=aN)(Z:l.length < fE)(J:(getK l k).isSome=aN)(hi:h[i]? =lK (.res (Tr (eS .i64) l ks m r)))
 (hK:K ⟨Bl t o.dst (.lit undef),h.set i (.res (Tr (eS .i64) (B7 l k v) ks m r))⟩):AOp cF C o ⟨t,h⟩ K:=by
 refine AOp.turn (ι:=Unit) (Rs:=λ_=>Tr (eS .i64) (B7 l k v) ks m r) (val:=λ_=>undef) hi (λ_=>rfl) (λT ψ w ρ H O I a=>?_) (λ_=>hK);have h1:=a x (by simp[E,bB]);have h2:=a y (by simp[E,bB]);have U:=a z (by simp[E,bB]);rw[hx]at h1;rw[X]at h2;rw[W]at U;unfold j8 at h1 h2 U;have HR:Aia w m r (mapK (eS .i64) l) ks:=O;obtain⟨w',c,j,hg,Y⟩:=HR.put F (by simpa[mapK]using Z) hk (by rw[CB,lI];exact J) (.int .i64 v);rw[<-Gs]at j;have he:(fB ρ o).run cF w= .ok .skip w':=by
  simp[fB,E,h1,h2,U,c,eI]
 rw[he];exact⟨⟨hg.os,hg.tape,hg.output,hg.size,λq hq G=>hg.block q hq λe=>G (by cases e;exact .inl V)⟩,(),rfl,j,λg u=>⟨.inl u,by have:=I g u;omega⟩⟩
theorem Amk.rng{α:Type}{e:α->eR}{l:List (Int×α)}:Amk (Tr e l ks m r) m (mapK e l):=λ_ _ h=>by
 obtain⟨h0,left,cnt,a,_⟩:=(show Aia _ m r (mapK e l) ks from h)
 exact⟨h0,by have:=a.owns;exact this⟩
theorem Vq(i:Nat)(j:o.op= .lookup ty x y aI)(a:cF.underlying ty=lK (.map 3 e))(c:∀w,(zeroValue e).run cF w= .ok (.int .i64 0) w)(hx:evA t x= .lit (.map (lK m)))(g:evA t y= .lit (.int .i64 k))(hk:wfB .i64 k=aN)(hi:h[i]? =lK (.res (Tr (eS .i64) l ks m r))):
 AT cF C t h o (.lit (.int .i64 ((getK l k).getD 0))):=by
 have h1:=KU (C:=C) i j a c hx g hk hi Amk.rng;rw[CB]at h1;cases hg:getK l k with
 |none=>rw[hg]at h1;exact h1
 |some v=>rw[hg]at h1;exact h1
theorem QA(i:Nat)(j:o.op= .lookup ty x y aN)(a:cF.underlying ty=lK (.map 3 e))(c:∀w,(zeroValue e).run cF w= .ok (.int .i64 0) w)(hx:evA t x= .lit (.map (lK m)))(g:evA t y= .lit (.int .i64 k))(hk:wfB .i64 k=aN)(hi:h[i]? =lK (.res (Tr (eS .i64) l ks m r))):
 AT cF C t h o (.tup [.lit (.int .i64 ((getK l k).getD 0)),.lit (.bool (getK l k).isSome)]):=by
 have h1:=Iq (C:=C) i j a c hx g hk hi Amk.rng;rw[CB]at h1;cases hg:getK l k with
 |none=>rw[hg]at h1;exact h1
 |some v=>rw[hg]at h1;exact h1
end
end Mu
namespace Mu
open Go Go.RowKit Go.Proofs
variable{S:Nat->Prop}{cs:List eR}{l:List Int}{v:eR}{w:eX}
theorem Ad3{cells:List eR}(h1:w.ownsRow 0 3 tInt.size v l.length cells)(h2:∀i d,l[i]? =lK d->tInt.RS w S ((cells.drop (i * tInt.size)).take tInt.size) d):Gf w 0 v l/\Bg l:=by
 have E:cells.length=l.length:=by have:=h1.1;rw[show tInt.size=1 from V,lC]at this;exact this
 have a:∀i d,l[i]? =lK d->cells[i]? =lK (eS .i64 d)/\wfI .i64 d:=λi d u=>by
  obtain⟨e,g⟩:=DJ.1 (h2 i d u);rw[show tInt.size=1 from V,lC,jY,iA]at e;cases hc:cells[i]? with
  |none=>rw[hc]at e;cases e
  |some c=>
   rw[hc]at e;simp only[lN,List.cons.injEq,and_true]at e;exact⟨by rw[e],g⟩
 have hc:cells=l.map (eS .i64):=by
  apply fW;intro i;by_cases hi:i < l.length
  ·rw[gR,gO hi];exact(a i _ (gO hi)).1
  ·rw[gP (by omega),gP (by simp;omega)]
 refine⟨.of h1 V hc,λr j=>?_⟩;obtain⟨i,hi⟩:=iX.1 j;exact(a i r hi).2
theorem NV(H:(rowR v 3 tInt l).R w S):Gf w 0 v l/\Bg l:=by
 obtain⟨cells,h1,h0,h2⟩:=H;exact Ad3 h1 h2
theorem XZ(g:Gf w 0 v l)(c:Bg l):(rowR v 3 tInt l).R w S:=by
 refine⟨_,g,by decide,λi d a=>?_⟩;show tInt.RS w S (((l.map (eS .i64)).drop (i * 1)).take 1) d;have hi:(l.map (eS .i64))[i]? =lK (.int .i64 d):=by rw[gR,a];rfl
 rw[lC,jY,iA,hi];exact DJ.2 ⟨rfl,c d (iZ a)⟩
theorem XM{S':Nat->Prop}(h:(rowR v 3 tInt l).R w S):(rowR v 3 tInt l).R w S':=let ⟨h1,h2⟩:=NV h;XZ h1 h2
section
variable{P:bE}{C:Ctx}{o:bC}{t:List AV}{h:List j5}{K:St->Prop}
theorem Ao8(h:Gf w 0 v l){g:Nat}(hg:Bu v=lK g):v.ownBlock=lK g:=by
 rcases h.2 with⟨rfl,_⟩|⟨a,cap,cur,rfl,_⟩
 ·cases hg
 ·exact hg
theorem VM(i:Nat){ty:eQ}{x y:bD}{bytes:Nat}{u:List Int}(ho:o.op= .call {callee:=.builtin .append,args:=#[x,y],argTypes:=#[ty,ty]})(hT:NK P ty=lK (3,1,bytes))
 (hx:evA t x= .lit v)(hi:h[i]? =lK (.res (rowR v 3 tInt l)))(hy:evA t y= .bs tInt u)(hb:Fj (l.length+u.length) bytes=aN)
 (hK:∀v':eR,K ⟨Bl t o.dst (.lit v'),h.set i (.res (rowR v' 3 tInt (l++u)))⟩):AOp P C o ⟨t,h⟩ K:=by
 refine AOp.turn (ι:=eR) (Rs:=λv'=>rowR v' 3 tInt (l++u)) (val:=λv'=>v') hi (λ_=>rfl) (λS ψ w ρ H hR am W=>?_) hK;obtain⟨aa,ae⟩:=NV hR;have O:=W x (by rw[ho];exact aE.2 (.inr (by simp)));have E:=W y (by rw[ho];exact aE.2 (.inr (by simp)));rw[hx]at O;rw[hy]at E;unfold j8 at O E;obtain⟨h1,ti,zz,h2,h3,h4,h5,h6⟩:=C9 hT;obtain⟨A,c,X⟩:=Ci E;rw[X]at E;obtain⟨news,af,Y,ag,ah⟩:=IU E λcs d ak=>JP _ _ _ _ ak
 have F:news=u.map (eS .i64)/\Bg u:=by
  have ab:news.length=u.length:=by rw[af];exact lC _
  have hg:∀j d,u[j]? =lK d->news[j]? =lK (eS .i64 d)/\wfI .i64 d:=λj d hd=>by
   have:=ag j d hd;rw[show tInt.size=1 from V,lC,jY,iA]at this;have ai:j < news.length:=by rw[ab];exact(gQ.1 hd).1
   rw[gO ai]at this⊢;obtain⟨h7,h8⟩:=DJ.1 this;exact⟨by simpa using h7,h8⟩
  refine⟨fW λj=>?_,λr hr=>?_⟩
  ·rw[gR];cases hd:u[j]? with
   |none=>rw[gP (by rw[ab];exact List.getElem?_eq_none_iff.1 hd)];rfl
   |some d=>exact(hg j d hd).1
  ·obtain⟨j,hj⟩:=List.getElem?_of_mem hr;exact(hg j r hj).2
 have I:=hb;unfold Fj at I;simp only[zaf]at I;obtain⟨v',w',Z,U,G,al⟩:=Ll (P:=P) (ty:=o.type) (c:=c) (base:=0) h1 h2 h3 h4 h5 h6 (lG) aa (Y w λ_ _=>rfl) ah I.1 I.2 (lF _);have aj:(fB ρ o).run P w= .ok (.value v') w':=by
  unfold fB;simp only[ho,resolve,invoke,builtin,List.map_toArray,iO,iP,O,X,Z,zam]
 rw[aj];have a:Gf w' 0 v' (l++u):=Gf.of (n:=l.length+u.length) U (by simp) (by rw[iM,F.1]);have ad:∀g,v.ownBlock=lK g->(rowR v 3 tInt l).F g:=λg hg=>AU hg
 refine⟨⟨G.os,G.tape,G.output,G.size,λq hq hn=>G.block q hq λe=>hn (ad q e.symm)⟩,v',rfl,XZ a (λr hr=>(iQ.1 hr).elim (ae r) (F.2 r)),λg hg=>?_⟩;have J:=Ao8 a hg;have ac:=(a.lt g J).2;rcases al with e1|e1
 ·exact⟨.inl (ad g (e1▸J)),ac⟩
 ·rw[e1]at J;cases J;exact⟨.inr (kY _),ac⟩
end
structure Pair where
 a:Int
 b:Int
def Dk:Ty Pair:=(tInt.cons (tInt.cons Dj)).via (λx=>⟨x.1,x.2.1⟩) (λd=>(d.a,d.b,()))
theorem Kv{x:Pair}:Dk.RS w S cs x↔cs= [.int .i64 x.a,.int .i64 x.b]/\wfI .i64 x.a/\wfI .i64 x.b:=by
 constructor
 ·rintro⟨⟨_,_,rfl,⟨rfl,h0⟩,_,_,rfl,⟨rfl,h1⟩,rfl⟩,_⟩;exact⟨rfl,h0,h1⟩
 ·rintro⟨rfl,h0,h1⟩;exact⟨⟨[_],_,rfl,⟨rfl,h0⟩,[_],_,rfl,⟨rfl,h1⟩,rfl⟩,rfl⟩
@[reducible] def CP(x:Pair):List AV:=[.lit (.int .i64 x.a),.lit (.int .i64 x.b)]
theorem YC:Enc Dk CP:=by
 intro w S h ψ cs d H;obtain⟨rfl,h0,h1⟩:=Kv.1 H;simp only[CP,Ae,j8];exact⟨_,_,rfl,rfl,_,_,rfl,rfl,rfl⟩
theorem TZ:SK Dk:=D4 YC λd x hx=>by
 simp only[CP,or_false,zak]at hx;rcases hx with rfl|rfl <;> first|exact .inl ⟨_,rfl,rfl⟩|exact .inr ⟨_,_,_,rfl⟩
instance Axb:kF Dk CP:=⟨YC,TZ,by decide⟩
structure okPair(x:Pair):Prop where
 a:wfI .i64 x.a
 b:wfI .i64 x.b
theorem XU{h:List j5}{ψ:Nat->eR}{x:Pair}(a:okPair x)(H:Ae w S h ψ (CP x) cs):Dk.RS w S cs x:=by
 simp only[CP,Ae,j8]at H;obtain⟨_,_,rfl,rfl,_,_,rfl,rfl,rfl⟩:=H;exact Kv.2 ⟨rfl,a.a,a.b⟩
instance Axa:Inhabited Pair:=⟨⟨0,0⟩⟩
def RW(x:Pair):Bool:=wfB .i64 x.a&&wfB .i64 x.b
theorem ZP{x:Pair}(h:RW x=aN):okPair x:=by
 unfold RW at h;simp only[aG]at h;exact⟨h.1,h.2⟩
theorem Am5:Eq cF 41=lK [(0,1),(1,1)]:=by kernel_rfl
instance Aw9:AG cF 41 aN 2:=⟨by kernel_rfl⟩
instance Aw8:SZ cF 41 2:=⟨by kernel_rfl⟩
instance Aw7:FO cF 41 0 0:=⟨by kernel_rfl⟩
instance Aw6:FO cF 41 1 1:=⟨by kernel_rfl⟩
instance Aw5:ZC cF 41 [.int .i64 0,.int .i64 0]:=⟨by kernel_rfl⟩
instance Aw4:TyOf cF 41 _ Dk:=⟨trivial⟩
instance Aw3:AG cF 38 aI 1:=⟨by kernel_rfl⟩
instance As5:SZ cF 38 1:=⟨by kernel_rfl⟩
instance As4:ES cF 38 2:=⟨by kernel_rfl⟩
instance As3:SL cF 38:=⟨by kernel_rfl⟩
instance As2:RT cF 38 41 2 16:=⟨by kernel_rfl⟩
open Go.Maps Go.Shelf
variable{D:aS Unit}{K:St->Prop}{L:List Lit}{S:Pair->Bool}{b:Nat}{c:Int}{ks:List Pair}{m n:Nat}{q:Pair}{r:Nat}{ty:eQ}{v:eR}{w w':eX}{x:bD}{y:Pair}
def Acg(x:Pair):eR:=.agg #[.int .i64 x.a,.int .i64 x.b]
def ZZ(x:Pair):Lit:=.string (keyBytes [.int .i64 x.a,.int .i64 x.b])
theorem Ana:Keyed cF 41:=Keyed.of_law (deep_law (m:=2) (kX V) (by kernel_rfl) (by kernel_rfl) (by kernel_rfl))
theorem Ahm:cF.cellsOf 41=2:=by kernel_rfl
theorem An7:cF.cellsOf 3=1:=by kernel_rfl
theorem LS:cF.keyLits (n+1) 3 [v]=lK L↔∃a,v= .int .i64 a/\(Lit.int .i64 a).wf=aN/\L= [.int .i64 a]:=by
 unfold Program.keyLits;rw[dJ];constructor
 ·intro h;cases v <;> simp only[reduceCtorEq]at h
  rename_i k a;split at h
  ·rename_i hc;obtain⟨rfl,g⟩:=hc;exact⟨a,rfl,g,(lL h).symm⟩
  ·cases h
 ·rintro⟨a,rfl,g,rfl⟩;simp[g]
theorem Af0{vs:List eR}(h:cF.keyLits (n+2) 41 vs=lK L):∃a b,vs= [.int .i64 a,.int .i64 b]/\(Lit.int .i64 a).wf=aN/\(Lit.int .i64 b).wf=aN/\L= [.int .i64 a,.int .i64 b]:=by
 rw[show n+2=(n+1)+1 from V]at h;unfold Program.keyLits at h;rw[dL]at h;simp only[Ahm]at h;split at h
 ·rename_i hc;obtain⟨E,_⟩:=hc;match vs,E with
  | [u,v],_=>
   simp[An7]at h;cases h1:cF.keyLits (n+1) 3 [u]with
   |none=>rw[h1]at h;simp at h
   |some G=>
    cases h2:cF.keyLits (n+1) 3 [v]with
    |none=>rw[h1,h2]at h;simp at h
    |some F=>
     obtain⟨a,rfl,j,rfl⟩:=LS.1 h1;obtain⟨b,rfl,g,rfl⟩:=LS.1 h2;rw[h1,h2]at h;simp at h;exact⟨a,b,rfl,j,g,h.symm⟩
 ·cases h
theorem Uk{a b:Int}(j:(Lit.int .i64 a).wf=aN)(g:(Lit.int .i64 b).wf=aN):cF.keyLits (n+2) 41 [.int .i64 a,.int .i64 b]=lK [.int .i64 a,.int .i64 b]:=by
 rw[show n+2=(n+1)+1 from V];unfold Program.keyLits;rw[dL];have h1:=(LS (n:=n) (v:=.int .i64 a)).2 ⟨a,rfl,j,rfl⟩;have h2:=(LS (n:=n) (v:=.int .i64 b)).2 ⟨b,rfl,g,rfl⟩;simp[Ahm,An7,h1,h2]
theorem Atv:Nat.ble 1 cF.types.size=aN:=by kernel_rfl
theorem Amv:∃n,cF.types.size+1=n+2:=by
 have h:=kX Atv;generalize cF.types.size=m at h;exact⟨m - 1,by omega⟩
theorem Yi{l:Lit}(h:keyOf cF 41 v=lK l):∃x,okPair x/\v=Acg x/\l=ZZ x:=by
 obtain⟨xs,L,rfl,h1,rfl⟩:=keyOf_top (by kernel_rfl) h;obtain⟨n,u⟩:=Amv;rw[u]at h1;obtain⟨a,b,e,j,g,rfl⟩:=Af0 h1;refine⟨⟨a,b⟩,⟨j,g⟩,?_,rfl⟩;have E:xs= #[eS .i64 a,eS .i64 b]:=Array.toList_inj.1 e;rw[E];rfl
theorem MG{x:Pair}(h:okPair x):keyOf cF 41 (Acg x)=lK (ZZ x):=by
 obtain⟨n,a⟩:=Amv;have hk:cF.keyType 41=aN:=by kernel_rfl
 have g:(Acg x).formed cF 41=aN:=by
  unfold Acg Value.formed;rw[dL];simp[Ahm]
 unfold keyOf;rw[dL];simp only[hk,g,Bool.and_self,if_true];rw[a];show(cF.keyLits (n+2) 41 [.int .i64 x.a,.int .i64 x.b]).map _=_;rw[Uk h.a h.b];rfl
theorem Ye{x:Pair}(hx:okPair x)(a:okPair y)(h:ZZ x=ZZ y):x=y:=by
 have h1:=MG hx;rw[h,<-MG a]at h1;have h2:=Ana.inj (h1.trans (MG a)) (MG a);have g:x.a=y.a/\x.b=y.b:=by
  clear h h1;unfold Acg at h2;simpa using h2
 cases x;cases y;exact congr (congrArg Pair.mk g.1) g.2
theorem E6{α:Type}[DecidableEq α]:∀{l m:List α},l.Nodup->(∀x∈l,x∈m)->l.length<=m.length
 | [],_,_,_=>lF _
 |x::l,m,a,h=>by
  have a:=jF.1 a;have hx:=h x (by simp);have:=E6 (m:=m.erase x) a.2 λy g=>(iU (λe=>a.1 (by subst e;exact g))).2 (h y (by simp[g]))
  rw[iD hx]at this;have:=iI hx;simp only[iC];omega
instance As1:DecidableEq Pair:=λx y=>decidable_of_iff (x.a=y.a/\x.b=y.b) ⟨λ⟨h1,h2⟩=>by cases x;cases y;simp_all,λh=>by subst h;exact⟨rfl,rfl⟩⟩
def Fk:List Int->List Pair
 | []=>[]
 |a::R=>R.map (λb=>⟨a,b⟩)++Fk R
def Aoe(w:eX)(b:Nat)(S:Pair->Bool):Prop:=∃(D:aS Unit),w.ownsMap cF 41 (fF cF 3) b (a7 D) D/\∀x,okPair x->has D (ZZ x)=S x
theorem Q0(h:w.ownsMap cF 41 (fF cF 3) b n D):w.ownsMap cF 41 (fF cF 3) b (a7 D) D:=by
 obtain⟨g,a,h1,h2,j,rfl⟩:=h;refine⟨g,a,h1,h2,?_,rfl⟩;rw[size_eq,length_read];exact kY _
theorem Aoe.lt(h:Aoe w b S):b < w.heap.size:=by
 obtain⟨D,h1,_⟩:=h;exact h1.lt
theorem Aoe.keep(h:Aoe w b S)(hk:w'.heap[b]? =w.heap[b]?):Aoe w' b S:=by
 obtain⟨D,⟨j,a,h1,h2⟩,g⟩:=h;exact⟨D,⟨j,a,hk.trans h1,h2⟩,g⟩
theorem Adw{L:List Pair}(h:w.ownsMap cF 41 (fF cF 3) b n D)(U:∀x,okPair x->has D (ZZ x)=S x)(W:∀x,okPair x->S x=aN->x∈L):a7 D<=L.length:=by
 obtain⟨J,rfl,g,_⟩:=h.entries Ana;obtain⟨F,E,u⟩:=h.keysOf;obtain rfl:J=F:=by simpa using E
 haveI:DecidableEq Lit:=λa b=>Classical.propDecidable (a=b)
 suffices j:(J.map λp=>p.1).length<=(L.map ZZ).length by simpa[size_eq]using j
 refine E6 (jK.2 g) λl O=>?_
 obtain⟨p,I,rfl⟩:=iY.1 O;obtain⟨v,G⟩:=u p I;obtain⟨x,hx,_,e⟩:=Yi G;refine iY.2 ⟨x,W x hx ?_,e.symm⟩;rw[<-U x hx,has_eq];exact fJ.2 ⟨p,I,by rw[<-e];exact WideAt.sameKey_self (Ana.key G)⟩
def Amc(S:Pair->Bool)(y:Pair):Pair->Bool:=λx=>S x||decide (x=y)
theorem Aoe.put{g:eX}{d:aS Unit}(j:okPair y)(a:w.ownsMap cF 41 (fF cF 3) b n D)(u:∀x,okPair x->has D (ZZ x)=S x)
 (h1:g.ownsMap cF 41 (fF cF 3) b (n+1) (D.put (ZZ y) d)):Aoe g b (Amc S y):=by
 refine⟨_,Q0 h1,λx hx=>?_⟩;by_cases e:x=y
 ·subst e;rw[has_put_same a.isMap (Ana.key (MG hx))];simp[Amc]
 ·rw[has_put_other (λh=>e (Ye hx j h)),u x hx];simp[Amc,e]
def DP(S:Pair->Bool)(m:Nat):Res:=⟨[],λg=>g=m,λw _=>Aoe w m S,λh hk _ _=>h.keep (hk m V)⟩
section
variable{C:Ctx}{t:List AV}{h:List j5}{o:bC}
theorem Amp{y z:bD}(i:Nat){L:List Pair}(F:o.op= .mapUpdate ty x y z)(I:cF.underlying ty=lK (.map 41 3))(hi:h[i]? =lK (.res (DP S m)))
 (hx:evA t x= .lit (.map (lK m)))(Z:evA t y= .agg (CP q))(Y:evA t z= .lit (.int .i64 1))(hL:∀x,okPair x->S x=aN->x∈L)(hl:L.length < fE)(hq:okPair q)(hK:K ⟨Bl t o.dst (.lit undef),h.set i (.res (DP (Amc S q) m))⟩):AOp cF C o ⟨t,h⟩ K:=by
 refine AOp.turn (ι:=Unit) (Rs:=λ_=>DP (Amc S q) m) (val:=λ_=>undef) hi (λ_=>rfl) (λT ψ w ρ H O ab g=>?_) (λ_=>hK);have h1:=g x (by simp[F,bB]);have h2:=g y (by simp[F,bB]);have U:=g z (by simp[F,bB]);rw[hx]at h1;rw[Z]at h2;rw[Y]at U;unfold j8 at h1 h2 U;obtain⟨cs,h2,J⟩:=h2;obtain⟨rfl,_⟩:=Kv.1 (XU hq J);have h2:ρ y=Acg q:=h2;obtain⟨D,a,X⟩:=(show Aoe w m S from O)
 have aa:=Adw a X hL;obtain⟨w',E,j,hg⟩:=a.update Ana I (by omega) (MG hq) (plainElem_int dJ X6);have u:=Aoe.put hq a X j;have e:(fB ρ o).run cF w= .ok .skip w'\/(fB ρ o).run cF w= .ok (.value undef) w':=by
  simp[fB,F,h1,h2,U,E,eI]
 have W:Turns w T (DP S m).F (λ_:Unit=>DP (Amc S q) m) (λ_=>undef) undef w':=
  ⟨Bs hg |> λG=>⟨G.os,G.tape,G.output,G.size,λk hk hn=>G.block k hk λe=>hn (by cases e;rfl)⟩,(),rfl,u,λk hk=>⟨.inl hk,by
   have hk:k=m:=hk;subst hk;exact u.lt⟩⟩
 rcases e with e|e
 ·rw[e];exact W
 ·rw[e];exact W
end
def Ari(w:eX)(m r:Nat)(S:Pair->Bool)(ks:List Pair):Prop:=∃(D:aS Unit) (left:Lit->Bool) (cnt:Nat),
 w.ranges cF 41 (fF cF 3) m r (a7 D) D left cnt/\(∀x,okPair x->has D (ZZ x)=S x)/\(∀x,okPair x->left (ZZ x)=(S x&&!ks.contains x))/\(∀x∈ks,okPair x/\S x=aN)/\ks.Nodup
def AtP(w:eX)(r:Nat)(q:Pair)(c:Int):Prop:=(aV (.pointer (lK ⟨r,0,lJ⟩))).run cF w= .ok (.tuple #[Acg q,.int .i64 c]) w
theorem V9{H:Type}{P:bE}{k:eQ}{R:eR->Option (aS H×List a8)}{D:aS H}{left:Lit->Bool}{cnt:Nat}(h:w.ranges P k R b r n D left cnt)(G:w'.heap[b]? =w.heap[b]?)(E:w'.heap[r]? =w.heap[r]?):w'.ranges P k R b r n D left cnt:=by
 obtain⟨J,g,a,seen,O,h1,F,u,I,h2,j⟩:=h;exact⟨J,g,a,seen,O,G.trans h1,F,u,I,E.trans h2,j⟩
theorem Ari.keep(h:Ari w m r S ks)(g:w'.heap[m]? =w.heap[m]?)(a:w'.heap[r]? =w.heap[r]?):Ari w' m r S ks:=by
 obtain⟨D,left,cnt,h1,h2⟩:=h;exact⟨D,left,cnt,V9 h1 g a,h2⟩
theorem AtP.keep(h:Ari w m r S ks)(j:AtP w r q c)(O:w'.heap[m]? =w.heap[m]?)(J:w'.heap[r]? =w.heap[r]?):AtP w' r q c:=by
 obtain⟨D,left,cnt,⟨E,a,g,seen,F,h1,_,_,_,h2,_⟩,_⟩:=h;unfold AtP at j⊢;have Y:(fC r).run cF w= .ok (.mapIter (lK m) g seen F) w:=by simp[fC,Sem.run,h2]
 have X:(fC m).run cF w= .ok (.map E a) w:=by simp[fC,Sem.run,h1]
 have W:(fC r).run cF w'= .ok (.mapIter (lK m) g seen F) w':=by simp[fC,Sem.run,J,h2]
 have U:(fC m).run cF w'= .ok (.map E a) w':=by simp[fC,Sem.run,O,h1]
 unfold aV at j⊢;simp only[Sem.run_bind,Y,W,eJ]at j⊢;cases G:seen.back? with
 |none=>rw[G]at j;simp[stuck]at j
 |some u=>
  rw[G]at j;simp only[Sem.run_bind,X,U,eJ]at j⊢;by_cases hc:a !=F
  ·simp[hc,unsupported]at j
  ·cases I:E.find? (λx=>x.born ==u)with
   |none=>simp[hc,I,unsupported]at j
   |some e=>
    simp[hc,I]at j⊢;exact j
def Aot(S:Pair->Bool)(ks:List Pair)(m r:Nat):Res:=⟨[],λg=>g=m\/g=r,λw _=>Ari w m r S ks,λh hk _ _=>h.keep (hk m (.inl V)) (hk r (.inr V))⟩
def atR(S:Pair->Bool)(ks:List Pair)(q:Pair)(c:Int)(m r:Nat):Res:=⟨[],λg=>g=m\/g=r,λw _=>Ari w m r S ks/\AtP w r q c,λh hk _ _=>⟨h.1.keep (hk m (.inl V)) (hk r (.inr V)),AtP.keep h.1 h.2 (hk m (.inl V)) (hk r (.inr V))⟩⟩
section
variable{C:Ctx}{t:List AV}{h:List j5}{o:bC}
theorem Ab7(i:Nat)(F:o.op= .range ty x)(u:cF.underlying ty=lK (.map 41 3))(hi:h[i]? =lK (.res (DP S m)))
 (hx:evA t x= .lit (.map (lK m)))(W:∀r,K ⟨Bl t o.dst (.lit (.pointer (lK ⟨r,0,lJ⟩))),h.set i (.res (Aot S [] m r))⟩):AOp cF C o ⟨t,h⟩ K:=by
 refine AOp.turn (ι:=Nat) (Rs:=λr=>Aot S [] m r) (val:=λr=>.pointer (lK ⟨r,0,lJ⟩)) hi (λ_=>rfl) (λT ψ w ρ H E U j=>?_) W;have h1:=j x (by simp[F,bB]);rw[hx]at h1;unfold j8 at h1;obtain⟨D,a,I⟩:=(show Aoe w m S from E)
 obtain⟨w',g,O,hg,J⟩:=a.range Ana u;have e:(fB ρ o).run cF w= .ok (.value (.pointer (lK ⟨w.heap.size,0,lJ⟩))) w':=by
  simp[fB,F,h1,g,eI]
 rw[e];have Y:=a.lt;refine⟨Bs hg |> λG=>⟨G.os,G.tape,G.output,G.size,λk hk X=>G.block k hk λe=>by cases e⟩,w.heap.size,rfl,⟨D,_,_,O,I,λx hx=>by simp[I x hx],(λ_ hx=>by cases hx),jG⟩,λk hk=>?_⟩;rcases(show k=m\/k=w.heap.size from hk)with rfl|rfl
 ·exact⟨.inl V,by omega⟩
 ·exact⟨.inr (kY _),by omega⟩
theorem Ain(i:Nat)(ho:o.op= .next x aI)(hi:h[i]? =lK (.res (Aot S ks m r)))
 (hx:evA t x= .lit (.pointer (lK ⟨r,0,lJ⟩)))(ae:(∀x,okPair x->S x=aN->x∈ks)->K ⟨Bl t o.dst (.lit (.tuple #[.bool aI])),h.set i (.res (Aot S ks m r))⟩)
 (ad:∀q c,okPair q->S q=aN->q∉ks->K ⟨Bl t o.dst (.lit (.tuple #[.bool aN,Acg q,.int .i64 c])),h.set i (.res (atR S (ks++[q]) q c m r))⟩):AOp cF C o ⟨t,h⟩ K:=by
 refine AOp.turn (ι:={p:Option (Pair×Int) // match p with|none=>∀x,okPair x->S x=aN->x∈ks|some (q,_)=>okPair q/\S q=aN/\q∉ks})
  (Rs:=λp=>match p.1 with|none=>Aot S ks m r|some (q,c)=>atR S (ks++[q]) q c m r) (val:=λp=>match p.1 with|none=>.tuple #[.bool aI]|some (q,c)=>.tuple #[.bool aN,Acg q,.int .i64 c]) hi ?_ (λT ψ w ρ H O ai U=>?_) ?_
 ·rintro⟨_|⟨q,c⟩,I⟩ <;> rfl
 ·have h1:=U x (by simp[ho,bB]);rw[hx]at h1;unfold j8 at h1;obtain⟨D,left,cnt,Z,hD,hl,ac,ab⟩:=(show Ari w m r S ks from O)
  have hm:=Z.owns.lt;have X:=Z.lt;rcases Z.next Ana o.type with⟨_,aa,j⟩|⟨ag,v,kl,y,w',af,u,F,hv,_,j,Y,_,hg,ah,J⟩
  ·have e:(fB ρ o).run cF w= .ok (.value (.tuple #[.bool aI])) w:=by
    simp[fB,ho,h1,j,eI]
   rw[e];refine⟨⟨rfl,rfl,rfl,kY _,λ_ _ _=>rfl⟩,⟨lJ,λx hx W=>?_⟩,rfl,O,λk hk=>⟨.inl hk,?_⟩⟩
   ·have:=hl x hx;rw[aa,W]at this;simpa using this
   ·rcases(show k=m\/k=r from hk)with rfl|rfl
    ·exact hm
    ·exact X
  ·obtain⟨q,hq,rfl,rfl⟩:=Yi u;obtain⟨c,rfl,_⟩:=plainElem_int_inv dJ hv;have g:=hl q hq;rw[F]at g;have g:S q=aN/\q∉ks:=by simpa using g.symm
   have e:(fB ρ o).run cF w= .ok (.value (.tuple #[.bool aN,Acg q,.int .i64 c])) w':=by
    simp[fB,ho,h1,j,eI]
   rw[e];refine⟨Bs hg |> λG=>⟨G.os,G.tape,G.output,G.size,λk hk hn=>G.block k hk λe=>hn (by cases e;exact .inr V)⟩,⟨lK (q,c),hq,g.1,g.2⟩,rfl,⟨⟨D,_,_,Y,hD,λx hx=>?_,λx hx=>?_,?_⟩,J⟩,λk hk=>⟨.inl hk,?_⟩⟩
   ·rw[hl x hx];by_cases E:x=q
    ·subst E;rw[WideAt.sameKey_self (Ana.key u)];simp
    ·have W:(ZZ x).sameKey (ZZ q)=aI:=Maps.sameKey_ne λe=>E (Ye hx hq e)
     rw[W];simp[E]
   ·rcases iQ.1 hx with hx|hx
    ·exact ac x hx
    ·simp only[or_false,zak]at hx;subst hx;exact⟨hq,g.1⟩
   ·rw[jE];exact⟨ab,by simp,λa ha b hb=>by
     simp only[or_false,zak]at hb;subst hb;intro e;subst e;exact g.2 ha⟩
   ·rcases(show k=m\/k=r from hk)with rfl|rfl <;> omega
 ·rintro⟨_|⟨q,c⟩,I⟩
  ·exact ae I
  ·exact ad q c I.1 I.2.1 I.2.2
theorem Vt(i:Nat)(g:o.op= .entry x)(hi:h[i]? =lK (.res (atR S ks q c m r)))(hx:evA t x= .lit (.pointer (lK ⟨r,0,lJ⟩))):
 AT cF C t h o (.tup [.agg (CP q),.lit (.int .i64 c)]):=
 AL λS' ψ w ρ H a=>by
  have h1:=a x (by simp[g,bB]);rw[hx]at h1;unfold j8 at h1;obtain⟨_,j⟩:=(show Ari w m r S ks/\AtP w r q c from(H.blk i _ hi).2)
  refine⟨.tuple #[Acg q,.int .i64 c],by simp[fB,g,h1,(show _=_ from j),eI],?_⟩;simp only[j8,Ae,CP];exact⟨[Acg q,.int .i64 c],rfl,_,_,rfl,⟨[.int .i64 q.a,.int .i64 q.b],rfl,_,_,rfl,rfl,_,_,rfl,rfl,rfl⟩,_,_,rfl,rfl,rfl⟩
end
end Mu
namespace Mu
open Go Go.RowKit Go.Proofs
variable{S:Nat->Prop}{W:eX}{f:kL}{v:eR}{vs:List eR}{x:AV}{ψ:Nat->eR}
section
variable{w w':eX}{cs:List eR}{T:eQ}
end
def By(x:Ins):List Int:=readsC x++if Bd x then [x.d]else []
theorem Lp{x:Ins}(h:okIns x):Bg (By x):=λr hr=>by
 rcases iQ.1 hr with hr|hr
 ·exact FU h r hr
 ·split at hr
  ·simp only[jB]at hr;subst hr;exact h.d
  ·cases hr
instance:AG cF 59 aI 1:=⟨by kernel_rfl⟩
instance:SZ cF 59 1:=⟨by kernel_rfl⟩
instance:ES cF 59 1:=⟨by kernel_rfl⟩
instance:SL cF 59:=⟨by kernel_rfl⟩
instance:RT cF 59 66 1 24:=⟨by kernel_rfl⟩
section
variable{P:bE}{C:Ctx}{t:List AV}{h:List j5}{o:bC}
end
theorem VW{b:kA}(h:Cw.bulk b<=2097152):smallB b:=⟨kZ (Jq b) h,λx hx=>by
 have h1:=W8 hx;have h2:=Sr x;have a:=Ee Wp x.args;omega⟩
theorem Zn(h:Dc.bulk f<=2097152):smallF f:=⟨kZ (GI f) h,λb a=>VW (kZ (Fw a) h)⟩
theorem Af7(h:Dc.bulk f<=2097152):∀b∈f.blocks,b.ins.length+1<=2097152:=λb a=>by
 have h1:=Fw a;have h2:=Hm b;have g:=Ee Ae3 b.ins;omega
theorem Aee(l:List Ins):(l.flatMap readsC).length<=DU Ei.bulk l:=by
 induction l with
 |nil=>simp[DU]
 |cons x l a=>
  have h1:=KC x;have h2:=Sr x;have g:=Ee Wp x.args;simp only[gF,iB,DU];omega
theorem Tx(l:List kA):(l.flatMap λb=>b.ins.flatMap readsC).length<=DU Cw.bulk l:=by
 induction l with
 |nil=>simp[DU]
 |cons b l a=>
  have h1:=Aee b.ins;have h2:=Hm b;simp only[gF,iB,DU];omega
theorem Zx(h:Dc.bulk f<=2097152):(Ce f).length<=2097152:=by
 have h1:=Tx f.blocks;have h2:=L7 f;unfold Ce;omega
theorem Alg{P:bE}{f:aU}{args:List AV}{u:eR}(h:Fn P f args (.lit u))(g:Ae W (λk=>k < W.heap.size) [] ψ0 args vs):aP P f vs.toArray W λe W'=>e= .returned u/\Below W.heap.size W W':=
 (h.2 W _ vs (λ_ h=>h) g).mono λe W' ⟨v,j,E,_,_,_,_,a⟩=>by
  unfold j8 at a;exact⟨by rw[j,a],E⟩
theorem Ajr{h:List j5}{cs:List eR}(a:Dc.RS W S cs f):j8 W S h ψ (.agg (Ak f)) (.agg cs.toArray):=by
 unfold j8;exact⟨cs,rfl,EncOf.ok (T:=Dc) W S h ψ cs f a⟩
theorem Ajs{h:List j5}(a:j8 W S h ψ x v):Ae W S h ψ [x] [v]:=by
 unfold Ae;exact⟨v,[],rfl,a,by unfold Ae;rfl⟩
theorem Ad8{h:List j5}{l:List AV}(a:j8 W S h ψ x v)(g:Ae W S h ψ l vs):Ae W S h ψ (x::l) (v::vs):=by
 unfold Ae;exact⟨v,vs,rfl,a,g⟩
end Mu
namespace Mu
open Go
section
variable{f:kL}{b:Nat}{bl:kA}{x:Ins}(hb:f.blocks[b]? =lK bl)
include hb
end
theorem Dh:∀{l m:List Int},l.Nodup->(∀x∈l,x∈m)->l.length<=m.length
 | [],_,_,_=>lF _
 |x::l,m,a,h=>by
  rw[jF]at a;have hx:=h x (by simp);have:=Dh (m:=m.erase x) a.2 λy g=>(iU (λe=>a.1 (by subst e;exact g))).2 (h y (by simp[g]))
  rw[iD hx]at this;have:0 < m.length:=iI hx;simp only[iC];omega
open Go.RowKit Go.Proofs
variable{R:List Int}{S:Pair->Bool}{a:Int}{b:Nat}{f:kL}{i k:Nat}{l:List Int}{n:Int}{q:Ins×List Int}{r:Int}{x y:Pair}{α β:Type}
section
variable{P:bE}{C:Ctx}{t:List AV}{h:List j5}{o:bC}
end
def Ahx(f:kL):Int:=if(6:Int) < (if(0:Int) > f.args then 0 else f.args)then 6 else(if(0:Int) > f.args then 0 else f.args)
def argsK(f:kL):Nat:=(Ahx f).toNat
theorem Gz(f:kL):Ahx f=(argsK f:Int)/\argsK f<=6:=by
 unfold argsK Ahx;constructor <;> (split <;> split <;> omega)
theorem Vg(f:kL):Fn cF 59 [.agg (Ak f)] (.lit (.int .i64 (argsK f:Int))):=by
 refine AQ Tryz.func59 V (by kernel_rfl) V Tryz.ntmps59 λC g=>?_
 refine nS ?_;refine rCS ?_;refine rCS ?_;refine Aw ?_;rw[<-(Gz f).1];exact⟨.inr V,kG V⟩
def Aak:List Int:=[8,9,10,11,12,13,4]
def Aiv:List Int:=[16,17,18,19,20,21,22,23]
def Aix:List Int:=[24,25,26,27,28,29]
def Ajg(i:Int):List Int:=if i=0 then Aak else if i=1 then Aiv else Aix
theorem Ay2:Vf cF 153=lK (3,1):=by kernel_rfl
theorem z3:Cx cF 153=lK [.slice lJ 0 0,.slice lJ 0 0,.slice lJ 0 0]:=by kernel_rfl
theorem AAk:Rl cF 153=lK (aN,3):=by kernel_rfl
instance Atr:ZC cF 153 [.slice lJ 0 0,.slice lJ 0 0,.slice lJ 0 0]:=⟨by kernel_rfl⟩
instance Atq:SZ cF 153 3:=⟨by kernel_rfl⟩
theorem Atu(h:(Lit.int .i64 n).wf=aN):wfI .i64 n:=h
theorem F3{h:List j5}:∀l:List Int,Bg l->Fits h tInt (l.map λn=>.lit (.int .i64 n)) l
 | [],_=>.nil
 |n::l,g=>.cons (kK (g n (by simp))) (F3 l λx hx=>g x (by simp[hx]))
theorem JQ(h:(l.all λn=>(Lit.int .i64 n).wf)=aN):Bg l:=λr g=>fI.1 h r g
theorem Ad2:Fn cF 129 [] (.agg [.bs tInt Aak,.bs tInt Aiv,.bs tInt Aix]):=by
 refine J4 Tryz.func129 V (by kernel_rfl) V AAk Tryz.ntmps129 λC g=>?_
 simp only[iH,lD,List.replicate_succ,List.replicate_zero,jD];refine rCS ?_;refine Ab λj h2=>?_
 (refine j9 ?_;(repeat(first|refine sQ ?_ (AT.lt (xs:=[.const (.int .i64 8),.const (.int .i64 9),.const (.int .i64 10),.const (.int .i64 11),.const (.int .i64 12),.const (.int .i64 13),.const (.int .i64 4)]) (T:=tInt) (ds:=Aak) V V V (by rfl) (by decide) (F3 Aak (JQ (by decide))))|refine sQ ?_ (AT.lt (xs:=[.const (.int .i64 16),.const (.int .i64 17),.const (.int .i64 18),.const (.int .i64 19),.const (.int .i64 20),.const (.int .i64 21),.const (.int .i64 22),.const (.int .i64 23)]) (T:=tInt) (ds:=Aiv) V V V (by rfl) (by decide) (F3 Aiv (JQ (by decide))))|refine sQ ?_ (AT.lt (xs:=[.const (.int .i64 24),.const (.int .i64 25),.const (.int .i64 26),.const (.int .i64 27),.const (.int .i64 28),.const (.int .i64 29)]) (T:=tInt) (ds:=Aix) V V V (by rfl) (by decide) (F3 Aix (JQ (by decide))))|refine sQ ?_ (Rq V z3 Ay2 V V)|refine sQ ?_ (Ax V V V V)|refine sQ ?_ (Av V V V V)|refine sQ ?_|refine AM ?_|refine sG ?_|refine Bp ?_));refine Au ?_)
 refine h2 _ ?_;refine nT ?_;refine Aw ?_;exact⟨⟨.inr V,0,_,rfl,rfl,kG V⟩,λi cells e hi=>by cases e;cases hi;rfl⟩
def IB(l:List Int):List Int:=l.flatMap Ajg
theorem XN(i:Int):(Ajg i).length<=8:=by
 unfold Ajg;split
 ·decide
 ·split <;> decide
theorem Adn(l:List Int):(IB l).length<=8 * l.length:=by
 induction l with
 |nil=>simp[IB]
 |cons x l g=>
  have:=XN x;unfold IB at g⊢;rw[gF,iB,iC];omega
theorem Oy(l:List Int)(hl:l.length<=3)(h3:∀i∈l,i=0\/i=1\/i=2):Fn cF 106 [.bs tInt l] (.bs tInt (IB l)):=by
 refine AQ Tryz.func106 V (by kernel_rfl) V Tryz.ntmps106 λC hC=>?_
 refine nS ?_;refine rCS ?_;refine Ab λK2 h2=>?_
 (refine j9 ?_;(repeat(first|refine sQ ?_ (AT.call V Ad2 V V V)|refine sQ ?_ (Ax V V V V)|refine sQ ?_ (Av V V V V)|refine sQ ?_|refine AM ?_|refine sG ?_|refine Bp ?_));refine Au ?_)
 refine h2 _ ?_;refine nT ?_;refine Ab λK3 J=>?_
 refine rC ?_;refine J _ ?_;refine nT ?_;refine Ab λK4 Z=>?_
 refine rCS ?_;refine Ac ?_;refine AB (λp:Nat×Nat=>⟨(A3 (.ptr 0 0::.own 1 p.2::A3 (.bs tInt l::.lit (.int .i64 (l.length:Int))::.lit (.int .i64 (p.1:Int))::A10 []))),[.box [.bs tInt Aak,.bs tInt Aiv,.bs tInt Aix],.row p.2 3 tInt (IB (l.take p.1))]⟩) (λp=>p.1<=l.length) (λp=>l.length - p.1) (0,0) (lF _) ((Cz 4 3 tInt V (by decide)).trans (BU)) ?_;rintro⟨k,ver⟩ hk;dsimp only at hk⊢;refine rCS ?_;refine Ab λK8 Y=>?_
 refine Ag V (λE=>?_) (λE=>?_)
 ·have G:k < l.length:=by simpa using E
  obtain⟨i,hi⟩:∃i,l[k]? =lK i:=⟨_,gO G⟩
  have O:=Adn (l.take k);have X:=XN i;have U:(l.take k).length<=3:=by simp;omega
  have g:IB (l.take (k+1))=IB (l.take k)++Ajg i:=by unfold IB;rw[jU,hi,gE];simp
  have u:(IB (l.take k)).length+(Ajg i).length<=fE:=by unfold fE;omega
  have j:((IB (l.take k)).length+(Ajg i).length) * 8<=140737488355328:=by omega
  refine Al ?_;refine Y _ ?_;refine nT ?_;refine Ab λaa F=>?_
  refine Ac ?_;refine rCS ?_;rcases h3 i (iZ hi)with rfl|rfl|rfl
  ·rw[show Ajg 0=Aak from V]at u j g
   (refine j9 ?_;(repeat(first|refine sQ ?_ (Ir (k:=0) (n:=3) Ay2 V V V V (by omega))|refine sQ ?_ (Ax V V V V)|refine sQ ?_ (Av V V V V)|refine sQ ?_|refine AM ?_|refine sG ?_|refine Bp ?_));refine Au ?_)
   refine F _ ?_;refine nT ?_;refine rC ?_;refine An ⟨(k+1,ver+1),by dsimp only;omega,by dsimp only;omega,?_⟩;dsimp only;rw[g];exact BU
  ·rw[show Ajg 1=Aiv from V]at u j g
   (refine j9 ?_;(repeat(first|refine sQ ?_ (Ir (k:=1) (n:=3) Ay2 V V V V (by omega))|refine sQ ?_ (Ax V V V V)|refine sQ ?_ (Av V V V V)|refine sQ ?_|refine AM ?_|refine sG ?_|refine Bp ?_));refine Au ?_)
   refine F _ ?_;refine nT ?_;refine rC ?_;refine An ⟨(k+1,ver+1),by dsimp only;omega,by dsimp only;omega,?_⟩;dsimp only;rw[g];exact BU
  ·rw[show Ajg 2=Aix from V]at u j g
   (refine j9 ?_;(repeat(first|refine sQ ?_ (Ir (k:=2) (n:=3) Ay2 V V V V (by omega))|refine sQ ?_ (Ax V V V V)|refine sQ ?_ (Av V V V V)|refine sQ ?_|refine AM ?_|refine sG ?_|refine Bp ?_));refine Au ?_)
   refine F _ ?_;refine nT ?_;refine rC ?_;refine An ⟨(k+1,ver+1),by dsimp only;omega,by dsimp only;omega,?_⟩;dsimp only;rw[g];exact BU
 ·have I:k=l.length:=by
   have:¬k < l.length:=by simpa using E
   omega
  subst I;rw[jW];refine Ay ?_;refine Z _ ?_;refine nT ?_;refine rCS ?_;refine Aw ?_;exact⟨.inr V,kH V⟩
theorem OD(l:List Int)(r:Int)(X:Asc l)(hl:l.length<=2147483648):Fn cF 38 [.bs tInt l,.lit (.int .i64 r)] (.tup [.lit (.int .i64 ((l.countP (· < r):Nat):Int)),.lit (.bool (l.contains r))]):=by
 refine⟨by kernel_rfl,λw S vs Y J=>?_⟩;unfold Ae at J;obtain⟨v,us,rfl,E,h1⟩:=J;obtain⟨U,rfl,h0⟩:=Ek h1;unfold Ae at h0;subst h0;unfold j8 at E;have g:∀(n:Nat) (b:Bool) (w':eX),Below w.heap.size w w'->n=l.countP (· < r)->b=l.contains r->YZ w S [] ψ0 (.tup [.lit (.int .i64 ((l.countP (· < r):Nat):Int)),.lit (.bool (l.contains r))]) (.tuple #[.int .i64 (n:Int),.bool b]) w':=λn b w' hb e1 Z=>by
  subst e1 Z;refine⟨hb,S,λ_ h=>h,λ_ h=>.inl h,λk hk=>lA (Y k hk) hb.size,?_⟩;unfold j8;exact⟨[.int .i64 ((l.countP (· < r):Nat):Int),.bool (l.contains r)],rfl,FT [.int .i64 ((l.countP (· < r):Nat):Int),.bool (l.contains r)]⟩
 obtain⟨A,c,rfl⟩:=Ci E;by_cases I:l= []
 ·subst I;refine(Tryz.slices_BinarySearch_int_empty A c r w).mono λe w' ⟨F,G⟩=>?_
  subst G;exact⟨_,F,g 0 aI w' (eK _ _) V V⟩
 ·have u:0 < l.length:=List.length_pos_iff.2 I;obtain⟨b,o,e,_⟩:=LT E (gO u);cases e;refine(Tryz.slices_BinarySearch_int b o l.length c l r w (kY _) (by omega) (λj O=>?_) ?_).mono λe w' ⟨F,q,G⟩=>?_
  ·obtain⟨b',o',e',_,hc,_⟩:=LT E (gO O);cases e';rw[hc];simp[List.getD,O]
  ·rw[jW];exact X.imp λ{a b} h=>by omega
  ·rw[jW]at F;subst G;exact⟨_,F,g _ _ _ (Azh (eK _ _) q) V V⟩
def BA(g:List Int)(r:Int)(leaf:Bool):List Int:=if leaf then IB [0]else if g.contains r then IB [1,2]else IB [0,1,2]
theorem Wf(g:List Int)(r:Int)(leaf:Bool)(O:Asc g)(J:g.length<=2147483648):Fn cF 72 [.bs tInt g,.lit (.int .i64 r),.lit (.bool leaf)] (.bs tInt (BA g r leaf)):=by
 refine AQ Tryz.func72 V (by kernel_rfl) V Tryz.ntmps72 λC hC=>?_
 have w0:Bg [0]:=JQ (by decide);have I:Bg [1,2]:=JQ (by decide);have G:Bg [0,1,2]:=JQ (by decide);refine nS ?_;refine rCS ?_;refine Ab λK2 h2=>?_
 refine rCS ?_;refine Ag V (λu=>?_) (λu=>?_)
 ·subst u;refine Ab λK5 Y=>?_
  (refine j9 ?_;(repeat(first|refine sQ ?_ (AT.lt (xs:=[.const (.int .i64 0)]) (T:=tInt) (ds:=[0]) V V V (by rfl) (by decide) (F3 [0] w0))|refine sQ ?_ (AT.call V (Oy [0] (by decide) (by decide)) V V V)|refine sQ ?_ (Ax V V V V)|refine sQ ?_ (Av V V V V)|refine sQ ?_|refine AM ?_|refine sG ?_|refine Bp ?_));refine Au ?_)
  refine Y _ ?_;refine nT ?_;refine Aw ?_;exact⟨.inr V,kG V⟩
 ·subst u;refine Al ?_;refine h2 _ ?_;refine nT ?_;refine Ab λK6 X=>?_
  refine Ab λK7 U=>?_
  (refine j9 ?_;(repeat(first|refine sQ ?_ (AT.call V (OD g r O J) V V V)|refine sQ ?_ (Ax V V V V)|refine sQ ?_ (Av V V V V)|refine sQ ?_|refine AM ?_|refine sG ?_|refine Bp ?_));refine Au ?_)
  refine U _ ?_;refine nT ?_;refine rCS ?_;refine Ag V (λj=>?_) (λj=>?_)
  ·have e:BA g r aI=IB [1,2]:=by unfold BA;rw[if_neg (by simp),if_pos j]
   refine Ab λaa F=>?_
   (refine j9 ?_;(repeat(first|refine sQ ?_ (AT.lt (xs:=[.const (.int .i64 1),.const (.int .i64 2)]) (T:=tInt) (ds:=[1,2]) V V V (by rfl) (by decide) (F3 [1,2] I))|refine sQ ?_ (AT.call V (Oy [1,2] (by decide) (by decide)) V V V)|refine sQ ?_ (Ax V V V V)|refine sQ ?_ (Av V V V V)|refine sQ ?_|refine AM ?_|refine sG ?_|refine Bp ?_));refine Au ?_)
   refine F _ ?_;refine nT ?_;refine Aw ?_;rw[e];exact⟨.inr V,kG V⟩
  ·have e:BA g r aI=IB [0,1,2]:=by unfold BA;rw[if_neg (by simp),if_neg (by rw[j];simp)]
   refine Al ?_;refine X _ ?_;refine nT ?_;refine Ab λZ E=>?_
   (refine j9 ?_;(repeat(first|refine sQ ?_ (AT.lt (xs:=[.const (.int .i64 0),.const (.int .i64 1),.const (.int .i64 2)]) (T:=tInt) (ds:=[0,1,2]) V V V (by rfl) (by decide) (F3 [0,1,2] G))|refine sQ ?_ (AT.call V (Oy [0,1,2] (by decide) (by decide)) V V V)|refine sQ ?_ (Ax V V V V)|refine sQ ?_ (Av V V V V)|refine sQ ?_|refine AM ?_|refine sG ?_|refine Bp ?_));refine Au ?_)
   refine E _ ?_;refine nT ?_;refine Aw ?_;rw[e];exact⟨.inr V,kG V⟩
theorem Re(f:kL):Asc (B5 f):=(Tv f).filter _
theorem Rd(f:kL):(B5 f).length<=(Bz f).length:=iE _ _
def Akw(p:Int):Bool:=(aO (p≥16)&&aO (p < 30))||decide (p≥32)
theorem Af2(p:Int):Fn cF 23 [.lit (.int .i64 p)] (.lit (.bool (Akw p))):=by
 refine AQ Tryz.func23 V (by kernel_rfl) V Tryz.ntmps23 λC g=>?_
 refine nS ?_;refine rCS ?_;refine rCS ?_;refine Aw ?_;exact⟨.inr V,kG V⟩
theorem Qg(x:Ins)(g:okIns x)(E:x.args.length<=2097152):Fn cF 60 [.agg (BV x)] (.bs tInt (readsC x)):=
 Aby (by kernel_rfl) (FU g) λw vs u=>by
  obtain⟨v,rfl,j⟩:=Ach u;obtain⟨cs,rfl,hc⟩:=IZ j;exact HI x w cs (My g hc) E
theorem FR(x:Ins)(u:okIns x):Fn cF 61 [.agg (BV x)] (.tup [.lit (.int .i64 (if Bd x then x.d else 0)),.lit (.bool (Bd x))]):=
 Rw (by kernel_rfl) λw vs j=>by
  obtain⟨v,rfl,g⟩:=Ach j;obtain⟨cs,rfl,hc⟩:=IZ g;refine(Na x w cs (My u hc)).mono λe w' ⟨E,hb⟩=>⟨?_,hb⟩
  rw[E];unfold II;cases Bd x <;> rfl
theorem Dq{g:α->List β}{l:List α}{x:α}(hx:l[k]? =lK x):(l.take (k+1)).flatMap g=(l.take k).flatMap g++g x:=by
 rw[jU,hx,gE];simp
theorem Agr(g:α->List β)(l:List α)(k:Nat):((l.take k).flatMap g).length<=(l.flatMap g).length:=by
 conv=>rhs;rw[<-jV k l]
 rw[gE,iB];omega
theorem Sl{g:Ins->List β}{bs:List kA}{bl:kA}{x:Ins}(hb:bs[b]? =lK bl)(hx:bl.ins[i]? =lK x):
 ((bs.take b).flatMap λc=>c.ins.flatMap g).length+((bl.ins.take i).flatMap g).length+(g x).length<=(bs.flatMap λc=>c.ins.flatMap g).length:=by
 have h1:=Agr (λc:kA=>c.ins.flatMap g) bs (b+1);rw[Dq hb,iB]at h1;have h2:=Agr g bl.ins (i+1);rw[Dq hx,iB]at h2;omega
def NM(n:Nat):List Int:=(jM n).map λ(r:Nat)=>(r:Int)
theorem Ua(n:Nat):NM (n+1)=NM n++[(n:Int)]:=by unfold NM;rw[jN,iM];rfl
theorem N7(n:Nat):(NM n).length=n:=by simp[NM]
def Nt(b:kA):List Int:=b.ins.flatMap By
def Nv(f:kL):List Int:=f.blocks.flatMap Nt
def Ace(f:kL):List Int:=NM (argsK f)++Nv f
def regsB(f:kL):List Int:=aY ((Ace f).mergeSort λx y=>decide (x<=y))
theorem Xg(j:okFunc f):Bg (Nv f):=λr g=>by
 obtain⟨b,hb,g⟩:=iW.1 g;obtain⟨x,hx,g⟩:=iW.1 g;exact Lp ((j.blocks b hb).ins x hx) r g
theorem Aeh(g:okFunc f):Bg (Ace f):=λr hr=>by
 rcases iQ.1 hr with hr|hr
 ·unfold NM at hr;obtain⟨k,hk,rfl⟩:=iY.1 hr;have:=i9.1 hk;have:=(Gz f).2;exact LK (by omega)
 ·exact Xg g r hr
theorem I2:r∈regsB f↔r∈Ace f:=by
 unfold regsB;rw[(GL (Fi _)).2,List.mem_mergeSort]
theorem I3(f:kL):Asc (regsB f):=(GL (Fi _)).1
theorem Ad9(f:kL):(regsB f).length<=(Ace f).length:=by
 have:=WV ((Ace f).mergeSort λx y=>decide (x<=y));rw[iG]at this;exact this
theorem Lr(f:kL)(ho:okFunc f)(hs:smallF f)(hX:(Nv f).length<=2097152):Fn cF 30 [.agg (Ak f)] (.bs tInt (regsB f)):=by
 have bj:=hs.blocks;have bh:=(Gz f).2;refine AQ Tryz.func30 V (by kernel_rfl) V Tryz.ntmps30 λC hC=>?_
 refine nS ?_;refine rRS ?_;refine rRS ?_;refine Ab λK3 h3=>?_
 refine Ab λK4 h4=>?_
 (refine j9 ?_;(repeat(first|refine sQ ?_ (AT.call V (Vg f) V V V)|refine sQ ?_|refine AM ?_|refine Bp ?_));refine Au ?_)
 refine h4 _ ?_;refine nT ?_;refine Ac ?_;refine AB (λp:Nat×Nat=>⟨(.any::.ptr 0 0::.any::.own 1 p.2::A8 (.lit (.int .i64 (argsK f:Int))::.lit (.int .i64 (p.1:Int))::A40 [.any])),[.box (Ak f),.row p.2 3 tInt (NM p.1)]⟩) (λp=>p.1<=argsK f) (λp=>argsK f - p.1) (0,0) (lF _) ((Cz 3 3 tInt V (by decide)).trans (BU)) ?_;rintro⟨k,ver⟩ hk;dsimp only at hk⊢;refine rRS ?_;refine Ab λK7 h7=>?_
 refine Ag V (λU=>?_) (λU=>?_)
 ·have ae:k < argsK f:=by simpa using U
  have hw:=LK (k:=k) (by omega);have I:=N7 k;have aa:=Ua k;generalize X:NM k=L0 at I aa⊢;have an:L0.length+ [(k:Int)].length<=fE:=by simp[fE];omega
  have am:(L0.length+ [(k:Int)].length) * 8<=140737488355328:=by simp;omega
  refine Al ?_;refine h7 _ ?_;refine nT ?_;refine Ab λK9 h9=>?_
  refine Ac ?_;refine rRS ?_;refine rR ?_;refine h9 _ ?_;refine nT ?_;refine rR ?_;refine An ⟨(k+1,ver+1),by dsimp only;omega,by dsimp only;omega,?_⟩;dsimp only;rw[aa];exact BU
 ·have ao:k=argsK f:=by
   have:¬k < argsK f:=by simpa using U
   omega
  subst ao;have I:=N7 (argsK f);refine Ay ?_;refine h3 _ ?_;refine nT ?_;refine Ab λbw bb=>?_
  refine rRS ?_;refine Ac ?_;refine AB (λp:Nat×Nat=>⟨(.any::.ptr 0 0::.any::.own 1 p.2::A10 (A8 (.bs Cw f.blocks::.lit (.int .i64 (f.blocks.length:Int))::.lit (.int .i64 (p.1:Int))::A20 (A10 [])))),[.box (Ak f),.row p.2 3 tInt (NM (argsK f)++(f.blocks.take p.1).flatMap Nt)]⟩) (λp=>p.1<=f.blocks.length) (λp=>f.blocks.length - p.1) (0,ver) (lF _) (by rw[show NM (argsK f)++(f.blocks.take (0,ver).1).flatMap Nt=NM (argsK f)by simp];exact BU) ?_;rintro⟨b,ver⟩ hb;dsimp only at hb⊢;refine rRS ?_;refine Ab λbv ba=>?_
  refine Ag V (λG=>?_) (λG=>?_)
  ·have ae:b < f.blocks.length:=by simpa using G
   obtain⟨bl,E⟩:∃bl,f.blocks[b]? =lK bl:=⟨_,gO ae⟩
   have J:=iZ E;have al:=ho.blocks bl J;have ab:=hs.all bl J;have bi:=ab.ins;have aq:=Dq (g:=Nt) E;refine Al ?_;refine ba _ ?_;refine nT ?_;refine Ab λbu az=>?_
   refine Ac ?_;refine rRS ?_;refine rRS ?_;refine Ac ?_;refine AB (λp:Nat×Nat=>⟨(.any::.ptr 0 0::.any::.own 1 p.2::A10 (A8 (.bs Cw f.blocks::.lit (.int .i64 (f.blocks.length:Int))::.lit (.int .i64 (b:Int))::A4 (.bs Ei bl.ins::.lit (.int .i64 (bl.ins.length:Int))::.lit (.int .i64 (p.1:Int))::A20 (A3 []))))),[.box (Ak f),.row p.2 3 tInt (NM (argsK f)++(f.blocks.take b).flatMap Nt++(bl.ins.take p.1).flatMap By)]⟩) (λp=>p.1<=bl.ins.length) (λp=>bl.ins.length - p.1) (0,ver) (lF _) (by rw[show NM (argsK f)++(f.blocks.take b).flatMap Nt++(bl.ins.take (0,ver).1).flatMap By=NM (argsK f)++(f.blocks.take b).flatMap Nt by simp];exact Ki (.cons (.cons (kD _)))) ?_;rintro⟨i,ver⟩ hi;dsimp only at hi⊢;refine rRS ?_;refine Ab λbt ay=>?_
   refine Ag V (λF=>?_) (λF=>?_)
   ·have af:i < bl.ins.length:=by simpa using F
    obtain⟨x,hx⟩:∃x,bl.ins[i]? =lK x:=⟨_,gO af⟩
    have Z:=iZ hx;have O:=al.ins x Z;have ai:x.args.length<=2097152:=by have:=ab.all x Z;omega
    have Y:=Dq (g:=By) hx;have bg:=Sl (g:=By) E hx;have bk:(f.blocks.flatMap λc=>c.ins.flatMap By).length<=2097152:=hX;have hL:(NM (argsK f)++(f.blocks.take b).flatMap Nt++(bl.ins.take i).flatMap By).length+(By x).length<=2097160:=by
     rw[iB,iB,I];have:((f.blocks.take b).flatMap Nt).length=((f.blocks.take b).flatMap λc=>c.ins.flatMap By).length:=rfl;omega
    have u:By x=readsC x++if Bd x then [x.d]else []:=rfl
    generalize X:NM (argsK f)++(f.blocks.take b).flatMap Nt++(bl.ins.take i).flatMap By=L0 at hL⊢;rw[u,iB]at hL;have an:L0.length+(readsC x).length<=fE:=by unfold fE;omega
    have am:(L0.length+(readsC x).length) * 8<=140737488355328:=by omega
    refine Al ?_;refine ay _ ?_;refine nT ?_;refine Ab λbr ah=>?_
    refine Ac ?_;refine rRS ?_;refine Ab λbq ax=>?_
    (refine j9 ?_;(repeat(first|refine sQ ?_ (AT.call V (Qg x O ai) V V V)|refine sQ ?_|refine AM ?_|refine Bp ?_));refine Au ?_)
    refine ax _ ?_;refine nT ?_;refine Ab λbo aw=>?_
    (refine j9 ?_;(repeat(first|refine sQ ?_ (AT.call V (FR x O) V V V)|refine sQ ?_|refine AM ?_|refine Bp ?_));refine Au ?_)
    refine aw _ ?_;refine nT ?_;refine rRS ?_;refine Ag V (λj=>?_) (λj=>?_)
    ·rw[j,if_pos V]at hL u;have e1:(if Bd x=aN then x.d else 0)=x.d:=if_pos j;have bc:=O.d;have bf:(L0++readsC x).length+ [x.d].length<=fE:=by rw[iB];simp[fE];simp at hL;omega
     have be:((L0++readsC x).length+ [x.d].length) * 8<=140737488355328:=by rw[iB];simp;simp at hL;omega
     rw[e1];refine rR ?_;refine ah _ ?_;refine nT ?_;refine rR ?_;refine An ⟨(i+1,ver+1+1),by dsimp only;omega,by dsimp only;omega,?_⟩;dsimp only;rw[Y,<-fK,X,u,<-fK];exact Ki (.cons (.cons (kD _)))
    ·rw[j,if_neg (by simp),fL]at u;refine Al ?_;refine ah _ ?_;refine nT ?_;refine rR ?_;refine An ⟨(i+1,ver+1),by dsimp only;omega,by dsimp only;omega,?_⟩;dsimp only;rw[Y,<-fK,X,u];exact Ki (.cons (.cons (kD _)))
   ·have ap:i=bl.ins.length:=by
     have:¬i < bl.ins.length:=by simpa using F
     omega
    subst ap;rw[jW];refine Ay ?_;refine az _ ?_;refine nT ?_;refine rR ?_;refine An ⟨(b+1,ver),by dsimp only;omega,by dsimp only;omega,?_⟩;dsimp only;rw[aq,<-fK];exact BU
  ·have ar:b=f.blocks.length:=by
    have:¬b < f.blocks.length:=by simpa using G
    omega
   subst ar;rw[jW];have ad:NM (argsK f)++f.blocks.flatMap Nt=Ace f:=rfl;rw[ad];have ac:(Ace f).length<=2147483648:=by unfold Ace;rw[iB,I];omega
   have ak:=O1 (Aeh ho);have ag:Bg (aY ((Ace f).mergeSort λx y=>decide (x<=y))):=λr hr=>ak r ((GL (Fi _)).2 r |>.1 hr)
   have aj:((Ace f).mergeSort λx y=>decide (x<=y)).length<=2147483648:=by rw[iG];exact ac
   refine Ay ?_;refine bb _ ?_;refine nT ?_;refine Ab λbn av=>?_
   (refine j9 ?_;(repeat(first|(refine AC V (P3 V V V ac ?_);refine sNt ?_)|refine sQ ?_|refine AM ?_|refine Bp ?_));refine Au ?_)
   refine av _ ?_;refine nT ?_;refine Ab λbm au=>?_
   (refine j9 ?_;(repeat(first|(refine AC V (P7 V (WT aj ag) V V ?_);refine sNt ?_)|refine sQ ?_|refine AM ?_|refine Bp ?_));refine Au ?_)
   refine au _ ?_;refine nT ?_;refine Aw ?_;exact⟨.inr V,kH V⟩
theorem Aqj(l:List Int)(n:Int)(J:l.length<=2097152):Fn cF 69 [.bs tInt l,.lit (.int .i64 n)] (.lit (.bool (l.contains n))):=by
 refine AQ Tryz.func69 V (by kernel_rfl) V Tryz.ntmps69 λC O=>?_
 refine nS ?_;refine rCS ?_;refine Ab λY h2=>?_
 refine rCS ?_;refine Ac ?_;refine AB (λi:Nat=>⟨(.bs tInt l::.lit (.int .i64 n)::A3 (.lit (.int .i64 (i:Int))::A10 (A2 []))),[]⟩) (λi=>i<=l.length/\(l.take i).contains n=aI) (λi=>l.length - i) 0 ⟨lF _,rfl⟩ (BU) ?_;rintro i ⟨hi,hc⟩;refine Ab λX I=>?_
 refine rCS ?_;refine Ag V (λhb=>?_) (λhb=>?_)
 ·have u:i < l.length:=by simpa using hb
  obtain⟨x,hx⟩:∃x,l[i]? =lK x:=⟨_,gO u⟩
  refine Al ?_;refine I _ ?_;refine nT ?_;refine Ab λU G=>?_
  refine Ac ?_;refine rCS ?_;refine Ag V (λj=>?_) (λj=>?_)
  ·have g:x=n:=by simpa using j
   have F:l.contains n=aN:=by rw[<-g];exact fO.2 (iZ hx)
   refine rCS ?_;refine Aw ?_;rw[F];exact⟨.inr V,kG V⟩
  ·have g:¬x=n:=by simpa using j
   refine Al ?_;refine G _ ?_;refine nT ?_;refine rC ?_;refine An ⟨i+1,⟨by omega,?_⟩,by omega,BU⟩;rw[jU,hx,fN]at *;simp only[lN,iQ,iR,jH,or_false,decide_eq_false_iff_not,not_or]at hc⊢;exact⟨by simpa[fN]using hc,λe=>g e.symm⟩
 ·have E:i=l.length:=by
   have:¬i < l.length:=by simpa using hb
   omega
  rw[E,jW]at hc;refine Ay ?_;refine h2 _ ?_;refine nT ?_;refine rCS ?_;refine Aw ?_;rw[hc];exact⟨.inr V,kG V⟩
def GR(n:Int)(s:List Int×Bool)(x:Int):List Int×Bool:=if(!s.2&&aO (x > n))=aN then(s.1++[n]++[x],aN)else(s.1++[x],s.2)
def Fl(n:Int)(l:List Int):List Int×Bool:=l.foldl (GR n) ([],aI)
def BZ(l:List Int)(n:Int):List Int:=if l.contains n then l else if(!(Fl n l).2)=aN then(Fl n l).1++[n]else(Fl n l).1
theorem Aag{x:Int}(h:l[i]? =lK x):Fl n (l.take (i+1))=GR n (Fl n (l.take i)) x:=by
 unfold Fl;rw[jU,h,gH];rfl
theorem Uz(n:Int)(l:List Int):(Fl n l).1.length+(if(Fl n l).2 then 0 else 1)=l.length+1/\(wfI .i64 n->Bg l->Bg (Fl n l).1):=by
 suffices h:∀(l:List Int) (s:List Int×Bool),(l.foldl (GR n) s).1.length+(if(l.foldl (GR n) s).2 then 0 else 1)=s.1.length+(if s.2 then 0 else 1)+l.length/\(wfI .i64 n->Bg s.1->Bg l->Bg (l.foldl (GR n) s).1)by
  obtain⟨h1,h2⟩:=h l ([],aI);refine⟨?_,λa b=>h2 a (λr g=>by cases g) b⟩;unfold Fl;rw[h1];simp;omega
 intro l;induction l with
 |nil=>exact λs=>⟨rfl,λ_ h _=>h⟩
 |cons x l j=>
  intro s;obtain⟨h1,h2⟩:=j (GR n s x);rw[gI];refine⟨?_,λa b c=>h2 a ?_ λr g=>c r (iS _ g)⟩
  ·rw[h1];unfold GR;obtain⟨o,d⟩:=s;cases d
   ·by_cases hx:x > n <;> simp[hx] <;> omega
   ·simp;omega
  ·unfold GR;have hx:=c x (iT ..);split
   ·intro r g;simp only[or_false,zau]at g;rcases g with(g|rfl)|rfl
    ·exact b r g
    ·exact a
    ·exact hx
   ·intro r g;simp only[or_false,zau]at g;rcases g with g|rfl
    ·exact b r g
    ·exact hx
theorem Aco(l:List Int)(n:Int):(BZ l n).length<=l.length+1/\(wfI .i64 n->Bg l->Bg (BZ l n)):=by
 have h:=Uz n l;unfold BZ;split
 ·exact⟨by omega,λ_ h=>h⟩
 ·split
  ·rename_i g;have g:(Fl n l).2=aI:=by simpa using g
   rw[g]at h;have h1:=h.1;simp only[aJ,if_false]at h1;refine⟨by simp;omega,λa b r hr=>?_⟩;rcases iQ.1 hr with hr|hr
   ·exact h.2 a b r hr
   ·rw[jB.1 hr];exact a
  ·refine⟨?_,λa b=>h.2 a b⟩;have h1:=h.1;omega
theorem IJ(l:List Int)(n:Int)(hl:l.length<=2097152)(ho:Bg l)(hn:wfI .i64 n):Fn cF 45 [.bs tInt l,.lit (.int .i64 n)] (.bs tInt (BZ l n)):=by
 have Y:=Aqj l n hl;refine AQ Tryz.func45 V (by kernel_rfl) V Tryz.ntmps45 λC hC=>?_
 refine nS ?_;refine rCS ?_;refine Ab λK2 h2=>?_
 refine Ab λK3 h3=>?_
 (refine j9 ?_;(repeat(first|refine sQ ?_ (AT.call V Y V V V)|refine sQ ?_ (Ax V V V V)|refine sQ ?_ (Av V V V V)|refine sQ ?_|refine AM ?_|refine sG ?_|refine Bp ?_));refine Au ?_)
 refine h3 _ ?_;refine nT ?_;refine Ag V (λI=>?_) (λI=>?_)
 ·refine rCS ?_;refine Aw ?_;rw[show BZ l n=l from by unfold BZ;rw[I];rfl];exact⟨.inr V,kG V⟩
 ·refine Al ?_;refine h2 _ ?_;refine nT ?_;refine rCS ?_;refine rCS ?_;refine Ab λK8 h8=>?_
  refine rCS ?_;refine Ac ?_;refine AB (λp:Nat×Nat=>⟨(.bs tInt l::.lit (.int .i64 n)::A3 (.own 0 p.2::.lit (.bool (Fl n (l.take p.1)).2)::.lit (.int .i64 (p.1:Int))::A20 (A10 (A8 [])))),[.row p.2 3 tInt (Fl n (l.take p.1)).1]⟩) (λp=>p.1<=l.length) (λp=>l.length - p.1) (0,0) (lF _) ((Cz 5 3 tInt V (by decide)).trans (BU)) ?_;rintro⟨i,ver⟩ hi;dsimp only at hi⊢;have G:=(Uz n (l.take i)).1;rw[iL]at G;have j:∀x,l[i]? =lK x->Fl n (l.take (i+1))=GR n (Fl n (l.take i)) x:=λx hx=>Aag hx
  have g:i=l.length->Fl n l=Fl n (l.take i):=λe=>by rw[e,jW]
  generalize Fl n (l.take i)=s at G j g⊢;obtain⟨o,d⟩:=s;dsimp only at G j g⊢;have ac:o.length<=2097154:=by omega
  refine Ab λag aa=>?_
  refine rCS ?_;refine Ag V (λF=>?_) (λF=>?_)
  ·have X:i < l.length:=by simpa using F
   obtain⟨x,hx⟩:∃x,l[i]? =lK x:=⟨_,gO X⟩
   have ab:=ho x (iZ hx);have j:=j x hx;refine Al ?_;refine aa _ ?_;refine nT ?_;refine Ab λaf U=>?_
   refine Ac ?_;refine Ab λae O=>?_
   refine rCS ?_;refine Ag V (λE=>?_) (λE=>?_)
   ·have e1:GR n (o,d) x=(o++[n]++[x],aN):=if_pos E;rw[e1]at j;refine rCS ?_;refine rC ?_;refine O _ ?_;refine nT ?_;refine rC ?_;refine U _ ?_;refine nT ?_;refine rC ?_;refine An ⟨(i+1,ver+2),by dsimp only;omega,by dsimp only;omega,?_⟩;dsimp only;rw[j];exact BU
   ·have e1:GR n (o,d) x=(o++[x],d):=if_neg (by rw[show(!(o,d).2&&aO (x > n))=aI from E];simp);rw[e1]at j;refine Al ?_;refine O _ ?_;refine nT ?_;refine rC ?_;refine U _ ?_;refine nT ?_;refine rC ?_;refine An ⟨(i+1,ver+1),by dsimp only;omega,by dsimp only;omega,?_⟩;dsimp only;rw[j];exact BU
  ·have Z:i=l.length:=by
    have:¬i < l.length:=by simpa using F
    omega
   have g:=g Z;have hc:l.contains n=aI:=I;refine Ay ?_;refine h8 _ ?_;refine nT ?_;refine Ab λad J=>?_
   refine rCS ?_;refine Ag V (λu=>?_) (λu=>?_)
   ·have e2:BZ l n=o++[n]:=by unfold BZ;rw[hc,if_neg (by simp),g,if_pos u]
    refine rC ?_;refine J _ ?_;refine nT ?_;refine rCS ?_;refine Aw ?_;rw[e2];exact⟨.inr V,kH V⟩
   ·have e2:BZ l n=o:=by unfold BZ;rw[hc,if_neg (by simp),g,if_neg (by rw[show(!(o,d).2)=aI from u];simp)]
    refine Al ?_;refine J _ ?_;refine nT ?_;refine rCS ?_;refine Aw ?_;rw[e2];exact⟨.inr V,kH V⟩
def AF(f:kL):List Int:=(Nv f).foldl BZ []
theorem FH(l:List Int):(l.foldl BZ []).length<=l.length/\(Bg l->Bg (l.foldl BZ [])):=by
 suffices h:∀(l s:List Int),(l.foldl BZ s).length<=s.length+l.length/\(Bg s->Bg l->Bg (l.foldl BZ s))by
  obtain⟨h1,h2⟩:=h l [];exact⟨by simpa using h1,λa=>h2 (λr g=>by cases g) a⟩
 intro l;induction l with
 |nil=>exact λs=>⟨kY _,λh _=>h⟩
 |cons x l j=>
  intro s;obtain⟨h1,h2⟩:=j (BZ s x);have u:=Aco s x;rw[gI,iC];exact⟨by omega,λa b=>h2 (u.2 (b x (iT ..)) a) λr g=>b r (iS _ g)⟩
theorem Po(P:List Int)(h:l[k]? =lK r):(P++l.take (k+1)).foldl BZ []=BZ ((P++l.take k).foldl BZ []) r:=by
 rw[jU,h,<-fK,gH];rfl
theorem OM(f:kL)(ho:okFunc f)(hs:smallF f)(hX:(Nv f).length<=2097152):Fn cF 20 [.agg (Ak f)] (.bs tInt (AF f)):=by
 have bo:=hs.blocks;refine AQ Tryz.func20 V (by kernel_rfl) V Tryz.ntmps20 λC hC=>?_
 refine nS ?_;refine rCS ?_;refine rCS ?_;refine Ab λK3 h3=>?_
 refine rCS ?_;refine Ac ?_;refine AB (λb:Nat=>⟨(.any::.ptr 0 0::.any::.bs tInt (((f.blocks.take b).flatMap Nt).foldl BZ [])::.lit (.int .i64 (b:Int))::A40 (A20 [])),[.box (Ak f)]⟩) (λb=>b<=f.blocks.length) (λb=>f.blocks.length - b) 0 (lF _) ((PP 3 tInt V).trans (BU)) ?_;intro b hb
 (try dsimp only at hb);(try dsimp only)
 refine Ab λK6 h6=>?_
 refine rCS ?_;refine Ag V (λaf=>?_) (λaf=>?_)
 ·have au:b < f.blocks.length:=by simpa using af
  obtain⟨bl,Y⟩:∃bl,f.blocks[b]? =lK bl:=⟨_,gO au⟩
  have ab:=iZ Y;have al:=ho.blocks bl ab;have ak:=hs.all bl ab;have bn:=ak.ins;have ax:=Dq (g:=Nt) Y;refine Al ?_;refine h6 _ ?_;refine nT ?_;refine Ab λK9 h9=>?_
  refine Ac ?_;refine rCS ?_;refine Ac ?_;refine AB (λi:Nat=>⟨(.any::.ptr 0 0::.any::.bs tInt (((f.blocks.take b).flatMap Nt++(bl.ins.take i).flatMap By).foldl BZ [])::.lit (.int .i64 (b:Int))::.lit (.int .i64 (i:Int))::A40 (A10 (A9 []))),[.box (Ak f)]⟩) (λi=>i<=bl.ins.length) (λi=>bl.ins.length - i) 0 (lF _) (by rw[show(f.blocks.take b).flatMap Nt++(bl.ins.take 0).flatMap By=(f.blocks.take b).flatMap Nt by simp];exact BU) ?_;intro i hi
  (try dsimp only at hi);(try dsimp only)
  refine Ab λbx bb=>?_
  refine rCS ?_;refine Ag V (λZ=>?_) (λZ=>?_)
  ·have an:i < bl.ins.length:=by simpa using Z
   obtain⟨x,hx⟩:∃x,bl.ins[i]? =lK x:=⟨_,gO an⟩
   have ai:=iZ hx;have I:=al.ins x ai;have aj:x.args.length<=2097152:=by have:=ak.all x ai;omega
   have ar:=Dq (g:=By) hx;have bm:=Sl (g:=By) Y hx;have bq:(f.blocks.flatMap λc=>c.ins.flatMap By).length<=2097152:=hX;obtain⟨P,hP⟩:∃P,(f.blocks.take b).flatMap Nt++(bl.ins.take i).flatMap By=P:=⟨_,rfl⟩
   have br:P.length+(By x).length<=2097152:=by
    rw[<-hP,iB];have:((f.blocks.take b).flatMap Nt).length=((f.blocks.take b).flatMap λc=>c.ins.flatMap By).length:=rfl;omega
   have ao:Bg P:=by
    rw[<-hP];intro r hr;rcases iQ.1 hr with hr|hr
    ·obtain⟨c,hc,hr⟩:=iW.1 hr;obtain⟨y,hy,hr⟩:=iW.1 hr;exact Lp ((ho.blocks c (i7 hc)).ins y hy) r hr
    ·obtain⟨y,hy,hr⟩:=iW.1 hr;exact Lp (al.ins y (i7 hy)) r hr
   have am:(f.blocks.take b).flatMap Nt++(bl.ins.take (i+1)).flatMap By=P++By x:=by rw[ar,<-hP,fK]
   rw[hP];have J:By x=readsC x++if Bd x then [x.d]else []:=rfl
   have aa:=Lp I;have bg:(readsC x).length<=(By x).length:=by rw[J,iB];omega
   have bk:([]:List Int).length+(readsC x).length<=fE:=by simp[fE];omega
   have bj:(([]:List Int).length+(readsC x).length) * 8<=140737488355328:=by simp;omega
   refine Al ?_;refine bb _ ?_;refine nT ?_;refine Ab λbw aq=>?_
   refine Ac ?_;refine rCS ?_;refine Ab λbv ba=>?_
   (refine j9 ?_;(repeat(first|(refine AC V (AOp.lit (s:=⟨_,_⟩) (T:=tInt) (xs:=[]) (ds:=[]) (e:=3) (bytes:=8) V V V (by kernel_rfl) (by decide) (by decide) .nil ?_);refine sNt ?_)|refine sQ ?_ (AT.call V (Gj x I aj) V V V)|refine sQ ?_ (Ax V V V V)|refine sQ ?_ (Av V V V V)|refine sQ ?_|refine AM ?_|refine sG (hq:=by(intro hg;(try simp only[Bool.and_eq_true,beq_iff_eq]at hg);(try simp only[hg,Bool.true_and,zaj]);exact AT.call V (Gj x I aj) V V V)) ?_|refine sG ?_|refine Bp ?_));refine Au ?_)
   refine ba _ ?_;refine nT ?_;refine Ab λbu az=>?_
   (refine j9 ?_;(repeat(first|refine sQ ?_ (AT.call V (Fu x I) V V V)|refine sQ ?_ (Ax V V V V)|refine sQ ?_ (Av V V V V)|refine sQ ?_|refine AM ?_|refine sG (hq:=by(intro hg;(try simp only[Bool.and_eq_true,beq_iff_eq]at hg);(try simp only[hg,Bool.true_and,zaj]);exact AT.call V (Fu x I) V V V)) ?_|refine sG ?_|refine Bp ?_));refine Au ?_)
   refine az _ ?_;refine nT ?_;refine Ab λbt ap=>?_
   refine rCS ?_;refine Ag V (λG=>?_) (λG=>?_)
   ·rw[G,if_pos V]at J;have e1:(if Bd x=aN then x.d else 0)=x.d:=if_pos G;have bf:=I.d;rw[e1];have bi:(readsC x).length+ [x.d].length<=fE:=by simp[fE];omega
    have bh:((readsC x).length+ [x.d].length) * 8<=140737488355328:=by simp;omega
    refine rC ?_;refine ap _ ?_;refine nT ?_;refine rCS ?_;refine Ac ?_;refine AB (λk:Nat=>⟨(.any::.ptr 0 0::.any::.bs tInt ((P++(By x).take k).foldl BZ [])::.lit (.int .i64 (b:Int))::.lit (.int .i64 (i:Int))::.any::.own 2 2::A2 (.lit (.int .i64 (k:Int))::A40 (A10 (A4 [])))),[.box (Ak f),.dead,.row 2 3 tInt (By x)]⟩) (λk=>k<=(By x).length) (λk=>(By x).length - k) 0 (lF _) (by rw[show P++(By x).take 0=P by simp,J];exact Ki (.cons (.dead (.cons (kD _))))) ?_;intro k hk;have av:(P++(By x).take k).length<=2097152:=by rw[iB,iL];omega
    have ad:Bg (P++(By x).take k):=λr hr=>by
     rcases iQ.1 hr with hr|hr
     ·exact ao r hr
     ·exact aa r (i7 hr)
    obtain⟨ac,E⟩:=FH (P++(By x).take k);have E:=E ad;have u:∀r,(By x)[k]? =lK r->(P++(By x).take (k+1)).foldl BZ []=BZ ((P++(By x).take k).foldl BZ []) r:=λr hr=>Po P hr
    have j:k=(By x).length->(P++(By x).take k).foldl BZ []=(P++By x).foldl BZ []:=λe=>by rw[e,jW]
    (try dsimp only at hk);(try dsimp only)
    generalize (P++(By x).take k).foldl BZ []=O at ac E u j⊢;refine Ab λbe ah=>?_
    refine rCS ?_;refine Ag V (λF=>?_) (λF=>?_)
    ·have X:k < (By x).length:=by simpa using F
     obtain⟨r,hr⟩:∃r,(By x)[k]? =lK r:=⟨_,gO X⟩
     have U:=aa r (iZ hr);have u:=u r hr;refine Al ?_;refine ah _ ?_;refine nT ?_;refine Ab λbc ag=>?_
     refine Ac ?_
     (refine j9 ?_;(repeat(first|refine sQ ?_ (AT.call V (IJ O r (by omega) E U) V V V)|refine sQ ?_ (Ax V V V V)|refine sQ ?_ (Av V V V V)|refine sQ ?_|refine AM ?_|refine sG (hq:=by(intro hg;(try simp only[Bool.and_eq_true,beq_iff_eq]at hg);(try simp only[hg,Bool.true_and,zaj]);exact AT.call V (IJ O r (by omega) E U) V V V)) ?_|refine sG ?_|refine Bp ?_));refine Au ?_)
     refine ag _ ?_;refine nT ?_;refine rC ?_;refine An ⟨k+1,by omega,by omega,?_⟩;rw[u];exact BU
    ·have ae:k=(By x).length:=by
      have:¬k < (By x).length:=by simpa using F
      omega
     have j:=j ae;refine Ay ?_;refine aq _ ?_;refine nT ?_;refine rC ?_;refine An ⟨i+1,by omega,by omega,?_⟩;rw[am,<-j];exact Ki (.cons (kD _))
   ·rw[G,if_neg (by simp),fL]at J;refine Al ?_;refine ap _ ?_;refine nT ?_;refine rCS ?_;refine Ac ?_;refine AB (λk:Nat=>⟨(.any::.ptr 0 0::.any::.bs tInt ((P++(By x).take k).foldl BZ [])::.lit (.int .i64 (b:Int))::.lit (.int .i64 (i:Int))::.any::.own 2 1::A2 (.lit (.int .i64 (k:Int))::A40 (A10 (A4 [])))),[.box (Ak f),.dead,.row 1 3 tInt (By x)]⟩) (λk=>k<=(By x).length) (λk=>(By x).length - k) 0 (lF _) (by rw[show P++(By x).take 0=P by simp,J];exact Ki (.cons (.dead (.cons (kD _))))) ?_;intro k hk;have av:(P++(By x).take k).length<=2097152:=by rw[iB,iL];omega
    have ad:Bg (P++(By x).take k):=λr hr=>by
     rcases iQ.1 hr with hr|hr
     ·exact ao r hr
     ·exact aa r (i7 hr)
    obtain⟨ac,E⟩:=FH (P++(By x).take k);have E:=E ad;have u:∀r,(By x)[k]? =lK r->(P++(By x).take (k+1)).foldl BZ []=BZ ((P++(By x).take k).foldl BZ []) r:=λr hr=>Po P hr
    have j:k=(By x).length->(P++(By x).take k).foldl BZ []=(P++By x).foldl BZ []:=λe=>by rw[e,jW]
    (try dsimp only at hk);(try dsimp only)
    generalize (P++(By x).take k).foldl BZ []=O at ac E u j⊢;refine Ab λbe ah=>?_
    refine rCS ?_;refine Ag V (λF=>?_) (λF=>?_)
    ·have X:k < (By x).length:=by simpa using F
     obtain⟨r,hr⟩:∃r,(By x)[k]? =lK r:=⟨_,gO X⟩
     have U:=aa r (iZ hr);have u:=u r hr;refine Al ?_;refine ah _ ?_;refine nT ?_;refine Ab λbc ag=>?_
     refine Ac ?_
     (refine j9 ?_;(repeat(first|refine sQ ?_ (AT.call V (IJ O r (by omega) E U) V V V)|refine sQ ?_ (Ax V V V V)|refine sQ ?_ (Av V V V V)|refine sQ ?_|refine AM ?_|refine sG (hq:=by(intro hg;(try simp only[Bool.and_eq_true,beq_iff_eq]at hg);(try simp only[hg,Bool.true_and,zaj]);exact AT.call V (IJ O r (by omega) E U) V V V)) ?_|refine sG ?_|refine Bp ?_));refine Au ?_)
     refine ag _ ?_;refine nT ?_;refine rC ?_;refine An ⟨k+1,by omega,by omega,?_⟩;rw[u];exact BU
    ·have ae:k=(By x).length:=by
      have:¬k < (By x).length:=by simpa using F
      omega
     have j:=j ae;refine Ay ?_;refine aq _ ?_;refine nT ?_;refine rC ?_;refine An ⟨i+1,by omega,by omega,?_⟩;rw[am,<-j];exact Ki (.cons (kD _))
  ·have aw:i=bl.ins.length:=by
    have:¬i < bl.ins.length:=by simpa using Z
    omega
   subst aw;refine Ay ?_;refine h9 _ ?_;refine nT ?_;refine rC ?_;refine An ⟨b+1,by omega,by omega,?_⟩;rw[ax,show(bl.ins.take bl.ins.length).flatMap By=Nt bl by rw[jW];rfl];exact BU
 ·have ay:b=f.blocks.length:=by
   have:¬b < f.blocks.length:=by simpa using af
   omega
  subst ay;rw[jW];refine Ay ?_;refine h3 _ ?_;refine nT ?_;refine rCS ?_;refine Aw ?_;exact⟨.inr V,kG V⟩
def CF(f:kL):Bool:=Jg f||decide (((AF f).length:Int) > 60)
theorem Aab(f:kL)(E:okFunc f)(u:smallF f)(F:(Nv f).length<=2097152):Fn cF 7 [.agg (Ak f)] (.lit (.bool (CF f))):=by
 have j:=Aac f u;have g:=OM f E u F;refine AQ Tryz.func7 V (by kernel_rfl) V Tryz.ntmps7 λC G=>?_
 refine nS ?_;refine rCS ?_;refine Ab λI h2=>?_
 (refine j9 ?_;(repeat(first|refine sQ ?_ (AT.call V j V V V)|refine sQ ?_ (AT.call V g V V V)|refine sQ ?_ (Ax V V V V)|refine sQ ?_ (Av V V V V)|refine sQ ?_|refine AM ?_|refine sG (hq:=by(intro hg;(try simp only[Bool.and_eq_true,beq_iff_eq]at hg);(try simp only[hg,Bool.true_and,zaj]);exact AT.call V j V V V)) ?_|refine sG (hq:=by(intro hg;(try simp only[Bool.and_eq_true,beq_iff_eq]at hg);(try simp only[hg,Bool.true_and,zaj]);exact AT.call V g V V V)) ?_|refine sG ?_|refine Bp ?_));refine Au ?_)
 refine h2 _ ?_;refine nT ?_;refine Aw ?_;exact⟨.inr V,kG V⟩
theorem Pn{n:Int}:∀(l:List Int) (s:List Int×Bool),Asc (s.1++l)->(s.2=aI->∀y∈s.1,y < n)->n∉l->
 Asc (l.foldl (GR n) s).1/\(∀y,y∈(l.foldl (GR n) s).1↔(y∈s.1\/y∈l)\/(y=n/\(l.foldl (GR n) s).2=aN/\s.2=aI))/\((l.foldl (GR n) s).2=aI->∀y∈(l.foldl (GR n) s).1,y < n)
 | [],s,E,hb,_=>by
  refine⟨by simpa using E,λy=>?_,hb⟩;simp only[List.foldl_nil,jH,or_false];constructor
  ·exact λh=>.inl h
  ·rintro(h|⟨_,h1,h2⟩)
   ·exact h
   ·rw[h1]at h2;cases h2
 |x::l,s,E,hb,O=>by
  have Y:n≠x:=λe=>O (by rw[e];exact iT ..)
  have u:n∉l:=λe=>O (iS _ e)
  unfold Asc at E;rw[jI]at E;obtain⟨U,j,Z⟩:=E;rw[jJ]at j;rw[gI];by_cases hc:(!s.2&&aO (x > n))=aN
  ·have J:s.2=aI:=by
    simp only[zas]at hc;exact hc.1
   have X:x > n:=by
    simp only[zaf]at hc;exact hc.2
   have e:GR n s x=(s.1++[n]++[x],aN):=if_pos hc;rw[e];obtain⟨I,F,G⟩:=Pn l (s.1++[n]++[x],aN) (by
    unfold Asc;rw[fK,fK,jI];refine⟨U,?_,λa g b hbz=>?_⟩
    ·simp only[fM,jD,jJ];refine⟨λb hbm=>?_,j.1,j.2⟩;rcases iR.1 hbm with rfl|hbm
     ·omega
     ·have:=j.1 b hbm;omega
    ·have h1:=hb J a g;simp only[fM,jD,iR]at hbz;rcases hbz with rfl|rfl|hbz
     ·exact h1
     ·omega
     ·have:=j.1 b hbz;omega) (λh=>by cases h) u
   have ht:(l.foldl (GR n) (s.1++[n]++[x],aN)).2=aN:=by
    by_cases h:(l.foldl (GR n) (s.1++[n]++[x],aN)).2=aN
    ·exact h
    ·have h:=G (by simpa using h) n ((F n).2 (.inl (.inl (by simp))));omega
   refine⟨I,λy=>?_,λh=>by rw[ht]at h;cases h⟩;rw[F,ht,J];simp only[or_false,and_true,reduceCtorEq,and_false,zau];constructor
   ·rintro((h|h)|h)
    ·rcases h with h|h
     ·exact .inl (.inl h)
     ·exact .inr h
    ·exact .inl (.inr (.inl h))
    ·exact .inl (.inr (.inr h))
   ·rintro((h|h|h)|h)
    ·exact .inl (.inl (.inl h))
    ·exact .inl (.inr h)
    ·exact .inr h
    ·exact .inl (.inl (.inr h))
  ·have e:GR n s x=(s.1++[x],s.2):=if_neg hc;rw[e];obtain⟨I,F,G⟩:=Pn l (s.1++[x],s.2) (by
    unfold Asc;rw[fK,jI];refine⟨U,?_,λa g b hbz=>Z a g b (by simpa using hbz)⟩;simp only[fM,jD,jJ];exact j) (λh y hy=>by
    rcases iQ.1 hy with hy|hy
    ·exact hb h y hy
    ·rw[jB.1 hy];have h:s.2=aI:=h;rw[h]at hc;have:¬x > n:=by simpa using hc
     omega) u
   refine⟨I,λy=>?_,G⟩;rw[F];simp only[or_false,or_assoc,zau]
theorem Acp(h:Asc l)(n:Int):Asc (BZ l n)/\∀y,y∈BZ l n↔y=n\/y∈l:=by
 unfold BZ;split
 ·rename_i hc;have hc:=fO.1 hc;exact⟨h,λy=>⟨.inr,λhy=>by
   rcases hy with rfl|hy
   ·exact hc
   ·exact hy⟩⟩
 ·rename_i hc;have F:n∉l:=λe=>hc (fO.2 e)
  obtain⟨u,j,E⟩:=Pn (n:=n) l ([],aI) (by simpa using h) (λ_ y hy=>by cases hy) F;have u:Asc (Fl n l).1:=u;have j:∀y,y∈(Fl n l).1↔(y∈([]:List Int)\/y∈l)\/(y=n/\(Fl n l).2=aN/\aI=aI):=j;have E:(Fl n l).2=aI->∀y∈(Fl n l).1,y < n:=E;simp only[jH,false_or,and_true]at j;split
  ·rename_i g;have g:(Fl n l).2=aI:=by simpa using g
   refine⟨?_,λy=>?_⟩
   ·unfold Asc;rw[jI];refine⟨u,List.pairwise_singleton ..,λa G b hb=>?_⟩;rw[jB.1 hb];exact E g a G
   ·rw[iQ,j,g,jB];simp only[aJ,and_false,or_false];exact or_comm
  ·rename_i g;have g:(Fl n l).2=aN:=by simpa using g
   refine⟨u,λy=>?_⟩;rw[j,g];simp only[and_true];exact or_comm
theorem MO(l:List Int):Asc (l.foldl BZ [])/\∀y,y∈l.foldl BZ []↔y∈l:=by
 suffices h:∀(l s:List Int),Asc s->Asc (l.foldl BZ s)/\∀y,y∈l.foldl BZ s↔y∈s\/y∈l by
  obtain⟨h1,h2⟩:=h l [] fH;exact⟨h1,λy=>by rw[h2];simp⟩
 intro l;induction l with
 |nil=>exact λs g=>⟨g,λy=>by simp⟩
 |cons x l j=>
  intro s g;obtain⟨E,u⟩:=Acp g x;obtain⟨h1,h2⟩:=j (BZ s x) E;rw[gI];refine⟨h1,λy=>?_⟩;rw[h2,u,iR];constructor
  ·rintro((h|h)|h)
   ·exact .inr (.inl h)
   ·exact .inl h
   ·exact .inr (.inr h)
  ·rintro(h|h|h)
   ·exact .inl (.inr h)
   ·exact .inl (.inl h)
   ·exact .inr h
theorem CL(f:kL):Asc (AF f)/\∀y,y∈AF f↔y∈Nv f:=MO _
def Ue(f:kL)(n:Nat):List Int:=(NM n).filter λr=>decide (r < f.args)||(AF f).contains r
def Mt(f:kL):List Int:=((AF f).takeWhile λr=>decide (r < 0))++Ue f 6++(AF f).filter λr=>decide (r > 5)
theorem Akj(n:Nat):Asc (NM n):=by
 unfold NM Asc;rw[jK];exact List.pairwise_lt_range.imp λ{a b} h=>by omega
theorem R3{n:Nat}:r∈NM n↔0<=r/\r < n:=by
 unfold NM;rw[iY];constructor
 ·rintro⟨k,hk,rfl⟩;have:=i9.1 hk;omega
 ·rintro⟨h1,h2⟩;exact⟨r.toNat,i9.2 (by omega),by omega⟩
theorem HF:∀{l:List Int},Asc l->(l.takeWhile λr=>decide (r < 0))=l.filter λr=>decide (r < 0)
 | [],_=>rfl
 |x::l,h=>by
  unfold Asc at h;rw[jJ]at h;by_cases hx:x < 0
  ·rw[List.takeWhile_cons_of_pos (by simpa using hx),List.filter_cons_of_pos (by simpa using hx),HF h.2]
  ·rw[List.takeWhile_cons_of_neg (by simpa using hx),List.filter_cons_of_neg (by simpa using hx)];refine(fZ.2 λy g=>?_).symm;have:=h.1 y g;simp;omega
theorem G3(f:kL):Mt f=regsB f:=by
 obtain⟨j,G⟩:=CL f;have hk:=Gz f;have F:=hk.1;refine GN ?_ (I3 f) λy=>?_
 ·unfold Mt Asc;rw[HF j,jI,jI];refine⟨⟨j.filter _,(Akj 6).filter _,λa ha b hb=>?_⟩,j.filter _,λa ha b hb=>?_⟩
  ·have h1:=(iV.1 ha).2;have h2:=R3.1 (iV.1 hb).1;have h1:a < 0:=by simpa using h1
   omega
  ·have h2:=(iV.1 hb).2;have h2:b > 5:=by simpa using h2
   rcases iQ.1 ha with ha|ha
   ·have h1:=(iV.1 ha).2;have h1:a < 0:=by simpa using h1
    omega
   ·have h1:=R3.1 (iV.1 ha).1;omega
 ·unfold Mt;rw[HF j,I2];unfold Ace Ue;simp only[iQ,iV,R3,G,decide_eq_true_eq,aM,fO];have g:(argsK f:Int)=Ahx f:=F.symm;unfold Ahx at g;constructor
  ·rintro((⟨h,_⟩|⟨⟨h1,h2⟩,h|h⟩)|⟨h,_⟩)
   ·exact .inr h
   ·left;refine⟨h1,?_⟩;rw[g];split <;> split <;> omega
   ·exact .inr h
   ·exact .inr h
  ·rintro(⟨h1,h2⟩|h)
   ·left;right;rw[g]at h2;refine⟨⟨h1,?_⟩,.inl ?_⟩
    ·split at h2 <;> split at h2 <;> omega
    ·split at h2 <;> split at h2 <;> omega
   ·by_cases E:y < 0
    ·exact .inl (.inl ⟨h,E⟩)
    ·by_cases u:y > 5
     ·exact .inr ⟨h,u⟩
     ·exact .inl (.inr ⟨⟨by omega,by omega⟩,.inr h⟩)
def YH(f:kL):List Int:=((stepsL f).flatMap Fr).foldl BZ []
theorem Aa2(f:kL):YH f=B5 f:=by
 obtain⟨E,g⟩:=MO ((stepsL f).flatMap Fr);refine GN E (Re f) λy=>?_
 have u:F5 f (stepsL f).length y=aN↔y∈(stepsL f).flatMap Fr:=by
  unfold F5 addL;rw[jW];simp only[aK,fO]
 unfold B5;rw[iV,u];constructor
 ·intro h;have h:=(g y).1 h;refine⟨?_,h⟩;obtain⟨q,hq,j⟩:=iW.1 h;exact JX (C8 hq).2.1 y j
 ·rintro⟨_,h⟩;exact(g y).2 h
def F4(x:Ins)(r:Int):Bool:=x.op ==7||(x.op ==5&&r !=x.d)
theorem Ahd(q:Ins×List Int):Fr q=q.2.filter (F4 q.1):=by
 unfold Fr F4;split
 ·rename_i h;simp only[aG,bne_iff_ne,ne_eq]at h;refine(fZ.2 λr _=>?_).symm;simp[h.1,h.2]
 ·rename_i h;refine List.filter_congr λr _=>?_
  by_cases j:q.1.op=7
  ·simp[j]
  ·have g:q.1.op=5:=by
    simp only[aG,bne_iff_ne,ne_eq,not_and,Decidable.not_not]at h;by_cases g:q.1.op=5
    ·exact g
    ·exact absurd (h g) j
   simp[j,g]
def KK:List Int:=Aiv++Aix
theorem Dn(g:List Int)(r:Int)(leaf:Bool):BA g r leaf=if leaf then Aak else if g.contains r then KK else Aak++KK:=by
 unfold BA;cases leaf
 ·cases g.contains r <;> rfl
 ·rfl
def Aj2(f:kL)(b:Nat):List Int:=((jM b).flatMap (ED f)).flatMap Fr
def Ait(f:kL)(b i:Nat):List Int:=Aj2 f b++((ED f b).take i).flatMap Fr
theorem Ao5(f:kL)(hb:b<=f.blocks.length):∀y∈Aj2 f b,y∈Bz f:=λy g=>by
 obtain⟨q,hq,g⟩:=iW.1 g;obtain⟨c,hc,hq⟩:=iW.1 hq;have hc:=i9.1 hc;exact JX (C8 (iW.2 ⟨c,i9.2 (by omega),hq⟩)).2.1 y g
theorem Ao4(f:kL)(hb:b < f.blocks.length):∀y∈Ait f b i,y∈Bz f:=λy hy=>by
 rcases iQ.1 hy with hy|hy
 ·exact Ao5 f (by omega) y hy
 ·obtain⟨q,hq,hy⟩:=iW.1 hy;exact JX (C8 (iW.2 ⟨b,i9.2 hb,i7 hq⟩)).2.1 y hy
theorem Aew(f:kL)(b:Nat):Aj2 f (b+1)=Ait f b (ED f b).length:=by
 unfold Ait Aj2;rw[jW,jN,gE,gE];simp
theorem Aeu(h:(ED f b)[i]? =lK q):Ait f b (i+1)=Ait f b i++q.2.filter (F4 q.1):=by
 unfold Ait;rw[Dq h,<-fK,Ahd]
theorem Aet(f:kL)(b:Nat):Ait f b 0=Aj2 f b:=by unfold Ait;simp
theorem Aev(f:kL):Aj2 f 0= []:=rfl
theorem Aj1(f:kL):Aj2 f f.blocks.length=(stepsL f).flatMap Fr:=rfl
theorem Ago{m:List Int}(h:∀y∈l,y∈m):(l.foldl BZ []).length<=m.length/\(Bg m->Bg (l.foldl BZ [])):=by
 obtain⟨E,g⟩:=MO l;exact⟨Dh E.nodup λx hx=>h x ((g x).1 hx),λu r j=>u r (h r ((g r).1 j))⟩
theorem WI(P:List Int)(r:Int):(P++[r]).foldl BZ []=BZ (P.foldl BZ []) r:=by rw[gH];rfl
theorem Aa1(f:kL)(ho:okFunc f)(hs:smallF f)(hT:(Ce f).length<=2097152)(bh:∀b∈f.blocks,b.ins.length+1<=2097152):Fn cF 105 [.agg (Ak f)] (.bs tInt (B5 f)):=by
 have bi:=hs.blocks;have aw:(Bz f).length<=2097152:=kZ (Dm _) hT;have aj:Bg (Bz f):=λx hx=>by
  obtain⟨b,h1,y,h2,h3⟩:=I1.1 hx;exact FU ((ho.blocks b h1).ins y h2) x h3
 rw[<-Aa2];refine AQ Tryz.func105 V (by kernel_rfl) V Tryz.ntmps105 λC hC=>?_
 refine nS ?_;refine rCS ?_;refine Ab λK2 h2=>?_
 (refine j9 ?_;(repeat(first|refine sQ ?_ (AT.call V (YU f ho hs hT) V V V)|refine sQ ?_ (Ax V V V V)|refine sQ ?_ (Av V V V V)|refine sQ ?_|refine AM ?_|refine sG ?_|refine Bp ?_));refine Au ?_)
 refine h2 _ ?_;refine nT ?_;refine rCS ?_;refine Ab λK4 h4=>?_
 refine rCS ?_;refine Ac ?_;refine AB (λb:Nat=>⟨(.any::.ptr 0 0::.any::.bs tInt.slice.slice (PH f)::.bs tInt ((Aj2 f b).foldl BZ [])::.lit (.int .i64 (b:Int))::A40 (A20 (A10 [.any]))),[.box (Ak f)]⟩) (λb=>b<=f.blocks.length) (λb=>f.blocks.length - b) 0 (lF _) (by rw[Aev f];exact(PP 4 tInt V).trans (BU)) ?_;intro b hb;refine Ab λK7 h7=>?_
 refine rCS ?_;refine Ag V (λae=>?_) (λae=>?_)
 ·have G:b < f.blocks.length:=by simpa using ae
  obtain⟨bl,ab⟩:∃bl,f.blocks[b]? =lK bl:=⟨_,gO G⟩
  have Z:=iZ ab;have ap:=ho.blocks bl Z;have an:=hs.all bl Z;have bg:=an.ins;have I:Cl f b=bl.ins:=by unfold Cl;rw[ab]
  have bj:(PH f)[b]? =lK (B6 f b):=by unfold PH;rw[gR,gT G];rfl
  have am:(ED f b).length=bl.ins.length:=by rw[QJ,I]
  have ag:=Aew f b;rw[am]at ag;refine Al ?_;refine h7 _ ?_;refine nT ?_;refine Ab λbr bb=>?_
  refine Ac ?_;refine rCS ?_;refine Ac ?_;refine AB (λi:Nat=>⟨(.any::.ptr 0 0::.any::.bs tInt.slice.slice (PH f)::.bs tInt ((Ait f b i).foldl BZ [])::.lit (.int .i64 (b:Int))::.lit (.int .i64 (i:Int))::A40 (A20 (A10 []))),[.box (Ak f)]⟩) (λi=>i<=bl.ins.length) (λi=>bl.ins.length - i) 0 (lF _) (by rw[Aet f b];exact BU) ?_;intro i hi;refine Ab λbq ba=>?_
  refine rCS ?_;refine Ag V (λX=>?_) (λX=>?_)
  ·have ai:i < bl.ins.length:=by simpa using X
   obtain⟨x,hx⟩:∃x,bl.ins[i]? =lK x:=⟨_,gO ai⟩
   have al:=iZ hx;have be:=ap.ins x al;obtain⟨g,aa⟩:∃g,(B6 f b)[i+1]? =lK g:=⟨_,gO (by rw[MW,I];omega)⟩
   have bf:(B6 f b)[((i:Int)+1).toNat]? =lK g:=by rw[show((i:Int)+1).toNat=i+1 by omega];exact aa
   have ac:=Td (f:=f) (b:=b) (i:=i) (x:=x) (by rw[I];exact hx) aa;have ad:=Aeu ac;have u:=Ao4 f (i:=i+1) G;rw[ad]at u;have bc:g.length<=2097152:=by
    have:=(C8 (iW.2 ⟨b,i9.2 G,iZ ac⟩)).2.2;exact kZ this aw
   generalize Ait f b i=P at ad u⊢;refine Al ?_;refine ba _ ?_;refine nT ?_;refine Ab λbo az=>?_
   refine Ac ?_;refine rCS ?_;refine rCS ?_;refine rCS ?_;refine Ac ?_;refine AB (λk:Nat=>⟨(.any::.ptr 0 0::.any::.bs tInt.slice.slice (PH f)::.bs tInt ((P++(g.take k).filter (F4 x)).foldl BZ [])::.lit (.int .i64 (b:Int))::.lit (.int .i64 (i:Int))::.ptr 1 0::.bs tInt g::.lit (.int .i64 (k:Int))::A40 (A20 (A7 []))),[.box (Ak f),.box (BV x)]⟩) (λk=>k<=g.length) (λk=>g.length - k) 0 (lF _) (by rw[show P++(g.take 0).filter (F4 x)=P by simp];exact Ki (.cons (.cons (kD _)))) ?_;intro k hk;have af:∀y∈P++(g.take k).filter (F4 x),y∈Bz f:=λy hy=>by
    rcases iQ.1 hy with hy|hy
    ·exact u y (List.mem_append_left _ hy)
    ·refine u y (List.mem_append_right _ (iV.2 ⟨i7 (iV.1 hy).1,(iV.1 hy).2⟩))
   obtain⟨aq,Y⟩:=Ago af;have Y:=Y aj;have j:∀r,g[k]? =lK r->F4 x r=aN->(P++(g.take (k+1)).filter (F4 x)).foldl BZ []=BZ ((P++(g.take k).filter (F4 x)).foldl BZ []) r:=λr hr hq=>by
    rw[DZ hr,hq,if_pos V,<-fK,WI]
   have F:∀r,g[k]? =lK r->F4 x r=aI->(P++(g.take (k+1)).filter (F4 x)).foldl BZ []=(P++(g.take k).filter (F4 x)).foldl BZ []:=λr hr hq=>by
    rw[DZ hr,hq,if_neg (by simp),fL]
   have E:k=g.length->(P++g.filter (F4 x)).foldl BZ []=(P++(g.take k).filter (F4 x)).foldl BZ []:=λe=>by rw[e,jW]
   (try dsimp only at hk);(try dsimp only)
   generalize (P++(g.take k).filter (F4 x)).foldl BZ []=O at aq Y j F E⊢;refine Ab λbn ay=>?_
   refine rCS ?_;refine Ag V (λU=>?_) (λU=>?_)
   ·have ah:k < g.length:=by simpa using U
    obtain⟨r,hr⟩:∃r,g[k]? =lK r:=⟨_,gO ah⟩
    have j:=j r hr;have F:=F r hr;have ao:wfI .i64 r:=aj r (by
     have:=(C8 (iW.2 ⟨b,i9.2 G,iZ ac⟩)).2.1;exact this r (iZ hr))
    refine Al ?_;refine ay _ ?_;refine nT ?_;refine Ab λbm ak=>?_
    refine Ac ?_;refine Ab λbk ax=>?_
    (refine NP 17 (hh:=?_);(repeat(first|refine qQ ?_ (Ax V V V V)|refine qQ ?_ (Av V V V V)|refine qQ ?_|refine G5 ?_|refine qG ?_));refine Fc ?_;(repeat(first|refine sQ ?_ (Ax V V V V)|refine sQ ?_ (Av V V V V)|refine sQ ?_|refine AM ?_|refine sG ?_|refine Bp ?_));refine Au ?_)
    refine ax _ ?_;refine nT ?_;refine Ag V (λJ=>?_) (λJ=>?_)
    ·have j:=j J
     (refine j9 ?_;(repeat(first|refine sQ ?_ (AT.call V (IJ O r (by omega) Y ao) V V V)|refine sQ ?_ (Ax V V V V)|refine sQ ?_ (Av V V V V)|refine sQ ?_|refine AM ?_|refine sG ?_|refine Bp ?_));refine Au ?_)
     refine ak _ ?_;refine nT ?_;refine rC ?_;refine An ⟨k+1,by omega,by omega,?_⟩;rw[j];exact BU
    ·have F:=F J;refine Al ?_;refine ak _ ?_;refine nT ?_;refine rC ?_;refine An ⟨k+1,by omega,by omega,?_⟩;rw[F];exact BU
   ·have ar:k=g.length:=by have:¬k < g.length:=(by simpa using U);omega
    have E:=E ar;refine Ay ?_;refine az _ ?_;refine nT ?_;refine rC ?_;refine An ⟨i+1,by omega,by omega,?_⟩;rw[ad,E];exact Ki (.cons (kD _))
  ·have au:i=bl.ins.length:=by have:¬i < bl.ins.length:=(by simpa using X);omega
   refine Ay ?_;refine bb _ ?_;refine nT ?_;refine rC ?_;refine An ⟨b+1,by omega,by omega,?_⟩;rw[ag,<-au];exact BU
 ·have av:b=f.blocks.length:=by have:¬b < f.blocks.length:=(by simpa using ae);omega
  have e9:YH f=(Aj2 f b).foldl BZ []:=by rw[av,Aj1];rfl
  refine Ay ?_;refine h4 _ ?_;refine nT ?_;refine rCS ?_;refine Aw ?_;rw[e9];exact⟨.inr V,kG V⟩
def ltP(x y:Pair):Prop:=x.a < y.a\/(x.a=y.a/\x.b < y.b)
theorem R7(x:Pair):¬ltP x x:=λh=>by rcases h with h|h <;> omega
theorem Am9{z:Pair}(h1:ltP x y)(h2:ltP y z):ltP x z:=by unfold ltP at *;omega
theorem Afm(h1:ltP x y):¬ltP y x:=λh2=>R7 x (Am9 h1 h2)
abbrev Aoh(l:List Pair):Prop:=l.Pairwise ltP
theorem YT:∀{l m:List Pair},Aoh l->Aoh m->(∀x,x∈l↔x∈m)->l=m
 | [],[],_,_,_=>rfl
 | [],y::m,_,_,h=>by have:=(h y).2 (by simp);cases this
 |x::l,[],_,_,h=>by have:=(h x).1 (by simp);cases this
 |x::l,y::m,u,j,h=>by
  have u:=jJ.1 u;have j:=jJ.1 j;have e:x=y:=by
   rcases iR.1 ((h x).1 (by simp))with e|e
   ·exact e
   ·rcases iR.1 ((h y).2 (by simp))with e2|e2
    ·exact e2.symm
    ·exact absurd (u.1 y e2) (Afm (j.1 x e))
  subst e;refine congrArg _ (YT u.2 j.2 λz=>⟨λg=>?_,λg=>?_⟩)
  ·rcases iR.1 ((h z).1 (by simp[g]))with e|e
   ·subst e;exact absurd (u.1 _ g) (R7 _)
   ·exact e
  ·rcases iR.1 ((h z).2 (by simp[g]))with e|e
   ·subst e;exact absurd (j.1 _ g) (R7 _)
   ·exact e
theorem D5:∀{R:List Int} {x:Pair},Asc R->(x∈Fk R↔x.a∈R/\x.b∈R/\x.a < x.b)
 | [],x,_=>by simp[Fk]
 |a::R,x,h=>by
  have h:=jJ.1 h;unfold Fk;rw[iQ,D5 h.2,iY];constructor
  ·rintro(⟨b,hb,rfl⟩|⟨h1,h2,g⟩)
   ·exact⟨by simp,by simp[hb],h.1 b hb⟩
   ·exact⟨by simp[h1],by simp[h2],g⟩
  ·rintro⟨h1,h2,g⟩;rcases iR.1 h1 with e|e
   ·rcases iR.1 h2 with e2|e2
    ·omega
    ·exact .inl ⟨x.b,e2,by rw[<-e]⟩
   ·rcases iR.1 h2 with e2|e2
    ·have:=h.1 x.a e;omega
    ·exact .inr ⟨e,e2,g⟩
theorem OU:∀{R:List Int},Asc R->Aoh (Fk R)
 | [],_=>fH
 |a::R,h=>by
  have h:=jJ.1 h;unfold Fk;refine jI.2 ⟨jK.2 (h.2.imp λh=>.inr ⟨rfl,h⟩),OU h.2,λx hx y g=>?_⟩;obtain⟨b,hb,rfl⟩:=iY.1 hx;exact .inl (h.1 _ ((D5 h.2).1 g).1)
theorem H6:∀(R:List Int),(Fk R).length<=R.length * R.length
 | []=>kY _
 |a::R=>by
  unfold Fk;rw[iB,iF,iC];have:=H6 R;have e:(R.length+1) *(R.length+1)=R.length * R.length+2 * R.length+1:=by rw[kV,Nat.mul_add];omega
  omega
def EK(S:Pair->Bool)(l:List Pair):Pair->Bool:=λx=>S x||l.contains x
theorem Dr(S:Pair->Bool):EK S []=S:=by funext x;simp[EK]
theorem Fb(S:Pair->Bool)(l m:List Pair):EK S (l++m)=EK (EK S l) m:=by
 funext x;simp only[EK,fN,iQ,aH,aL]
theorem Ah4(S:Pair->Bool)(q:Pair):EK S [q]=Amc S q:=by
 funext x;simp only[EK,Amc,fN,iR,jH,or_false]
theorem PI{l:List Pair}:EK S l x=aN↔S x=aN\/x∈l:=by
 simp only[EK,aM,fO]
def Dg(a b:Int):List Pair:=if a=b then []else [⟨min a b,max a b⟩]
def InP(R:List Int)(S:Pair->Bool):Prop:=∀x,S x=aN->x.a∈R/\x.b∈R/\x.a < x.b
theorem YY(R:List Int):InP R λ_=>aI:=λ_ h=>by cases h
theorem TR{b:Int}(g:a∈R)(hb:b∈R):∀x∈Dg a b,x.a∈R/\x.b∈R/\x.a < x.b:=λx hx=>by
 unfold Dg at hx;split at hx
 ·cases hx
 ·simp only[or_false,zak]at hx;subst hx;try dsimp only
  rcases Int.lt_or_lt_of_ne (by assumption)with h|h
  ·rw[Int.min_eq_left (by omega),Int.max_eq_right (by omega)];exact⟨g,hb,h⟩
  ·rw[Int.min_eq_right (by omega),Int.max_eq_left (by omega)];exact⟨hb,g,h⟩
theorem InP.addL{l:List Pair}(h:InP R S)(g:∀x∈l,x.a∈R/\x.b∈R/\x.a < x.b):InP R (EK S l):=λx hx=>by
 rcases PI.1 hx with hx|hx
 ·exact h x hx
 ·exact g x hx
def D8(R:List Int)(S:Pair->Bool):List Pair:=(Fk R).filter S
theorem Ww(g:Asc R)(h:InP R S):x∈D8 R S↔S x=aN:=by
 unfold D8;rw[iV,D5 g];exact⟨λh=>h.2,λhx=>⟨h x hx,hx⟩⟩
theorem PF(g:Asc R):Aoh (D8 R S):=(OU g).filter S
def MR(q:Ins×List Int)(r:Int):Bool:=Bd q.1&&(q.1.op !=2||r !=q.1.a)
def WL(q:Ins×List Int):List Pair:=(q.2.filter (MR q)).flatMap (Dg q.1.d)
def Hg(f:kL)(k:Nat):Pair->Bool:=EK (λ_=>aI) (((stepsL f).take k).flatMap WL)
def edgeF(l:List Int):List Pair:=(jM l.length).flatMap λi=>(l.take i).flatMap (Dg (l[i]?.getD 0))
def CW(f:kL):List Int:=if f.blocks.length=0 then []else((B6 f 0)[0]?).getD []
def Hf(f:kL):Pair->Bool:=EK (Hg f (stepsL f).length) (edgeF (CW f))
def CC(f:kL):List Pair:=D8 (AF f) (Hf f)
def mvA(q:Ins×List Int):List Pair:=if q.1.op=2 then Dg q.1.d q.1.a else []
def mvK(f:kL)(k:Nat):Pair->Bool:=EK (λ_=>aI) (((stepsL f).take k).flatMap mvA)
def mvL(f:kL):List Pair:=D8 (AF f) (mvK f (stepsL f).length)
theorem Rc(h:(stepsL f)[k]? =lK q):Hg f (k+1)=EK (Hg f k) (WL q):=by
 unfold Hg;rw[jU,h,lN,gE,Fb];simp
theorem Aar(f:kL):Hg f 0=λ_=>aI:=by
 unfold Hg;rw[jZ,gG,Dr]
theorem O9(h:(stepsL f)[k]? =lK q):mvK f (k+1)=EK (mvK f k) (mvA q):=by
 unfold mvK;rw[jU,h,lN,gE,Fb];simp
theorem Wv(f:kL):mvK f 0=λ_=>aI:=by
 unfold mvK;rw[jZ,gG,Dr]
def IE(S:Pair->Bool)(q:Ins×List Int)(i:Nat):Pair->Bool:=EK S (((q.2.take i).filter (MR q)).flatMap (Dg q.1.d))
theorem Aas(S:Pair->Bool)(q:Ins×List Int):IE S q 0=S:=by
 unfold IE;rw[jZ,gB,gG,Dr]
theorem Ag6(h:q.2[i]? =lK r)(hq:MR q r=aN):IE S q (i+1)=EK (IE S q i) (Dg q.1.d r):=by
 unfold IE;rw[jU,h,lN,fX,fY,hq,gB,gE,Fb];simp
theorem All(h:q.2[i]? =lK r)(hq:MR q r=aI):IE S q (i+1)=IE S q i:=by
 unfold IE;rw[jU,h,lN,fX,fY,hq,gB];simp
theorem UP(S:Pair->Bool)(q:Ins×List Int):IE S q q.2.length=EK S (WL q):=by
 unfold IE WL;rw[jW]
def L4(S:Pair->Bool)(l:List Int)(i k:Nat):Pair->Bool:=EK (EK S ((jM i).flatMap λj=>(l.take j).flatMap (Dg (l[j]?.getD 0)))) ((l.take k).flatMap (Dg (l[i]?.getD 0)))
theorem Aat(S:Pair->Bool)(l:List Int):L4 S l 0 0=S:=by
 unfold L4;rw[List.range_zero,gG,jZ,gG,Dr,Dr]
theorem Aau{b:Int}(g:l[i]? =lK a)(hb:l[k]? =lK b):L4 S l i (k+1)=EK (L4 S l i k) (Dg a b):=by
 unfold L4;rw[jU,hb,g,lN,gE,Fb];simp
theorem Aav(S:Pair->Bool)(l:List Int)(i:Nat):L4 S l i i=L4 S l (i+1) 0:=by
 unfold L4;rw[jN,gE,jZ,gG,Dr,Fb];simp
theorem UQ(S:Pair->Bool)(l:List Int):L4 S l l.length 0=EK S (edgeF l):=by
 unfold L4 edgeF;rw[jZ,gG,Dr]
theorem MD:r∈AF f↔∃b∈f.blocks,∃x∈b.ins,r∈By x:=by
 rw[(CL f).2];unfold Nv Nt;simp only[iW]
theorem OL(h:r∈Bz f):r∈AF f:=by
 obtain⟨b,hb,x,hx,g⟩:=I1.1 h;exact MD.2 ⟨b,hb,x,hx,iQ.2 (.inl g)⟩
theorem Li(h:q∈stepsL f):(∃b∈f.blocks,q.1∈b.ins)/\∀r∈q.2,r∈AF f:=
 ⟨(C8 h).1,λr g=>OL ((C8 h).2.1 r g)⟩
theorem NX(h:q∈stepsL f)(g:Bd q.1=aN):q.1.d∈AF f:=by
 obtain⟨b,hb,hx⟩:=(Li h).1;exact MD.2 ⟨b,hb,q.1,hx,iQ.2 (.inr (by rw[g];simp))⟩
theorem MC{x:Ins}(h:x.op=2):Bd x=aN/\x.a∈readsC x:=by
 unfold Bd readsC;rw[h];exact⟨by rfl,iQ.2 (.inl (iQ.2 (.inl (by rw[if_pos (by rfl)];simp))))⟩
theorem XS(h:q∈stepsL f)(g:q.1.op=2):q.1.a∈AF f:=by
 obtain⟨b,hb,hx⟩:=(Li h).1;exact MD.2 ⟨b,hb,q.1,hx,iQ.2 (.inl (MC g).2)⟩
theorem Ig(u:a∈R)(j:∀r∈l,r∈R):∀x∈l.flatMap (Dg a),x.a∈R/\x.b∈R/\x.a < x.b:=λx hx=>by
 obtain⟨r,g,hx⟩:=iW.1 hx;exact TR u (j r g) x hx
theorem YE(j:InP (AF f) S)(h:q∈stepsL f)(i:Nat):InP (AF f) (IE S q i):=by
 unfold IE;by_cases g:Bd q.1=aN
 ·exact j.addL (Ig (NX h g) λr u=>(Li h).2 r (i7 (iV.1 u).1))
 ·rw[show(q.2.take i).filter (MR q)= []from fZ.2 λr _=>by unfold MR;simp[g],gG,Dr];exact j
theorem L3(f:kL):∀k,InP (AF f) (Hg f k)
 |0=>by rw[Aar];exact YY _
 |k+1=>by
  by_cases hk:k < (stepsL f).length
  ·have hq:=gO hk;rw[Rc hq,<-UP];exact YE (L3 f k) (iZ hq) _
  ·have:Hg f (k+1)=Hg f k:=by
    unfold Hg;rw[jX (by omega),jX (by omega)]
   rw[this];exact L3 f k
theorem UH(f:kL):∀r∈CW f,r∈AF f:=λr g=>by
 unfold CW at g;split at g
 ·cases g
 ·unfold B6 at g;cases h:((jM ((Cl f 0).length+1)).map (Df f (Bz f) 0))[0]? with
  |none=>rw[h]at g;cases g
  |some l=>
   rw[h]at g;obtain⟨i,_,e⟩:=iY.1 (iZ h);rw[<-e]at g;exact OL (iV.1 g).1
theorem YF(F:InP R S)(E:∀r∈l,r∈R)(hi:i<=l.length)(hik:k=0\/i < l.length):InP R (L4 S l i k):=by
 have hg:∀j,j < l.length->(l[j]?.getD 0)∈R:=λj g=>by
  rw[gO g];exact E _ (g8 g)
 unfold L4;refine InP.addL (InP.addL F λx hx=>?_) ?_
 ·obtain⟨j,g,hx⟩:=iW.1 hx;exact Ig (hg j (by have:=i9.1 g;omega)) (λr u=>E r (i7 u)) x hx
 ·rcases hik with rfl|hik
  ·intro x hx;simp at hx
  ·exact Ig (hg i hik) λr u=>E r (i7 u)
theorem Ag4(f:kL):InP (AF f) (Hf f):=by
 unfold Hf;rw[<-UQ];exact YF (L3 f _) (UH f) (kY _) (.inl V)
theorem LL(f:kL):∀k,InP (AF f) (mvK f k)
 |0=>by rw[Wv];exact YY _
 |k+1=>by
  by_cases hk:k < (stepsL f).length
  ·have hq:=gO hk;have g:=iZ hq;rw[O9 hq];refine(LL f k).addL λx hx=>?_
   unfold mvA at hx;split at hx
   ·rename_i h2;exact TR (NX g (MC h2).1) (XS g h2) x hx
   ·cases hx
  ·have:mvK f (k+1)=mvK f k:=by
    unfold mvK;rw[jX (by omega),jX (by omega)]
   rw[this];exact LL f k
open Go.Maps
def OT(p:Pair->Bool)(a:Int)(b:Int):M (Pair->Bool):=M.cnd (!(((if b < a then b else a) ==(if b > a then b else a))&&(((if b > a then b else a) ==(if b < a then b else a))&&aN))) (M.chk (RW ⟨(if b < a then b else a),(if b > a then b else a)⟩) (M.ok (Amc p ⟨(if b < a then b else a),(if b > a then b else a)⟩))) (M.ok p)
theorem Wj{p:Pair->Bool}{a:Int}{b:Int}{m:Nat}{r:Pair->Bool}{L:List Pair}(u:∀x,okPair x->p x=aN->x∈L)(j:L.length < fE)(H:(OT p a b).to r):DK cF 89 (DP p m) [.lit (.map (lK m)),.lit (.int .i64 a),.lit (.int .i64 b)] (λ_:Unit=>DP r m) (λ_=>.tuple #[]):=by
 delta OT at H;try dsimp only at H
 refine DX Tryz.func89 V (by kernel_rfl) V Tryz.ntmps89 V (λ_ _ _ _ h=>h) λC=>?_
 simp only[Nat.reduceAdd,Nat.reduceSub,zaa];refine wS (sT (sT ?_));refine sA ?_ (AT.min2 V Hd (Ao IG)) (Ap JH);refine sT (sT ?_);refine sA ?_ (AT.max2 V (Ao FG) (Ao FF)) (Ap Ka);refine sA ?_ (BR (rs:=[.lit (.int .i64 (if b < a then b else a)),.lit (.int .i64 (if b > a then b else a))]) V Am5 V V) (Ap GY);refine sA0 ?_;refine sW ?_;refine wN ?_;refine wS (sT (sT (sT (sT (sT ?_)))));refine sA ?_ (BR (rs:=[.lit (.int .i64 (if b > a then b else a)),.lit (.int .i64 (if b < a then b else a))]) V Am5 V V) (Ap (Ap JG));refine sA ?_ (Xp (bs:=[aN,aN]) (vs:=[(.int .i64 (if b < a then b else a)),(.int .i64 (if b > a then b else a))]) (ws:=[(.int .i64 (if b > a then b else a)),(.int .i64 (if b < a then b else a))]) (by kernel_rfl) V (Ao Iy) (Ao (Ao FF)) V) (Ap (Ap Ka));refine wN ?_;refine Ag V (λg=>?_) (λg=>?_)
 ·have H:=AN g H;obtain⟨E,H⟩:=Ah.1 H;refine wSE (sT (sT ?_));(refine AC V (Amp (q:=⟨(if b < a then b else a),(if b > a then b else a)⟩) 0 V dA V V V V u j (ZP E) ?_);refine D2 ?_ RG);refine wN ?_;repeat(first|refine abN ?_|refine asN ?_)
  obtain rfl:=Ad.1 H;exact⟨.inl V,(),rfl,rfl⟩
 ·have H:=AO g H;refine Al ?_;repeat(first|refine abN ?_|refine asN ?_)
  obtain rfl:=Ad.1 H;exact⟨.inl V,(),rfl,rfl⟩
end Mu
section
namespace Go.Proofs
open Go.Shelf
def Tryz.sortP_ren:eL:=⟨fun|6=>133|15=>99|14=>157|28=>126|29=>127|20=>168|21=>169|22=>170|23=>171|24=>172|25=>173|26=>174|27=>175|46=>183|47=>146|48=>147|49=>184|50=>185|57=>191|n=>n,fun|22=>38|24=>41|25=>137|3=>3|39=>104|0=>0|53=>45|55=>151|4=>4|46=>144|45=>143|50=>68|5=>5|9=>9|66=>166|70=>170|76=>185|77=>186|n=>n,fun|n=>n⟩
theorem Tryz.sortP:Go.Proofs.SlLaysF0.n6 cF Tryz.sortP_ren:={
 mixed:=by kernel_rfl
 f6:=⟨Tryz.f133.name,by decide,Tryz.func133.trans (congrArg lK (by kernel_rfl))⟩
 f14:=⟨Tryz.f157.name,by decide,Tryz.func157.trans (congrArg lK (by kernel_rfl))⟩
 f15:=bN.trans (congrArg lK (by kernel_rfl))
 f20:=⟨Tryz.f168.name,by decide,Tryz.func168.trans (congrArg lK (by kernel_rfl))⟩
 f21:=⟨Tryz.f169.name,by decide,Tryz.func169.trans (congrArg lK (by kernel_rfl))⟩
 f22:=⟨Tryz.f170.name,by decide,Tryz.func170.trans (congrArg lK (by kernel_rfl))⟩
 f23:=⟨Tryz.f171.name,by decide,Tryz.func171.trans (congrArg lK (by kernel_rfl))⟩
 f24:=⟨Tryz.f172.name,by decide,Tryz.func172.trans (congrArg lK (by kernel_rfl))⟩
 f25:=⟨Tryz.f173.name,by decide,Tryz.func173.trans (congrArg lK (by kernel_rfl))⟩
 f26:=⟨Tryz.f174.name,by decide,Tryz.func174.trans (congrArg lK (by kernel_rfl))⟩
 f27:=⟨Tryz.f175.name,by decide,Tryz.func175.trans (congrArg lK (by kernel_rfl))⟩
 f28:=bH.trans (congrArg lK (by kernel_rfl))
 f29:=bI.trans (congrArg lK (by kernel_rfl))
 f46:=⟨Tryz.f183.name,by decide,Tryz.func183.trans (congrArg lK (by kernel_rfl))⟩
 f47:=bK.trans (congrArg lK (by kernel_rfl))
 f48:=bL.trans (congrArg lK (by kernel_rfl))
 f49:=⟨Tryz.f184.name,by decide,Tryz.func184.trans (congrArg lK (by kernel_rfl))⟩
 f50:=⟨Tryz.f185.name,by decide,Tryz.func185.trans (congrArg lK (by kernel_rfl))⟩
 f57:=⟨Tryz.f191.name,by decide,Tryz.func191.trans (congrArg lK (by kernel_rfl))⟩
 t0:=cY
 a0:=bO
 z0:=cG
 v0:=dR
 t3:=dJ
 a3:=bZ
 z3:=cR
 v3:=eC
 t4:=dK
 a4:=b9
 z4:=cT
 v4:=eD
 t5:=dN
 a5:=cB
 z5:=cV
 v5:=eF
 t9:=dQ
 a9:=cD
 z9:=cX
 v9:=eH
 t22:=Tryz.underlying38
 a22:=Tryz.isAgg38
 z22:=Tryz.sizeOf38
 v22:=Tryz.zeroValue38
 t25:=Tryz.underlying137
 a25:=Tryz.isAgg137
 z25:=Tryz.sizeOf137
 v25:=Tryz.zeroValue137
 t39:=cZ
 a39:=bP
 z39:=cH
 v39:=dT
 t45:=dB
 a45:=bR
 z45:=cI
 v45:=dU
 t46:=dC
 a46:=bS
 z46:=cJ
 v46:=dV
 t50:=dP
 a50:=cC
 z50:=cW
 v50:=eG
 t53:=dM
 a53:=cA
 z53:=cU
 v53:=eE
 t55:=dD
 a55:=bT
 z55:=cL
 v55:=dW
 t66:=dE
 a66:=bU
 z66:=cM
 v66:=dX
 t70:=dF
 a70:=bV
 z70:=cN
 v70:=dY
 t76:=dG
 a76:=bW
 z76:=cO
 v76:=dZ
 t77:=dH
 a77:=bX
 z77:=cP
 v77:=eA}
def Tryz.cmpIntP_ren:eL:=⟨fun|5=>87|7=>107|n=>n,fun|22=>3|3=>3|4=>4|n=>n,fun|n=>n⟩
theorem Tryz.cmpIntP:Go.Proofs.SlLaysC2.n5 cF Tryz.cmpIntP_ren:={
 mixed:=by kernel_rfl
 f5:=⟨Tryz.f87.name,by decide,Tryz.func87.trans (congrArg lK (by kernel_rfl))⟩
 f7:=⟨Tryz.f107.name,by decide,bF.trans (congrArg lK (by kernel_rfl))⟩
 t3:=dJ
 a3:=bZ
 z3:=cR
 v3:=eC
 t4:=dK
 a4:=b9
 z4:=cT
 v4:=eD
 t22:=dJ
 a22:=bZ
 z22:=cR
 v22:=eC}
end Go.Proofs
end
namespace Mu
open Go Go.RowKit Go.Proofs Go.Shelf Go.Lib Go.Sort
variable{g:Nat}{l:List Pair}{n:Nat}{os:Array Obj}{v:eR}{w:eX}{x y:Pair}
theorem Am7(a b:Int)(g:Nat)(ty:eQ)(W:eX)(h:W.heap[g]? =lK (.cells #[.int .i64 a,.int .i64 b] ty)):
 aP cF 86 #[.slice (lK ⟨g,0,lJ⟩) 2 2] W λe w'=>e= .returned (.int .i64 (if a≠0 then a else b))/\w'=W:=by
 have c0:W.cell? ⟨g,0,lJ⟩=lK (.int .i64 a):=by simp[eY,h]
 have c1:W.cell? ⟨g,1,lJ⟩=lK (.int .i64 b):=by simp[eY,h]
 go_enter Tryz.func86,Tryz.ntmps86
 go_wp2
 refine wp_loop_rounds 3 ?_;rw[fG];by_cases ha:a=0
 ·subst ha
  go_wp2
  rw[fG];by_cases hb:b=0
  ·subst hb
   go_wp2
   rw[fG]
   go_wp2
   go_ret
   exact⟨rfl,rfl⟩
  ·go_wp2
   go_ret
   exact⟨rfl,rfl⟩
 ·go_wp2
  go_ret
  exact⟨by simp,rfl⟩
theorem Ac0(W:eX)(j u:Obj):∃E,E=((W.alloc j).alloc u).drew/\E.heap[W.heap.size]? =lK j/\E.heap[W.heap.size+1]? =lK u/\∃n os,E=grow (W.drewN n) os:=by
 refine⟨_,rfl,?_,?_,1,#[j,u],?_⟩
 ·show((W.heap.push j).push u)[W.heap.size]? =_;simp[Array.getElem?_push]
 ·show((W.heap.push j).push u)[W.heap.size+1]? =_;have:W.heap.size+1=(W.heap.push j).size:=by simp
  rw[this];exact Array.getElem?_push_size
 ·rw[eN,eN,grow_grow];rfl
def cfP(x y:Pair):Int:=if aZ x.a y.a≠0 then aZ x.a y.a else aZ x.b y.b
def Ih(x:Pair):List eR:=[.int .i64 x.a,.int .i64 x.b]
theorem Alx(x y:Pair)(W:eX):aP cF 111 #[.agg (Ih x).toArray,.agg (Ih y).toArray] W λe w'=>e= .returned (.int .i64 (cfP x y))/\∃q os,w'=grow (W.drewN q) os:=by
 have hA:=λW=>AnyG.cmp_Compare_int Tryz.cmpIntP x.a y.a W
 have hB:=λW=>AnyG.cmp_Compare_int Tryz.cmpIntP x.b y.b W
 change∀W,aP cF 87 _ _ _ at hA;change∀W,aP cF 87 _ _ _ at hB;obtain⟨r,hr⟩:∃r,aZ x.a y.a=r:=⟨_,rfl⟩
 obtain⟨s,hs⟩:∃s,aZ x.b y.b=s:=⟨_,rfl⟩
 have hu:cfP x y=if r≠0 then r else s:=by unfold cfP;rw[hr,hs]
 rw[hr]at hA;rw[hs]at hB;clear hr hs;have hO:=λW=>Am7 r s W.heap.size 3 (W.alloc (.cells #[.int .i64 r,.int .i64 s] 3)) (fD W _)
 rw[<-hu]at hO;generalize cfP x y=u at hO⊢;clear hu;unfold Ih
 go_enter bG,Tryz.ntmps111
 go_wp2
 refine wp_region_still_tail 10 (by kernel_rfl) (by kernel_rfl) ?_;simp only[List.take_succ_cons,jZ,List.drop_succ_cons,fT];change wpStill _ _ (eZ ((W.alloc (bA #[eS aX x.a,eS aX x.b] 41)).alloc (bA #[eS aX y.a,eS aX y.b] 41))) (λa'=>wpList _ _ _ _ a' (eZ ((W.alloc (bA #[eS aX x.a,eS aX x.b] 41)).alloc (bA #[eS aX y.a,eS aX y.b] 41)))) _ _;obtain⟨W2,hW2,g1,g2,hg⟩:=Ac0 W (bA #[eS aX x.a,eS aX x.b] 41) (bA #[eS aX y.a,eS aX y.b] 41);rw[<-hW2];have c1:W2.cell? ⟨W.heap.size,0,lJ⟩=lK (.int .i64 x.a):=by simp[eY,g1]
 have c2:W2.cell? ⟨W.heap.size,1,lJ⟩=lK (.int .i64 x.b):=by simp[eY,g1]
 have c3:W2.cell? ⟨W.heap.size+1,0,lJ⟩=lK (.int .i64 y.a):=by simp[eY,g2]
 have c4:W2.cell? ⟨W.heap.size+1,1,lJ⟩=lK (.int .i64 y.b):=by simp[eY,g2]
 clear hW2 g1 g2
 iterate 4 still_step
 still_call (hA _)
 iterate 4 still_step
 still_call (hB _)
 refine wpStill_nil ?_
 go_wp2_with (go_at_call 86;refine(hO W2).mono ?_;rintro e w' ⟨rfl,rfl⟩)
 go_ret
 obtain⟨n,os,rfl⟩:=hg;exact⟨rfl,n,_,by rw[eN,grow_grow]⟩
theorem R8:ltOf cfP x y=aN↔ltP x y:=by
 unfold ltOf cfP aZ ltP;by_cases h1:x.a < y.a
 ·simp[h1]
 ·by_cases h2:y.a < x.a
  ·have:x.a≠y.a:=by omega
   simp[h1,h2,this]
  ·have e:x.a=y.a:=by omega
   by_cases j:x.b < y.b
   ·simp[e,j]
   ·by_cases u:y.b < x.b <;> simp[e,j,u]
theorem Pd:ltOf cfP x y=aI↔¬ltP x y:=by
 rw[<-R8,Bool.not_eq_true]
theorem Az9:SWO (ltOf cfP) where
 irrefl x:=Pd.2 (R7 x)
 trans x y z h1 h2:=R8.2 (Am9 (R8.1 h1) (R8.1 h2))
 ntrans x y z h1 h2:=by
  have h1:=Pd.1 h1;have h2:=Pd.1 h2;refine Pd.2 ?_;unfold ltP at *;omega
theorem Az6(x y:Pair)(h1:ltOf cfP x y=aI)(h2:ltOf cfP y x=aI):x=y:=by
 have h1:=Pd.1 h1;have h2:=Pd.1 h2;unfold ltP at h1 h2;obtain⟨a,b⟩:=x;obtain⟨c,d⟩:=y
 (try dsimp only at h1);(try dsimp only at h2)
 have u:a=c:=by omega
 have j:b=d:=by omega
 rw[u,j]
def GS(l:List Pair):List Pair:=l.mergeSort λx y=>!(ltOf cfP) y x
theorem MM:(!(ltOf cfP) y x)=aN↔¬ltP y x:=by
 rw[Bool.not_eq_true',Pd]
theorem HG(l:List Pair):(GS l).Perm l:=jC _ _
theorem Zk(j:l.Nodup):Aoh (GS l):=by
 have h:=List.pairwise_mergeSort (le:=λx y:Pair=>!(ltOf cfP) y x) (λa b c h1 h2=>by
  have h1:=MM.1 h1;have h2:=MM.1 h2;refine MM.2 ?_;unfold ltP at *;omega) (λa b=>by
  rw[aM,MM,MM];unfold ltP;omega) l
 have u:(GS l).Nodup:=(HG l).nodup_iff.2 j;refine(h.and u).imp λ{x y} hxy=>?_
 obtain⟨h1,h2⟩:=hxy;have h1:=MM.1 h1;unfold ltP at h1;obtain⟨a,b⟩:=x;obtain⟨c,d⟩:=y;unfold ltP
 (try dsimp only at h1);(try dsimp only)
 rcases Int.lt_trichotomy a c with h|h|h
 ·exact .inl h
 ·rcases Int.lt_trichotomy b d with k|k|k
  ·exact .inr ⟨h,k⟩
  ·exact absurd (by rw[h,k]) h2
  ·omega
 ·omega
theorem Adl{R:List Int}{S:Pair->Bool}(u:Asc R)(j:InP R S)(E:l.Nodup)(h1:∀x∈l,S x=aN)(h2:∀x,S x=aN->x∈l):GS l=D8 R S:=
 YT (Zk E) (PF u) λx=>by
  rw[(HG l).mem_iff,Ww u j];exact⟨h1 x,h2 x⟩
theorem Ags{i:Nat}{d:Pair}(I:l[i]? =lK d):((flatK Ih 2 l.toArray).toList.drop (i * 2)).take 2=Ih d:=by
 have J:=(gQ.1 I).1;have F:l.toArray[i]! =d:=by simp[getElem!_def,I]
 refine fW λj=>?_
 by_cases G:j < 2
 ·rw[gY G,gN,aC];have u:i * 2+j < (flatK Ih 2 l.toArray).size:=by simp;omega
  have e:=get_flatK Ih 2 l.toArray (i * 2+j) (by simpa using u);rw[getElem!_pos (flatK Ih 2 l.toArray) _ u]at e;rw[Array.getElem?_eq_getElem u,e,show(i * 2+j) / 2=i by omega,show(i * 2+j) % 2=j by omega,F];have E:j < (Ih d).length:=G;rw[getElem!_pos (Ih d) _ E,gO E]
 ·rw[gX (by omega),gP (by show 2<=j;omega)]
theorem Qd(cur F:Array eR)(h:F.size<=cur.size):(eO id 0 F cur).toList.take F.size=F.toList:=by
 apply fW;intro j;by_cases u:j < F.size
 ·rw[gY u,aC];simp[eO,u,show j < cur.size by omega]
 ·rw[gX (by omega),gP (by simp;omega)]
theorem Pl(d:Array eR):w.grownBy (grow (eP id (eM w n) g 0 d) os) (lK g):=by
 refine⟨rfl,rfl,rfl,by simp,λk hk j=>?_⟩;rw[heap_grow_old _ _ (by simpa using hk)];have:g≠k:=λe=>j (by rw[e])
 simp[eP,mapBlock,eM,aB,this]
theorem Nl{cur:Array eR}{e:eQ}{j:Nat×Nat}(d:Array eR)(hb:w.heap[g]? =lK (.cells cur e j)):
 (grow (eP id (eM w n) g 0 d) os).heap[g]? =lK (.cells (eO id 0 d cur) e j):=by
 have hg:g < w.heap.size:=(aA.1 hb).1;rw[heap_grow_old _ _ (by simpa using hg)];simp[eP,mapBlock,eM,aB,hb,onCells]
theorem Zu{S:Nat->Prop}{h:List j5}{ψ:Nat->eR}{u:eR}{vs:List eR}(H:Ae w S h ψ [.lit u,.lit v] vs):vs= [u,v]:=by
 obtain⟨a,b,rfl,h1,h2⟩:=Ay3 H;unfold j8 at h1 h2;rw[h1,h2]
theorem Zj(hl:l.length < 4611686018427387904):DK cF 133 (rowR v 41 Dk l) [.lit v,.lit (.func (.func 111) #[] #[])] (λ_:Unit=>rowR v 41 Dk (GS l)) (λ_=>.tuple #[]):=by
 refine⟨by kernel_rfl,λw S vs hS hF hR hr=>?_⟩;obtain⟨cells,u,h0,hc⟩:=hR;rw[Zu hr];rcases u.2 with⟨rfl,X⟩|⟨g,cap,cur,rfl,_,hb,h1,h2,h3,h4⟩
 ·have hz:l= []:=fU X;subst hz;rw[show GS []= []by simp[GS]];refine(AnyF.slices_SortFunc_none Tryz.sortP lJ 0 _ w).mono λe w' ⟨he,hw⟩=>?_
  subst hw;exact⟨_,he,⟨⟨rfl,rfl,rfl,kY _,λ_ _ _=>rfl⟩,(),rfl,⟨cells,u,h0,hc⟩,λk hk=>⟨.inl hk,hF k hk⟩⟩⟩
 ·have aa:g < w.heap.size:=(aA.1 hb).1;have ag:cells.length=l.length * 2:=u.1;have ae:cur.toList.take (l.length * 2)=cells:=h4;have af:cur.size=cap * 2:=h3;have E:∀i d,l[i]? =lK d->(cells.drop (i * 2)).take 2=Ih d/\wfI .i64 d.a/\wfI .i64 d.b:=λi d J=>Kv.1 (hc i d J)
  have hH:HoldsK Ih 2 w g 0 l.toArray:=λj hj=>by
   have Y:j < l.length * 2:=by simpa using hj
   obtain⟨d,J⟩:∃d,l[j / 2]? =lK d:=⟨_,gO (by omega)⟩
   have ac:l.toArray[j / 2]! =d:=by simp[getElem!_def,J]
   have e1:=congrArg (λ(l:List eR)=>l[j % 2]?) (E _ d J).1;rw[gY (by omega),gN,<-ae,gY (by omega),aC,show j / 2 * 2+j % 2=j by omega]at e1;refine⟨?_,by simp[World.frozen?,hb]⟩;rw[get_flatK _ _ _ _ (by simpa using Y),ac];have O:j % 2 < (Ih d).length:=by show j % 2 < 2;omega
   rw[getElem!_pos (Ih d) _ O];rw[gO O]at e1;simp[eY,hb,e1]
  have eg:∀args w,(callFunc 111 args).run cF w= .ok (.enter 111 args) w:=enters_of bG (by kernel_rfl) V;have ad:=AnyQ.slices_SortFunc_total Tryz.sortP 2 (λw=>by kernel_rfl) (λw=>by kernel_rfl) Ih (λ_=>rfl) (λx v hv=>by
   simp only[Ih,or_false,zak]at hv;rcases hv with rfl|rfl <;> rfl) cfP Az9 111 #[] g 0 cap l.toArray w eg (λm os dk _ x y=>Alx x y _) hH aa (by simpa using hl) Az6
  refine ad.mono ?_;rintro e w' ⟨he,n,os,rfl⟩;have U:(l.toArray.toList.mergeSort λx y=>!(ltOf cfP) y x)=GS l:=rfl;rw[U];have F:(GS l).length=l.length:=(HG l).length_eq;have I:(flatK Ih 2 (GS l).toArray).size=l.length * 2:=by simp[F]
  refine⟨_,he,⟨Bs (Pl _) |> λG=>⟨G.os,G.tape,G.output,G.size,λk hk X=>G.block k hk λe=>X e⟩,(),rfl,⟨(flatK Ih 2 (GS l).toArray).toList,?_,h0,λi d J=>?_⟩,λk hk=>⟨.inl hk,?_⟩⟩⟩
  ·rw[F];refine⟨by rw[aD,I];rfl,.inr ⟨g,cap,_,rfl,lF _,Nl _ hb,h1,h2,by simp[eO,h3],?_⟩⟩;have e2:=Qd cur (flatK Ih 2 (GS l).toArray) (by rw[I,af];omega);rw[I]at e2;exact e2
  ·have ab:d∈l:=(HG l).mem_iff.1 (iZ J);obtain⟨i',Z⟩:=iX.1 ab;exact Kv.2 ⟨Ags J,(E _ _ Z).2⟩
  ·have hk:Bu (.slice (lK ⟨g,0,lJ⟩) l.length cap)=lK k:=hk;have hk:g=k:=by simpa[Bu]using hk
   subst hk;exact(aA.1 (Nl _ hb)).1
end Mu
namespace Mu
open Go Go.RowKit Go.Proofs Go.Maps Go.Shelf
variable{R:List Int}{S:Pair->Bool}{h:List j5}{ks:List Pair}{v:eR}
instance As6:AG cF 109 aI 1:=⟨by kernel_rfl⟩
attribute [local go_sem] Oper.semAt_some
theorem Kq{P:bE}{C:Ctx}{t:List AV}{o:bC}{x:bD}{j:Nat}{xs:Array eR}(E:o.op= .extract x j)(hx:evA t x= .lit (.tuple xs))(F:xs[j]? =lK v):AT P C t h o (.lit v):=
 AL λS ψ w ρ _ u=>by
  have h1:=u x (by simp[E,bB]);rw[hx]at h1;unfold j8 at h1;exact⟨v,by simp[fB,E,h1,Instr.extract,F],by unfold j8;rfl⟩
theorem Xt{cells:List eR}(e:v.cells.toList=cells):Vx h (.lit v) (cells.map .lit):=λC S ψ w u _ j=>by
 unfold j8 at j;subst j;rw[e];exact I0 cells
def Afy(S:Pair->Bool)(g m:Nat):Res:=⟨[],λk=>k=g\/k=m,λw T=>(Be g [.lit (.map (lK m))]).R w T/\(DP S m).R w T/\g≠m,
 λh hk hb u=>⟨(Be g [.lit (.map (lK m))]).keep h.1 (λk j=>hk k (.inl j)) hb u,(DP S m).keep h.2.1 (λk j=>hk k (.inr j)) hb u,h.2.2⟩⟩
def Aiw(g:Nat):eR:=.func (.func 134) #[] #[.pointer (lK ⟨g,0,lJ⟩)]
theorem Akv(F:Fence)(n:Nat)(hF:F.fn 110)(hro:F.round=lJ)(m:Nat)(w:eX):
 aR F n cF 110 #[.map (lK m)] w λe w'=>e= .returned (Aiw w.heap.size)/\w'=w.alloc (.cells #[.map (lK m)] 109):=by
 refine callsIn_of_wp Tryz.func110 V hF ?_ hro;simp only[Tryz.ntmps110,Nat.reduceAdd,Nat.reduceSub,zae]
 gi_wp2
 go_ret
 exact⟨rfl,rfl⟩
theorem Z2(S:Pair->Bool)(m:Nat):DK cF 110 (DP S m) [.lit (.map (lK m))] (λg=>Afy S g m) Aiw:=by
 refine⟨by kernel_rfl,λw T vs I F E j=>?_⟩;obtain⟨G,rfl,h0⟩:=Ek j;unfold Ae at h0;subst h0;refine((fA (n:=4)).1 (Akv aT 4 trivial V m w)).mono ?_;rintro e w' ⟨rfl,rfl⟩;have u:m < w.heap.size:=F m V;have hb:Below w.heap.size w (w.alloc (.cells #[.map (lK m)] 109)):=(eK _ _).alloc (kY _) _;refine⟨_,rfl,⟨hb.os,hb.tape,hb.output,hb.size,λk hk _=>hb.block k hk⟩,w.heap.size,rfl,⟨⟨[.map (lK m)],109,fD w _,FT [.map (lK m)]⟩,(show Aoe w m S from E).keep (hb.block m u),by omega⟩,λk hk=>?_⟩;rcases(show k=w.heap.size\/k=m from hk)with rfl|rfl
 ·exact⟨.inr (kY _),by simp⟩
 ·exact⟨.inl V,by simp;omega⟩
def Ado(S:Pair->Bool)(ks:List Pair):Prop:=ks.Nodup/\∀x∈ks,okPair x/\S x=aN
def stK(S:Pair->Bool)(ks:List Pair)(u:List AV)(j:List Pair):Prop:=Ado S ks/\∃q,okPair q/\S q=aN/\q∉ks/\u= [.agg (CP q)]/\j=ks++[q]
def Azf(S:Pair->Bool)(ks:List Pair):Prop:=Ado S ks/\∀x,okPair x->S x=aN->x∈ks
theorem Ado.add{q:Pair}(h:Ado S ks)(h1:okPair q)(h2:S q=aN)(u:q∉ks):Ado S (ks++[q]):=by
 refine⟨jE.2 ⟨h.1,by simp,λa j b hb=>?_⟩,λx hx=>?_⟩
 ·simp only[or_false,zak]at hb;subst hb;exact λe=>u (e▸j)
 ·rcases iQ.1 hx with hx|hx
  ·exact h.2 x hx
  ·simp only[or_false,zak]at hx;subst hx;exact⟨h1,h2⟩
theorem Z3(S:Pair->Bool)(g m:Nat)(L:List Pair)(hL:∀x,okPair x->S x=aN->x∈L):Amj cF 134 [.pointer (lK ⟨g,0,lJ⟩)] (Afy S g m) (stK S) [] (Azf S):=by
 refine NE Tryz.func134 V (by kernel_rfl) V Tryz.ntmps134 V λC U ι l Jr X hY O=>?_
 simp only[iO,iP,Nat.reduceAdd,Nat.reduceSub,zaa];refine AE _ (PO (i:=1) (R1:=Be g [.lit (.map (lK m))]) (R2:=DP S m) V V V V (λ_ h=>h) λw T h=>⟨h.1,h.2.1,λk h1 h2=>h.2.2 (h1.symm.trans h2)⟩) ?_;refine nT ?_;refine Ab λK1 h1=>?_
 (refine j9 ?_;(repeat(first|refine sQ ?_|refine AM ?_|refine Bp ?_)))
 refine AC V (Ab7 2 V dA V V λr=>?_);refine sNt ?_;refine Au ?_;refine h1 _ ?_;refine nT ?_;refine Ac ?_;refine AB (λp:List Pair×ι=>⟨(.lit (.func (.yield l) #[] #[])::.lit (.pointer (lK ⟨g,0,lJ⟩))::A3 (.lit (.pointer (lK ⟨r,0,lJ⟩))::A8 [])),[.res (Jr p.1 p.2),.res (Be g [.lit (.map (lK m))]),.res (Aot S p.1 m r)]⟩) (λp=>Ado S p.1) (λp=>L.length - p.1.length) ([],O) ⟨jG,λ_ h=>by cases h⟩ (BU) ?_;rintro⟨ks,O⟩ F
 (try dsimp only at F);(try dsimp only)
 refine Ab λK3 Z=>?_
 refine j9 ?_;refine AC V (Ain 2 V V V (λI=>?_) (λq c hq J j=>?_))
 ·refine sNt ?_
  (repeat(first|refine sQ ?_ (Kq V V V)|refine sQ ?_|refine AM ?_|refine Bp ?_))
  refine Au ?_;refine Z _ ?_;refine nT ?_;refine Ab λK4 Y=>?_
  refine Ag V (λu=>by cases u) (λu=>?_);refine Ay ?_;exact⟨.inl V,ks,⟨F,I⟩,O,rfl,by simp[mkD,ABlk.mrk,X];exact⟨rfl,rfl⟩⟩
 ·refine sNt ?_
  (repeat(first|refine sQ ?_ (Kq V V V)|refine sQ ?_|refine AM ?_|refine Bp ?_))
  refine Au ?_;refine Z _ ?_;refine nT ?_;refine Ab λK4 Y=>?_
  refine Ag V (λu=>?_) (λu=>by cases u);refine Al ?_;refine Y _ ?_;refine nT ?_;refine Ac ?_;refine Ab λK6 h6=>?_
  (refine j9 ?_;(repeat(first|refine sQ ?_ (Vt 2 V V V)|refine sQ ?_|refine AM ?_|refine Bp ?_));refine Au ?_)
  refine h6 _ ?_;refine nT ?_;refine Ab λK7 h7=>?_
  refine P1 ?_;refine Ik V (AX (AT.move V (by(conv=>lhs;whnf);try rfl)) ?_);refine Di (by(try simp only[Bl,zac]);exact V) (by(try simp only[Nat.reduceAdd,zab]);exact V) ?_;refine Ik V (AX (AR V V V V) ?_);refine Di (by(try simp only[Bl,zac]);exact V) (by(try simp only[Nat.reduceAdd,zab]);exact V) ?_;refine PM V (Ayh.yield (i:=0) U V (λp=>by rw[X,X]) V V V V (hY ks _ (ks++[q]) ⟨F,q,hq,J,j,rfl,rfl⟩ O) λq'=>?_);refine Di (by(try simp only[Bl,zac]);exact V) (by(try simp only[Nat.reduceAdd,zab]);exact V) ?_;refine Ik V (AX (Co V V) ?_);refine Ga ?_;refine h7 _ ?_;refine nT ?_;refine Ag V (λE=>by cases E) (λE=>?_);refine Al ?_;have G:=E6 (F.add hq J j).1 λx hx=>hL x ((F.add hq J j).2 x hx).1 ((F.add hq J j).2 x hx).2
  refine abN (An ⟨(ks++[q],q'),F.add hq J j,by simp only[zaw]at G⊢;omega,?_⟩);refine St.le.trans (Ju (i:=2) (R':=Aot S (ks++[q]) m r) V (λ_ h=>h) (λ_ _ h=>h.1) V) ?_;exact Ki (.cons (.cons (.cons (kD _))))
theorem NW{l:List Pair}{w:eX}{S S':Nat->Prop}(h:(rowR v 41 Dk l).R w S):(rowR v 41 Dk l).R w S':=by
 obtain⟨cells,h1,h0,h2⟩:=h;exact⟨cells,h1,h0,λi d j=>Kv.2 (Kv.1 (h2 i d j))⟩
def Az4(S:Pair->Bool):Type:={p:eR×List Pair // Azf S p.2}
theorem Aoo{L:List Pair}(G:∀x,okPair x->S x=aN->x∈L){u:List Pair}{I:List AV}(h:stK S ks I u):ks.length+1<=L.length:=by
 obtain⟨F,q,hq,E,j,_,_⟩:=h;have:=E6 (F.add hq E j).1 λx hx=>G x ((F.add hq E j).2 x hx).1 ((F.add hq E j).2 x hx).2
 simpa using this
theorem Vh(S:Pair->Bool)(g m:Nat)(L:List Pair)(X:∀x,okPair x->S x=aN->x∈L)(hl:L.length<=4398046511104):
 DK cF 156 (Afy S g m) [.lit (.slice lJ 0 0),.lit (Aiw g)] (λp:Az4 S=>rowR p.1.1 41 Dk p.1.2) (λp=>p.1.1):=by
 refine E1 Tryz.func156 V (by kernel_rfl) V Tryz.ntmps156 V (λ_ _ _ _ h=>NW h) λC I=>?_
 refine nS ?_;refine Ab λK1 h1=>?_
 refine j9 ?_;refine AC V (AOp.box (cells:=[.lit (.slice lJ 0 0)]) V (Xt (cells:=[.slice lJ 0 0]) V) ?_);refine sNt ?_
 (repeat(first|refine sQ ?_|refine AM ?_|refine Bp ?_))
 refine Au ?_;refine h1 _ ?_;refine nT ?_;refine Bt 2 V V V (λj=>(.any::.lit (Aiw g)::.lit (.pointer (lK ⟨j,0,lJ⟩))::A10 [])) (λg=>(by(repeat(first|exact kQ|refine kR ?_|refine kO ?_|refine kP V ?_)))) λj=>?_
 refine AE _ (J1 41 Dk (by decide)) ?_;refine nT ?_;refine Ab λK2 h2=>?_
 refine Ab λK3 h3=>?_
 refine rR ?_;refine h3 _ ?_;refine nT ?_;refine Ac ?_;refine Hx (J:=eR) 1 0 (λks v=>[.dead,.dead,.res (Be j [.lit v]),.res (rowR v 41 Dk ks)]) (.slice lJ 0 0) I V (by decide) V V V ?hdrop V (λ_ _=>rfl) (λ_ _=>rfl) V ?hes (Z3 S g m L X) ?hround ?hdone
 case hdrop=>
  exact⟨kC (kC (kB (kB (kD _)))),λb hb=>fI.1 (show bdH [.dead,.dead,.res (Be j [.lit (.slice lJ 0 0)]),.res (rowR (.slice lJ 0 0) 41 Dk [])]=aN from V) b hb⟩
 case hes=>
  rintro ks es G ⟨_,q,_,_,_,rfl,rfl⟩;exact⟨rfl,rfl⟩
 case hround=>
  intro ks v es G u C' Y;have U:=Aoo X u;obtain⟨_,q,hq,hS,Z,rfl,rfl⟩:=u;refine C3 (t':=(.any::.lit (Aiw g)::.lit (.pointer (lK ⟨j,0,lJ⟩))::A3 (.lit (Aiw g)::.agg (CP q)::A5 []))) V V ?_;refine rR ?_;refine An λaa O=>?_
  refine nT ?_;refine Ac ?_;have E:Fit [.dead,.dead,.res (Be j [.lit v]),.res (rowR v 41 Dk ks),.box (CP q)] Dk (.agg (CP q)) q:=Oj (enc:=CP) λ_ _ _ _ H=>XU hq H
  (refine j9 ?_;(repeat(first|refine sQ ?_ (Cg V V V V (by decide) E)|refine sQ ?_|refine AM ?_|refine Bp ?_)))
  refine AC V (P9 (i:=3) V (by kernel_rfl) V V V TZ (by show ks.length+1<=_;unfold fE;omega) (by show(ks.length+1) * 16<=_;omega) λv'=>?_);refine sNt ?_;refine AC V (It (i:=2) (new:=[.lit v']) V V V (PW.one (Me (i:=3) V)) V V (kX V) ?_);refine sNt ?_;refine Au ?_;exact⟨rfl,v',⟨.cons (.cons (.cons (.cons (kD _)))),λb hb=>fI.1 (show bdH [.dead,.dead,.res (Be j [.lit v']),.res (rowR v' 41 Dk (ks++[q]))]=aN from V) b hb⟩⟩
 case hdone=>
  intro ks F v D;refine h2 _ ?_;refine C3 (t':=(.any::.lit (Aiw g)::.lit (.pointer (lK ⟨j,0,lJ⟩))::A3 (.lit (Aiw g)::A6 []))) (h':=[.res (Bk [D]),.dead,.res (Be j [.lit v]),.res (rowR v 41 Dk ks)]) V V ?_;refine Ab λK6 h6=>?_
  refine rR ?_;refine h6 _ ?_;refine nT ?_;exact Aw ⟨.inr V,[D],3,⟨(v,ks),F⟩,rfl,rfl,by decide,rfl,rfl⟩
theorem Sn(S:Pair->Bool)(g m:Nat)(L:List Pair)(E:∀x,okPair x->S x=aN->x∈L)(u:L.length<=4398046511104):
 DK cF 132 (Afy S g m) [.lit (Aiw g)] (λp:Az4 S=>rowR p.1.1 41 Dk p.1.2) (λp=>p.1.1):=by
 refine E1 Tryz.func132 V (by kernel_rfl) V Tryz.ntmps132 V (λ_ _ _ _ h=>NW h) λC j=>?_
 refine nS ?_;refine Ab λG h1=>?_
 refine rR ?_;refine h1 _ ?_;refine nT ?_;refine Ab λF h2=>?_
 (refine j9 ?_;(repeat(first|refine sQ ?_|refine AM ?_|refine Bp ?_)))
 refine AC V (BQ (i:=1) V V (Vh S g m L E u) (λ_=>rfl) V V λp=>?_);refine sNt ?_
 (repeat(first|refine sQ ?_|refine AM ?_|refine Bp ?_))
 refine Au ?_;refine h2 _ ?_;refine nT ?_;exact Aw ⟨.inr V,[],1,p,rfl,rfl,by decide,rfl,rfl⟩
structure InRow(R:List Int)(S:Pair->Bool):Prop where
 asc:Asc R
 len:R.length<=2097152
 mem:InP R S
theorem InRow.sub(h:InRow R S):∀x,okPair x->S x=aN->x∈Fk R:=λx _ hx=>(D5 h.asc).2 (h.mem x hx)
theorem InRow.lens(h:InRow R S):(Fk R).length<=4398046511104:=
 kZ (H6 R) (kZ (lB h.len h.len) (by decide))
theorem InRow.sort(h:InRow R S)(j:∀r∈R,Ch r)(hk:Azf S ks):GS ks=D8 R S:=
 Adl h.asc h.mem hk.1.1 (λx hx=>(hk.1.2 x hx).2) λx hx=>hk.2 x ⟨j _ (h.mem x hx).1,j _ (h.mem x hx).2.1⟩ hx
theorem Th(h:InRow R S)(u:∀r∈R,Ch r)(g m:Nat):
 DK cF 109 (Afy S g m) [.lit (Aiw g),.lit (.func (.func 111) #[] #[])] (λv:eR=>rowR v 41 Dk (D8 R S)) (λv=>v):=by
 refine E1 Tryz.func109 V (by kernel_rfl) V Tryz.ntmps109 V (λ_ _ _ _ h=>NW h) λC F=>?_
 refine nS ?_;refine Ab λX h1=>?_
 refine rR ?_;refine h1 _ ?_;refine nT ?_;refine Ab λU h2=>?_
 (refine j9 ?_;(repeat(first|refine sQ ?_|refine AM ?_|refine Bp ?_)))
 refine AC V (BQ (i:=1) V V (Sn S g m _ h.sub h.lens) (λ_=>rfl) V V λp=>?_);refine sNt ?_
 (repeat(first|refine sQ ?_|refine AM ?_|refine Bp ?_))
 refine Au ?_;refine h2 _ ?_;refine nT ?_;obtain⟨⟨v,ks⟩,hk⟩:=p
 (try dsimp only at hk);(try dsimp only)
 have E:=h.sort u hk;have j:ks.length < 4611686018427387904:=by
  have h1:=E6 hk.1.1 λx hx=>h.sub x (hk.1.2 x hx).1 (hk.1.2 x hx).2
  have h2:=h.lens;omega
 refine Ab λO I=>?_
 (refine j9 ?_;(repeat(first|refine sQ ?_|refine AM ?_|refine Bp ?_)))
 refine AC V (BQ (i:=1) V V (Zj j) (λ_=>rfl) V V λ_=>?_);refine sNt ?_;refine Au ?_;refine I _ ?_;refine nT ?_;rw[E];refine Ab λJ G=>?_
 refine rR ?_;refine G _ ?_;refine nT ?_;exact Aw ⟨.inr V,[],1,v,rfl,rfl,by decide,rfl,rfl⟩
theorem Q5(h:InRow R S)(j:∀r∈R,Ch r)(m:Nat):
 DK cF 78 (DP S m) [.lit (.map (lK m))] (λv:eR=>rowR v 41 Dk (D8 R S)) (λv=>v):=by
 refine E1 Tryz.func78 V (by kernel_rfl) V Tryz.ntmps78 V (λ_ _ _ _ h=>NW h) λC u=>?_
 refine nS ?_;refine Ab λF h1=>?_
 refine rR ?_;refine h1 _ ?_;refine nT ?_;refine Ab λE h2=>?_
 (refine j9 ?_;(repeat(first|refine sQ ?_|refine AM ?_|refine Bp ?_)))
 refine AC V (BQ (i:=1) V V (Z2 S m) (λ_=>rfl) V V λg=>?_);refine sNt ?_
 (repeat(first|refine sQ ?_|refine AM ?_|refine Bp ?_))
 refine AC V (BQ (i:=1) V V (Th h j g m) (λ_=>rfl) V V λv=>?_);refine sNt ?_
 (repeat(first|refine sQ ?_|refine AM ?_|refine Bp ?_))
 refine Au ?_;refine h2 _ ?_;refine nT ?_;exact Aw ⟨.inr V,[],1,v,rfl,rfl,by decide,rfl,rfl⟩
end Mu
section
namespace Go.Proofs
open Go.Shelf
def Tryz.sortFI_ren:eL:=⟨fun|6=>84|15=>99|14=>114|28=>126|29=>127|20=>137|21=>138|22=>139|23=>140|24=>141|25=>142|26=>143|27=>144|46=>160|47=>146|48=>147|49=>161|50=>162|57=>180|n=>n,fun|22=>27|24=>3|25=>119|3=>3|39=>104|0=>0|53=>45|55=>151|4=>4|46=>144|45=>143|50=>68|5=>5|9=>9|66=>166|70=>170|76=>185|77=>186|n=>n,fun|n=>n⟩
theorem Tryz.sortFI:Go.Proofs.SlLaysF.n6 cF Tryz.sortFI_ren:={
 mixed:=by kernel_rfl
 f6:=⟨Tryz.f84.name,by decide,Tryz.func84.trans (congrArg lK (by kernel_rfl))⟩
 f14:=⟨Tryz.f114.name,by decide,Tryz.func114.trans (congrArg lK (by kernel_rfl))⟩
 f15:=bN.trans (congrArg lK (by kernel_rfl))
 f20:=⟨Tryz.f137.name,by decide,Tryz.func137.trans (congrArg lK (by kernel_rfl))⟩
 f21:=⟨Tryz.f138.name,by decide,Tryz.func138.trans (congrArg lK (by kernel_rfl))⟩
 f22:=⟨Tryz.f139.name,by decide,Tryz.func139.trans (congrArg lK (by kernel_rfl))⟩
 f23:=⟨Tryz.f140.name,by decide,Tryz.func140.trans (congrArg lK (by kernel_rfl))⟩
 f24:=⟨Tryz.f141.name,by decide,Tryz.func141.trans (congrArg lK (by kernel_rfl))⟩
 f25:=⟨Tryz.f142.name,by decide,Tryz.func142.trans (congrArg lK (by kernel_rfl))⟩
 f26:=⟨Tryz.f143.name,by decide,Tryz.func143.trans (congrArg lK (by kernel_rfl))⟩
 f27:=⟨Tryz.f144.name,by decide,Tryz.func144.trans (congrArg lK (by kernel_rfl))⟩
 f28:=bH.trans (congrArg lK (by kernel_rfl))
 f29:=bI.trans (congrArg lK (by kernel_rfl))
 f46:=⟨Tryz.f160.name,by decide,Tryz.func160.trans (congrArg lK (by kernel_rfl))⟩
 f47:=bK.trans (congrArg lK (by kernel_rfl))
 f48:=bL.trans (congrArg lK (by kernel_rfl))
 f49:=⟨Tryz.f161.name,by decide,Tryz.func161.trans (congrArg lK (by kernel_rfl))⟩
 f50:=⟨Tryz.f162.name,by decide,Tryz.func162.trans (congrArg lK (by kernel_rfl))⟩
 f57:=⟨Tryz.f180.name,by decide,Tryz.func180.trans (congrArg lK (by kernel_rfl))⟩
 t0:=cY
 a0:=bO
 z0:=cG
 v0:=dR
 t3:=dJ
 a3:=bZ
 z3:=cR
 v3:=eC
 t4:=dK
 a4:=b9
 z4:=cT
 v4:=eD
 t5:=dN
 a5:=cB
 z5:=cV
 v5:=eF
 t9:=dQ
 a9:=cD
 z9:=cX
 v9:=eH
 t22:=dI
 a22:=bY
 z22:=cQ
 v22:=eB
 a24:=bZ
 z24:=cR
 t25:=Tryz.underlying119
 a25:=Tryz.isAgg119
 z25:=Tryz.sizeOf119
 v25:=Tryz.zeroValue119
 t39:=cZ
 a39:=bP
 z39:=cH
 v39:=dT
 t45:=dB
 a45:=bR
 z45:=cI
 v45:=dU
 t46:=dC
 a46:=bS
 z46:=cJ
 v46:=dV
 t50:=dP
 a50:=cC
 z50:=cW
 v50:=eG
 t53:=dM
 a53:=cA
 z53:=cU
 v53:=eE
 t55:=dD
 a55:=bT
 z55:=cL
 v55:=dW
 t66:=dE
 a66:=bU
 z66:=cM
 v66:=dX
 t70:=dF
 a70:=bV
 z70:=cN
 v70:=dY
 t76:=dG
 a76:=bW
 z76:=cO
 v76:=dZ
 t77:=dH
 a77:=bX
 z77:=cP
 v77:=eA}
end Go.Proofs
end
namespace Mu
open Go Go.RowKit Go.Proofs
variable{k:Nat}{l:List Int}{p:Int->Bool}{x:Int}
def Aiy(p:Int->Bool)(l:List Int):Int:=match l.findIdx? p with|some i=>(i:Int)|none=> -1
theorem Aql(h:∀x∈l.take k,p x=aI)(hx:l[k]? =lK x)(u:p x=aN):Aiy p l=(k:Int):=by
 have:l.findIdx? p=lK k:=by
  rw[gD];obtain⟨hk,e⟩:=gQ.1 hx;refine⟨hk,by rw[e];exact u,λj E=>?_⟩;have:=h (l[j]'(by omega)) (by
   rw[List.mem_take_iff_getElem];exact⟨j,by omega,rfl⟩)
  rw[this];simp
 unfold Aiy;rw[this]
theorem Agb(h:∀x∈l,p x=aI):Aiy p l= -1:=by
 have:l.findIdx? p=lJ:=by
  rw[gC];exact h
 unfold Aiy;rw[this]
theorem Zc(h:∀x∈l.take k,p x=aI)(hx:l[k]? =lK x)(j:p x=aI):∀y∈l.take (k+1),p y=aI:=by
 rw[jU,hx];intro y hy;rcases iQ.1 hy with hy|hy
 ·exact h y hy
 ·rw[jB.1 hy];exact j
theorem Ak4:aO (Aiy p l≥0)=l.any p:=by
 unfold Aiy;cases h:l.findIdx? p with
 |none=>
  rw[gC]at h;have:l.any p=aI:=by rw[List.any_eq_false];intro x hx;rw[h x hx];simp
  rw[this];rfl
 |some i=>
  rw[gD]at h;obtain⟨hi,j,_⟩:=h;have:l.any p=aN:=fJ.2 ⟨_,g8 hi,j⟩;rw[this];exact decide_eq_true (by simp only;omega)
theorem Agc(l:List Int)(hl:l.length<=2147483648)(f:aU)(j:List AV)(J:Bh j=aN)(p:Int->Bool)(U:∀x∈l,Fn cF f (.lit (.int .i64 x)::j) (.lit (.bool (p x)))):Fn cF 58 [.bs tInt l,.fn f j] (.lit (.int .i64 (Aiy p l))):=by
 have X:j7 (.fn f j)=aN:=by unfold j7;exact J
 refine AQ Tryz.func58 V (by kernel_rfl) V Tryz.ntmps58 λC hC=>?_
 simp only[Nat.reduceAdd,Nat.reduceSub,zaa];refine wR ?_;refine Ab λK2 h2=>?_
 refine wR ?_;refine Ac ?_;refine AB (λk:Nat=>⟨(.bs tInt l::.fn f j::A5 (.lit (.int .i64 (l.length:Int))::.lit (.int .i64 (k:Int))::A10 [])),[]⟩) (λk=>k<=l.length/\∀x∈l.take k,p x=aI) (λk=>l.length - k) 0 ⟨lF _,by simp⟩ (AS) ?_;rintro k ⟨hk,E⟩;refine wR ?_;refine Ab λK6 Z=>?_
 refine Ag V (λF=>?_) (λF=>?_)
 ·have G:k < l.length:=by simpa using F
  obtain⟨x,hx⟩:∃x,l[k]? =lK x:=⟨_,gO G⟩
  have O:=U x (iZ hx);refine Al ?_;refine Z _ ?_;refine nT ?_;refine Ab λK8 Y=>?_
  refine Ac ?_;refine wR ?_;refine wR ?_;refine Ag V (λu=>?_) (λu=>?_)
  ·refine wR ?_;rw[Aql E hx u];exact Aw ⟨.inr V,kG V⟩
  ·refine Al ?_;refine Y _ ?_;refine nT ?_;refine wRE ?_;refine An ⟨k+1,⟨by omega,Zc E hx u⟩,by omega,AS⟩
 ·refine Ay ?_;refine h2 _ ?_;refine nT ?_;refine wR ?_;have I:k=l.length:=by have:¬k < l.length:=(by simpa using F);omega
  rw[Agb (by rw[I,jW]at E;exact E)];exact Aw ⟨.inr V,kG V⟩
open Go.ChangeShapes Go.WideShapes
variable{S:Nat->Prop}{α:Type}{T:Ty α}{e:eQ}{f:aU}{l:List α}{tys:Array eQ}{v:eR}{w:eX}{xs:List AV}{ψ:Nat->eR}
section
variable{P:bE}{C:Ctx}{t:List AV}{h:List j5}{o:bC}{K:St->Prop}
end
def Aif(P:bE)(f:aU)(args:List AV)(e:eQ){α:Type}(T:Ty α)(l:List α):Prop:=
 Ca P f=aN/\∀(w:eX) (S:Nat->Prop) (vs:List eR),(∀k,S k->k < w.heap.size)->Ae w S [] ψ0 args vs->
  aP P f vs.toArray w λr w'=>∃v cells,r= .returned v/\Below w.heap.size w w'/\w'.ownsRow w.heap.size e T.size v l.length cells/\
   ∃S':Nat->Prop,(∀k,S k->S' k)/\(∀k,S' k->S k\/w.heap.size<=k)/\(∀k,S' k->k < w'.heap.size)/\(∀i d,l[i]? =lK d->T.RS w' S' ((cells.drop (i * T.size)).take T.size) d)/\∀g,v.ownBlock=lK g->¬S' g
section
variable{P:bE}{C:Ctx}{t:List AV}{h:List j5}{o:bC}{K:St->Prop}
theorem Abd{args:Array bD}{a:Act}{Q':Exit->Act->eX->Prop}{F:Act->eX->Prop}
 (U:o.op= .call {callee:=.value (.func f),args:=args,argTypes:=tys})(E:Aif P f xs e T l)(hx:args.toList.map (evA t)=xs)(hc:Bh xs=aN)(H:HRel C h S ψ w)(X:Ae w S h ψ t a.tmps.toList)
 (Y:∀v cells w' S',Below w.heap.size w w'->w'.ownsRow w.heap.size e T.size v l.length cells->(∀k,S k->S' k)->HRel C h S' ψ w'->(∀i d,l[i]? =lK d->T.RS w' S' ((cells.drop (i * T.size)).take T.size) d)->(∀g,v.ownBlock=lK g->¬S' g)->F (a.put o.dst v) w'):
 o.wp P a w F Q':=by
 have h2:Ae w S h ψ xs (args.toList.map a.eval):=by
  rw[<-hx];exact Cd λx _=>Bv X x
 unfold Oper.wp;rw[Cv U E.1 a.eval w V];simp only[Oper.upon];rw[show(args.map a.eval)=(args.toList.map a.eval).toArray from(by rw[<-aF])];refine(E.2 w S (args.toList.map a.eval) H.lt (Bi _ _ hc h2)).mono ?_;rintro r w' ⟨v,cells,rfl,hb,j,S',u,O,J,I,G⟩;exact Y v cells w' S' hb j u (H.grow hb u O J) I G
theorem HRel.addAt{b:j5}{p:Nat}(H:HRel C h S ψ w)(hp:h[p]? =lK .dead)(hn:h.all (nrB p)=aN)(hB:Hv C.N w S (h.set p b) (Bo ψ p v) v b)(U:∀g,ftp (lK b) v g->∀i,ABlk.live h[i]? =aN->¬ftp h[i]? (ψ i) g):
 HRel C (h.set p b) S (Bo ψ p v) w:=by
 have F:=(gQ.1 hp).1;refine⟨H.bel,H.nlt,H.lt,H.sub,H.new,λi c hi=>?_,λi j I hi J g h1 h2=>?_⟩
 ·by_cases u:i=p
  ·subst u;rw[gW F]at hi;cases hi;rw[Bj];exact hB
  ·rw[gV (lH u)]at hi;rw[BC u];have hc:=H.blk i c hi;have O:=fI.1 hn c (iZ hi);cases c with
   |dead=>trivial
   |box cells=>
    obtain⟨g,cs,e,k1,k2,Z,Y,X⟩:=hc;exact⟨g,cs,e,k1,k2,Z,Y,DI (λi hi=>BC hi) _ _ O X⟩
   |row ver e T l=>exact hc
   |res R=>exact hc
 ·by_cases u:i=p
  ·subst u;rw[Bj,gW F]at h1;have G:j≠i:=lH I;rw[BC G,gV (lH G)]at h2;rw[gV (lH G)]at J;exact U g h1 j J h2
  ·rw[BC u,gV (lH u)]at h1;rw[gV (lH u)]at hi;by_cases E:j=p
   ·subst E;rw[Bj,gW F]at h2;exact U g h2 i hi h1
   ·rw[BC E,gV (lH E)]at h2;rw[gV (lH E)]at J;exact H.dis i j I hi J g h1 h2
theorem Apd{w':eX}{ver sz n:Nat}{cells:List eR}(H:HRel C h S ψ w)(u:w'.ownsRow w.heap.size e sz v n cells):∀g,ftp (lK (.row ver e T l)) v g->∀i,ABlk.live h[i]? =aN->¬ftp h[i]? (ψ i) g:=λg hg i hi j=>by
 have h1:=WH u g hg;obtain⟨c,hc⟩:=DQ hi;rw[hc]at j;have:=((H.blk i c hc).lt (by rw[<-hc];exact hi) g j).2.1;omega
theorem Kr{args:Array bD}(p:Nat)
 (O:o.op= .call {callee:=.value (.func f),args:=args,argTypes:=tys})(hx:args.toList.map (evA t)=xs)(hF:Aif P f xs e T l)(h0:0 < T.size)(hc:Bh xs=aN)(u:h[p]? =lK .dead)(X:h.all (nrB p)=aN)(E:Dw p t=aN)
 (hK:K ⟨Bl t o.dst (.own p 0),h.set p (.row 0 e T l)⟩):AOp P C o ⟨t,h⟩ K:=by
 rintro Q' a w ⟨Y,S,ψ,H,U⟩;refine⟨λc e=>(by rw[O]at e;cases e),?_⟩;refine Abd O hF hx hc H U λv cells w' S' hb j Z H' hR hN=>?_
 have F:=j.lt;have hB:Hv C.N w' S' (h.set p (.row 0 e T l)) (Bo ψ p v) v (.row 0 e T l):=⟨cells,j.mono (lF _),h0,hR,λg hg=>⟨λJ=>by have:=H.nlt _ J;have:=H.bel.size;have:=(F g hg).1;omega,hN g hg⟩⟩
 have I:=Az (Ext.grow h ψ (λk hk=>hb.block k (H.lt k hk)) Z) _ _ U;have G:=DI (b:=.row 0 e T l) (ψ':=Bo ψ p v) (λi hi=>BC hi) _ _ E I;refine⟨_,hK,by rw[put_defers,Y];exact(DO (b':=.row 0 e T l) u V).symm,S',_,H'.addAt u X hB (Apd H j),KE G o.dst ?_⟩;unfold j8;refine⟨by simpa using(gQ.1 u).1,λc hc=>?_⟩;rw[gW (gQ.1 u).1]at hc;simp only[ABlk.ver,lM]at hc;exact⟨by omega,λ_=>Bj.symm⟩
end
end Mu
namespace Mu
open Go Go.RowKit Go.Proofs
variable{S:Nat->Prop}{cs:List eR}{h:List j5}{w:eX}
structure Plan where
 leaf:Bool
 slots:Int
 at_:List Int
def Mn:Ty Plan:=(kT.cons (tInt.cons (tInt.slice.cons Dj))).via (λx=>⟨x.1,x.2.1,x.2.2.1⟩) (λd=>(d.leaf,d.slots,d.at_,()))
theorem RF{x:Plan}:Mn.RS w S cs x↔∃j:eR,cs= [.bool x.leaf,.int .i64 x.slots,j]/\wfI .i64 x.slots/\tInt.slice.RS w S [j] x.at_:=by
 constructor
 ·rintro⟨⟨_,_,rfl,rfl,_,_,rfl,⟨rfl,h1⟩,_,_,rfl,h2,rfl⟩,_⟩;have u:=h2;obtain⟨A2,E,rfl,_⟩:=h2;exact⟨_,rfl,h1,u⟩
 ·rintro⟨j,rfl,h1,h2⟩;exact⟨⟨[_],_,rfl,rfl,[_],_,rfl,⟨rfl,h1⟩,[_],_,rfl,h2,rfl⟩,rfl⟩
theorem Wn:Opens cF 29 Mn:=Gm Tryz.underlying29 (by kernel_rfl) (BE V (by kernel_rfl) (ZL dK) (BE V (by kernel_rfl) (I8 dJ) (BE V (by kernel_rfl) (H8 dI (by kernel_rfl) (by decide) (I8 dJ)) JN))) (λ_=>rfl)
@[reducible] def BF(x:Plan):List AV:=[.lit (.bool x.leaf),.lit (.int .i64 x.slots),.bs tInt x.at_]
theorem YB:Enc Mn BF:=by
 intro w S h ψ cs d H;obtain⟨j,rfl,h1,h2⟩:=RF.1 H;simp only[BF,Ae,j8];exact⟨_,_,rfl,rfl,_,_,rfl,rfl,_,_,rfl,h2,rfl⟩
theorem Ae8:SK Mn:=D4 YB λd x hx=>by
 simp only[BF,or_false,zak]at hx;rcases hx with rfl|rfl|rfl <;> first|exact .inl ⟨_,rfl,rfl⟩|exact .inr ⟨_,_,_,rfl⟩
instance Aw2:kF Mn BF:=⟨YB,Ae8,by decide⟩
structure okPlan(x:Plan):Prop where
 slots:wfI .i64 x.slots
theorem Apg{x:Plan}(H:Mn.RS w S cs x):okPlan x:=by
 obtain⟨j,rfl,h1,h2⟩:=RF.1 H;exact⟨h1⟩
theorem Aj0{ψ:Nat->eR}{x:Plan}(j:okPlan x)(H:Ae w S h ψ (BF x) cs):Mn.RS w S cs x:=by
 simp only[BF,Ae,j8]at H;obtain⟨_,_,rfl,rfl,_,_,rfl,rfl,_,_,rfl,h2,rfl⟩:=H;exact RF.2 ⟨_,rfl,j.slots,h2⟩
def Wr(x:Plan):Bool:=wfB .i64 x.slots
theorem ZO{x:Plan}(h:Wr x=aN):okPlan x:=by
 unfold Wr at h;exact⟨h⟩
theorem Am4:Eq cF 29=lK [(0,1),(1,1),(2,1)]:=by kernel_rfl
instance Aw1:AG cF 29 aN 3:=⟨by kernel_rfl⟩
instance Aw0:SZ cF 29 3:=⟨by kernel_rfl⟩
instance Awz:FO cF 29 0 0:=⟨by kernel_rfl⟩
instance Awy:FO cF 29 1 1:=⟨by kernel_rfl⟩
instance Awx:FO cF 29 2 2:=⟨by kernel_rfl⟩
instance Aww:ZC cF 29 [.bool aI,.int .i64 0,.slice lJ 0 0]:=⟨by kernel_rfl⟩
theorem Xs{P:bE}{C:Ctx}{t:List AV}{o:bC}{ty:eQ}{j:Array (Nat×bD)}{zs:List eR}{E:List (Nat×Nat)}{rs xs:List AV}[ZC P ty zs](G:o.op= .build ty j)(u:Eq P ty=lK E)
 (hx:(j.toList.map λp=>evA t p.2)=xs)(F:putCells E (zs.map .lit) ((j.toList.map λp=>p.1).zip xs)=lK rs)(h1:xs.all Wx=aN):AT P C t h o (.agg rs):=by
 subst hx;rw[List.zip_map']at F;exact BR G u F (by rw[List.all_map]at h1;exact h1)
end Mu
