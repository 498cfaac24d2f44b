/-
  Lemmas for S, part 5.
  Conditions: as each lemma says.
-/
import Derived.Test.YtnhheaffnpflfaaGreatCt4
import Derived.WideKeyEntry
set_option maxRecDepth 100000
set_option maxHeartbeats 4000000
set_option linter.unusedSimpArgs false
set_option linter.unusedVariables false
open Array renaming ext'->aA,getElem?_eq_some_iff->aB,mem_append->aC,mem_toList_iff->aD,toList_map->aE,toList_modify->aF,toList_push->aG
open Bool renaming and_eq_false_iff->aH,and_eq_true->aI,beq_comm->aJ,eq_iff_iff->aK,false->aL,false_and->aM,false_eq_true->aN,false_or->aO,not_eq_false'->aP,not_eq_true'->aR,not_false->aS,not_not->aT,not_true->aU,or_eq_false_iff->aV,or_eq_true->aW,or_false->aX,or_true->aY,true->aZ,true_and->a6
open Classical renaming byContradiction->a7
open Decidable renaming decide->a8
open Go renaming CallsIn->bA,LeavesInM->bL,MapEntry->bM,Oper->bR,Operand->bS,Program->bT,TypeId->cB,Value->cC,World->cG,callsIn_wide->cH,execOp->cI,heap_alloc_new->cJ,intKeys->cL,maxLen->cM,run_underlying->cN
open Go.Fence renaming wide->bB
open Go.Instr renaming entryStore->bC,mapEntry->bD,mapUpdate->bE
open Go.IntKind renaming bits->bF,i64->bG,max->bH,min->bI,signed->bJ
open Go.IntWalk renaming i64_in->bK
open Go.MapKept renaming run_getObj_map->bN,run_setObj_map->bO
open Go.Op renaming operands->bP
open Go.Proofs.Tryz renaming func9->bU,keysK->bV,keysK_ren->bW,ntmps9->bX,prog->bY,underlying77->bZ
open Go.Result renaming andThen->b9
open Go.RowKit.Below renaming refl->cA
open Go.Value renaming int->cD
open Go.WideElems renaming findIdx_arr->cE,findIdx_born->cF
open Int renaming le_refl->cO,toNat_natCast->cP,toNat_of_nonneg->cQ
open List renaming all_eq_true->cV,any_cons->cW,any_eq_false->cX,any_eq_true->cY,append_assoc->cZ,append_inj'->dA,append_nil->dB,concat_eq_append->dC,cons_append->dD,contains_iff_mem->dE,countP_cons_of_pos->dF,countP_eq_length_filter->dG,countP_eq_zero->dH,drop_zero->dI,eq_nil_of_length_eq_zero->dJ,eq_nil_or_concat->dK,exists_mem_of_ne_nil->dL,ext_getElem?->dM,filter_append->dN,filter_congr->dO,filter_cons->dP,filter_cons_of_neg->dQ,filter_cons_of_pos->dR,filter_eq_nil_iff->dT,filter_eq_self->dU,filter_nil->dV,find?_eq_none->dW,flatMap_cons->dX,foldl_append->dY,foldl_cons->dZ,getD->eA,getD_eq_getElem?_getD->eB,getElem?_append_left->eC,getElem?_append_right->eD,getElem?_eq_getElem->eE,getElem?_eq_none->eF,getElem?_eq_some_iff->eG,getElem?_map->eH,getElem?_of_mem->eI,getElem?_range->eJ,getElem?_replicate->eK,getElem?_set->eL,getElem?_set_ne->eM,getElem?_set_self->eN,getElem?_zip_eq_some->eO,getElem_mem->eP,getElem_range->eQ,head?_drop->eR,length->eS,length_append->eT,length_cons->eU,length_filter_le->eV,length_map->eW,length_range->eX,length_replicate->eY,length_reverse->eZ,length_set->fA,length_take->fB,map_append->fC,map_cons->fD,map_map->fE,map_nil->fF,mem_append->fG,mem_append_left->fH,mem_append_right->fI,mem_cons->fJ,mem_cons_of_mem->fK,mem_cons_self->fL,mem_erase_of_ne->fM,mem_filter->fN,mem_flatMap->fO,mem_iff_getElem?->fP,mem_map->fQ,mem_of_getElem?->fR,mem_of_mem_take->fS,mem_or_eq_of_mem_set->fT,mem_range->fU,mem_replicate->fV,mem_reverse->fW,mem_singleton->fX,ne_nil_of_mem->fY,nil_append->fZ,nodup_append->gB,nodup_cons->gC,nodup_nil->gD,nodup_range->gE,not_mem_nil->gF,pairwise_cons->gG,pairwise_iff_getElem->gH,pairwise_map->gI,range->gJ,range'->gK,range'_succ->gL,range_eq_range'->gN,range_succ->gO,replicate->gP,reverse_append->gQ,reverse_cons->gR,set_set->gT,sum_cons->gU,take_add_one->gV,take_length->gW,take_of_length_le->gX,take_one->gY
open List.Pairwise renaming filter->cR,imp->cT,nil->cU
open Mu renaming ABlk->gZ,Block->iB,CGraph->iC,FStep->iF,FineF->iH,Func->iI,Hint->iJ,OkGr->iX,Pair->i8,Plan->i9
open Mu.ABlk renaming res->g8
open Mu.AOp renaming turn->g9
open Mu.AV renaming rel->hZ
open Mu.Awp renaming region->iA
open Mu.Cut renaming dead->iD,nil->iE
open Mu.Fin renaming cl->iG
open Mu.M renaming bnd->iK,chk->iL,cnd->iM,els->iN,els_l->iO,els_r->iP,loop->iQ,loop_in->iR,loop_inv->iS,loop_out->iT,ok->iU,to_whn->iV,whn_f->iW
open Mu.OpnB renaming any->iY,keep->iZ,nil->i6,ptr->i7
open Mu.St.le renaming refl->jA
open Nat renaming le_antisymm->jB,le_of_ble_eq_true->jC,le_of_not_lt->jD,le_refl->jE,le_trans->jF,lt_of_le_of_ne->jG,lt_of_lt_of_le->jH,lt_or_ge->jI,lt_succ_self->jJ,lt_trichotomy->jK,mul_add->jL,mul_le_mul->jM,mul_le_mul_left->jN,mul_one->jO,not_lt->jP,not_lt_zero->jQ,zero_add->jR,zero_le->jS
open Ne renaming symm->jT
open Option renaming isSome_iff_exists->jU,isSome_map->jV,map_eq_some_iff->jW,none->jX,some->jY,toList_some->jZ
abbrev Mu.zap:=And.intro @aI (And.intro @aR (And.intro @aV (@decide_eq_false_iff_not)))
namespace Mu
open Go Go.RowKit Go.Proofs Go.Maps
def slotN(G:iC)(A:List (Int×Int))(r:Int):Nat:=(gJ (((getK G.near r).getD []).length+1)).findIdx λk:Nat=>Gi G A r (32+(k:Int))
theorem Mq(G:iC)(A:List (Int×Int))(r:Int):
 slotN G A r<=((getK G.near r).getD []).length/\Gi G A r (32+(slotN G A r:Int))=aZ/\∀k,k < slotN G A r->Gi G A r (32+(k:Int))=aL:=by
 obtain⟨L,j⟩:∃x,x=(getK G.near r).getD []:=⟨_,rfl⟩
 have g:∃k∈gJ (L.length+1),Gi G A r (32+(k:Int))=aZ:=by
  refine a7 λo=>?_
  have s:∀k,k < L.length+1->Gi G A r (32+(k:Int))=aL:=λk hk=>by
   cases q:Gi G A r (32+(k:Int))with
   |false=>rfl
   |true=>exact absurd ⟨k,fU.2 hk,q⟩ o
  have f:=E6 (l:=(gJ (L.length+1)).map λk:Nat=>(32+(k:Int))) (m:=L.map λx=>(getK A x).getD 0)
   (gI.2 (cT (λ{a b:Nat} (i:a≠b) (e:32+(a:Int)=32+(b:Int))=>i (by omega)) gE))
   (λx hx=>by
    obtain⟨k,hk,rfl⟩:=fQ.1 hx;have h1:=s k (fU.1 hk);unfold Gi at h1;rw[aP,<-j]at h1;obtain⟨y,n,d⟩:=cY.1 h1;unfold freeP at d;rw[aI]at d;exact fQ.2 ⟨y,n,(eq_of_beq d.2).symm⟩)
  rw[eW,eW,eX]at f;omega
 unfold slotN;rw[<-j];have c:(gJ (L.length+1)).findIdx (λk:Nat=>Gi G A r (32+(k:Int))) < (gJ (L.length+1)).length:=List.findIdx_lt_length_of_exists g;refine⟨?_,?_,λk hk=>?_⟩
 ·rw[eX]at c;omega
 ·have h:=List.findIdx_getElem (w:=c);rwa [eQ]at h
 ·have h:=List.not_of_lt_findIdx hk;rw[eQ]at h;exact h
def IQ(G:iC)(s:List (Int×Int)×Int)(r:Int):List (Int×Int)×Int:=(B7 s.1 r (32+(slotN G s.1 r:Int)),max s.2 ((slotN G s.1 r:Int)+1))
def IP(G:iC)(out A:List (Int×Int))(k:Nat):List (Int×Int)×Int:=((keysK out).take k).foldl (IQ G) (A,0)
def IN(G:iC)(out A:List (Int×Int)):List (Int×Int)×Int:=(keysK out).foldl (IQ G) (A,0)
theorem Zp(G:iC)(out A:List (Int×Int)):IP G out A (keysK out).length=IN G out A:=by
 unfold IP IN;rw[gW]
theorem VX{G:iC}{out A:List (Int×Int)}{k:Nat}{r:Int}(h:(keysK out)[k]? =jY r):IP G out A (k+1)=IQ G (IP G out A k) r:=by
 unfold IP;rw[gV,h,dY];rfl
open Go.Shelf
variable{α:Type}{l:List (Int×α)}
theorem CN{k:Int}:k∈keysK l↔(getK l k).isSome=aZ:=by
 cases hg:getK l k with
 |none=>
  have h:=Jh.1 hg;exact⟨λhk=>by
   obtain⟨p,a,e⟩:=fQ.1 hk;exact absurd e (h p a),λh=>by cases h⟩
 |some v=>
  refine⟨λ_=>rfl,λ_=>?_⟩;refine a7 λb=>?_
  have:getK l k=jX:=Jh.2 λp a e=>b (fQ.2 ⟨p,a,e⟩)
  rw[hg]at this;cases this
theorem Mb(h:Eb l):Asc (keysK l):=gI.2 h
theorem Um(l:List (Int×cC)):cL (LW l)=keysK l:=by
 simp only[cL,LW,keysK,fE];rfl
theorem Ac4{w:cG}{S:Nat->Prop}{v:cC}{d:List (Int×Int)}(h:tMapI.RS w S [v] d):∃c,v= .map c:=by
 obtain⟨_,⟨a,_⟩|⟨b,_,a,_⟩⟩:=h
 ·cases a;exact⟨_,rfl⟩
 ·cases a;exact⟨_,rfl⟩
theorem Afx(d:List (Int×Int)):M3 bY 57 [.tv tMapI d] (λp=>Be p [.tv tMapI d]) (λp=>.func (.func 97) #[] #[.pointer (jY ⟨p,0,jX⟩)]):=by
 refine⟨by kernel_rfl,λw S vs g f=>?_⟩;obtain⟨v,j,rfl,h0,h1⟩:=f;unfold Ae at h1;subst h1;have c:tMapI.RS w S [v] d:=h0;obtain⟨b,rfl⟩:=Ac4 c;have i:bA bB 5 bY 57 #[.map b] w λe w'=>e= .returned (.func (.func 97) #[] #[.pointer (jY ⟨w.heap.size,0,jX⟩)])/\w'=w.alloc (.cells #[.map b] 51):=AnyZI.keys_in bV bB 5 trivial V b w
 refine((cH (n:=5)).1 i).mono ?_;rintro e w' ⟨rfl,rfl⟩;have a:Below w.heap.size w (w.alloc (.cells #[.map b] 51)):=(cA _ _).alloc (jE _) _;exact⟨_,rfl,⟨a.os,a.tape,a.output,a.size,λk hk _=>a.block k hk⟩,w.heap.size,rfl,⟨[.map b],51,cJ w _,⟨_,_,rfl,tMapI.keepS c (λk hk=>a.block k (g k hk)) λ_ h=>h,rfl⟩⟩,λk hk=>by
  have hk:k=w.heap.size:=hk;subst hk;exact⟨.inr (jE _),by simp⟩⟩
theorem Zh(p:Nat)(d:List (Int×Int))(U:d.length<=1073741824):
 FnR bY 56 (Be p [.tv tMapI d]) [.lit (.func (.func 97) #[] #[.pointer (jY ⟨p,0,jX⟩)])] (.bs tInt (keysK d)):=by
 refine⟨by kernel_rfl,λw T vs P D s L=>?_⟩;obtain⟨K,rfl,h0⟩:=Ek L;unfold Ae at h0;subst h0;obtain⟨cs,e,E,A⟩:=s;obtain⟨v,K,rfl,h0,h1⟩:=A;unfold Ae at h1;subst h1;have t:tMapI.RS w T [v] d:=h0;have o:=D p V;have g:okK d:=t.1;have z:∃(Q:List Int->Prop) (N:Nat),SeqGives bB 2 bY 97 #[.pointer (jY ⟨p,0,jX⟩)] encZ Q N w/\N<=d.length/\∀ss,Q ss->ss.Perm (keysK d):=by
  obtain⟨_,⟨u,rfl⟩|⟨b,xs,u,W,H,h1,h2⟩⟩:=t
  ·cases u;have a:w.cell? ⟨p,0,jX⟩=jY (.map jX):=by simp[World.cell?,E]
   exact⟨λss:List Int=>ss= [],0,AnyZI.keys_gives_nil (ρ:=bW) {bV with} bB _ trivial rfl p _ o a,jE _,λss h=>by rw[h];exact List.Perm.refl _⟩
  ·cases u;have a:w.cell? ⟨p,0,jX⟩=jY (.map (jY b)):=by simp[World.cell?,E]
   have hk:keysK xs=keysK d:=GN (Mb H.1.1) (Mb g.1) λk=>by rw[CN,CN,h1 k]
   have i:xs.length=d.length:=by have:=congrArg eS hk;simpa[keysK]using this
   have r:=H.2;have G:xs.length<=cM:=by rw[i];unfold cM;omega
   have c:SeqGives bB 2 bY 97 #[.pointer (jY ⟨p,0,jX⟩)] encZ (λss=>ss.Perm (cL (LW xs))) (Maps.size (LW xs)) w:=AnyZI.keys_gives (ρ:=bW) {bV with} bB _ trivial rfl (by omega) p b xs.length (LW xs) w o a r;exact⟨_,_,c,Nat.le_of_eq ((Oz xs).trans i),λss (h:ss.Perm (cL (LW xs)))=>by
    rw[Um,hk]at h;exact h⟩
 obtain⟨Q,N,c,X,S⟩:=z;have J:=AnyZI.sorted_in Tryz.sortedM bB 5 trivial trivial trivial trivial V (by omega) (Adk _) (enters_of Tryz.func62 (by kernel_rfl) V) 97 #[.pointer (jY ⟨p,0,jX⟩)] trivial (enters_of Tryz.func97 (by kernel_rfl) V) _ N (by unfold cM;omega) (by omega) _ c;change bA _ _ bY 56 _ _ _ at J;refine((cH (n:=5)).1 J).mono ?_;rintro e w' ⟨v,ss,rfl,B,m,F,I⟩;have j:ss.Perm (keysK d):=S ss B;have O:(ss.mergeSort λx y=>decide (x<=y))=keysK d:=
  GN (Og (j.nodup_iff.2 (Mb g.1).nodup)) (Mb g.1) (λx=>((List.mergeSort_perm ss _).mem_iff).trans j.mem_iff)
 have f:w'.ownsRow w.heap.size 3 1 v ss.length ((ss.mergeSort (λx y=>decide (x<=y))).map encZ):=m;rw[O]at f;have C:Gf w' w.heap.size v (keysK d):=.of f j.length_eq V;refine⟨v,rfl,I,λk=>T k\/v.ownBlock=jY k,λ_ h=>.inl h,λk hk=>?_,λk hk=>?_,?_⟩
 ·rcases hk with hk|hk
  ·exact .inl hk
  ·exact .inr (C.lt k hk).1
 ·rcases hk with hk|hk
  ·exact jH (P k hk) I.size
  ·exact(C.lt k hk).2
 ·unfold hZ;exact tInt.slice.keepS (LB C λx hx=>by
   obtain⟨q,hq,e⟩:=fQ.1 hx;rw[<-e];exact g.2 q hq) (λ_ _=>rfl) λk hk=>.inr hk
end Mu
namespace Mu
open Go Go.RowKit Go.Proofs Go.Maps
theorem Aoi{x:Int}(h:0<=x/\x<=4294967296):Ch x:=by
 have h1:wfB .i64 x=aZ:=by
  unfold wfB;simp[Lit.wf,bI,bH,bJ,bF];omega
 exact h1
theorem Tj(G:iC):∀(l:List Int) (s:List (Int×Int)×Int),(l.foldl (IQ G) s).1.length<=s.1.length+l.length
 | [],s=>jE _
 |r::l,s=>by
  have h1:=Tj G l (IQ G s r);have h2:(IQ G s r).1.length<=s.1.length+1:=EY r _;show(l.foldl (IQ G) (IQ G s r)).1.length<=s.1.length+(l.length+1);omega
theorem Zo(G:iC)(out A:List (Int×Int))(m:Nat)(I:iX G)(v:okK out)(c:out.length<=1073741824)(Z:Eb A)(T:A.length<=1073741824):DK bY 28 (EG (cD .i64) A m) [.bp Bc G 0,.tv tMapI out,.lit (.map (jY m))] (λ_:Unit=>EG (cD .i64) (IN G out A).1 m) (λ_:Unit=>.int .i64 (IN G out A).2):=by
 obtain⟨ks,b⟩:∃x,x=keysK out:=⟨_,rfl⟩
 have S:ks.length<=1073741824:=by rw[b];simpa[keysK]using c
 have D:∀r∈ks,Ch r:=by
  rw[b];intro r t;obtain⟨q,hq,e⟩:=fQ.1 t;rw[<-e];exact v.2 q hq
 refine SM Tryz.func28 V (by kernel_rfl) V Tryz.ntmps28 V (λ_ _ _ _ h=>h) λC=>?_
 simp only[Nat.reduceAdd,Nat.reduceSub,zaa];refine wR ?_;refine wR ?_;refine Ab λK3 P=>?_
 refine nT ?_;refine wRK λK4 H=>?_
 refine sA ?_ (AT.move V GP) (Ap JG);refine AC V (Cr V (Afx out) (λ_=>rfl) V V λp=>?_);refine D2 ?_ (Ap Ka);refine sA ?_ (KW (i:=1) V V (Zh p out c) V V V) (Ap GY);refine sA ?_ (Ny V V V) (Ap HT);refine sA ?_ (AT.move V V) (Ap Hy);refine Au (H _ ?_);refine Ac ?_;refine AB (λk:Nat=>⟨(.bp Bc G 0::.any::.lit (.map (jY m))::A4 (.lit (.int .i64 (IP G out A k).2)::A5 (.bs tInt ks::.lit (.int .i64 (ks.length:Int))::.lit (.int .i64 (k:Int))::A20 [.any]))),[.res (EG (cD .i64) (IP G out A k).1 m),.res (Be p [.tv tMapI out])]⟩) (λk=>k<=ks.length) (λk=>ks.length - k) 0 (jS _) (by rw[b];exact AS) ?_;rintro k hk;refine wR ?_;refine Ab λK7 W=>?_
 refine Ag V (λd=>?_) (λd=>?_)
 ·have s:k < ks.length:=by simpa using d
  obtain⟨r,t⟩:∃q,ks[k]? =jY q:=⟨_,eE s⟩
  have f:wfB .i64 r=aZ:=D r (fR t);obtain⟨B,K⟩:∃x,x=IP G out A k:=⟨_,rfl⟩
  have w:IP G out A (k+1)=IQ G B r:=by rw[K];exact VX (by rw[<-b];exact t)
  have J:B.1.length < cM:=by
   have h1:=Tj G ((keysK out).take k) (A,0);have h2:((keysK out).take k).length<=k:=List.length_take_le _ _;rw[K];unfold IP cM;have P:(A,(0:Int)).1.length=A.length:=rfl;omega
  rw[<-K];obtain⟨n,O⟩:∃x,x=slotN G B.1 r:=⟨_,rfl⟩
  obtain⟨y,o,g⟩:=Mq G B.1 r;rw[<-O]at y o g;refine Al ?_;refine W _ ?_;refine nT ?_;refine Ab λK9 U=>?_
  refine Ac ?_;refine wR ?_;refine wR ?_;refine Ab λY N=>?_
  refine Ac ?_;refine AB (λj:Nat=>⟨(.bp Bc G 0::.any::.lit (.map (jY m))::A4 (.lit (.int .i64 B.2)::.any::.lit (.int .i64 r)::.lit (.int .i64 (32+(j:Int)))::A2 (.bs tInt ks::.lit (.int .i64 (ks.length:Int))::.lit (.int .i64 (k:Int))::A20 [.any]))),[.res (EG (cD .i64) B.1 m),.res (Be p [.tv tMapI out])]⟩) (λj=>j<=n) (λj=>n - j) 0 (jS _) (AS) ?_;rintro j u;have u:j<=n:=u;have Q:=I.nearl r;have E:Ch (32+(j:Int)):=Aoi (by omega);refine Ab λX L=>?_
  refine wR (hx:=by((repeat(first|refine sA (hq:=CJ V (Sh G B.1 r (32+(j:Int)) f E (I.near r) (I.nearl r)) (.cons (.cl V) (.cons (.cl V) (.cons (.cl V) (.cons (M2.map (i:=0) V) .nil))))) (hk:=?_)|refine sA ?_|refine AM ?_|refine sAG ?_|refine Bp ?_));exact CS V)) (hk:=?_);refine Ag V (λa=>?_) (λa=>?_)
  ·have a:Gi G B.1 r (32+(j:Int))=aL:=by simpa using a
   have F:j < n:=jG u λe=>by
    rw[e,o]at a;cases a
   refine Al ?_;refine L _ ?_;refine nT ?_;refine Ac ?_;refine wRE (hx:=by((repeat(first|refine sA ?_ (Ea V V V (by omega))|refine sA ?_|refine AM ?_|refine sAG ?_|refine Bp ?_));exact CS V)) (hk:=?_);refine abN ?_;refine An ⟨j+1,F,by omega,?_⟩;try dsimp only
   rw[show((j+1:Nat):Int)=(j:Int)+1 from V,<-Int.add_assoc];exact AS
  ·have a:Gi G B.1 r (32+(j:Int))=aZ:=by simpa using a
   obtain rfl:j=n:=jB u (jP.1 λh=>by
    rw[g j h]at a;cases a)
   refine Ay ?_;refine N _ ?_;refine nT ?_;refine wR (hx:=by((repeat(first|(refine AC V (J5 0 V Tryz.underlying51 V V V f J V ?_);refine sNt ?_)|refine sA ?_|refine AM ?_|refine sAG ?_|refine Bp ?_));exact CS V)) (hk:=?_);refine wRE (hx:=by((repeat(first|refine sA ?_ (EO V V V (by omega))|refine sA ?_ (Ea V V V (by omega))|refine sA ?_ (AT.max2 V V V)|refine sA ?_|refine AM ?_|refine sAG ?_|refine Bp ?_));exact CS V)) (hk:=?_);refine U _ ?_;refine nT ?_;refine wRE ?_;refine An ⟨k+1,s,by omega,?_⟩;try dsimp only
   rw[w];have z:IQ G B r=(B7 B.1 r (32+(j:Int)),if 32+(j:Int) - 32+1 > B.2 then 32+(j:Int) - 32+1 else B.2):=by
    unfold IQ;rw[<-O];refine Prod.ext V ?_;show max B.2 ((j:Int)+1)=_;split <;> omega
   rw[z];exact AS
 ·obtain rfl:k=ks.length:=by have:¬k < ks.length:=(by simpa using d);omega
  rw[show IP G out A ks.length=IN G out A by rw[b];exact Zp G out A];refine Ay ?_;refine P _ ?_;refine nT ?_;refine wR ?_;exact Aw ⟨.inr V,(),rfl,rfl,rfl⟩
end Mu
namespace Mu
open Go Go.RowKit
variable{P:bT}{fn:Go.Func}{n:Nat}{t:Tmp}{ty:cB}{u:Tmp}{uy:cB}
theorem Uh{P:bT}{C:Ctx}{fn:Go.Func}{tmps:Array cC}{R:Ending->cG->Prop}{n:Nat}:
 ∀(ds:List Nat) (W:cG) (h:List gZ) (S:Nat->Prop) (ψ:Nat->cC),(∀W S ψ,HRel C (h.set 0 .dead) S ψ W->∃v,(results fn tmps).run P W= .ok v W/\R (.returned v) W)->h[0]? =jY (.res (Bk ds))->HRel C h S ψ W->
  bL bB n P fn tmps R (ds.map Kb) .returning W
 | [],W,h,S,ψ,a,h0,H=>by
  have hc:Cut h (h.set 0 .dead):=⟨by simp,λi b hi=>by
   by_cases f:i=0
   ·subst f;rw[eN (eG.1 h0).1]at hi;cases hi;exact .inl V
   ·rw[eM (jT f)]at hi;exact .inr hi⟩
  obtain⟨v,h1,h2⟩:=a W S ψ (H.cute hc (by simp));exact⟨v,h1,h2⟩
 |D::ds,W,h,S,ψ,a,h0,H=>by
  have k:=H.blk 0 _ h0;have c:=(eG.1 h0).1;have q:=k.1 D (by show D∈D::ds;simp);refine⟨by simp,.inl ⟨_,_,rfl,run_takeDeferred (k.2.2 D (by simp)),?_⟩⟩;have X:Ext W S h ψ W S (h.set 0 (.res (Bk ds))) (Bo ψ 0 (ψ 0)):=Ext.set (λ_ _=>rfl) h0 (λw hc=>by simp[ABlk.ver]at hc) λh=>by simp[AZ]at h
  have e:=gC.1 k.2.1;have s:HRel C (h.set 0 (.res (Bk ds))) S (Bo ψ 0 (ψ 0)) W:=H.set (v':=ψ 0) h0 V ⟨rfl,rfl,rfl,jE _,λ_ _ _=>rfl⟩ X
   ⟨λg hg=>k.1 g (fK _ hg),e.2,λd r=>k.2.2 d (fK _ r)⟩ λg hg=>.inl (fK _ hg)
  have o:¬owns (h.set 0 (.res (Bk ds))) (Bo ψ 0 (ψ 0)) D:=λ⟨j,h1,h2⟩=>by
   by_cases m:j=0
   ·subst m;rw[eN c]at h2;exact e.1 h2
   ·rw[eM (jT m)]at h1 h2;rw[BC m]at h2;exact H.dis j 0 m h1 (by rw[h0];rfl) D h2 (by rw[h0];show D∈D::ds;simp)
  refine Uh ds _ _ S _ (λW S ψ h1=>?_) (eN c) (s.other _ q.1 q.2.1 o);rw[gT]at h1;exact a W S ψ h1
theorem Mr{tmps:Array cC}{i h:Nat}{g f:cC}{w:cG}(a:fn.results= #[.cell t ty,.cell u uy])(k:Rl P ty=jY (aL,1))(j:Rl P uy=jY (aL,1))
 (h1:tmps.getD t undef= .pointer (jY ⟨i,0,jX⟩))(h2:tmps.getD u undef= .pointer (jY ⟨h,0,jX⟩))(e:w.cell? ⟨i,0,jX⟩=jY g)(d:w.cell? ⟨h,0,jX⟩=jY f):(results fn tmps).run P w= .ok (.tuple #[g,f]) w:=by
 have c:=IX (P:=P) (ty:=ty) k e;have b:=IX (P:=P) (ty:=uy) j d;unfold Instr.loadAt Instr.sureAddr at c b;simp only[zam]at c b;rw[Array.getD_eq_getD_getElem?]at h1 h2;simp[results,a,h1,h2,asAddr,c,b]
def Aye{ι:Type}(t u:Tmp)(Rs:ι->Res)(val:ι->cC):Exit->St->Prop:=λe s=>(e= .normal\/e= .ret)/\∃ds d c i j k p b a,s.h[0]? =jY (.res (Bk ds))/\mkD s.h=ds.map Kb/\i≠0/\j≠0/\k≠0/\s.h[i]? =jY (.res (Be d [.lit b]))/\s.h[j]? =jY (.res (Be c [.lit a]))/\s.h[k]? =jY (.res (Rs p))/\
 evA s.t (.tmp t)= .lit (.pointer (jY ⟨d,0,jX⟩))/\evA s.t (.tmp u)= .lit (.pointer (jY ⟨c,0,jX⟩))/\val p= .tuple #[b,a]
theorem PZ{f:FuncId}{c:Code}{args:List AV}{ι:Type}{Rs:ι->Res}{val:ι->cC}(hf:P.funcs[f]? =jY fn)(hb:fn.body=jY c)(hE:Ca P f=aZ)(y:fn.results= #[.cell t ty,.cell u uy])(ha:Rl P ty=jY (aL,1))(G:Rl P uy=jY (aL,1))(hn:fn.ntmps=n)
 (hS:∀p w S S',(Rs p).R w S->(Rs p).R w S')
 (h:∀C:Ctx,C.std->C.rd=jX->Awp P C c (Aye t u Rs val) ⟨args++gP (n - args.length) (.lit undef),[.res (Bk [])]⟩):M3 P f args Rs val:=by
 refine⟨hE,λw S vs I hr=>(cH (n:=4)).1 (callsIn_of_wp_marks hf hb trivial ?_)⟩;rw[hn];have B:St.rel ⟨w,S,λk=>k < w.heap.size,jX⟩ ⟨args++gP (n - args.length) (.lit undef),[.res (Bk [])]⟩ {tmps:=vs.toArray++Array.replicate (n - vs.toArray.size) undef,defers:=[]} w:=by
  obtain⟨q,A,ψ,H,z⟩:=Dl (n:=n) I hr;have X:=Ext.push (w:=w) (w':=w) (S:=A) (h:=[]) (ψ:=ψ) (.res (Bk [])) undef λ_ _=>rfl
  exact⟨rfl,A,_,H.push (b:=.res (Bk [])) (v:=undef) (cA _ _) (show Hv _ _ _ _ _ _ (.res (Bk []))from⟨λg hg=>(gF hg).elim,show([]:List Nat).Nodup/\∀d∈([]:List Nat),w.heap[d]? =jY (.deferred (jY []))from⟨gD,λd q=>(gF q).elim⟩⟩) (λg hg=>(gF hg).elim),Az X _ _ z⟩
 have Z:=h ⟨w,S,λk=>k < w.heap.size,jX⟩ (λ_ h=>h) V _ w B;refine wpIn_mono Z ?_;rintro e a' w' ⟨s,⟨he,ds,g1,g2,i,j,k,p,T,Q,h0,hm,F,E,D,hi,hj,hk,ht,hu,x⟩,q,A,ψ,H,z⟩;have o:=Bv z (.tmp t);have m:=Bv z (.tmp u);rw[ht]at o;rw[hu]at m;unfold hZ at o m;rw[hm]at q;have a:∀{W:cG} {L:Nat->Prop} {g:Nat} {v:cC},(Be g [.lit v]).R W L->W.cell? ⟨g,0,jX⟩=jY v:=λ{W L g v} hR=>by
  obtain⟨cs,e',h1,h2⟩:=hR;simp only[Ae,hZ]at h2;obtain⟨_,_,rfl,rfl,rfl⟩:=h2;simp[World.cell?,h1]
 have r:=Uh (P:=P) (C:=⟨w,S,λk=>k < w.heap.size,jX⟩) (fn:=fn) (tmps:=a'.tmps) (R:=λe w'=>∃v,e= .returned v/\Turns w S (λ_=>False) Rs val v w') (n:=4) ds w' s.h A ψ (λW L O h1=>by
  have N:=h1.blk k (.res (Rs p)) (by rw[eM (jT D)];exact hk);have K:=h1.blk i (.res (Be g1 [.lit T])) (by rw[eM (jT F)];exact hi);have J:=h1.blk j (.res (Be g2 [.lit Q])) (by rw[eM (jT E)];exact hj);refine⟨_,Mr y ha G o m (a K.2) (a J.2),_,rfl,⟨h1.bel.os,h1.bel.tape,h1.bel.output,h1.bel.size,λk hk _=>h1.bel.block k hk⟩,p,x.symm,hS p _ _ _ N.2,λk hk=>?_⟩;obtain⟨Y,k2,U⟩:=N.1 k hk;exact⟨.inr (jD Y),U⟩) h0 H
 rcases he with rfl|rfl
 ·show bL bB 4 P fn a'.tmps _ a'.defers .returning w';rw[q];exact r
 ·show bL bB 4 P fn a'.tmps _ a'.defers .returning w';rw[q];exact r
open Go.Proofs Go.Shelf
attribute [local go_sem] Oper.semAt_some
theorem U9(F:Fence)(n:Nat)(h78:F.fn 52)(hro:F.round=jX)(A:Option Addr)(m c:Nat)(w:cG):
 bA F n bY 52 #[.slice A m c] w λe w'=>e= .returned (.func (.func 90) #[] #[.pointer (jY ⟨w.heap.size,0,jX⟩)])/\w'=w.alloc (.cells #[.slice A m c] 27):=by
 refine callsIn_of_wp Tryz.func52 V h78 ?_ hro;simp only[Tryz.ntmps52,Nat.reduceAdd,Nat.reduceSub,zae]
 gi_wp2
 go_ret
 exact⟨rfl,rfl⟩
theorem Va(F:Fence)(n:Nat)(h105:F.fn 90)(hro:F.round=jX)(hn:1<=n)(l:Nat)(ds:List Int)(A:Option Addr)(c Bb:Nat)(S0 S:Nat->Prop)(hS0:∀k,S0 k->S k)(W0 W:cG)(J:Nat->cG->Prop)
 (hW:KS S W0 W)
 (hY:∀(k j:Nat) (d:Int) (W:cG),k+j+1=ds.length->ds[j]? =jY d->J k W->YieldAt F (n - 1) bY l #[.int .i64 (j:Int),.int .i64 d] W λe W'=>e= .returned (.bool aZ)/\J (k+1) W'/\KS S W W')
 (hB:S Bb)(hB0:W0.cell? ⟨Bb,0,jX⟩=jY (.slice A ds.length c))(hR:tInt.slice.RS W0 S0 [.slice A ds.length c] ds)(hl:ds.length<=2147483648)(h0:J 0 W):
 bA F n bY 90 #[.func (.yield l) #[] #[],.pointer (jY ⟨Bb,0,jX⟩)] W λe W'=>(∃v,e= .returned v)/\J ds.length W':=by
 have HR:=Lib.hid hR;have HY:=Lib.hid hY;have H0:=Lib.hid h0;have x1:bG.wrap ((ds.length:Int) - 1)=(ds.length:Int) - 1:=bK _ (by omega);have hb0:=hW.cell hB hB0;clear hR hY h0;refine callsIn_of_wp Tryz.func90 V h105 ?_ hro;simp only[Tryz.ntmps90,Nat.reduceAdd,Nat.reduceSub,zae]
 gi_wp2
 gi_loopw [3] (λi wr=>∃m:Nat,m<=ds.length/\i= .int .i64 ((m:Int) - 1)/\J (ds.length - m) wr/\KS S W wr) (λi _=>(RowKit.intOf i+1).toNat)
 case atStart=>exact⟨ds.length,jE _,rfl,by rw[Nat.sub_self];exact H0.out,KS.refl⟩
 case round=>
  obtain⟨m,hm,rfl,hJ,hK⟩:=hrel;rcases m with _|j
  ·have d0:a8 ((0:Int)<=((0:Nat):Int) - 1)=aL:=decide_eq_false (by omega)
   gi_wp2
   go_end0
   exact⟨⟨_,rfl⟩,hJ⟩
  ·have ej:((j+1:Nat):Int) - 1=(j:Int):=by omega
   rw[ej];have d0:a8 ((0:Int)<=(j:Int))=aZ:=decide_eq_true (by omega);have x2:bG.wrap ((j:Int) - 1)=(j:Int) - 1:=bK _ (by omega);obtain⟨x,hxk⟩:∃x,ds[j]? =jY x:=⟨_,eE (by omega)⟩
   obtain⟨ib,io,rfl,hib,hat,_⟩:=LT HR.out hxk;replace hib:=hS0 _ hib;have hK0:=hW.trans hK;have e0:=hK0.cell (a:=⟨ib,_,jX⟩) hib hat;have eb:=hK0.cell hB hB0;have hjl:(j:Int) < (ds.length:Int):=by omega
   obtain⟨fn,tmps,assign,body,hy,hR⟩:=HY.out (ds.length - (j+1)) j x wr (by omega) hxk hJ;clear hat hxk
   gi_wp2
   refine hR.mono ?_;rintro e W3 ⟨rfl,hJ3,hk3⟩
   gi_wp2
   go_roundw
   case rel=>
    refine⟨j,by omega,rfl,?_,hK.trans hk3⟩;rw[show ds.length - (j+1)+1=ds.length - j by omega]at hJ3;exact hJ3
   case measure=>simp[RowKit.intOf]
def Att(ds:List Int)(p:Nat×Option Addr×Nat):Res:=⟨[],λg=>g=p.1,λw S=>w.heap[p.1]? =jY (.cells #[.slice p.2.1 ds.length p.2.2] 27 (0,0))/\tInt.slice.RS w S [.slice p.2.1 ds.length p.2.2] ds,
 λh hk b a=>⟨(hk _ V).trans h.1,tInt.slice.keepS h.2 b a⟩⟩
def Azg(p:Nat×Option Addr×Nat):cC:=.func (.func 90) #[] #[.pointer (jY ⟨p.1,0,jX⟩)]
theorem Sy(ds:List Int):M3 bY 52 [.bs tInt ds] (Att ds) Azg:=by
 refine⟨by kernel_rfl,λw S vs f d=>?_⟩;unfold Ae hZ Ae at d;obtain⟨v,_,rfl,b,rfl⟩:=d;obtain⟨A,c,e,hx⟩:=id b;simp only[List.cons.injEq,and_true]at e;subst e;refine((cH (n:=4)).1 (U9 bB 4 trivial V A ds.length c w)).mono ?_;rintro e w' ⟨rfl,rfl⟩;have a:Below w.heap.size w (w.alloc (.cells #[.slice A ds.length c] 27)):=(cA _ _).alloc (jE _) _;exact⟨_,rfl,⟨a.os,a.tape,a.output,a.size,λk hk _=>a.block k hk⟩,(w.heap.size,A,c),rfl,⟨cJ w _,tInt.slice.keepS b (λk hk=>a.block k (f k hk)) λ_ h=>h⟩,λk hk=>by
  have hk:k=w.heap.size:=hk;subst hk;exact⟨.inr (jE _),by simp⟩⟩
def Aiz(ds:List Int)(k:Nat):List AV:=match ds[ds.length - 1 - k]? with
 |some d=>[.lit (.int .i64 ((ds.length - 1 - k:Nat):Int)),.lit (.int .i64 d)]
 |none=>(A2 [])
theorem Qx(ds:List Int)(b:ds.length<=2147483648)(p:Nat×Option Addr×Nat)(w:cG)(S:Nat->Prop)(q:∀k,S k->k < w.heap.size)(r:∀k,(Att ds p).F k->k < w.heap.size)(a:(Att ds p).R w S):
 Arl bY 90 #[.pointer (jY ⟨p.1,0,jX⟩)] (λk=>S k\/(Att ds p).F k) w (λk vs=>Ae w S [] ψ0 (Aiz ds k) vs) ds.length:=λl J W i g h0=>by
 refine Va bB 3 trivial V (by decide) l ds p.2.1 p.2.2 p.1 S (λk=>S k\/(Att ds p).F k) (λ_ h=>.inl h) w W J i ?_ (.inr V) (Oe (cs:=[_]) a.1 V) a.2 b h0;intro k j d o c f m;refine g k [.int .i64 (j:Int),.int .i64 d] o (by omega) ?_ m;have e:ds.length - 1 - k=j:=by omega
 show Ae w S [] ψ0 (Aiz ds k) _;unfold Aiz;rw[e,f];unfold Ae;refine⟨_,_,rfl,by unfold hZ;rfl,?_⟩;unfold Ae;exact⟨_,_,rfl,by unfold hZ;rfl,by unfold Ae;rfl⟩
theorem Aq8(ds:List Int)(k:Nat):Bh (Aiz ds k)=aZ:=by
 unfold Aiz;split <;> rfl
theorem Al5(ds:List Int)(k:Nat):(Aiz ds k).length=2:=by
 unfold Aiz;split <;> rfl
end Mu
namespace Mu
open Go Go.RowKit Go.Proofs Go.Maps
variable{A:List (Int×Int)}{C:Ctx}{G:iC}{Q:Int->Prop}{h:List gZ}{l:List Int}{out:List (Int×Int)}{p r:Int}{t:List AV}{x:Int}
def Azb(A:List (Int×Int))(a:List Int)(p:Nat×cC):Res:=Res.and (EG (cD .i64) A p.1) (rowR p.2 3 tInt a)
def AAc(p:Nat×cC):cC:=.tuple #[.map (jY p.1),p.2]
theorem PW.at{H:List gZ}{a b:AV}{new:List AV}(e:a=b)(p:PW H b new):PW H a new:=e▸p
theorem N3{a:List Int}(p:Nat×cC)(w:cG)(S S':Nat->Prop)(h:(Azb A a p).R w S):(Azb A a p).R w S':=⟨h.1,XM h.2.1,h.2.2⟩
theorem OV(G:iC)(out:List (Int×Int))(q:iX G):M3 bY 26 [.bp Bc G 0,.tv tMapI out] (Azb (BD G out).1 (BD G out).2) AAc:=by
 have O:=Aka G out q.toOkG;obtain⟨l,hl⟩:∃l,l=CV G out:=⟨_,rfl⟩
 have aq:l.length<=1073741824:=by rw[hl];exact Q1 q.toOkG
 rw[<-hl]at O;refine PZ (uy:=27) (ty:=51) Tryz.func26 V (by kernel_rfl) V (by kernel_rfl) (by kernel_rfl) Tryz.ntmps26 N3 λC hC ao=>?_
 simp only[Nat.reduceAdd,Nat.reduceSub,zaa];refine wR (hx:=by((repeat(first|(refine AC V (AOp.boxI 1 V V (PW.one One.bp).weak ?_);refine sNt ?_)|refine sA ?_|refine AM ?_|refine sAG ?_|refine Bp ?_));exact CS V)) (hk:=?_);refine AE _ (EN hC 1 2 V V Y0.bp) ?_;refine nT ?_;refine Awp.scope ?_;refine wRK λK2 ay=>?_
 refine AC V (J6 (cD .i64) V λm=>?_);refine D2 ?_ (Ap JH);refine AC V (CR (new:=[_]) V V V (PW.one (One.lit V)) V (jC V) ?_);refine D2 ?_ RG;refine Au (ay _ ?_);refine Ab λK3 h3=>?_
 refine Awp.label ?_;refine h3 _ ?_;refine nT ?_;refine Ab λK4 h4=>?_
 refine Bt 2 V V V (λa=>(.any::.tv tMapI out::.bp (J8 Bc) G 0::.any::.lit (.pointer (jY ⟨a,0,jX⟩))::.ptr 3 0::A20 (A9 []))) (λg=>(by(repeat(first|exact i6|refine i7 ?_|refine iY ?_|refine iZ V ?_)))) λa=>?_
 refine Bt 3 V V V (λc=>(.any::.tv tMapI out::.bp (J8 Bc) G 0::.any::.lit (.pointer (jY ⟨a,0,jX⟩))::.lit (.pointer (jY ⟨c,0,jX⟩))::A20 (A9 []))) (λg=>(by(repeat(first|exact i6|refine i7 ?_|refine iY ?_|refine iZ V ?_)))) λc=>?_
 refine AE _ (J1 3 tInt (by decide)) ?_;refine nT ?_;refine wRK λK5 ax=>?_
 refine sA ?_ (AA V FG V) (Ap Mk);refine sA ?_ (AT.move V GP) (Ap JG);refine sA ?_ (AH V V O V V) (Ap Ka);refine AC V (Cr V (Sy l) (λ_=>rfl) V V λbp=>?_);refine D2 ?_ (Ap GY);refine Au (ax _ ?_);refine Ac ?_;refine AE ⟨(A2 (.bp (J8 Bc) G 0::.any::.lit (.pointer (jY ⟨a,0,jX⟩))::.lit (.pointer (jY ⟨c,0,jX⟩))::A7 (.lit (Azg bp)::A20 [.any]))),[.res (Bk []),.dead,.res (Be a [.lit (.map (jY m))]),.res (Be c [.lit (.slice jX 0 0)]),.res (EG (cD .i64) [] m),.res (rowR (.slice jX 0 0) 3 tInt []),.res (Att l bp)]⟩ (AS) ?_;refine Hx (J:=cC) 6 0 (λk v=>[.dead,.dead,.res (Be a [.lit (.map (jY m))]),.res (Be c [.lit v]),.res (EG (cD .i64) (I7 G out k).1 m),.res (rowR v 3 tInt (I7 G out k).2),.dead]) (.slice jX 0 0) ao V (by decide) V V V ?_ V (λ_ _=>rfl) (λ_ _=>rfl) V (λk _ _ ⟨_,h,_⟩=>h▸⟨Aq8 l k,Al5 l k⟩) (PY (N:=l.length) (encs:=Aiz l) (by kernel_rfl) λw S hS hF hR=>Qx l (jF aq (by decide)) bp w S hS hF hR) ?_ ?_
 ·exact⟨.dead (.cons (.cons (.cons (.cons (.cons (.dead (.nil _))))))),λb B=>cV.1 (show bdH [.dead,.dead,.res (Be a [.lit (.map (jY m))]),.res (Be c [.lit (.slice jX 0 0)]),.res (EG (cD .i64) (I7 G out 0).1 m),.res (rowR (.slice jX 0 0) 3 tInt (I7 G out 0).2),.dead]=aZ from V) b B⟩
 ·rintro k v _ _ ⟨hk,rfl,rfl⟩ C' bi;have ar:k < (CV G out).length:=by rw[<-hl];exact hk
  obtain⟨r,hr⟩:∃r,l[l.length - 1 - k]? =jY r:=⟨_,eE (by omega)⟩
  have ap:(CV G out)[(CV G out).length - 1 - k]? =jY r:=by rw[<-hl];exact hr
  have an:r∈G.regs:=ZI q.toOkG r (by rw[<-hl];exact fR hr);have E:wfB .i64 r=aZ:=q.regs r an;have hI:=JL q out k (by omega);have ac:=OW ap ar;have ag:Aiz l k= [.lit (.int .i64 ((l.length - 1 - k:Nat):Int)),.lit (.int .i64 r)]:=by unfold Aiz;rw[hr]
  rw[ag];obtain⟨⟨A,d⟩,hs⟩:∃s,s=I7 G out k:=⟨_,rfl⟩
  rw[<-hs]at hI ac⊢;rw[ac];obtain⟨bb,ak,al⟩:=hI;dsimp only at bb ak al;refine C3 (t':=(A2 (.bp (J8 Bc) G 0::.any::.lit (.pointer (jY ⟨a,0,jX⟩))::.lit (.pointer (jY ⟨c,0,jX⟩))::A7 (.lit (Azg bp)::.lit (.int .i64 ((l.length - 1 - k:Nat):Int))::.lit (.int .i64 r)::A10 (A9 []))))) (h':=[.dead,.dead,.res (Be a [.lit (.map (jY m))]),.res (Be c [.lit v]),.res (EG (cD .i64) A m),.res (rowR v 3 tInt d),.dead]) V V ?_;refine wRE (hx:=by((refine AC V (ST 7 V V ?_);refine D2 ?_ Hy);(refine AC V (CR (new:=[_]) V V V (PW.one (One.lit V)) V (Nat.le_of_ble_eq_true V) ?_);refine D2 ?_ RG);exact CS V)) (hk:=?_);refine An λC7 az=>?_
  refine Ac ?_;refine Ab λK8 h8=>?_
  refine Bt 7 V V V (λf=>(A2 (.bp (J8 Bc) G 0::.any::.lit (.pointer (jY ⟨a,0,jX⟩))::.lit (.pointer (jY ⟨c,0,jX⟩))::.any::.lit (.pointer (jY ⟨f,0,jX⟩))::A20 (A7 [])))) (λg=>(by(repeat(first|exact i6|refine i7 ?_|refine iY ?_|refine iZ V ?_)))) λf=>?_
  refine nT ?_;refine wR (hx:=by(refine sA ?_ (AA V FG V) (Ap (Ap HU));refine sA ?_ (AY (i:=7) (g:=f) V Hd V V V) (Ap (Ap JH));refine sA ?_ (AY (i:=2) (g:=a) V GO V V V) (Ap (Ap Mk));refine sA ?_ (AH V V (Ai5 G r m E) V V) (Ap (Ap JG));exact CS V)) ?_;refine Ac ?_;refine AE ⟨(A2 (.bp (J8 Bc) G 0::.any::.lit (.pointer (jY ⟨a,0,jX⟩))::.lit (.pointer (jY ⟨c,0,jX⟩))::.any::.lit (.pointer (jY ⟨f,0,jX⟩))::A10 (.any::XE G r m::A10 (A5 [])))),[.dead,.dead,.res (Be a [.lit (.map (jY m))]),.res (Be c [.lit v]),.res (EG (cD .i64) A m),.res (rowR v 3 tInt d),.dead,.res (Be f [.lit (.int .i64 r)])]⟩ (AS) ?_;have aw:OkT G A r:=⟨E,(q.mov r).1,(q.mov r).2,(q.lik r).1,(q.lik r).2,(q.cl r).1,(q.cl r).2,ak⟩
  obtain⟨Y,af,ae⟩:=Yt (Gi G A r) (D7 G A r);obtain⟨stop,U⟩:∃x,x=(D7 G A r).findIdx (Gi G A r):=⟨_,rfl⟩
  rw[<-U]at Y af ae;obtain⟨pp,ab⟩:∃x,x=(D7 G A r).getD stop 0:=⟨_,rfl⟩
  have ba:A.length < cM:=by have:=al;unfold cM;omega
  refine Ab3 (N:=(D7 G A r).length) (stop:=stop) (Φ:=λR=>Amk R m (mapK (cD .i64) A)) (encs:=λk=>[.lit (.int .i64 ((D7 G A r).getD k 0))]) 1 (λ_=>[.dead,.dead,.res (Be a [.lit (.map (jY m))]),.res (Be c [.lit v]),.res (EG (cD .i64) A m),.res (rowR v 3 tInt d),.dead,.res (Be f [.lit (.int .i64 r)])]) [.dead,.dead,.res (Be a [.lit (.map (jY m))]),.res (Be c [.lit v]),.res (EG (cD .i64) (B7 A r pp) m),.res (rowR v 3 tInt d),.dead,.res (Be f [.lit (.int .i64 r)])] az V V V ?_ (λ_=>rfl) V V (λ_=>rfl) (λ_=>rfl) (Zb G A r m stop aw) (λS bg w bf p=>Ahr (Φ:=λW=>M1 W m (mapK (cD .i64) A)) 4 V (λ_ _ h=>h) p) ?_ ?_ ?_ ?_
  ·exact⟨.dead (.dead (.cons (.cons (.cons (.cons (.dead (.cons (.nil _)))))))),λb B=>cV.1 (show bdH [.dead,.dead,.res (Be a [.lit (.map (jY m))]),.res (Be c [.lit v]),.res (EG (cD .i64) A m),.res (rowR v 3 tInt d),.dead,.res (Be f [.lit (.int .i64 r)])]=aZ from V) b B⟩
  ·intro j av au be aj;obtain⟨y,e⟩:∃x,(D7 G A r)[j]? =jY x:=⟨_,eE av⟩
   have Z:Ch y:=W7 q (fR e);have ad:Gi G A r y=aL:=ae j y au e;rw[show(D7 G A r).getD j 0=y by rw[eB,e];rfl];refine C3 (t':=(A2 (.bp (J8 Bc) G 0::.any::.lit (.pointer (jY ⟨a,0,jX⟩))::.lit (.pointer (jY ⟨c,0,jX⟩))::.any::.lit (.pointer (jY ⟨f,0,jX⟩))::A10 (.any::XE G r m::.lit (.int .i64 y)::A10 (A4 []))))) (h':=[.dead,.dead,.res (Be a [.lit (.map (jY m))]),.res (Be c [.lit v]),.res (EG (cD .i64) A m),.res (rowR v 3 tInt d),.dead,.res (Be f [.lit (.int .i64 r)])]) V V ?_;refine wRE (hx:=by(refine sA ?_ (AT.assign V (Ao (Ao GO))) (Ap HU);exact CS V)) ?_;refine An λbc ai=>?_
   refine Ac ?_;refine wR (hx:=by(refine sA ?_ (AA V FG V) (Ap (Ap GY));refine sA ?_ (AY (i:=7) (g:=f) V Hd V V V) (Ap (Ap HT));refine sA ?_ (AT.move V (Ao IG)) (Ap (Ap Hy));refine sA ?_ (AY (i:=2) (g:=a) V GO V V V) (Ap (Ap (Ap HU)));refine sA (hq:=CJ V (Sh G A r y E Z (q.near r) (q.nearl r)) (.cons (.cl V) (.cons (.cl V) (.cons (.cl V) (.cons (M2.map (i:=4) V) .nil))))) (ht:=(Ap (Ap (Ap JH)))) (hk:=?_);exact CS V)) (hk:=?_);refine Ag V (λo=>?_) (λo=>?_)
   ·exfalso;rw[show Gi G A r y=aZ from o]at ad;cases ad
   ·refine Al ?_;refine abN ?_;exact⟨rfl,(),⟨.dead (.dead (.cons (.cons (.cons (.cons (.dead (.cons (.nil _)))))))),λb B=>cV.1 (show bdH [.dead,.dead,.res (Be a [.lit (.map (jY m))]),.res (Be c [.lit v]),.res (EG (cD .i64) A m),.res (rowR v 3 tInt d),.dead,.res (Be f [.lit (.int .i64 r)])]=aZ from V) b B⟩⟩
  ·intro H be aj;obtain⟨y,e,F,I⟩:=Y H;have Z:Ch y:=W7 q (fR e);have X:pp=y:=by rw[ab,eB,e];rfl
   rw[show(D7 G A r).getD stop 0=y by rw[eB,e];rfl];refine C3 (t':=(A2 (.bp (J8 Bc) G 0::.any::.lit (.pointer (jY ⟨a,0,jX⟩))::.lit (.pointer (jY ⟨c,0,jX⟩))::.any::.lit (.pointer (jY ⟨f,0,jX⟩))::A10 (.any::XE G r m::.lit (.int .i64 y)::A10 (A4 []))))) (h':=[.dead,.dead,.res (Be a [.lit (.map (jY m))]),.res (Be c [.lit v]),.res (EG (cD .i64) A m),.res (rowR v 3 tInt d),.dead,.res (Be f [.lit (.int .i64 r)])]) V V ?_;refine wRE (hx:=by(refine sA ?_ (AT.assign V (Ao (Ao GO))) (Ap HU);exact CS V)) ?_;refine An λbc ai=>?_
   refine Ac ?_;refine wR (hx:=by(refine sA ?_ (AA V FG V) (Ap (Ap GY));refine sA ?_ (AY (i:=7) (g:=f) V Hd V V V) (Ap (Ap HT));refine sA ?_ (AT.move V (Ao IG)) (Ap (Ap Hy));refine sA ?_ (AY (i:=2) (g:=a) V GO V V V) (Ap (Ap (Ap HU)));refine sA (hq:=CJ V (Sh G A r y E Z (q.near r) (q.nearl r)) (.cons (.cl V) (.cons (.cl V) (.cons (.cl V) (.cons (M2.map (i:=4) V) .nil))))) (ht:=(Ap (Ap (Ap JH)))) (hk:=?_);exact CS V)) (hk:=?_);refine Ag V (λo=>?_) (λo=>?_)
   ·refine wR (hx:=by(refine sA ?_ (AY (i:=2) (g:=a) V GO V V V) (Ap (Ap (Ap Mk)));refine sA ?_ (AY (i:=7) (g:=f) V Hd V V V) (Ap (Ap (Ap JG)));refine sA ?_ (AT.move V (Ao IG)) (Ap (Ap (Ap Ka)));(refine AC V (J5 4 V Tryz.underlying51 V V V E ba V ?_);refine D2 ?_ RG);exact CS V)) (hk:=?_);refine Ay ?_;refine exO (by decide) ?_;rw[X];exact⟨rfl,(),⟨.dead (.dead (.cons (.cons (.cons (.cons (.dead (.cons (.nil _)))))))),λb B=>cV.1 (show bdH [.dead,.dead,.res (Be a [.lit (.map (jY m))]),.res (Be c [.lit v]),.res (EG (cD .i64) (B7 A r y) m),.res (rowR v 3 tInt d),.dead,.res (Be f [.lit (.int .i64 r)])]=aZ from V) b B⟩⟩
   ·exfalso;rw[show Gi G A r y=aL from o]at F;cases F
  ·intro H;have z:Mz G A r=jX:=af H;have K:EE G (A,d) r=(A,d++[r]):=by
    show(match Mz G A r with|some p=>(B7 A r p,d)|none=>(A,d++[r]))=_;rw[z]
   rw[K];have am:Fj (d.length+ [r].length) 8=aZ:=by
    unfold Fj;simp only[zaf,zai];unfold cM;omega
   refine h8 _ ?_;refine nT ?_;refine Azt λbj ah=>?_
   refine sA ?_ (AY (i:=3) (g:=c) V Fq V V V) (Ap (Ap (Ap GY)));refine sA ?_ (AY (i:=7) (g:=f) V Hd V V V) (Ap (Ap (Ap HT)));refine sA ?_ (Cg (T:=tInt) V V V (by rfl) (by decide) (Fit.int E)) (Ap (Ap (Ap Hy)));refine AC V (VM 5 V V (Ao (Ao (Ao Fq))) V (Ao (Ao (Ao Hd))) am λv'=>?_);refine D2 ?_ (Ar HU);refine AC V (It (i:=3) (g:=c) (new:=[.lit v']) V Fq V (PW.one (Me (i:=5) V)) V V (jC V) ?_);refine D2 ?_ RG;refine Au (ah _ ?_);refine abN ?_;refine⟨rfl,v',?_⟩;simp only[K];exact⟨.dead (.dead (.cons (.cons (.cons (.cons (.dead (.nil _))))))),λb B=>cV.1 (show bdH [.dead,.dead,.res (Be a [.lit (.map (jY m))]),.res (Be c [.lit v']),.res (EG (cD .i64) A m),.res (rowR v' 3 tInt (d++[r])),.dead]=aZ from V) b B⟩
  ·intro H;obtain⟨y,e,F,I⟩:=Y H;have X:pp=y:=by rw[ab,eB,e];rfl
   have z:Mz G A r=jY pp:=by rw[X];exact I
   have K:EE G (A,d) r=(B7 A r pp,d):=by
    show(match Mz G A r with|some p=>(B7 A r p,d)|none=>(A,d++[r]))=_;rw[z]
   rw[K];repeat(first|refine BG ?_|refine exO (by decide) ?_|refine asE ?_)
   refine exN ?_;exact⟨rfl,v,⟨.dead (.dead (.cons (.cons (.cons (.cons (.dead (.nil _))))))),λb B=>cV.1 (show bdH [.dead,.dead,.res (Be a [.lit (.map (jY m))]),.res (Be c [.lit v]),.res (EG (cD .i64) (B7 A r pp) m),.res (rowR v 3 tInt d),.dead]=aZ from V) b B⟩⟩
 ·rintro _ rfl v D;have L:=MA G out;rw[<-hl]at L;rw[L];refine h4 _ ?_;refine AE ⟨(A2 (.bp (J8 Bc) G 0::.any::.lit (.pointer (jY ⟨a,0,jX⟩))::.lit (.pointer (jY ⟨c,0,jX⟩))::A20 (A9 []))),[.res (Bk [D]),.dead,.res (Be a [.lit (.map (jY m))]),.res (Be c [.lit v]),.res (EG (cD .i64) (BD G out).1 m),.res (rowR v 3 tInt (BD G out).2),.dead]⟩ (AS) ?_;refine AE ⟨[.any,.any,.bp (J8 Bc) G 0,.any,.lit (.pointer (jY ⟨a,0,jX⟩)),.lit (.pointer (jY ⟨c,0,jX⟩)),.any,.any,.any,.any,.any,.any,.any,.any,.any,.any,.any,.any,.any,.any,.any,.any,.any,.any,.any,.any,.any,.any,.any,.any,.any,.any,.any,.any,.any],[.res (Bk [D]),.dead,.res (Be a [.lit (.map (jY m))]),.res (Be c [.lit v]),.res (EG (cD .i64) (BD G out).1 m),.res (rowR v 3 tInt (BD G out).2),.dead]⟩ AS ?_;refine Ab λbh aa=>?_
  refine Ff (n:=4) () (λ(i:Unit) (b:Nat->Bool)=>⟨[.any,.any,.bp (J8 Bc) G 0,.any,.lit (.pointer (jY ⟨a,0,jX⟩)),.lit (.pointer (jY ⟨c,0,jX⟩)),.any,.any,.any,.any,.any,.any,.any,.any,.any,.any,.any,.any,.any,.any,.any,.any,.any,.any,.any,.any,.any,.any,.any,.any,.any,.any,.any,(bif b 0 then .lit (.map (jY m))else .any),(bif b 1 then .lit v else .any)],[.res (Bk [D]),.dead,.res (Be a [.lit (.map (jY m))]),.res (Be c [.lit v]),.res (EG (cD .i64) (BD G out).1 m),.res (rowR v 3 tInt (BD G out).2),.dead]⟩) ?_ ?_ ?_ ?_ ?_
  ·rfl
  ·kernel_rfl
  ·kernel_rfl
  ·refine AK (λi b B ha hc=>?_) ?_
   ·try dsimp only
    refine AX (AY (i:=2) (g:=a) V GO V V V) ?_;exact⟨i,jA⟩
   refine AK (λi b B ha hc=>?_) ?_
   ·try dsimp only
    refine AX (AY (i:=3) (g:=c) V Fq V V V) ?_;exact⟨i,jA⟩
   refine AK (λi b B ha hc=>?_) ?_
   ·have h0:b 0=aZ:=ha 0 _ V V;try dsimp only
    refine It (i:=2) (g:=a) (new:=[.lit (.map (jY m))]) V GO V (PW.at ((As GP).trans (BJ h0 _ _)) (PW.one (One.lit V))) V V (jC V) ?_;refine⟨i,?_⟩;exact jA
   refine AK (λi b B ha hc=>?_) ?_
   ·have h1:b 1=aZ:=ha 0 _ V V;try dsimp only
    refine It (i:=3) (g:=c) (new:=[.lit v]) V Fq V (PW.at ((As FG).trans (BJ h1 _ _)) (PW.one (Me (i:=5) V))) V V (jC V) ?_;refine⟨i,?_⟩;exact jA
   exact No
  intro i;refine aa _ ?_;refine AE ⟨[.any,.any,.bp (J8 Bc) G 0,.any,.lit (.pointer (jY ⟨a,0,jX⟩)),.lit (.pointer (jY ⟨c,0,jX⟩)),.any,.any,.any,.any,.any,.any,.any,.any,.any,.any,.any,.any,.any,.any,.any,.any,.any,.any,.any,.any,.any,.any,.any,.any,.any,.any,.any,.lit (.map (jY m)),.lit v],[.res (Bk [D]),.dead,.res (Be a [.lit (.map (jY m))]),.res (Be c [.lit v]),.res (EG (cD .i64) (BD G out).1 m),.res (rowR v 3 tInt (BD G out).2),.dead]⟩ jA ?_;refine AE _ (DH 4 5 (by decide) V V) ?_;exact Aw ⟨.inr V,[D],a,c,2,3,4,(m,v),.map (jY m),v,rfl,rfl,by decide,by decide,by decide,rfl,rfl,rfl,rfl,rfl,rfl⟩
theorem Nh{G:iC}{Q:Int->Prop}:∀(n:Nat) {E:List (Int×Int)} {l:List Int},Eb E->(∀x,(getK E x).isSome=aZ->Q x)->(∀x∈l,Q x)->∀x∈DN G n E l,Q x
 |0,E,l,_,_,a=>a
 |n+1,E,l,c,hk,a=>by
  unfold DN;cases d:Lz G E with
  |none=>exact a
  |some r=>
   have b:=Ly d;refine Nh n (Ld c b).1 (λx hx=>hk x ?_) λx hx=>?_
   ·rw[GQ c]at hx;simp only[aI]at hx;exact hx.1
   ·rcases fG.1 hx with h|h
    ·exact a x h
    ·rw[fX.1 h];exact hk r b
theorem MF(a:OkG G)(out:List (Int×Int))(x:Int)(h:(getK (Ib G out) x).isSome=aZ):x∈G.regs/\(getK out x).getD 0=0:=by
 have h0:=LQ out a.regs;have h2:=(F7 G h0 (keysK (EC G.regs out)) (Cp h0.1) λq hq=>hq).2.1 x;have hk:(getK (EC G.regs out) x).isSome=aZ:=by
  rw[show Ib G out=(keysK (EC G.regs out)).foldl (So G) (EC G.regs out)from V,h2]at h;split at h
  ·rw[jV]at h;exact h
  ·exact h
 rw[Pf out a.regs x]at hk;split at hk
 ·assumption
 ·cases hk
theorem H7(a:OkG G):∀x∈CV G out,x∈G.regs/\(getK out x).getD 0=0:=
 Nh _ (Jb (out:=out) a).asc (MF a out) λx hx=>by cases hx
def Aj8(G:iC)(out:List (Int×Int)):List (Int×Int):=(BD G out).2.foldl (λo r=>B7 o r 1) out
def DM(G:iC):Nat->List (Int×Int)
 |0=>[]
 |n+1=>Aj8 G (DM G n)
theorem QZ{G:iC}:∀(l:List Int) (s:List (Int×Int)×List Int) (x:Int),x∈(l.foldl (EE G) s).2->x∈s.2\/x∈l
 | [],s,x,h=>.inl h
 |r::l,s,x,h=>by
  rcases QZ l (EE G s r) x h with h1|h1
  ·unfold EE at h1;cases a:Mz G s.1 r with
   |some p=>rw[a]at h1;exact .inl h1
   |none=>
    rw[a]at h1;rcases fG.1 h1 with h2|h2
    ·exact .inl h2
    ·exact .inr (by rw[fX.1 h2];exact fL)
  ·exact .inr (fK _ h1)
theorem JK(a:OkG G)(h:x∈(BD G out).2):x∈G.regs/\(getK out x).getD 0=0:=by
 rcases QZ _ _ x h with h1|h1
 ·cases h1
 ·exact H7 a x (fW.1 h1)
theorem Lv:∀{o:List (Int×Int)},Eb o->∀x,getK (l.foldl (λo r=>B7 o r 1) o) x=if x∈l then jY 1 else getK o x:=by
 induction l with
 |nil=>intro o h x;rfl
 |cons r l a=>
  intro o h x;show getK (l.foldl (λo r=>B7 o r 1) (B7 o r 1)) x=_;rw[a (h.put r 1) x,BH h];by_cases h1:x∈l
  ·rw[if_pos h1,if_pos (fK _ h1)]
  ·rw[if_neg h1];by_cases h2:x=r
   ·rw[if_pos h2,if_pos (by rw[h2];exact fL)]
   ·rw[if_neg h2,if_neg λh3=>by
     rcases fJ.1 h3 with h3|h3
     ·exact h2 h3
     ·exact h1 h3]
def NN(G:iC)(out:List (Int×Int)):Nat:=(G.regs.filter λx=>(getK out x).getD 0 ==0).length
theorem UJ{α:Type}{p q:α->Bool}:∀{l:List α},(∀x∈l,q x=aZ->p x=aZ)->(∃x∈l,p x=aZ/\q x=aL)->(l.filter q).length < (l.filter p).length
 | [],_,⟨x,hx,_⟩=>by cases hx
 |y::l,h,⟨x,hx,h1,h2⟩=>by
  have d:(l.filter q).length<=(l.filter p).length:=by
   rw[<-dG,<-dG];exact List.countP_mono_left λz a=>h z (fK _ a)
  rcases fJ.1 hx with e|hx
  ·subst e;rw[dR h1,dQ (by rw[h2];decide),eU];omega
  ·have c:=UJ (p:=p) (q:=q) (l:=l) (λz a=>h z (fK _ a)) ⟨x,hx,h1,h2⟩;cases hq:q y with
   |true=>
    rw[dR hq,dR (h y fL hq),eU,eU];omega
   |false=>
    rw[dQ (by rw[hq];decide)];refine jH c ?_;cases b:p y with
    |true=>rw[dR b,eU];omega
    |false=>rw[dQ (by rw[b];decide)];exact jE _
theorem Ae1(b:OkG G)(a:Eb out)(h:(BD G out).2≠[]):NN G (Aj8 G out) < NN G out:=by
 unfold NN Aj8;refine UJ (λx hx hq=>?_) ?_
 ·rw[Lv a]at hq;split at hq
  ·cases hq
  ·exact hq
 ·obtain⟨x,hx⟩:=dL _ h;obtain⟨h1,h2⟩:=JK b hx;refine⟨x,h1,by rw[h2];rfl,?_⟩;rw[Lv a,if_pos hx];rfl
theorem Aep:∀{o:List (Int×Int)},okK o->(∀r∈l,Ch r)->okK (l.foldl (λo r=>B7 o r 1) o):=by
 induction l with
 |nil=>intro o h _;exact h
 |cons r l b=>intro o h a;exact b (h.put (a r fL) 1) λx hx=>a x (fK _ hx)
theorem Apa(a:OkG G)(c:okK out):okK (Aj8 G out):=Aep c λr b=>a.regs r (JK a b).1
theorem Gl{G:iC}(a:OkG G):∀n,okK (DM G n)
 |0=>okK.nil
 |n+1=>Apa a (Gl a n)
theorem Ae0(b:OkG G)(a:Eb out)(h:∀x∈keysK out,x∈G.regs):∀x∈keysK (Aj8 G out),x∈G.regs:=λx hx=>by
 have h1:=CN.1 hx;unfold Aj8 at h1;rw[Lv a]at h1;split at h1
 ·rename_i h2;exact(JK b h2).1
 ·exact h x (CN.2 h1)
theorem WY(b:OkG G):∃n,(BD G (DM G n)).2= []/\n<=NN G []:=by
 have a:∀n,(∀k,k < n->(BD G (DM G k)).2≠[])->NN G (DM G n)+n<=NN G []:=by
  intro n;induction n with
  |zero=>intro _;exact jE _
  |succ n c=>
   intro h;have h1:=c λk hk=>h k (by omega)
   have h2:=Ae1 b (Gl b n).1 (h n (jJ n));show NN G (Aj8 G (DM G n))+(n+1)<=_;omega
 refine a7 λd=>?_
 have:=a (NN G []+1) λk hk e=>d ⟨k,e,by omega⟩
 omega
def LJ(G:iC)(r:Int):List Int:=(getK G.near r).getD []
def Qw(G:iC)(r:Int):List Int:=(getK G.cls r).getD []
structure SymG(G:CGraph):Prop where
 sym:∀a b,b∈LJ G a->a∈LJ G b
 irr:∀a,a∉LJ G a
def Ay4(G:iC)(A:List (Int×Int)):Prop:=∀a p,getK A a=jY p->∀b,b∈LJ G a->getK A b≠jY p
theorem Ji:Gi G A r p=aZ↔∀k∈LJ G r,getK A k≠jY p:=by
 unfold Gi;rw[aR,cX];constructor
 ·intro h k hk e;refine h k hk ?_;unfold freeP;rw[e];simp
 ·intro h k hk a;unfold freeP at a;rw[aI]at a;obtain⟨v,b⟩:=jU.1 a.1;refine h k hk ?_;rw[b]at a⊢;rw[eq_of_beq a.2];rfl
theorem Ay4.put(g:SymG G)(k:Eb A)(h:Ay4 G A)(f:Gi G A r p=aZ):Ay4 G (B7 A r p):=by
 rw[Ji]at f;intro a q c b d;rw[BH k]at c⊢;by_cases j:a=r
 ·subst j;rw[if_pos V]at c;cases c;rw[if_neg λe:b=a=>g.irr a (by rw[e]at d;exact d)];exact f b d
 ·rw[if_neg j]at c;by_cases i:b=r
  ·subst i;rw[if_pos V];intro e;cases e;exact f a (g.sym a b d) c
  ·rw[if_neg i];exact h a q c b d
structure PntQ(G:CGraph)(s:List (Int×Int)×List Int)(Q:Int->Prop):Prop where
 asc:Eb s.1
 nocl:Ay4 G s.1
 cl:∀r p,getK s.1 r=some p->p∈Qw G r
 key:∀r,(getK s.1 r).isSome=true->Q r
 all:∀r,Q r->(getK s.1 r).isSome=true\/r∈s.2
theorem PntQ.next(f:SymG G){s:List (Int×Int)×List Int}(h:PntQ G s Q)(r:Int):PntQ G (EE G s r) λx=>Q x\/x=r:=by
 unfold EE;cases b:Mz G s.1 r with
 |none=>
  refine⟨h.asc,h.nocl,h.cl,λx hx=>.inl (h.key x hx),λx hx=>?_⟩;rcases hx with hx|rfl
  ·rcases h.all x hx with h1|h1
   ·exact .inl h1
   ·exact .inr (fH _ h1)
  ·exact .inr (fI _ (fX.2 V))
 |some p=>
  have d:Gi G s.1 r p=aZ:=List.find?_some b;have c:=TP b;unfold D7 at c;have hc:=(fN.1 c).2;rw[dE]at hc;have hg:∀x,getK (B7 s.1 r p) x=if x=r then jY p else getK s.1 x:=λx=>BH h.asc _ _ _
  refine⟨h.asc.put r p,h.nocl.put f h.asc d,λx q hx=>?_,λx hx=>?_,λx hx=>?_⟩
  ·have a:getK (B7 s.1 r p) x=jY q:=hx;clear hx;rw[hg x]at a;split at a
   ·rename_i e;subst e;cases a;exact hc
   ·exact h.cl x q a
  ·have hx:(getK (B7 s.1 r p) x).isSome=aZ:=hx;rw[hg]at hx;split at hx
   ·rename_i e;exact .inr e
   ·exact .inl (h.key x hx)
  ·show(getK (B7 s.1 r p) x).isSome=aZ\/x∈s.2;rw[hg];split
   ·exact .inl V
   ·rename_i e;exact h.all x (hx.resolve_right e)
theorem Am6{G:iC}(b:SymG G):∀(l:List Int) {s:List (Int×Int)×List Int} {Q:Int->Prop},PntQ G s Q->PntQ G (l.foldl (EE G) s) λx=>Q x\/x∈l
 | [],s,Q,h=>⟨h.asc,h.nocl,h.cl,λr a=>.inl (h.key r a),λr a=>h.all r (a.resolve_right λh=>by cases h)⟩
 |r::l,s,Q,h=>by
  have h1:=Am6 b l (h.next b r);exact⟨h1.asc,h1.nocl,h1.cl,λx hx=>by
   rcases h1.key x hx with(h2|h2)|h2
   ·exact .inl h2
   ·exact .inr (h2▸fL)
   ·exact .inr (fK _ h2),λx hx=>h1.all x (by
   rcases hx with hx|hx
   ·exact .inl (.inl hx)
   ·rcases fJ.1 hx with hx|hx
    ·exact .inl (.inr hx)
    ·exact .inr hx)⟩
theorem Aj5{E:List (Int×Int)}(hk:∀x,(getK E x).isSome=aZ->x∈G.regs)(c:E≠[])(d:Eb E):∃r,Lz G E=jY r:=by
 unfold Lz;cases h1:G.regs.find? (Q3 G E)with
 |some r=>exact⟨r,rfl⟩
 |none=>
  show∃r,(G.cheap++G.regs).find? (λr=>(getK E r).isSome)=jY r;obtain⟨p,b⟩:=dL _ c;have a:(getK E p.1).isSome=aZ:=by rw[(CK d).2 b];rfl
  cases h2:(G.cheap++G.regs).find? λr=>(getK E r).isSome with
  |some r=>exact⟨r,rfl⟩
  |none=>
   rw[dW]at h2;exact absurd a (h2 p.1 (fI _ (hk _ a)))
theorem OX{G:iC}:∀(n:Nat) (E:List (Int×Int)) (l:List Int) (x:Int),x∈l->x∈DN G n E l
 |0,E,l,x,h=>h
 |n+1,E,l,x,h=>by
  unfold DN;cases Lz G E with
  |none=>exact h
  |some r=>exact OX n _ _ x (fH _ h)
theorem OZ{G:iC}:∀(n:Nat) {E:List (Int×Int)} {l:List Int},E.length=n->Eb E->(∀x,(getK E x).isSome=aZ->x∈G.regs)->∀x,(getK E x).isSome=aZ->x∈DN G n E l
 |0,E,l,a,_,_,x,hx=>by
  rw[dJ a]at hx;cases hx
 |n+1,E,l,a,b,hk,x,hx=>by
  obtain⟨r,d⟩:=Aj5 hk (λe=>by rw[e]at a;cases a) b;have f:=Ly d;obtain⟨h1,h2⟩:=Ld (G:=G) b f;unfold DN;rw[d];by_cases e:x=r
  ·exact OX n _ _ x (by rw[e];simp)
  ·refine OZ n (by omega) h1 (λy c=>hk y ?_) x ?_
   ·rw[GQ b,aI]at c;exact c.1
   ·rw[GQ b,hx];simpa using e
theorem Afv(b:OkG G)(out:List (Int×Int))(hx:x∈G.regs)(h0:(getK out x).getD 0=0):(getK (Ib G out) x).isSome=aZ:=by
 have h1:=LQ out b.regs;have h2:=(F7 G h1 (keysK (EC G.regs out)) (Cp h1.1) λq hq=>hq).2.1 x;have a:=Pf out b.regs x;rw[if_pos ⟨hx,h0⟩]at a;rw[show Ib G out=(keysK (EC G.regs out)).foldl (So G) (EC G.regs out)from V,h2];split
 ·rw[a];rfl
 ·rw[a];rfl
theorem Q2(a:OkG G):x∈CV G out↔x∈G.regs/\(getK out x).getD 0=0:=
 ⟨H7 a x,λh=>OZ _ V (Jb (out:=out) a).asc (λy b=>(MF a out y b).1) x (Afv a out h.1 h.2)⟩
theorem XY(c:OkG G)(d:SymG G)(out:List (Int×Int)):PntQ G (BD G out) λx=>x∈G.regs/\(getK out x).getD 0=0:=by
 have h:=Am6 d (CV G out).reverse (s:=([],[])) (Q:=λ_=>False) ⟨Eb.nil,λa p h=>(by cases h),λr p h=>(by cases h),λr h=>(by cases h),λr h=>h.elim⟩;refine⟨h.asc,h.nocl,h.cl,λr b=>?_,λr b=>?_⟩
 ·rcases h.key r b with h1|h1
  ·exact h1.elim
  ·exact(Q2 c).1 (fW.1 h1)
 ·exact h.all r (.inr (fW.2 ((Q2 c).2 b)))
structure SltQ(G:CGraph)(s:List (Int×Int)×Int)(Q:Int->Prop):Prop where
 asc:Eb s.1
 nocl:Ay4 G s.1
 cl:∀r p,getK s.1 r=some p->p∈Qw G r\/(32<=p/\p < 32+s.2)
 key:∀r,(getK s.1 r).isSome=true↔Q r
 pos:0<=s.2
 use:∀z:Int,32<=z->z < 32+s.2->∃r,getK s.1 r=some z
theorem SltQ.next(o:SymG G){s:List (Int×Int)×Int}(h:SltQ G s Q)(j:¬Q r):SltQ G (IQ G s r) λx=>Q x\/x=r:=by
 obtain⟨h1,h2,i⟩:=Mq G s.1 r;have m:getK s.1 r=jX:=by
  cases e:getK s.1 r with
  |none=>rfl
  |some v=>exact absurd ((h.key r).1 (by rw[e];rfl)) j
 unfold IQ;obtain⟨n,g⟩:∃n,n=slotN G s.1 r:=⟨_,rfl⟩
 rw[<-g]at h1 h2 i⊢;have hg:∀x,getK (B7 s.1 r (32+(n:Int))) x=if x=r then jY (32+(n:Int))else getK s.1 x:=λx=>BH h.asc _ _ _
 have B:=h.pos;refine⟨h.asc.put _ _,h.nocl.put o h.asc h2,λx q hx=>?_,λx=>?_,?_,λz d b=>?_⟩
 ·have c:getK (B7 s.1 r (32+(n:Int))) x=jY q:=hx;clear hx;rw[hg]at c;show q∈Qw G x\/(32<=q/\q < 32+max s.2 ((n:Int)+1));split at c
  ·cases c;exact .inr (by omega)
  ·rcases h.cl x q c with h4|h4
   ·exact .inl h4
   ·exact .inr (by omega)
 ·show(getK (B7 s.1 r (32+(n:Int))) x).isSome=aZ↔_;rw[hg];split
  ·rename_i e;exact⟨λ_=>.inr e,λ_=>rfl⟩
  ·rename_i e;rw[h.key x];exact⟨.inl,λk=>k.resolve_right e⟩
 ·show 0<=max s.2 ((n:Int)+1);omega
 ·show∃x,getK (B7 s.1 r (32+(n:Int))) x=jY z;have b:z < 32+max s.2 ((n:Int)+1):=b;have a:(∃x,getK s.1 x=jY z)->∃x,getK (B7 s.1 r (32+(n:Int))) x=jY z:=λ⟨x,hx⟩=>⟨x,by rw[hg,if_neg λe=>by rw[e,m]at hx;cases hx];exact hx⟩
  by_cases y:z < 32+s.2
  ·exact a (h.use z d y)
  ·by_cases w:z=32+(n:Int)
   ·exact⟨r,by rw[hg,if_pos V,w]⟩
   ·have h4:=i (z - 32).toNat (by omega);rw[show 32+(((z - 32).toNat:Nat):Int)=z by omega]at h4;refine a ?_;refine a7 λf=>?_
    rw[Ji.2 λk _ e=>f ⟨k,e⟩]at h4;cases h4
theorem Atw{G:iC}(b:SymG G):∀(l:List Int) {s:List (Int×Int)×Int} {Q:Int->Prop},SltQ G s Q->l.Nodup->(∀x∈l,¬Q x)->SltQ G (l.foldl (IQ G) s) λx=>Q x\/x∈l
 | [],s,Q,h,_,_=>⟨h.asc,h.nocl,h.cl,λr=>by simpa using h.key r,h.pos,h.use⟩
 |r::l,s,Q,h,a,hq=>by
  rw[gC]at a;have h1:=Atw b l (h.next b (hq r fL)) a.2 λx hx hh=>by
   rcases hh with hh|hh
   ·exact hq x (fK _ hx) hh
   ·exact a.1 (hh▸hx)
  refine⟨h1.asc,h1.nocl,h1.cl,λx=>?_,h1.pos,h1.use⟩;rw[dZ,h1.key x,fJ,or_assoc]
theorem Adr(i:OkG G)(c:SymG G)(g:Eb out)(h1:∀x v,getK out x=jY v->v=1)(f:∀x∈keysK out,x∈G.regs)(h0:(BD G out).2= []):SltQ G (IN G out (BD G out).1) λx=>x∈G.regs:=by
 have a:=XY i c out;have hq:SltQ G ((BD G out).1,0) λx=>x∈G.regs/\(getK out x).getD 0=0:=⟨a.asc,a.nocl,λr p h=>.inl (a.cl r p h),λr=>⟨a.key r,λh=>(a.all r h).resolve_right λh=>by rw[h0]at h;cases h⟩,cO 0,λz h2 d=>by have d:z < 32+0:=d;omega⟩
 have hk:∀x,x∈keysK out->(getK out x).getD 0≠0:=λx hx=>by
  obtain⟨v,b⟩:=jU.1 (CN.1 hx);rw[b,h1 x v b];decide
 have h:=Atw c (keysK out) hq (Cp g) λx hx hh=>hk x hx hh.2
 refine⟨h.asc,h.nocl,h.cl,λx=>?_,h.pos,h.use⟩;show(getK (((keysK out).foldl (IQ G) ((BD G out).1,0))).1 x).isSome=aZ↔_;rw[h.key x];constructor
 ·rintro(h2|h2)
  ·exact h2.1
  ·exact f x h2
 ·intro h2;by_cases e:x∈keysK out
  ·exact .inr e
  ·refine .inl ⟨h2,?_⟩;cases j:getK out x with
   |none=>rfl
   |some v=>exact absurd (CN.2 (by rw[j];rfl)) e
theorem LF{G:iC}(a:OkG G):∀n x v,getK (DM G n) x=jY v->v=1
 |0,x,v,h=>by cases h
 |n+1,x,v,h=>by
  have h:getK (Aj8 G (DM G n)) x=jY v:=h;unfold Aj8 at h;rw[Lv (Gl a n).1]at h;split at h
  ·cases h;rfl
  ·exact LF a n x v h
theorem JM{G:iC}(a:OkG G):∀n,∀x∈keysK (DM G n),x∈G.regs
 |0,x,h=>by cases h
 |n+1,x,h=>Ae0 a (Gl a n).1 (JM a n) x h
theorem XV(e:OkG G)(b:okK out)(d:∀x∈keysK out,x∈G.regs)(c:∀x∈l,x∈G.regs):(l.foldl (λo r=>B7 o r 1) out).length<=G.regs.length:=by
 have h1:=Aep (l:=l) b λx hx=>e.regs x (c x hx)
 have h2:=Dh (Cp h1.1) (m:=G.regs) λx hx=>by
  have a:=CN.1 hx;rw[Lv b.1]at a;split at a
  ·rename_i f;exact c x f
  ·exact d x (CN.2 a)
 simpa[keysK]using h2
theorem Aj4(f:(Qw G r).Nodup)(g:(LJ G r).length < (Qw G r).length):∃p,Mz G A r=jY p:=by
 unfold Mz;cases d:(D7 G A r).find? (Gi G A r)with
 |some p=>exact⟨p,rfl⟩
 |none=>
  rw[dW]at d;have c:=E6 (m:=(LJ G r).map λx=>(getK A x).getD 0) f λp a=>by
   have hc:p∈D7 G A r:=by
    unfold D7 Za;refine fN.2 ⟨?_,dE.2 a⟩;simp only[fG];exact .inr a
   have h1:=d p hc;refine a7 λb=>h1 (Ji.2 λk hk e=>b ?_)
   exact fQ.2 ⟨k,hk,by rw[e];rfl⟩
  rw[eW]at c;omega
theorem TS{G:iC}(b:∀r∈G.regs,(Qw G r).Nodup/\(LJ G r).length < (Qw G r).length):∀(l:List Int),(∀x∈l,x∈G.regs)->∀(s:List (Int×Int)×List Int),(l.foldl (EE G) s).2=s.2
 | [],_,s=>rfl
 |r::l,a,s=>by
  obtain⟨h1,h2⟩:=b r (a r fL);obtain⟨p,c⟩:=Aj4 (A:=s.1) h1 h2;rw[dZ,TS b l (λx hx=>a x (fK _ hx))];unfold EE;rw[c]
theorem ZH(b:OkG G)(a:∀r∈G.regs,(Qw G r).Nodup/\(LJ G r).length < (Qw G r).length)(out:List (Int×Int)):(BD G out).2= []:=
 TS a _ (λx hx=>(H7 b x (fW.1 hx)).1) _
theorem KR(d:C.std)(i j:Nat){l:List (Int×Int)}{g:Nat}(hi:h[i]? =jY (.res (EG (cD .i64) l g)))(c:t[j]? =jY (.lit (.map (jY g)))):St.le C ⟨t,h⟩ ⟨t.set j (.tv tMapI l),h.set i .dead⟩:=
 Hp i j hi V V c (Ux d hi V) λS ψ w v H b=>by
  obtain⟨_,a⟩:=H.blk i _ hi;unfold hZ at b⊢;rw[b];exact tMapI.keepS (Q4 (S:=λk=>k=g) a V) (λ_ _=>rfl) λk hk=>.inr hk
theorem Jv(f:C.std)(i j:Nat){v:cC}(hi:h[i]? =jY (.res (rowR v 3 tInt l)))(e:t[j]? =jY (.lit v)):St.le C ⟨t,h⟩ ⟨t.set j (.bs tInt l),h.set i .dead⟩:=
 Hp i j hi V V e (Ux f hi V) λS ψ w u H b=>by
  obtain⟨_,a⟩:=H.blk i _ hi;unfold hZ at b⊢;rw[b];obtain⟨h1,h2⟩:=NV a;refine C5 (T:=tInt) h1 (λj d c=>?_) λg hg=>.inr (AU hg)
  show tInt.RS w _ (((l.map (cD .i64)).drop (j * 1)).take 1) d;have hi:(l.map (cD .i64))[j]? =jY (.int .i64 d):=by rw[eH,c];rfl
  rw[jO,gY,eR,hi];exact DJ.2 ⟨rfl,h2 d (fR c)⟩
end Mu
namespace Mu
open Go Go.RowKit Go.Proofs
section
variable{P:bT}{C:Ctx}{t:List AV}{h:List gZ}{o:bR}{ι:Type}{Rs:ι->Res}{val:ι->cC}
theorem JD{f:FuncId}{args:Array bS}{b:Array cB}{xs:List AV}{K:St->Prop}
 (d:o.op= .call {callee:=.value (.func f),args:=args,argTypes:=b})(i:M3 P f xs Rs val)(q:∀p w S S',(Rs p).R w S->(Rs p).R w S')(k:∀p,(Rs p).mrk= [])(hx:LendWs h (args.toList.map (evA t)) xs)
 (y:∀p,K ⟨Bl t o.dst (.lit (val p)),h++[.res (Rs p)]⟩):AOp P C o ⟨t,h⟩ K:=by
 refine CX k (λS ψ w ρ H a=>?_) y;have h1:ρ (.func f)= .func (.func f) #[] #[]:=by
  have:=a (.func f) (by rw[d];exact aC.2 (.inl (by simp)));simpa[evA,hZ]using this
 rw[Cv d i.1 ρ w h1];refine⟨rfl,?_⟩;have h2:Ae w S h ψ (args.toList.map (evA t)) (args.toList.map ρ):=Cd λx c=>a x (by rw[d];exact aC.2 (.inr (aD.1 c)))
 have z:=i.2 w _ (args.toList.map ρ) (λ_ h=>h) (hx.rel H h2);rw[show(args.map ρ)=(args.toList.map ρ).toArray from(by rw[<-aE])];refine z.mono ?_;rintro e w' ⟨v,m,hg,p,j,s,g⟩;exact⟨v,m,hg,p,j,q p w' _ _ s,g⟩
end
open Go.Maps
variable{l:List Int}
theorem Aft(h:l= []):((l.length:Int) ==0)=aZ:=by subst h;rfl
theorem Yg(h:l≠[]):((l.length:Int) ==0)=aL:=by
 cases l with
 |nil=>exact absurd V h
 |cons x l=>rw[eU];exact beq_false_of_ne (by omega)
theorem WW(f:iI)(b:Fn bY 11 [.agg (Ak f)] (.lit (.bool aL))):
 Fn bY 9 [.agg (Ak f)] (.tup [.agg (BF ⟨aL,0,[]⟩),.lit (.int .i64 2)]):=by
 refine KX bU V (by kernel_rfl) V (by kernel_rfl:Rl bY 29=jY (aZ,3)) bX λC c=>?_
 simp only[Nat.reduceAdd,Nat.reduceSub,zaa];refine wR ?_;refine Ab λd h2=>?_
 refine wR (hx:=by((repeat(first|refine sA ?_ (AH V V b V V)|refine sA ?_|refine AM ?_|refine sAG ?_|refine Bp ?_));exact CS V)) ?_;refine Ag V (λa=>?_) (λa=>?_)
 ·refine wR (hx:=by((repeat(first|refine sA ?_ (BR (rs:=[.lit (.bool false),.lit (.int .i64 0),.lit (.slice none 0 0)]) V Am4 V V)|refine sA ?_|refine AM ?_|refine sAG ?_|refine Bp ?_));exact CS V)) (hk:=?_);exact Aw ⟨.inr V,1,_,rfl,rfl,rfl,Fin.weak V (λ_ _ _ H=>Up.rel (Azl (.cons (Qy (.cons (.refl _) (.cons (.refl _) (.cons (.nil _) .nil)))) (.cons (.refl _) .nil))) H)⟩
 ·exact absurd a (by decide)
theorem WX(f:iI)(e:Fn bY 11 [.agg (Ak f)] (.lit (.bool aZ)))(i:iC)(q:i9)(b:Fn bY 24 [.agg (Ak f)] (.lit (.bool aZ)))
 (k:Fn bY 25 [.agg (Ak f),.lit (.bool aZ)] (.bp Bc i 0))(m:iX i)(h0:(BD i []).2= [])
 (j:Fn bY 27 [.agg (Ak f),.tv tMapI (BD i []).1,.lit (.bool aZ),.lit (.int .i64 0)] (.agg (BF q))):
 Fn bY 9 [.agg (Ak f)] (.tup [.agg (BF q),.lit (.int .i64 0)]):=by
 refine KX bU V (by kernel_rfl) V (by kernel_rfl:Rl bY 29=jY (aZ,3)) bX λC s=>?_
 simp only[Nat.reduceAdd,Nat.reduceSub,zaa];refine wR ?_;refine Ab λz h2=>?_
 refine wR (hx:=by((repeat(first|refine sA ?_ (AH V V e V V)|refine sA ?_|refine AM ?_|refine sAG ?_|refine Bp ?_));exact CS V)) ?_;refine Ag V (λd=>?_) (λd=>?_)
 ·exact absurd d (by decide)
 ·refine Al ?_;refine h2 _ ?_;refine nT ?_;refine Ab λy w=>?_
  refine wR (hx:=by((repeat(first|refine sA ?_ (AH V V b V V)|refine sA ?_|refine AM ?_|refine sAG ?_|refine Bp ?_));exact CS V)) ?_;refine Ag V (λc=>?_) (λc=>?_)
  ·refine wRK λv g=>?_
   refine sA ?_ (AR V GP V V) (Ap (Ap (Ka)));refine sA ?_ (AH V (Pb (Ao (Ao (GO))) V) k V V) (Ap (Ap (GY)));refine AC V (JD V (OV i [] m) N3 (λ_=>rfl) (.cons (.cl V) (.cons NC .nil)) λp=>?_);refine D2 ?_ (Ap (Ap (HT)));refine sA ?_ (AT.move V V) (Ap (Ap (JG)));refine sA ?_ (BT V V V) (Ap (Ap (Hy)));refine sA ?_ (BT V V V) (Ap (Ap (Ap (HU))));refine sA ?_ (AT.assign V V) (Ka);refine sA ?_ (AT.assign V V) (GY);refine Au (g _ ?_);refine AE _ (EM 2 V) ?_;refine nT ?_;refine AE _ (Jv s 3 5 V V) ?_;refine nT ?_;refine wR ?_;refine Ag V (λa=>?_) (λa=>?_)
   ·refine AE _ (KR s 2 4 V V) ?_;refine nT ?_;refine wR (hx:=by((repeat(first|refine sA ?_ (AH V V j V V)|refine sA ?_|refine AM ?_|refine sAG ?_|refine Bp ?_));exact CS V)) ?_;exact Aw ⟨.inr V,1,_,rfl,rfl,rfl,iG V⟩
   ·rw[h0]at a;exact absurd a (by decide)
  ·exact absurd c (by decide)
theorem UX(f:iI)(L:Fn bY 11 [.agg (Ak f)] (.lit (.bool aZ)))(Y a:iC)(lf:Bool)(n:Nat)(p0:i9)(E:Fn bY 24 [.agg (Ak f)] (.lit (.bool lf)))
 (z:lf=aZ->Fn bY 25 [.agg (Ak f),.lit (.bool aZ)] (.bp Bc Y 0))(ag:iX Y)(h1:lf=aZ->(BD Y []).2≠[])
 (af:Fn bY 25 [.agg (Ak f),.lit (.bool aL)] (.bp Bc a 0))(b:iX a)
 (hn:(BD a (DM a n)).2= [])(ad:∀k,k < n->(BD a (DM a k)).2≠[])
 (F:Fn bY 27 [.agg (Ak f),.tv tMapI (IN a (DM a n) (BD a (DM a n)).1).1,.lit (.bool aL),.lit (.int .i64 (IN a (DM a n) (BD a (DM a n)).1).2)] (.agg (BF p0))):
 Fn bY 9 [.agg (Ak f)] (.tup [.agg (BF p0),.lit (.int .i64 0)]):=by
 refine KX bU V (by kernel_rfl) V (by kernel_rfl:Rl bY 29=jY (aZ,3)) bX λC X=>?_
 simp only[Nat.reduceAdd,Nat.reduceSub,zaa];refine wR ?_;refine Ab λK2 h2=>?_
 refine wR (hx:=by((repeat(first|refine sA ?_ (AH V V L V V)|refine sA ?_|refine AM ?_|refine sAG ?_|refine Bp ?_));exact CS V)) ?_;refine Ag V (λK=>?_) (λK=>?_)
 ·exact absurd K (by decide)
 ·refine Al ?_;refine h2 _ ?_;refine nT ?_;refine SO ⟨(.agg (Ak f)::.ptr 0 0::.ptr 1 0::A40 (A10 (A7 []))),[.box (Ak f),.box [.lit (.bool aL),.lit (.int .i64 0),.lit (.slice jX 0 0)]]⟩ ?_ ?_
  ·refine wR (hx:=by((repeat(first|refine sA ?_ (AH V V E V V)|refine sA ?_|refine AM ?_|refine sAG ?_|refine Bp ?_));exact CS V)) ?_;refine Ag V (λJ=>?_) (λJ=>?_)
   ·have I:lf=aZ:=J;have z:=z I;refine wRK λav U=>?_
    refine sA ?_ (AR V GP V V) (Ap (Ap (Ka)));refine sA ?_ (AH V (Pb (Ao (Ao (GO))) V) z V V) (Ap (Ap (GY)));refine AC V (JD V (OV Y [] ag) N3 (λ_=>rfl) (.cons (.cl V) (.cons NC .nil)) λp=>?_);refine D2 ?_ (Ap (Ap (HT)));refine sA ?_ (AT.move V V) (Ap (Ap (JG)));refine sA ?_ (BT V V V) (Ap (Ap (Hy)));refine sA ?_ (BT V V V) (Ap (Ap (Ap (HU))));refine sA ?_ (AT.assign V V) (Ka);refine sA ?_ (AT.assign V V) (GY);refine Au (U _ ?_);refine AE _ (EM 2 V) ?_;refine nT ?_;refine AE _ (Jv X 3 5 V V) ?_;refine nT ?_;refine wR ?_;refine Ag V (λv=>?_) (λv=>?_)
    ·exact absurd v (by rw[Yg (h1 I)];decide)
    ·refine Al ?_;exact Ki (hc:=.cons (.cons (.nil _)))
   ·refine Al ?_;exact Ki (hc:=.cons (.cons (.nil _)))
  ·refine wRK λau T=>?_
   refine sA ?_ (AR V GP V V) (Ap (Ap (Ap (Hy))));refine sA (hq:=AH V (Pb (Ao (Ao (Ao (Hd)))) V) af V V) (ht:=(Ar (HU))) (hk:=?_);refine AC V (J6 (cD .i64) V λm=>?_);refine D2 ?_ (Ar (JH));refine sA ?_ (AT.assign V V) (HT);refine sA ?_ (AT.assign V V) (Hy);refine Au (T _ ?_);refine Ac ?_;refine AB (λk:Nat=>⟨(.agg (Ak f)::.ptr 0 0::.ptr 1 0::A3 (.bp Bc a 0::.lit (.map (jY m))::A40 (A10 (A2 [])))),[.box (Ak f),.box [.lit (.bool aL),.lit (.int .i64 0),.lit (.slice jX 0 0)],.res (EG (cD .i64) (DM a k) m)]⟩) (λk=>k<=n) (λk=>n - k) 0 (jS _) (AS) ?_;rintro k hk;have hk:k<=n:=hk;obtain⟨out,c⟩:∃x,x=DM a k:=⟨_,rfl⟩
   have y:okK out:=by rw[c];exact Gl b.toOkG k
   have H:∀x∈keysK out,x∈a.regs:=by rw[c];exact JM b.toOkG k
   have ab:out.length<=1073741824:=jF (XV b.toOkG y H (l:=[]) λx hx=>by cases hx) b.len;have w:=JL b out _ (jE _);rw[MA]at w;have al:=Q1 b.toOkG (out:=out);have aa:=w.len;have B:∀x∈(BD a out).2,x∈a.regs:=λx hx=>(JK b.toOkG hx).1
   rw[<-c];refine Ac ?_;refine wRK λar S=>?_
   refine sA ?_ (AT.move V V) (Ar (JG));refine sA ?_ (AT.move V V) (Ar (Ka));refine AC V (JD V (OV a out b) N3 (λ_=>rfl) (.cons (.cl V) (.cons (M2.map (i:=2) V) .nil)) λp=>?_);refine D2 ?_ (Ar (GY));refine sA ?_ (AT.move V V) (Ar (Mk));refine sA ?_ (BT V V V) (Ar (HT));refine sA ?_ (BT V V V) (Ar (Hy));refine sA ?_ (AT.assign V V) (Ap (HU));refine sA ?_ (AT.assign V V) (Ap (JH));refine Au (S _ ?_);refine AE _ (EM 3 V) ?_;refine nT ?_;refine AE _ (Jv X 4 9 V V) ?_;refine nT ?_;refine Ab λaq ak=>?_
   refine wR ?_;refine Ag V (λg=>?_) (λg=>?_)
   ·have D:(BD a out).2= []:=by
     refine a7 λac=>?_
     have W:(((BD a out).2.length:Int) ==0)=aZ:=g;rw[Yg ac]at W;cases W
    obtain rfl:k=n:=by
     refine jB hk (jP.1 λs=>ad k s ?_);rw[<-c];exact D
    refine AE _ (KR X 2 7 V V) ?_;refine nT ?_;refine wRK λap O=>?_
    refine sA ?_ (AT.move V V) (Ap (Ar (JG)));refine sA ?_ (AT.move V V) (Ap (Ar (Ka)));refine sA ?_ (AT.move V V) (Ap (Ar (GY)));refine AC V (BQ (i:=3) V V (Zo a out (BD a out).1 p.1 b y ab w.asc (by omega)) (λ_=>rfl) V V λ_=>?_);refine D2 ?_ (Ap (Ar (HT)));refine sA ?_ (AT.assign V V) (Ap (Mk));refine Au (O _ ?_);refine AE _ (KR X 3 8 V V) ?_;refine nT ?_;rw[<-c]at F;refine wR (hx:=by((repeat(first|refine sA ?_ (AH V V F V V)|refine sA ?_|refine AM ?_|refine sAG ?_|refine Bp ?_));exact CS V)) ?_;exact Aw ⟨.inr V,1,_,rfl,rfl,rfl,iG V⟩
   ·have D:(BD a out).2≠[]:=λe=>by
     have W:(((BD a out).2.length:Int) ==0)=aL:=g;rw[Aft e]at W;cases W
    have ae:k < n:=jG hk λe=>D (by rw[c,e];exact hn)
    obtain⟨N,hN⟩:∃x,x=(BD a out).2:=⟨_,rfl⟩
    rw[<-hN]at B aa;rw[<-hN];refine Al ?_;refine ak _ ?_;refine nT ?_;refine wR ?_;refine Ac ?_;refine AB (λj:Nat=>⟨(.agg (Ak f)::.ptr 0 0::.ptr 1 0::A3 (.bp Bc a 0::.lit (.map (jY m))::A40 (A3 (.bs tInt N::.lit (.int .i64 (N.length:Int))::.lit (.int .i64 (j:Int))::A6 [])))),[.box (Ak f),.box [.lit (.bool aL),.lit (.int .i64 0),.lit (.slice jX 0 0)],.res (EG (cD .i64) ((N.take j).foldl (λo r=>B7 o r 1) out) m)]⟩) (λj=>j<=N.length) (λj=>N.length - j) 0 (jS _) (Ki (hc:=.cons (.cons (.cons (.nil _))))) ?_;rintro j hj;refine wR ?_;refine Ab λao aj=>?_
    refine Ag V (λd=>?_) (λd=>?_)
    ·have s:j < N.length:=by simpa using d
     obtain⟨r,hr⟩:∃q,N[j]? =jY q:=⟨_,eE s⟩
     have Z:wfB .i64 r=aZ:=b.regs r (B r (fR hr));have am:=XV b.toOkG y H (l:=N.take j) λx hx=>B x (fS hx)
     have ah:((N.take j).foldl (λo r=>B7 o r 1) out).length < cM:=by
      have:=b.len;unfold cM;omega
     refine Al ?_;refine aj _ ?_;refine nT ?_;refine Ab λan ai=>?_
     refine Ac ?_;refine wR ?_;refine wRE (hx:=by((repeat(first|(refine AC V (J5 2 V Tryz.underlying51 V V V Z ah V ?_);refine sNt ?_)|refine sA ?_|refine AM ?_|refine sAG ?_|refine Bp ?_));exact CS V)) (hk:=?_);refine ai _ ?_;refine nT ?_;refine wRE ?_;refine An ⟨j+1,s,by omega,?_⟩;try dsimp only
     rw[gV,hr,dY];exact AS
    ·obtain rfl:j=N.length:=by have:¬j < N.length:=(by simpa using d);have hj:j<=N.length:=hj;omega
     refine Ay ?_;repeat(first|refine BG ?_|refine exO (by decide) ?_|refine asE ?_)
     refine exN ?_;repeat(first|refine abN ?_|refine asN ?_)
     refine An ⟨k+1,ae,by omega,?_⟩;try dsimp only
     rw[show DM a (k+1)=(N.take N.length).foldl (λo r=>B7 o r 1) out by rw[gW,hN,c];rfl];exact AS
open Go.Shelf
variable{cv:List (Int×cC)}{l:List Int}{vs:List (Int×(cC×List Int))}
structure MRowsH(m:Nat)(cv:List (Int×Value))(vs:List (Int×(Value×List Int)))(w:World):Prop where
 map:M1 w m cv
 ok:okK vs
 row:∀(k:Int) (v:Value) (l:List Int),getK vs k=some (v,l)->Gf w 0 v l/\Bg l
 dis:∀(j k:Int) (v v':Value) (l l':List Int) (g:Nat),j≠k->getK vs j=some (v,l)->getK vs k=some (v',l')->v.ownBlock=some g->v'.ownBlock≠some g
 out:∀(k:Int) (v:Value) (l:List Int),getK vs k=some (v,l)->v.ownBlock≠some m
def mrF(m:Nat)(vs:List (Int×(cC×List Int)))(g:Nat):Prop:=g=m\/∃k v l,getK vs k=jY (v,l)/\v.ownBlock=jY g
def Ba(m:Nat)(cv:List (Int×cC))(vs:List (Int×(cC×List Int))):Res where
 mrk:=[]
 F:=mrF m vs
 R:=λw _=>MRowsH m cv vs w
 keep:=λH hk _ _=>⟨H.map.keep (hk m (.inl V)),H.ok,λk v l h=>⟨(H.row k v l h).1.keepB λg hg=>hk g (.inr ⟨k,v,l,h,hg⟩),(H.row k v l h).2⟩,H.dis,H.out⟩
def Do(m:Nat)(E:List (Int×List Int)):Res where
 mrk:=[]
 F:=λg=>g=m
 R:=λw S=>okK E/\∃vs,M1 w m vs/\Aof tInt.slice w S vs E
 keep:=λ⟨h0,vs,h1,h2,c⟩ hk b a=>⟨h0,vs,h1.keep (hk m V),h2,λk v x e d=>tInt.slice.keepS (c k v x e d) b a⟩
def nilR:Res:=⟨[],λ_=>False,λ_ _=>True,λ_ _ _ _=>trivial⟩
theorem Ho{C:Ctx}{t:List AV}{h:List gZ}:St.le C ⟨t,h⟩ ⟨t,h++[.res nilR]⟩:=λa w ⟨c,S,ψ,H,b⟩=>by
 have X:Ext w S h ψ w S (h++[.res nilR]) (Bo ψ h.length undef):=Ext.push _ _ λ_ _=>rfl
 have d:Hv C.N w S (h++[.res nilR]) (Bo ψ h.length undef) undef (.res nilR):=⟨λg hg=>hg.elim,trivial⟩
 refine⟨?_,S,_,H.push (cA _ _) d (λg hg=>hg.elim),Az X _ _ b⟩;rw[c];show mkD h=mkD (h++[_]);rw[H9];rfl
section
variable{C:Ctx}{t:List AV}{h:List gZ}{o:bR}{K:St->Prop}{ty e:cB}{x y z:bS}{m:Nat}{k:Int}
theorem Iu(i:Nat)(Rs:Nat->Res)(d:∀m,(Rs m).mrk= [])(s:∀m g,(Rs m).F g->g=m)(j:∀(w:cG) S,(Rs w.heap.size).R (w.alloc (.map #[] 0)) S)(c:o.op= .makeMap ty jX)(hi:h[i]? =jY (.res nilR))
 (q:∀m,K ⟨Bl t o.dst (.lit (.map (jY m))),h.set i (.res (Rs m))⟩):AOp bY C o ⟨t,h⟩ K:=by
 refine g9 (ι:=Nat) (Rs:=Rs) (val:=λm=>.map (jY m)) hi (λm=>d m) (λS ψ w ρ H _ _ b=>?_) q;have f:(cI ρ o).run bY w= .ok (.value (.map (jY w.heap.size))) (w.alloc (.map #[] 0)):=by simp[cI,c,run_makeMap]
 rw[f];have a:=(cA w.heap.size w).alloc (jE _) (.map #[] 0);refine⟨⟨a.os,a.tape,a.output,a.size,λk hk _=>a.block k hk⟩,w.heap.size,rfl,j w S,λk hk=>?_⟩;have hk:=s _ _ hk;subst hk;exact⟨.inr (jE _),by simp⟩
theorem R4(w:cG)(S:Nat->Prop):(Ba w.heap.size [] []).R (w.alloc (.map #[] 0)) S:=⟨ME w,okK.nil,λk v l h=>(by cases h),λj k v v' l l' g _ h=>(by cases h),λk v l h=>(by cases h)⟩
theorem O8(m g:Nat)(h:(Ba m [] []).F g):g=m:=by
 rcases h with h|⟨k,v,l,h,_⟩
 ·exact h
 ·cases h
theorem Wu(w:cG)(S:Nat->Prop):(Do w.heap.size []).R (w.alloc (.map #[] 0)) S:=⟨okK.nil,[],ME w,λ_=>rfl,λk v x h=>by cases h⟩
theorem Abr(i:Nat)(c:o.op= .lookup ty x y aL)(a:bY.underlying ty=jY (.map 3 27))(hx:evA t x= .lit (.map (jY m)))(b:evA t y= .lit (.int .i64 k))(hk:wfB .i64 k=aZ)(hi:h[i]? =jY (.res (Ba m cv vs))):
 AT bY C t h o (.lit ((getK cv k).getD (.slice jX 0 0))):=KU i c a Ol hx b hk hi λ_ _ H=>H.map
theorem VG(i:Nat){v:cC}(f:o.op= .mapUpdate ty x y z)(a:bY.underlying ty=jY (.map 3 27))(hx:evA t x= .lit (.map (jY m)))(d:evA t y= .lit (.int .i64 k))(c:evA t z= .lit v)(hk:wfB .i64 k=aZ)(j:cv.length < cM)(hi:h[i]? =jY (.res (Ba m cv vs)))
 (q:K ⟨Bl t o.dst (.lit undef),h.set i (.res (Ba m (B7 cv k v) vs))⟩):AOp bY C o ⟨t,h⟩ K:=
 Y2 (l:=cv) (R':=Ba m (B7 cv k v) vs) i f a hx d c hk j hi ⟨λ_ _ H=>H.map,rfl,.inl V,λ_ h=>h,λw w' T H hq b=>⟨b,H.ok,λk v l h=>⟨(H.row k v l h).1.keepB λg hg=>hq g (λe=>H.out k v l h (e▸hg)) ((H.row k v l h).1.lt g hg).2,(H.row k v l h).2⟩,H.dis,H.out⟩⟩ q
theorem Aim(i:Nat){E:List (Int×List Int)}(F:o.op= .mapUpdate ty x y z)(I:bY.underlying ty=jY (.map 3 27))(hx:evA t x= .lit (.map (jY m)))(Y:evA t y= .lit (.int .i64 k))(X:evA t z= .bs tInt l)(hk:wfB .i64 k=aZ)(U:E.length < cM)(hi:h[i]? =jY (.res (Do m E)))
 (hK:K ⟨Bl t o.dst (.lit undef),h.set i (.res (Do m (B7 E k l)))⟩):AOp bY C o ⟨t,h⟩ K:=by
 refine g9 (ι:=Unit) (Rs:=λ_=>Do m (B7 E k l)) (val:=λ_=>undef) hi (λ_=>rfl) (λT ψ w ρ H O N a=>?_) (λ_=>hK);have h1:=a x (by simp[F,bP]);have h2:=a y (by simp[F,bP]);have S:=a z (by simp[F,bP]);rw[hx]at h1;rw[Y]at h2;rw[X]at S;unfold hZ at h1 h2 S;obtain⟨h0,vs,f,c,J⟩:=O;have Z:vs.length=E.length:=by
  have hs:∀q,q∈keysK vs↔q∈keysK E:=λq=>by
   have:∀{β:Type} (l:List (Int×β)),(getK l q).isSome=aZ↔q∈keysK l:=λl=>by
    unfold keysK getK;rw[jV,List.find?_isSome];simp
   rw[<-this vs,<-this E,c q]
  have d:∀{β:Type} {l:List (Int×β)},Eb l->(keysK l).Nodup:=λh=>gI.2 (h.imp λac e=>by omega)
  have:=((List.perm_ext_iff_of_nodup (d f.1.1) (d h0.1)).2 hs).length_eq;simpa[keysK]using this
 obtain⟨w',b,L,hg,aa⟩:=f.put I (by omega) hk (ρ z);have he:(cI ρ o).run bY w= .ok .skip w':=by
  simp[cI,F,h1,h2,b,b9]
 rw[he];have ab:=f.lt;refine⟨⟨hg.os,hg.tape,hg.output,hg.size,λq hq U=>hg.block q hq λe=>U (by cases e;rfl)⟩,(),rfl,⟨h0.put hk l,_,L,λq=>?_,λq v u D B=>?_⟩,λg s=>⟨.inl s,by have:=N g s;omega⟩⟩
 ·rw[BH f.1.1,BH h0.1];split
  ·rfl
  ·exact c q
 ·rw[BH f.1.1]at D;rw[BH h0.1]at B;have W:∀g,T g->w'.heap[g]? =w.heap[g]?:=λg j=>hg.block g (H.lt g j) λe=>by
   cases e;exact((H.blk i _ hi).1 m V).2.1 j
  by_cases hq:q=k
  ·rw[if_pos hq]at D B;cases D;cases B;exact tInt.slice.keepS S W λ_ h=>h
  ·rw[if_neg hq]at D B;exact tInt.slice.keepS (J q v u D B) W λ_ h=>h
theorem Qa(i:Nat){bytes:Nat}{u:cC}{D:List Int}(ho:o.op= .call {callee:=.builtin .append,args:=#[x,y],argTypes:=#[ty,ty]})(hT:NK bY ty=jY (3,1,bytes))
 (hx:evA t x= .lit u)(hi:h[i]? =jY (.res (Ba m cv vs)))(hy:evA t y= .bs tInt D)(hk:wfB .i64 k=aZ)(hu:(getK vs k).getD (.slice jX 0 0,[])=(u,l))(hb:Fj (l.length+D.length) bytes=aZ)
 (hK:∀v':cC,K ⟨Bl t o.dst (.lit v'),h.set i (.res (Ba m cv (B7 vs k (v',l++D))))⟩):AOp bY C o ⟨t,h⟩ K:=by
 refine g9 (ι:=cC) (Rs:=λv'=>Ba m cv (B7 vs k (v',l++D))) (val:=λv'=>v') hi (λ_=>rfl) (λS ψ w ρ H hR ad Y=>?_) hK;have B:MRowsH m cv vs w:=hR;have O:=Y x (by rw[ho];exact aC.2 (.inr (by simp)));have E:=Y y (by rw[ho];exact aC.2 (.inr (by simp)));rw[hx]at O;rw[hy]at E;unfold hZ at O E;have N:(getK vs k=jY (u,l))\/(getK vs k=jX/\u= .slice jX 0 0/\l= []):=by
  cases hg:getK vs k with
  |none=>rw[hg]at hu;cases hu;exact .inr ⟨rfl,rfl,rfl⟩
  |some p=>rw[hg]at hu;cases hu;exact .inl V
 obtain⟨ac,ai⟩:Gf w 0 u l/\Bg l:=by
  rcases N with h1|⟨_,rfl,rfl⟩
  ·exact B.row k u l h1
  ·exact⟨Gf.nil _ _,λx hx=>by cases hx⟩
 obtain⟨h1,ti,zz,h2,h3,h4,h5,h6⟩:=C9 hT;obtain⟨A,c,Z⟩:=Ci E;rw[Z]at E;obtain⟨news,aj,aa,al,am⟩:=IU E λcs d ar=>JP _ _ _ _ ar
 have I:news=D.map (cD .i64)/\Bg D:=by
  have ae:news.length=D.length:=by rw[aj];exact jO _
  have hg:∀j d,D[j]? =jY d->news[j]? =jY (cD .i64 d)/\wfI .i64 d:=λj d hd=>by
   have:=al j d hd;rw[show tInt.size=1 from V,jO,gY,eR]at this;have ao:j < news.length:=by rw[ae];exact(eG.1 hd).1
   rw[eE ao]at this⊢;obtain⟨W,h8⟩:=DJ.1 this;exact⟨by simpa using W,h8⟩
  refine⟨dM λj=>?_,λr hr=>?_⟩
  ·rw[eH];cases hd:D[j]? with
   |none=>rw[eF (by rw[ae];exact List.getElem?_eq_none_iff.1 hd)];rfl
   |some d=>exact(hg j d hd).1
  ·obtain⟨j,hj⟩:=eI hr;exact(hg j r hj).2
 have J:=hb;unfold Fj at J;simp only[zaf]at J;obtain⟨v',w',ab,T,f,au⟩:=Ll (P:=bY) (ty:=o.type) (c:=c) (base:=0) h1 h2 h3 h4 h5 h6 (Nat.zero_lt_one) ac (aa w λ_ _=>rfl) am J.1 J.2 (jS _);have aq:(cI ρ o).run bY w= .ok (.value v') w':=by
  unfold cI;simp only[ho,resolve,invoke,builtin,List.map_toArray,fD,fF,O,Z,ab,zam]
 rw[aq];have F:Gf w' 0 v' (l++D):=Gf.of (n:=l.length+D.length) T (by simp) (by rw[fC,I.1]);have s:∀g,u.ownBlock=jY g->getK vs k=jY (u,l):=λg hg=>by
  rcases N with W|⟨_,rfl,_⟩
  ·exact W
  ·cases hg
 have an:m < w.heap.size:=ad m (.inl V);have b:∀g,v'.ownBlock=jY g->u.ownBlock=jY g\/g=w.heap.size:=λg hg=>by
  rcases au with e1|e1
  ·exact .inl (e1▸hg)
  ·rw[e1]at hg;cases hg;exact .inr V
 have a:∀(q:Int) (v:cC) (r:List Int),getK (B7 vs k (v',l++D)) q=jY (v,r)->(q=k/\v=v'/\r=l++D)\/(q≠k/\getK vs q=jY (v,r)):=λq v r hq=>by
  rw[BH B.ok.1]at hq;by_cases e:q=k
  ·rw[if_pos e]at hq;cases hq;exact .inl ⟨e,rfl,rfl⟩
  ·rw[if_neg e]at hq;exact .inr ⟨e,hq⟩
 refine⟨⟨f.os,f.tape,f.output,f.size,λq hq hn=>f.block q hq λe=>hn (.inr ⟨k,u,l,s q e.symm,e.symm⟩)⟩,v',rfl,⟨?_,B.ok.put hk _,λq v r hq=>?_,λj q v X r r2 g ag hj hq hg=>?_,λq v r hq=>?_⟩,λg hg=>?_⟩
 ·exact B.map.keep (f.block m an λe=>B.out k u l (s m e.symm) e.symm)
 ·rcases a q v r hq with⟨rfl,rfl,rfl⟩|⟨ak,hq⟩
  ·exact⟨F,λr hr=>(fG.1 hr).elim (ai r) (I.2 r)⟩
  ·obtain⟨W,h8⟩:=B.row q v r hq;exact⟨W.keepB λg hg=>f.block g (W.lt g hg).2 λe=>B.dis q k v u r l g ak hq (s g e.symm) hg e.symm,h8⟩
 ·rcases a j v r hj with⟨rfl,rfl,rfl⟩|⟨ap,U⟩
  ·rcases a q X r2 hq with⟨rfl,_⟩|⟨af,L⟩
   ·exact absurd V ag
   ·rcases b g hg with e1|e1
    ·exact B.dis j q u X l r2 g (jT af) (s g e1) L e1
    ·intro e2;have:=((B.row q X r2 L).1.lt g e2).2;omega
  ·rcases a q X r2 hq with⟨rfl,rfl,rfl⟩|⟨af,L⟩
   ·intro e2;rcases b g e2 with e1|e1
    ·exact B.dis j q v u r l g ap U (s g e1) hg e1
    ·have:=((B.row j v r U).1.lt g hg).2;omega
   ·exact B.dis j q v X r r2 g ag U L hg
 ·rcases a q v r hq with⟨rfl,rfl,rfl⟩|⟨_,hq⟩
  ·intro e2;rcases b m e2 with e1|e1
   ·exact B.out q u l (s m e1) e1
   ·omega
  ·exact B.out q v r hq
 ·have av:w.heap.size<=w'.heap.size:=f.size;rcases hg with hg|⟨q,v,r,hq,hg⟩
  ·subst hg;exact⟨.inl (.inl V),by omega⟩
  ·rcases a q v r hq with⟨rfl,rfl,rfl⟩|⟨_,hq⟩
   ·have ah:=(F.lt g hg).2;rcases b g hg with e1|e1
    ·exact⟨.inl (.inr ⟨q,u,l,s g e1,e1⟩),ah⟩
    ·exact⟨.inr (by omega),ah⟩
   ·exact⟨.inl (.inr ⟨q,v,r,hq,hg⟩),by have:=ad g (.inr ⟨q,v,r,hq,hg⟩);omega⟩
end
open Go.ChangeMaps
variable{E:List (Int×List Int)}{S:Nat->Prop}{g i:Nat}{ob:Obj}
section
variable{H:Type}{P:bT}{w:cG}{t k e:cB}{R:cC->Option (DataW H×List MemPlace)}{b:Nat}{es:Array bM}{clock:Nat}
theorem Aqz(K:Keyed P k)(ht:P.underlying t=jY (.map k e)){z:cC}(hz:∀u:cG,(zeroValue e).run P u= .ok z u)(B:w.heap[b]? =jY (.map es clock))(F:WideElems.Fit P k R es clock){key:cC}{kl:Lit}(a:keyOf P k key=jY kl):
 ∃(Z:cC) (W:Nat) (N:Array bM) (c:Nat),(bD t (.map (jY b)) key).run P w= .ok (.tuple #[Z,goInt W]) (setBlock w b (.map N c))/\
  ∀(J:cG) (val:cC),J.heap[b]? =jY (.map N c)->∃O d,(bC t (.map (jY b)) (goInt W) val).run P J= .ok () (setBlock J b (.map O d))/\(bE t (.map (jY b)) key val).run P w= .ok () (setBlock w b (.map O d)):=by
 obtain⟨s1,X,_⟩:=F.stamped;rcases K.find w a es.toList F.keys with⟨L,I⟩|⟨j,e0,L,I,T⟩
 ·refine⟨z,clock,es.push ⟨key,z,clock⟩,clock+1,?_,λJ val f=>⟨es.push ⟨key,val,clock⟩,clock+1,?_,?_⟩⟩
  ·simp[bD,cN ht,bN B,K.check w aL a,L,hz,bO _ B,b9,setBlock]
  ·have hn:(((es.push ⟨key,z,clock⟩).toList).map (·.born)).Nodup:=by
    rw[aG,fC,gB];refine⟨X,by simp,λp hp q hq e1=>?_⟩;obtain⟨x,hx,rfl⟩:=fQ.1 hp;have:=s1 x hx;have:q=clock:=by simpa using hq
    omega
   have v:(es.push ⟨key,z,clock⟩).findIdx? (λe=>((e.born:Nat):Int) ==((clock:Nat):Int))=jY es.size:=by
    rw[cE];exact cF (e0:=⟨key,z,clock⟩) hn (by simp)
   have s:(es.push ⟨key,z,clock⟩).modify es.size (λe=>{e with val:=val})=es.push ⟨key,val,clock⟩:=by
    apply aA;rw[aF,aG,aG,<-Array.length_toList,WideElems.modify_last]
   simp[bC,bN f,asInt,asIntOf,goInt,v,s,bO _ f,b9,setBlock]
  ·simp[bE,cN ht,bN B,K.check w aL a,L,bO _ B,b9,setBlock]
 ·have Y:es[j]? =jY e0:=by simpa using I
  have D:es.modify j (λe=>{e with key:=key})=es:=by
   apply aA;rw[aF,modify_eq_set _ _ _ _ I];have:({e0 with key:=key}:bM)=e0:=by rw[<-T]
   rw[this];exact WideElems.set_self _ _ _ I
  refine⟨e0.val,e0.born,es,clock,?_,λJ val f=>⟨es.modify j (λU=>{U with key:=key,val:=val}),clock,?_,?_⟩⟩
  ·simp[bD,cN ht,bN B,K.check w aL a,L,Y,T,K.stays w a,D,bO _ B,b9,setBlock]
  ·have v:es.findIdx? (λe=>((e.born:Nat):Int) ==((e0.born:Nat):Int))=jY j:=by
    rw[cE];exact cF X I
   have s:es.modify j (λe=>{e with val:=val})=es.modify j (λU=>{U with key:=key,val:=val}):=by
    apply aA;rw[aF,aF,modify_eq_set _ _ _ _ I,modify_eq_set _ _ _ _ I,<-T]
   simp[bC,bN f,asInt,asIntOf,goInt,v,s,bO _ f,b9,setBlock]
  ·simp[bE,cN ht,bN B,K.check w aL a,L,Y,T,K.stays w a,bO _ B,b9,setBlock]
end
structure RowsK(m:Nat)(vs:List (Int×(Value×List Int)))(w:World):Prop where
 ok:okK vs
 row:∀(k:Int) (v:Value) (l:List Int),getK vs k=some (v,l)->Gf w 0 v l/\Bg l
 dis:∀(j k:Int) (v v':Value) (l l':List Int) (g:Nat),j≠k->getK vs j=some (v,l)->getK vs k=some (v',l')->v.ownBlock=some g->v'.ownBlock≠some g
 out:∀(k:Int) (v:Value) (l:List Int),getK vs k=some (v,l)->v.ownBlock≠some m
theorem RowsK.keep{m:Nat}{vs:List (Int×(cC×List Int))}{w w':cG}(H:RowsK m vs w)(hk:∀g,mrF m vs g->g≠m->w'.heap[g]? =w.heap[g]?):RowsK m vs w':=
 ⟨H.ok,λk v l h=>⟨(H.row k v l h).1.keepB λg hg=>hk g (.inr ⟨k,v,l,h,hg⟩) λe=>H.out k v l h (e▸hg),(H.row k v l h).2⟩,H.dis,H.out⟩
def Akm(m:Nat)(cv:List (Int×cC))(vs:List (Int×(cC×List Int)))(ty:cB)(k:Int)(c:Nat):Res where
 mrk:=[]
 F:=mrF m vs
 R:=λw _=>RowsK m vs w/\∃es clock,w.heap[m]? =jY (.map es clock)/\∀(a:cG) (v:cC),a.heap[m]? =jY (.map es clock)->∃ob,(bC ty (.map (jY m)) (goInt c) v).run bY a= .ok () (setBlock a m ob)/\M1 (setBlock a m ob) m (B7 cv k v)
 keep:=λ⟨H,es,clock,h1,h2⟩ hk _ _=>⟨H.keep λg hg _=>hk g hg,es,clock,(hk m (.inl V)).trans h1,h2⟩
theorem HN{w:cG}{m:Nat}(a:m < w.heap.size):(setBlock w m ob).heap[m]? =jY ob:=by simp[setBlock,a]
theorem EV{w:cG}{m:Nat}(hg:g≠m):(setBlock w m ob).heap[g]? =w.heap[g]?:=by simp[setBlock,Array.getElem?_setIfInBounds,jT hg]
section
variable{C:Ctx}{t:List AV}{h:List gZ}{o:bR}{K:St->Prop}{ty e:cB}{x y z:bS}{m:Nat}{k:Int}{cv:List (Int×cC)}{vs:List (Int×(cC×List Int))}
theorem Air(i:Nat)(O:o.op= .mapEntry ty x y)(s:bY.underlying ty=jY (.map 3 27))(hx:evA t x= .lit (.map (jY m)))(hy:evA t y= .lit (.int .i64 k))(hk:wfB .i64 k=aZ)(hn:cv.length < cM)(hi:h[i]? =jY (.res (Ba m cv vs)))
 (hK:∀(J:cC) (d:Nat),K ⟨Bl t o.dst (.lit (.tuple #[J,goInt d])),h.set i (.res (Akm m cv vs ty k d))⟩):AOp bY C o ⟨t,h⟩ K:=by
 refine g9 (ι:=cC×Nat) (Rs:=λp=>Akm m cv vs ty k p.2) (val:=λp=>.tuple #[p.1,goInt p.2]) hi (λ_=>rfl) (λT ψ w ρ H Y X f=>?_) (λp=>hK p.1 p.2);have h1:=f x (by simp[O,bP]);have h2:=f y (by simp[O,bP]);rw[hx]at h1;rw[hy]at h2;unfold hZ at h1 h2;have c:MRowsH m cv vs w:=Y;have D:=c.map.lt;obtain⟨h0,es,clock,hb,F,_⟩:=id c.map;obtain⟨J,d,I,a,B,N⟩:=Aqz Qj s Ol hb F (keyOf_int_mk Tryz.underlying3 hk);have he:(cI ρ o).run bY w= .ok (.value (.tuple #[J,goInt d])) (setBlock w m (.map I a)):=by
  simp[cI,O,h1,h2,B,b9]
 rw[he];refine⟨⟨rfl,rfl,rfl,by simp[setBlock],λq hq U=>EV λe=>U (.inl e)⟩,(J,d),rfl,⟨RowsK.keep ⟨c.ok,c.row,c.dis,c.out⟩ λg _ hg=>EV hg,I,a,HN D,λZ v j=>?_⟩,λg hg=>⟨.inl hg,by have:=X g hg;simpa[setBlock]using this⟩⟩;obtain⟨aa,L,h3,h4⟩:=N Z v j;obtain⟨w',h5,h6,_⟩:=c.map.put s hn hk v;rw[h4]at h5;cases h5;have W:m < Z.heap.size:=(aB.1 j).1;exact⟨_,h3,h6.keep ((HN W).trans (HN D).symm)⟩
theorem Aiq(i:Nat){v:cC}{I:Nat}(f:o.op= .entryStore ty x y z)(hx:evA t x= .lit (.map (jY m)))(L:evA t y= .lit (goInt I))(J:evA t z= .lit v)(hi:h[i]? =jY (.res (Akm m cv vs ty k I)))
 (W:K ⟨Bl t o.dst (.lit undef),h.set i (.res (Ba m (B7 cv k v) vs))⟩):AOp bY C o ⟨t,h⟩ K:=by
 refine g9 (ι:=Unit) (Rs:=λ_=>Ba m (B7 cv k v) vs) (val:=λ_=>undef) hi (λ_=>rfl) (λT ψ w ρ H D B c=>?_) (λ_=>W);have h1:=c x (by simp[f,bP]);have h2:=c y (by simp[f,bP]);have F:=c z (by simp[f,bP]);rw[hx]at h1;rw[L]at h2;rw[J]at F;unfold hZ at h1 h2 F;obtain⟨X,es,clock,U,j⟩:=D;obtain⟨ob,d,N⟩:=j w v U;have O:(cI ρ o).run bY w= .ok .skip (setBlock w m ob):=by
  simp[cI,f,h1,h2,F,d,b9]
 rw[O];have a:RowsK m vs (setBlock w m ob):=X.keep λg _ hg=>EV hg
 exact⟨⟨rfl,rfl,rfl,by simp[setBlock],λq hq s=>EV λe=>s (.inl e)⟩,(),rfl,⟨N,a.ok,a.row,a.dis,a.out⟩,λg hg=>⟨.inl hg,by have:=B g hg;simpa[setBlock]using this⟩⟩
end
theorem MB{w:cG}{m:Nat}{vs:List (Int×(cC×List Int))}(H:MRowsH m (mapK (·.1) vs) vs w)(f:∀g,mrF m vs g->S g):Kw.RS w S [.map (jY m)] (mapK (·.2) vs):=by
 refine⟨H.ok.map _,.inr ⟨m,_,rfl,f m (.inl V),H.map,λk=>by rw[CB,CB,jV,jV],λk v x h1 h2=>?_⟩⟩;rw[CB]at h1 h2;obtain⟨p,a,rfl⟩:=jW.1 h1;rw[a]at h2;cases h2;obtain⟨s,q⟩:=H.row k p.1 p.2 a;refine C5 (T:=tInt) s (λj d c=>?_) λg hg=>f g (.inr ⟨k,p.1,p.2,a,hg⟩)
 show tInt.RS w S (((p.2.map (cD .i64)).drop (j * 1)).take 1) d;have hi:(p.2.map (cD .i64))[j]? =jY (.int .i64 d):=by rw[eH,c];rfl
 rw[jO,gY,eR,hi];exact DJ.2 ⟨rfl,q d (fR c)⟩
theorem ZY{w:cG}{S':Nat->Prop}{m:Nat}(H:(Do m E).R w S)(a:S' m)(c:∀g,S g->S' g):Kw.RS w S' [.map (jY m)] E:=by
 obtain⟨h0,vs,h1,h2,d⟩:=H;exact⟨h0,.inr ⟨m,vs,rfl,a,h1,h2,λk v x j f=>tInt.slice.keepS (d k v x j f) (λ_ _=>rfl) c⟩⟩
theorem Ab0{h:List gZ}{j1 j2 j3 j4 L J I F:Nat}{regs d:List Int}{D B s:List (Int×(cC×List Int))}(hm:mkD h= [])
 (hi:h[i]? =jY (.res (Be g [.bs tInt regs,.lit (.map (jY L)),.lit (.map (jY J)),.lit (.map (jY I)),.lit (.map (jY F)),.bs tInt d])))(h1:h[j1]? =jY (.res (Do L E)))
 (h2:h[j2]? =jY (.res (Ba J (mapK (·.1) D) D)))(h3:h[j3]? =jY (.res (Ba I (mapK (·.1) B) B)))(h4:h[j4]? =jY (.res (Ba F (mapK (·.1) s) s))):
 Fin h (.lit (.pointer (jY ⟨g,0,jX⟩))) (.bp Bc ⟨regs,E,mapK (·.2) D,mapK (·.2) B,mapK (·.2) s,d⟩ 0):=⟨hm,λC S ψ w v j H Z=>by
 unfold hZ at Z;subst Z;have B0:=H.blk i _ hi;obtain⟨cs,e,Y,X⟩:=B0.2;have W:=H.blk j1 _ h1;have U:=H.blk j2 _ h2;have T:=H.blk j3 _ h3;have O:=H.blk j4 _ h4;obtain⟨S',c⟩:∃S':Nat->Prop,S'=λk=>S k\/k=g\/(Do L E).F k\/mrF J D k\/mrF I B k\/mrF F s k:=⟨_,rfl⟩
 have f:∀k,S k->S' k:=λk hk=>by rw[c];exact .inl hk
 have N:g < w.heap.size:=(aB.1 Y).1;refine⟨S',f,λk hk=>?_,λk hk=>?_,?_⟩
 ·rw[c]at hk;rcases hk with hk|rfl|hk|hk|hk|hk
  ·exact .inl hk
  ·exact .inr (jD λa=>(B0.1 k V).1 (j _ a))
  ·exact .inr (jD λa=>(W.1 k hk).1 (j k a))
  ·exact .inr (jD λa=>(U.1 k hk).1 (j k a))
  ·exact .inr (jD λa=>(T.1 k hk).1 (j k a))
  ·exact .inr (jD λa=>(O.1 k hk).1 (j k a))
 ·rw[c]at hk;rcases hk with hk|rfl|hk|hk|hk|hk
  ·exact H.lt k hk
  ·exact N
  ·exact(W.1 k hk).2.2
  ·exact(U.1 k hk).2.2
  ·exact(T.1 k hk).2.2
  ·exact(O.1 k hk).2.2
 ·unfold hZ;simp only[Ae,hZ]at X;obtain⟨c0,_,rfl,r0,c1,_,rfl,rfl,c2,_,rfl,rfl,c3,_,rfl,rfl,c4,_,rfl,rfl,c5,_,rfl,r5,rfl⟩:=X;refine⟨g,0,rfl,by rw[c];exact .inr (.inl V),_,Ot.2 ⟨c0,_,_,_,_,c5,rfl,tInt.slice.keepS r0 (λ_ _=>rfl) f,ZY W.2 (by rw[c];exact .inr (.inr (.inl V))) f,MB U.2 (λq hq=>by rw[c];exact .inr (.inr (.inr (.inl hq)))),MB T.2 (λq hq=>by rw[c];exact .inr (.inr (.inr (.inr (.inl hq))))),MB O.2 (λq hq=>by rw[c];exact .inr (.inr (.inr (.inr (.inr hq))))),tInt.slice.keepS r5 (λ_ _=>rfl) f⟩,λq u hq=>?_⟩;unfold World.cell?;simp[Y,hq]⟩
section
variable{P:bT}{C:Ctx}{t:List AV}{h:List gZ}{o:bR}{K:St->Prop}
theorem Acb(i:Nat){a:cB}{x:bS}{cells:List AV}(j:o.op= .box a x)(hi:h[i]? =jY (.res nilR))(hx:evA t x= .agg cells)(hc:Bh cells=aZ)
 (s:∀g,K ⟨Bl t o.dst (.lit (.pointer (jY ⟨g,0,jX⟩))),h.set i (.res (Be g cells))⟩):AOp P C o ⟨t,h⟩ K:=by
 refine g9 (ι:=Nat) (Rs:=λg=>Be g cells) (val:=λg=>.pointer (jY ⟨g,0,jX⟩)) hi (λ_=>rfl) (λS ψ w ρ H _ _ d=>?_) s;have h1:=d x (by simp[j,bP]);rw[hx]at h1;unfold hZ at h1;obtain⟨cs,e,f⟩:=h1;have q:(cI ρ o).run P w= .ok (.value (.pointer (jY ⟨w.heap.size,0,jX⟩))) (w.alloc (.cells cs.toArray a)):=by
  simp[cI,j,Instr.box,Go.newVar,Go.newRow,e,Value.cells]
 rw[q];have c:=(cA w.heap.size w).alloc (jE _) (.cells cs.toArray a);refine⟨⟨c.os,c.tape,c.output,c.size,λk hk _=>c.block k hk⟩,w.heap.size,rfl,⟨cs,a,cJ w _,?_⟩,λk hk=>?_⟩
 ·exact Az (Ext.grow [] ψ0 (λk hk=>c.block k (H.lt k hk)) λ_ h=>h) _ _ (Bi _ _ hc f)
 ·have hk:k=w.heap.size:=hk;subst hk;exact⟨.inr (jE _),by simp⟩
theorem Mj{ι:Type}{Rs:ι->Res}{val:ι->cC}{R:Res}{f:FuncId}{x:bS}{args:Array bS}{c:Array cB}{xs:List AV}(hi:h[i]? =jY (.res R))
 (j:o.op= .call {callee:=.value x,args:=args,argTypes:=c})(v:evA t x= .lit (.func (.func f) #[] #[]))(s:DK P f R xs Rs val)(B:∀p,(Rs p).mrk=R.mrk)(hx:args.toList.map (evA t)=xs)(hc:Bh xs=aZ)
 (I:∀p,K ⟨Bl t o.dst (.lit (val p)),h.set i (.res (Rs p))⟩):AOp P C o ⟨t,h⟩ K:=by
 refine g9 hi B (λS ψ w ρ H F q a=>?_) I;have h1:=a x (by rw[j];exact aC.2 (.inl (by simp)));rw[v]at h1;unfold hZ at h1;rw[OF (cs:=#[]) j s.1 ρ w h1];refine⟨rfl,?_⟩;have h2:Ae w S h ψ xs (args.toList.map ρ):=by
  rw[<-hx];exact Cd λx d=>a x (by rw[j];exact aC.2 (.inr (aD.1 d)))
 rw[show(args.map ρ++(#[]:Array cC))=(args.toList.map ρ).toArray from(by rw[Array.append_empty,<-aE])];exact s.2 w S (args.toList.map ρ) (λk hk=>⟨H.lt k hk,λD=>((H.blk i _ hi).1 k D).2.1 hk⟩) q F (Bi _ _ hc h2)
end
end Mu
namespace Mu
open Go Go.RowKit Go.Proofs Go.Maps
variable{E:List (Int×List Int)}{X:gZ}{cv:List (Int×cC)}{l:List i8}{m:Nat}{x:i8}{α:Type}
def Qf(E:List (Int×List Int))(x:i8):List (Int×List Int):=B7 (B7 E x.a (((getK E x.a).getD [])++[x.b])) x.b (((getK E x.b).getD [])++[x.a])
def L8(l:List i8):List (Int×List Int):=l.foldl Qf []
theorem Afi(vs:List (Int×(cC×List Int)))(k:Int):(getK vs k).getD (.slice jX 0 0,[])=((getK (mapK (·.1) vs) k).getD (.slice jX 0 0),(getK (mapK (·.2) vs) k).getD []):=by
 rw[CB,CB];cases getK vs k <;> rfl
theorem Aqr{l:List (Int×α)}(h:Eb l){a b:Int}(c:a≠b)(v:α):getK (B7 l a v) b=getK l b:=by
 rw[BH h,if_neg (jT c)]
theorem mr3{a b c d e:Bool}{Y Z:gZ}{q j f:List (Int×(cC×List Int))}(hc:c=aL)(s:b=aL)(v:a=aL):
 ∃vs,(bif a then X else(bif b then Y else(bif c then Z else(bif d then(g8 (Ba m cv q))else(bif e then(g8 (Ba m cv j))else .res (Ba m cv f))))))=g8 (Ba m cv vs):=by
 subst v s hc;cases d <;> cases e <;> exact⟨_,rfl⟩
theorem KV{C:Ctx}{t:List AV}{h:List gZ}{o:bR}{ty:cB}{x y:bS}{k:Int}{u:cC}(i:Nat)(f:o.op= .lookup ty x y aL)(a:bY.underlying ty=jY (.map 3 27))(hx:evA t x= .lit (.map (jY m)))(c:evA t y= .lit (.int .i64 k))(hk:wfB .i64 k=aZ)(j:∃vs,X= .res (Ba m cv vs))(hi:h[i]? =jY X)(d:(getK cv k).getD (.slice none 0 0)=u:=by rfl):
 AT bY C t h o (.lit u):=by
 obtain⟨vs,rfl⟩:=j;subst d;exact Abr i f a hx c hk hi
theorem Ade(E:List (Int×List Int))(x:i8):(Qf E x).length<=E.length+2:=by
 unfold Qf;have h1:=EY (l:=E) x.a (((getK E x.a).getD [])++[x.b]);have h2:=EY (l:=B7 E x.a (((getK E x.a).getD [])++[x.b])) x.b (((getK E x.b).getD [])++[x.a]);omega
theorem Adg(h:Eb E)(x:i8):Eb (Qf E x):=(h.put _ _).put _ _
theorem Adf(h:Eb E)(hx:x.a≠x.b)(k:Int):(getK (Qf E x) k).getD []=(getK E k).getD []++(if k=x.a then [x.b]else if k=x.b then [x.a]else []):=by
 unfold Qf;rw[BH (h.put _ _),BH h];by_cases c:k=x.b
 ·have a:¬k=x.a:=λe=>hx (e.symm.trans c)
  rw[if_pos c,if_neg a,if_pos c,c];rfl
 ·by_cases a:k=x.a
  ·rw[if_neg c,if_pos a,if_pos a,a];rfl
  ·rw[if_neg c,if_neg a,if_neg a,if_neg c,dB]
theorem Alc(l:List i8)(a:∀x∈l,x.a≠x.b)(k:Int):∀{E:List (Int×List Int)},Eb E->(getK (l.foldl Qf E) k).getD []=(getK E k).getD []++l.flatMap λx=>if k=x.a then [x.b]else if k=x.b then [x.a]else []:=by
 induction l with
 |nil=>intro E h;simp
 |cons x l c=>
  intro E h;rw[dZ,c (λy d=>a y (fK _ d)) (Adg h x),Adf h (a x fL),dX,cZ]
theorem PB(a:∀x∈l,x.a≠x.b)(k:Int):(getK (L8 l) k).getD []=l.flatMap λx=>if k=x.a then [x.b]else if k=x.b then [x.a]else []:=by
 have:=Alc l a k Eb.nil;rw[show(getK ([]:List (Int×List Int)) k).getD []= []from V,fZ]at this;exact this
theorem U7(a:∀x∈l,x.a≠x.b)(k:Int):((getK (L8 l) k).getD []).length<=l.length:=by
 rw[PB a];clear a;induction l with
 |nil=>simp
 |cons x l c=>
  rw[dX,eT,eU];have:(if k=x.a then [x.b]else if k=x.b then [x.a]else []).length<=1:=by
   split
   ·simp
   ·split <;> simp
  omega
theorem Abg(l:List i8):(L8 l).length<=2 * l.length:=by
 have:∀E:List (Int×List Int),(l.foldl Qf E).length<=E.length+2 * l.length:=by
  induction l with
  |nil=>intro E;simp
  |cons x l a=>
   intro E;rw[dZ,eU];have h1:=a (Qf E x);have h2:=Ade E x;omega
 have:=this [];simpa[L8]using this
theorem Abf{k:Nat}(h:l[k]? =jY x):L8 (l.take (k+1))=Qf (L8 (l.take k)) x:=by
 unfold L8;rw[gV,h];simp[dY]
theorem LN{β:Type}(e:α->β)(l:List (Int×α)):(mapK e l).length=l.length:=by simp[mapK]
abbrev Aml(l:List i8):Prop:=∀x∈l,Ch x.a/\Ch x.b/\x.a≠x.b
theorem U6(l:List i8)(m:Nat)(hl:l.length<=1073741824)(hg:Aml l):DK bY 49 (Ba m [] []) [.bs Dk l,.lit (.map (jY m))] (λp:{vs:List (Int×(cC×List Int)) // mapK (·.2) vs=L8 l}=>Ba m (mapK (·.1) p.1) p.1) (λ_=>.tuple #[]):=by
 refine DX Tryz.func49 V (by kernel_rfl) V Tryz.ntmps49 V (λ_ _ _ _ h=>h) λC=>?_
 simp only[Nat.reduceAdd,Nat.reduceSub,zaa];refine wR ?_;refine Ac ?_;refine AB (λp:Nat×List (Int×(cC×List Int))=>⟨(.any::.lit (.map (jY m))::A4 (.bs Dk l::.lit (.int .i64 (l.length:Int))::.lit (.int .i64 (p.1:Int))::A20 (A8 []))),[.res (Ba m (mapK (·.1) p.2) p.2)]⟩) (λp=>p.1<=l.length/\okK p.2/\mapK (·.2) p.2=L8 (l.take p.1)) (λp=>l.length - p.1) (0,[]) ⟨jS _,okK.nil,rfl⟩ (AS) ?_;rintro⟨k,vs⟩ ⟨hk,U,Z⟩;have Z:mapK (·.2) vs=L8 (l.take k):=Z;have U:okK vs:=U;have hk:k<=l.length:=hk;refine wR ?_;refine Ab λK4 h4=>?_
 refine Ag V (λY=>?_) (λY=>?_)
 ·have aa:k < l.length:=by simpa using Y
  obtain⟨x,hx⟩:∃x,l[k]? =jY x:=⟨_,eE aa⟩
  obtain⟨N,L,ai⟩:=hg x (fR hx);have ad:Eb vs:=U.1;have ab:∀y∈l.take k,y.a≠y.b:=λy hy=>(hg y (fS hy)).2.2
  have ag:Fj (((getK (mapK (·.2) vs) x.a).getD []).length+ [x.b].length) 8=aZ:=by
   have h1:=U7 ab x.a;have h2:(l.take k).length<=l.length:=by rw[fB];omega
   rw[Z];unfold Fj;simp only[zaf,zai];unfold cM;omega
  have af:Fj (((getK (mapK (·.2) vs) x.b).getD []).length+ [x.a].length) 8=aZ:=by
   have h1:=U7 ab x.b;have h2:(l.take k).length<=l.length:=by rw[fB];omega
   rw[Z];unfold Fj;simp only[zaf,zai];unfold cM;omega
  have av:vs.length<=2 * l.length:=by
   have h1:=Abg (l.take k);have h2:(l.take k).length<=l.length:=by rw[fB];omega
   rw[<-Z,LN]at h1;omega
  have ah:(mapK (·.1) vs).length < cM:=by rw[LN];unfold cM;omega
  have ac:∀v:cC,(B7 (mapK (·.1) vs) x.a v).length < cM:=λv=>by have:=EY (l:=mapK (·.1) vs) x.a v;rw[LN]at this;unfold cM;omega
  refine Al ?_;refine h4 _ ?_;refine nT ?_;refine Ab λK6 h6=>?_
  refine Ac ?_;refine wR ?_;refine AE ⟨.any::.lit (.map (jY m))::A3 (.ptr 1 0::.bs Dk l::.lit (.int .i64 (l.length:Int))::.lit (.int .i64 (k:Int))::A20 (A8 [])),[.res (Ba m (mapK (·.1) vs) vs),.box (CP x)]⟩ AS ?_;refine Ff (n:=26) (undef,undef,0,undef) (λ(i:cC×cC×Nat×cC) (b:Nat->Bool)=>⟨.any::.lit (.map (jY m))::A3 (.ptr 1 0::.bs Dk l::.lit (.int .i64 (l.length:Int))::.lit (.int .i64 (k:Int))::A3 [(bif b 0 then .lit (.map (jY m))else .any),(bif b 1 then .ptr 1 0 else .any),(bif b 2 then .lit (.int .i64 x.a)else .any),(bif b 3 then .lit (.map (jY m))else .any),(bif b 4 then .ptr 1 1 else .any),(bif b 5 then .lit (.int .i64 x.b)else .any),(bif b 6 then .lit (.map (jY m))else .any),(bif b 7 then .ptr 1 0 else .any),(bif b 8 then .lit (.int .i64 x.a)else .any),(bif b 9 then .lit ((getK (mapK (·.1) vs) x.a).getD (.slice jX 0 0))else .any),(bif b 10 then .ptr 1 1 else .any),(bif b 11 then .lit (.int .i64 x.b)else .any),(bif b 12 then .bs tInt [x.b]else .any),(bif b 13 then .lit i.1 else .any),(bif b 14 then .lit (.map (jY m))else .any),(bif b 15 then .ptr 1 1 else .any),(bif b 16 then .lit (.int .i64 x.b)else .any),(bif b 17 then .lit ((getK (mapK (·.1) vs) x.b).getD (.slice jX 0 0))else .any),(bif b 18 then .ptr 1 0 else .any),(bif b 19 then .lit (.int .i64 x.a)else .any),(bif b 20 then .bs tInt [x.a]else .any),(bif b 21 then .lit i.2.1 else .any),(bif b 22 then .lit (.tuple #[i.2.2.2,goInt i.2.2.1])else .any),(bif b 23 then .lit (goInt i.2.2.1)else .any),.any]),[(bif b 25 then(g8 (Ba m (B7 (B7 (mapK (·.1) vs) x.a i.1) x.b i.2.1) (B7 (B7 vs x.a (i.1,((getK (mapK (·.2) vs) x.a).getD [])++[x.b])) x.b (i.2.1,((getK (mapK (·.2) vs) x.b).getD [])++[x.a]))))else(bif b 24 then(g8 (Ba m (B7 (mapK (·.1) vs) x.a i.1) (B7 (B7 vs x.a (i.1,((getK (mapK (·.2) vs) x.a).getD [])++[x.b])) x.b (i.2.1,((getK (mapK (·.2) vs) x.b).getD [])++[x.a]))))else(bif b 22 then(g8 (Akm m (mapK (·.1) vs) (B7 (B7 vs x.a (i.1,((getK (mapK (·.2) vs) x.a).getD [])++[x.b])) x.b (i.2.1,((getK (mapK (·.2) vs) x.b).getD [])++[x.a])) 77 x.a i.2.2.1))else(bif b 21 then(g8 (Ba m (mapK (·.1) vs) (B7 (B7 vs x.a (i.1,((getK (mapK (·.2) vs) x.a).getD [])++[x.b])) x.b (i.2.1,((getK (mapK (·.2) vs) x.b).getD [])++[x.a]))))else(bif b 13 then(g8 (Ba m (mapK (·.1) vs) (B7 vs x.a (i.1,((getK (mapK (·.2) vs) x.a).getD [])++[x.b]))))else .res (Ba m (mapK (·.1) vs) vs)))))),.box (CP x)]⟩) ?_ ?_ ?_ ?_ ?_
  ·rfl
  ·kernel_rfl
  ·kernel_rfl
  ·refine AK (λi b c a hc=>?_) ?_
   ·try dsimp only
    refine AX (AT.move V GP) ?_;exact⟨i,jA⟩
   refine AK (λi b c a hc=>?_) ?_
   ·try dsimp only
    refine AX (Br V Fq V) ?_;exact⟨i,jA⟩
   refine AK (λi b c a hc=>?_) ?_
   ·have h1:b 1=aZ:=a 0 _ V V;try dsimp only
    refine AX (Bf V ((Ao Fq).trans (BJ h1 _ _)) V V) ?_;exact⟨i,jA⟩
   refine AK (λi b c a hc=>?_) ?_
   ·try dsimp only
    refine AX (AT.move V GP) ?_;exact⟨i,jA⟩
   refine AK (λi b c a hc=>?_) ?_
   ·try dsimp only
    refine AX (Br V Fq V) ?_;exact⟨i,jA⟩
   refine AK (λi b c a hc=>?_) ?_
   ·have h4:b 4=aZ:=a 0 _ V V;try dsimp only
    refine AX (Bf V ((Ao (Ao IG)).trans (BJ h4 _ _)) V V) ?_;exact⟨i,jA⟩
   refine AK (λi b c a hc=>?_) ?_
   ·try dsimp only
    refine AX (AT.move V GP) ?_;exact⟨i,jA⟩
   refine AK (λi b c a hc=>?_) ?_
   ·try dsimp only
    refine AX (Br V Fq V) ?_;exact⟨i,jA⟩
   refine AK (λi b c a hc=>?_) ?_
   ·have h7:b 7=aZ:=a 0 _ V V;try dsimp only
    refine AX (Bf V ((Ao (Ao FF)).trans (BJ h7 _ _)) V V) ?_;exact⟨i,jA⟩
   refine AK (λi b c a hc=>?_) ?_
   ·have h6:b 6=aZ:=a 0 _ V V;have h8:b 8=aZ:=a 1 _ V V;have O:b 13=aL:=AW hc (i:=9) (j:=13) (k:=0) V V V V c;have s:b 22=aL:=AW hc (i:=13) (j:=22) (k:=16) V V V V O;have f:b 24=aL:=AW hc (i:=9) (j:=24) (k:=13) V V V V c;have d:b 25=aL:=AW hc (i:=9) (j:=25) (k:=13) V V V V c;try dsimp only
    refine AX (KV (u:=((getK (mapK (·.1) vs) x.a).getD (.slice jX 0 0))) 0 V bZ ((Ao (Ao FG)).trans (BJ h6 _ _)) ((Ao (Ao GO)).trans (BJ h8 _ _)) N (mr3 s f d) V) ?_;exact⟨i,jA⟩
   refine AK (λi b c a hc=>?_) ?_
   ·try dsimp only
    refine AX (Br V Fq V) ?_;exact⟨i,jA⟩
   refine AK (λi b c a hc=>?_) ?_
   ·have au:b 10=aZ:=a 0 _ V V;try dsimp only
    refine AX (Bf V ((Ao (Ao Iy)).trans (BJ au _ _)) V V) ?_;exact⟨i,jA⟩
   refine AK (λi b c a hc=>?_) ?_
   ·have ar:b 11=aZ:=a 0 _ V V;try dsimp only
    refine AX (Cg (T:=tInt) V V V (by rfl) (by decide) (Fit.of_eq ((Ao (Ao Hd)).trans (BJ ar _ _)) (Fit.int L))) ?_;exact⟨i,jA⟩
   refine AK (λi b c a hc=>?_) ?_
   ·have h9:b 9=aZ:=a 0 _ V V;have aq:b 12=aZ:=a 1 _ V V;have d:b 25=aL:=AW hc (i:=13) (j:=25) (k:=17) V V V V c;have f:b 24=aL:=AW hc (i:=13) (j:=24) (k:=2) V V V V c;have s:b 22=aL:=AW hc (i:=13) (j:=22) (k:=16) V V V V c;have F:b 21=aL:=AW hc (i:=13) (j:=21) (k:=2) V V V V c;have B:b 23=aL:=AW hc (i:=22) (j:=23) (k:=0) V V V V s;have ae:upd b 13 21=aL:=F;have W:upd b 13 22=aL:=s;have I:upd b 13 24=aL:=f;have D:upd b 13 25=aL:=d;have J:upd b 13 23=aL:=B;try dsimp only
    refine Qa (k:=x.a) 0 V V ((Ao (Ao Fq)).trans (BJ h9 _ _)) (congrArg jY (((((CT d _ _).trans (CT f _ _)).trans (CT s _ _)).trans (CT F _ _)).trans (CT c _ _))) ((Ao (Ao (Ao IG))).trans (BJ aq _ _)) N (Afi vs x.a) ag λv=>?_
    refine⟨(v,i.2),?_⟩;simp only[F,ae,cond_false,s,W,cond_false,B,J,cond_false,f,I,cond_false,d,D,cond_false];exact jA
   refine AK (λi b c a hc=>?_) ?_
   ·try dsimp only
    refine AX (AT.move V GP) ?_;exact⟨i,jA⟩
   refine AK (λi b c a hc=>?_) ?_
   ·try dsimp only
    refine AX (Br V Fq V) ?_;exact⟨i,jA⟩
   refine AK (λi b c a hc=>?_) ?_
   ·have ao:b 15=aZ:=a 0 _ V V;try dsimp only
    refine AX (Bf V ((Ao (Ao (Ao FF))).trans (BJ ao _ _)) V V) ?_;exact⟨i,jA⟩
   refine AK (λi b c a hc=>?_) ?_
   ·have ap:b 14=aZ:=a 0 _ V V;have an:b 16=aZ:=a 1 _ V V;have s:b 22=aL:=AW hc (i:=17) (j:=22) (k:=20) V V V V c;have f:b 24=aL:=AW hc (i:=17) (j:=24) (k:=21) V V V V c;have d:b 25=aL:=AW hc (i:=17) (j:=25) (k:=21) V V V V c;try dsimp only
    refine AX (KV (u:=((getK (mapK (·.1) vs) x.b).getD (.slice jX 0 0))) 0 V bZ ((Ao (Ao (Ao FG))).trans (BJ ap _ _)) ((Ao (Ao (Ao GO))).trans (BJ an _ _)) L (mr3 s f d) V) ?_;exact⟨i,jA⟩
   refine AK (λi b c a hc=>?_) ?_
   ·try dsimp only
    refine AX (Br V Fq V) ?_;exact⟨i,jA⟩
   refine AK (λi b c a hc=>?_) ?_
   ·have al:b 18=aZ:=a 0 _ V V;try dsimp only
    refine AX (Bf V ((Ao (Ao (Ao Iy))).trans (BJ al _ _)) V V) ?_;exact⟨i,jA⟩
   refine AK (λi b c a hc=>?_) ?_
   ·have ak:b 19=aZ:=a 0 _ V V;try dsimp only
    refine AX (Cg (T:=tInt) V V V (by rfl) (by decide) (Fit.of_eq ((Ao (Ao (Ao Hd))).trans (BJ ak _ _)) (Fit.int N))) ?_;exact⟨i,jA⟩
   refine AK (λi b c a hc=>?_) ?_
   ·have am:b 17=aZ:=a 0 _ V V;have aj:b 20=aZ:=a 1 _ V V;have d:b 25=aL:=AW hc (i:=21) (j:=25) (k:=2) V V V V c;have f:b 24=aL:=AW hc (i:=21) (j:=24) (k:=25) V V V V c;have s:b 22=aL:=AW hc (i:=21) (j:=22) (k:=2) V V V V c;have O:b 13=aZ:=a 2 _ V V;have B:b 23=aL:=AW hc (i:=22) (j:=23) (k:=0) V V V V s;have W:upd b 21 22=aL:=s;have I:upd b 21 24=aL:=f;have D:upd b 21 25=aL:=d;have J:upd b 21 23=aL:=B;try dsimp only
    refine Qa (k:=x.b) 0 V V ((Ao (Ao (Ao Fq))).trans (BJ am _ _)) (congrArg jY (((((CT d _ _).trans (CT f _ _)).trans (CT s _ _)).trans (CT c _ _)).trans (Sp O _ _))) ((As IG).trans (BJ aj _ _)) L ((congrArg (λq=>Option.getD q (.slice jX 0 0,[])) (Aqr ad ai _)).trans (Afi vs x.b)) af λv=>?_
    refine⟨(i.1,v,i.2.2),?_⟩;simp only[s,W,cond_false,B,J,cond_false,f,I,cond_false,d,D,cond_false];exact jA
   refine AK (λi b c a hc=>?_) ?_
   ·have h0:b 0=aZ:=a 0 _ V V;have h2:b 2=aZ:=a 1 _ V V;have d:b 25=aL:=AW hc (i:=22) (j:=25) (k:=26) V V V V c;have f:b 24=aL:=AW hc (i:=22) (j:=24) (k:=3) V V V V c;have F:b 21=aZ:=a 2 _ V V;have B:b 23=aL:=AW hc (i:=22) (j:=23) (k:=0) V V V V c;have I:upd b 22 24=aL:=f;have D:upd b 22 25=aL:=d;have J:upd b 22 23=aL:=B;try dsimp only
    refine Air 0 V bZ ((Ao GO).trans (BJ h0 _ _)) ((Ao Iy).trans (BJ h2 _ _)) N ah (congrArg jY ((((CT d _ _).trans (CT f _ _)).trans (CT c _ _)).trans (Sp F _ _))) λv st=>?_
    refine⟨(i.1,i.2.1,st,v),?_⟩;simp only[B,J,cond_false,f,I,cond_false,d,D,cond_false];exact jA
   refine AK (λi b c a hc=>?_) ?_
   ·have s:b 22=aZ:=a 0 _ V V;try dsimp only
    refine AX (BT V ((As FG).trans (BJ s _ _)) V) ?_;exact⟨i,jA⟩
   refine AK (λi b c a hc=>?_) ?_
   ·have h0:b 0=aZ:=a 0 _ V V;have O:b 13=aZ:=a 2 _ V V;have B:b 23=aZ:=a 1 _ V V;have d:b 25=aL:=AW hc (i:=24) (j:=25) (k:=3) V V V V c;have s:b 22=aZ:=a 3 _ V V;have D:upd b 24 25=aL:=d;try dsimp only
    refine Aiq 0 V ((Ao GO).trans (BJ h0 _ _)) ((As FF).trans (BJ B _ _)) ((Ao (Ao (Ao GP))).trans (BJ O _ _)) (congrArg jY (((CT d _ _).trans (CT c _ _)).trans (Sp s _ _))) ?_;refine⟨i,?_⟩;simp only[d,D,cond_false];exact jA
   refine AK (λi b c a hc=>?_) ?_
   ·have h3:b 3=aZ:=a 0 _ V V;have h5:b 5=aZ:=a 1 _ V V;have F:b 21=aZ:=a 2 _ V V;have f:b 24=aZ:=a 3 _ V V;try dsimp only
    refine VG 0 V bZ ((Ao Hd).trans (BJ h3 _ _)) ((Ao (Ao GP)).trans (BJ h5 _ _)) ((As GP).trans (BJ F _ _)) L (ac _) (congrArg jY ((CT c _ _).trans (Sp f _ _))) ?_;refine⟨i,?_⟩;exact jA
   exact No
  intro i;refine qVia ⟨.any::.lit (.map (jY m))::A3 (.ptr 1 0::.bs Dk l::.lit (.int .i64 (l.length:Int))::.lit (.int .i64 (k:Int))::A3 [.lit (.map (jY m)),.ptr 1 0,.lit (.int .i64 x.a),.lit (.map (jY m)),.ptr 1 1,.lit (.int .i64 x.b),.lit (.map (jY m)),.ptr 1 0,.lit (.int .i64 x.a),.lit ((getK (mapK (·.1) vs) x.a).getD (.slice jX 0 0)),.ptr 1 1,.lit (.int .i64 x.b),.bs tInt [x.b],.lit i.1,.lit (.map (jY m)),.ptr 1 1,.lit (.int .i64 x.b),.lit ((getK (mapK (·.1) vs) x.b).getD (.slice jX 0 0)),.ptr 1 0,.lit (.int .i64 x.a),.bs tInt [x.a],.lit i.2.1,.lit (.tuple #[i.2.2.2,goInt i.2.2.1]),.lit (goInt i.2.2.1),.any]),[.res (Ba m (B7 (B7 (mapK (·.1) vs) x.a i.1) x.b i.2.1) (B7 (B7 vs x.a (i.1,((getK (mapK (·.2) vs) x.a).getD [])++[x.b])) x.b (i.2.1,((getK (mapK (·.2) vs) x.b).getD [])++[x.a]))),.box (CP x)]⟩ V ?_;refine h6 _ ?_;refine nT ?_;refine AE ⟨(.any::.lit (.map (jY m))::A4 (.bs Dk l::.lit (.int .i64 (l.length:Int))::.lit (.int .i64 (k:Int))::A20 (A8 []))),[.res (Ba m (mapK (·.1) (B7 (B7 vs x.a (i.1,((getK (mapK (·.2) vs) x.a).getD [])++[x.b])) x.b (i.2.1,((getK (mapK (·.2) vs) x.b).getD [])++[x.a]))) (B7 (B7 vs x.a (i.1,((getK (mapK (·.2) vs) x.a).getD [])++[x.b])) x.b (i.2.1,((getK (mapK (·.2) vs) x.b).getD [])++[x.a])))]⟩ (by rw[Gs,Gs];exact Ki (.cons (iE _))) ?_;refine wRE ?_;refine An ⟨(k+1,B7 (B7 vs x.a (i.1,((getK (mapK (·.2) vs) x.a).getD [])++[x.b])) x.b (i.2.1,((getK (mapK (·.2) vs) x.b).getD [])++[x.a])),⟨aa,(U.put N _).put L _,?_⟩,by show l.length - (k+1) < l.length - k;omega,AS⟩;dsimp only;rw[Gs,Gs,Abf hx,Z];rfl
 ·obtain rfl:k=l.length:=by have:¬k < l.length:=(by simpa using Y);omega
  refine Ay ?_;exact⟨.inl V,⟨vs,by rw[Z,gW]⟩,rfl,rfl⟩
end Mu
namespace Mu
open Go Go.RowKit Go.Proofs
def RU(leaf:Bool):Int:=if leaf then 8 else 24
def Ahz(own:Int)(n:Nat):List iJ:=(gJ n).map λ(r:Nat)=>⟨(r:Int),own+(r:Int)⟩
def MV(l:List Int)(k:Nat):List iJ:=(gJ k).map λ(j:Nat)=>⟨l.getD j 0,8+(j:Int)⟩
def EH(own:Int)(x:Ins):List iJ:=if x.op ==10 then [⟨x.a,own⟩]else if x.op ==5 then⟨x.d,8⟩::MV x.args (x.args.take 6).length else []
def Jd(own:Int)(b:iB):List iJ:=b.ins.flatMap (EH own)
def B8(f:iI)(leaf:Bool):List iJ:=Ahz (RU leaf) (argsK f)++f.blocks.flatMap (Jd (RU leaf))
theorem Ahy(own:Int)(n:Nat):Ahz own (n+1)=Ahz own n++[⟨(n:Int),own+(n:Int)⟩]:=by unfold Ahz;rw[gO,fC];rfl
theorem SB(own:Int)(n:Nat):(Ahz own n).length=n:=by simp[Ahz]
theorem Abe{l:List Int}{k:Nat}{a:Int}(h:l[k]? =jY a):MV l (k+1)=MV l k++[⟨a,8+(k:Int)⟩]:=by
 unfold MV;rw[gO,fC];simp only[fD,fF,eB,h,Option.getD_some]
theorem U1(l:List Int)(k:Nat):(MV l k).length=k:=by simp[MV]
theorem Agf(own:Int)(x:Ins):(EH own x).length<=7:=by
 unfold EH;split
 ·simp
 ·split
  ·rw[eU,U1,fB];omega
  ·simp
theorem Aah(own:Int)(l:List Ins):(l.flatMap (EH own)).length<=7 * l.length:=by
 induction l with
 |nil=>simp
 |cons x l a=>
  have:=Agf own x;rw[dX,eT,eU];omega
def Rk(f:iI):List Ins:=f.blocks.flatMap (·.ins)
theorem Z8(own:Int)(f:iI):(f.blocks.flatMap (Jd own)).length<=7 *(Rk f).length:=by
 have:=Aah own (Rk f);unfold Rk at *;rw[List.flatMap_assoc]at this;exact this
theorem Z7(f:iI)(leaf:Bool)(ho:okFunc f)(hs:smallF f)(hI:(Rk f).length<=2097152):Fn bY 51 [.agg (Ak f),.lit (.bool leaf)] (.bs Gg (B8 f leaf)):=by
 have cf:=hs.blocks;have cd:=(Gz f).2;refine AQ Tryz.func51 V (by kernel_rfl) V Tryz.ntmps51 λC hC=>?_
 refine nS ?_;refine rCS ?_;refine rCS ?_;refine Ab λK3 h3=>?_
 have ac:∀s':St,St.le C s' ⟨(A2 (.ptr 0 0::A2 (.lit (.int .i64 (RU leaf))::A80 []))),[.box (Ak f)]⟩->K3 s':=by
  intro s' an;refine h3 _ (AE _ an ?_);have ay:8<=RU leaf/\RU leaf<=24:=by unfold RU;split <;> omega
  have aa:∀j:Nat,j<=6->wfI .i64 (RU leaf+(j:Int)):=λj hj=>by
   have:wfI .i64 (((RU leaf).toNat+j:Nat):Int):=LK (by omega);rwa [show(((RU leaf).toNat+j:Nat):Int)=RU leaf+(j:Int)by omega]at this
  have O:wfI .i64 (RU leaf):=by have:=aa 0 (by omega);rwa [show RU leaf+((0:Nat):Int)=RU leaf by omega]at this
  have ae:=Z8 (RU leaf) f;generalize ah:RU leaf=own at ay aa O ae;have ap:B8 f leaf=Ahz own (argsK f)++f.blocks.flatMap (Jd own):=by unfold B8;rw[ah]
  rw[ap];have w8:wfI .i64 8:=(by decide:(Lit.int .i64 (8:Int)).wf=aZ)
  refine rCS ?_;refine Ab λK7 h7=>?_
  refine Ab λK8 h8=>?_
  (refine iA ?_;(repeat(first|refine sQ ?_ (AT.call V (Vg f) V V V)|refine sQ ?_ (Ax V V V V)|refine sQ ?_ (Av V V V V)|refine sQ ?_|refine AM ?_|refine sG ?_|refine Bp ?_));refine Au ?_)
  refine h8 _ ?_;refine nT ?_;refine Ac ?_;refine AB (λp:Nat×Nat=>⟨(A2 (.ptr 0 0::A2 (.lit (.int .i64 own)::.own 1 p.2::A9 (.lit (.int .i64 (argsK f:Int))::.lit (.int .i64 (p.1:Int))::A40 (A20 (A8 [])))))),[.box (Ak f),.row p.2 84 Gg (Ahz own p.1)]⟩) (λp=>p.1<=argsK f) (λp=>argsK f - p.1) (0,0) (jS _) ((Cz 6 84 Gg V (by decide)).trans (BU)) ?_;rintro⟨k,ver⟩ hk
  (try dsimp only at hk);(try dsimp only)
  refine rCS ?_;refine Ab λcw bx=>?_
  refine Ag V (λJ=>?_) (λJ=>?_)
  ·have am:k < argsK f:=by simpa using J
   have hw:=LK (k:=k) (by omega);have av:=aa k (by omega);have L:=SB own k;have af:=Ahy own k;generalize bj:Ahz own k=L0 at L af⊢;have aj:L0.length+ [(⟨(k:Int),own+(k:Int)⟩:iJ)].length<=cM:=by simp[cM];omega
   have ai:(L0.length+ [(⟨(k:Int),own+(k:Int)⟩:iJ)].length) * 16<=140737488355328:=by simp;omega
   refine Al ?_;refine bx _ ?_;refine nT ?_;refine Ab λcu bw=>?_
   refine Ac ?_;refine rCS ?_
   (refine iA ?_;(repeat(first|refine sQ ?_ (Md (rs:=[.lit (.int .i64 (k:Int)),.lit (.int .i64 (own+(k:Int)))]) V XX V V)|refine sQ ?_ (Cg (T:=Gg) V V V (by rfl) (by decide) (Ob hw av))|refine sQ ?_ (Ax V V V V)|refine sQ ?_ (Av V V V V)|refine sQ ?_|refine AM ?_|refine sG ?_|refine Bp ?_));refine Au ?_)
   refine bw _ ?_;refine nT ?_;refine rC ?_;refine An ⟨(k+1,ver+1),by dsimp only;omega,by dsimp only;omega,?_⟩;try dsimp only
   rw[af];exact BU
  ·have bb:k=argsK f:=by
    have:¬k < argsK f:=by simpa using J
    omega
   subst bb;have L:=SB own (argsK f);generalize bk:Ahz own (argsK f)=A0 at L⊢;refine Ay ?_;refine h7 _ ?_;refine nT ?_;refine Ab λct bv=>?_
   refine rCS ?_;refine Ac ?_;refine AB (λp:Nat×Nat=>⟨(A2 (.ptr 0 0::A2 (.lit (.int .i64 own)::.own 1 p.2::A20 (A3 (.bs Cw f.blocks::.lit (.int .i64 (f.blocks.length:Int))::.lit (.int .i64 (p.1:Int))::A40 (A10 (A3 []))))))),[.box (Ak f),.row p.2 84 Gg (A0++(f.blocks.take p.1).flatMap (Jd own))]⟩) (λp=>p.1<=f.blocks.length) (λp=>f.blocks.length - p.1) (0,ver) (jS _) (by rw[show A0++(f.blocks.take (0,ver).1).flatMap (Jd own)=A0 by simp];exact BU) ?_;rintro⟨b,ver⟩ hb
   (try dsimp only at hb);(try dsimp only)
   refine rCS ?_;refine Ab λcs bu=>?_
   refine Ag V (λI=>?_) (λI=>?_)
   ·have am:b < f.blocks.length:=by simpa using I
    obtain⟨d,v⟩:∃d,f.blocks[b]? =jY d:=⟨_,eE am⟩
    have N:=fR v;have az:=ho.blocks d N;have ag:=hs.all d N;have ce:=ag.ins;have bg:=Dq (g:=Jd own) v;refine Al ?_;refine bu _ ?_;refine nT ?_;refine Ab λcr bt=>?_
    refine Ac ?_;refine rCS ?_;refine rCS ?_;refine Ac ?_;refine AB (λp:Nat×Nat=>⟨(A2 (.ptr 0 0::A2 (.lit (.int .i64 own)::.own 1 p.2::A20 (A3 (.bs Cw f.blocks::.lit (.int .i64 (f.blocks.length:Int))::.lit (.int .i64 (b:Int))::A4 (.bs Ei d.ins::.lit (.int .i64 (d.ins.length:Int))::.lit (.int .i64 (p.1:Int))::A40 (A6 []))))))),[.box (Ak f),.row p.2 84 Gg (A0++(f.blocks.take b).flatMap (Jd own)++(d.ins.take p.1).flatMap (EH own))]⟩) (λp=>p.1<=d.ins.length) (λp=>d.ins.length - p.1) (0,ver) (jS _) (by rw[show A0++(f.blocks.take b).flatMap (Jd own)++(d.ins.take (0,ver).1).flatMap (EH own)=A0++(f.blocks.take b).flatMap (Jd own)by simp];exact Ki (.cons (.cons (iE _)))) ?_;rintro⟨i,ver⟩ hi
    (try dsimp only at hi);(try dsimp only)
    refine rCS ?_;refine Ab λcq br=>?_
    refine Ag V (λF=>?_) (λF=>?_)
    ·have ao:i < d.ins.length:=by simpa using F
     obtain⟨x,hx⟩:∃x,d.ins[i]? =jY x:=⟨_,eE ao⟩
     have ad:=fR hx;have U:=az.ins x ad;have bz:x.args.length<=2097152:=by have:=ag.all x ad;omega
     have au:=Dq (g:=EH own) hx;have an:=Sl (g:=EH own) v hx;have cg:(f.blocks.flatMap λc=>c.ins.flatMap (EH own)).length<=14680064:=by
      have:(f.blocks.flatMap λc=>c.ins.flatMap (EH own))=f.blocks.flatMap (Jd own):=rfl;rw[this];omega
     have hL:(A0++(f.blocks.take b).flatMap (Jd own)++(d.ins.take i).flatMap (EH own)).length+(EH own x).length<=14680070:=by
      rw[eT,eT,L];have:((f.blocks.take b).flatMap (Jd own)).length=((f.blocks.take b).flatMap λc=>c.ins.flatMap (EH own)).length:=rfl;omega
     have q:A0++(f.blocks.take b).flatMap (Jd own)++(d.ins.take (i+1)).flatMap (EH own)=(A0++(f.blocks.take b).flatMap (Jd own)++(d.ins.take i).flatMap (EH own))++EH own x:=by rw[au,cZ _ _ (EH own x)]
     generalize bj:A0++(f.blocks.take b).flatMap (Jd own)++(d.ins.take i).flatMap (EH own)=L0 at hL q⊢;have ci:L0.length<=14680070:=by omega
     refine Al ?_;refine br _ ?_;refine nT ?_;refine Ab λcp ab=>?_
     refine Ac ?_;refine rCS ?_;refine rCS ?_;refine Ac ?_;refine rCS ?_;refine Ag V (λs=>?_) (λs=>?_)
     ·have e:EH own x= [⟨x.a,own⟩]:=by unfold EH;rw[if_pos s]
      have aj:L0.length+ [(⟨x.a,own⟩:iJ)].length<=cM:=by simp[cM];omega
      have ai:(L0.length+ [(⟨x.a,own⟩:iJ)].length) * 16<=140737488355328:=by simp;omega
      (refine iA ?_;(repeat(first|refine sQ ?_ (Md (rs:=[.lit (.int .i64 x.a),.lit (.int .i64 own)]) V XX V V)|refine sQ ?_ (Cg (T:=Gg) V V V (by rfl) (by decide) (Ob U.a O))|refine sQ ?_ (Ax V V V V)|refine sQ ?_ (Av V V V V)|refine sQ ?_|refine AM ?_|refine sG ?_|refine Bp ?_));refine Au ?_)
      refine ab _ ?_;refine nT ?_;refine rC ?_;refine An ⟨(i+1,ver+1),by dsimp only;omega,by dsimp only;omega,?_⟩;try dsimp only
      rw[q,e];exact Ki (.cons (.cons (iE _)))
     ·refine rCS ?_;refine Ag V (λD=>?_) (λD=>?_)
      ·have e:EH own x=⟨x.d,8⟩::MV x.args (x.args.take 6).length:=by unfold EH;rw[if_neg (by rw[s];simp),if_pos D]
       have aj:L0.length+ [(⟨x.d,8⟩:iJ)].length<=cM:=by simp[cM];omega
       have ai:(L0.length+ [(⟨x.d,8⟩:iJ)].length) * 16<=140737488355328:=by simp;omega
       refine Ab λco bq=>?_
       (refine iA ?_;(repeat(first|refine sQ ?_ (Md (rs:=[.lit (.int .i64 x.d),.lit (.int .i64 8)]) V XX V V)|refine sQ ?_ (Cg (T:=Gg) V V V (by rfl) (by decide) (Ob U.d w8))|refine sQ ?_ (Ax V V V V)|refine sQ ?_ (Av V V V V)|refine sQ ?_|refine AM ?_|refine sG ?_|refine Bp ?_));refine Au ?_)
       refine bq _ ?_;refine nT ?_;refine Ab λcn bo=>?_
       have al:(if(6:Int) < (x.args.length:Int)then(6:Int)else(x.args.length:Int))=((x.args.take 6).length:Int):=by rw[fB];split <;> omega
       have ak:(x.args.take 6).length<=x.args.length:=by rw[fB];omega
       have ba:(x.args.take 6).length<=6:=by rw[fB];omega
       (refine iA ?_;(repeat(first|refine sQ ?_ (PQ (l:=0) (m:=(x.args.take 6).length) V V V V ⟨_,congrArg (λz=>AV.lit (cD .i64 z)) al⟩ (jS _) ak)|refine sQ ?_ (Ax V V V V)|refine sQ ?_ (Av V V V V)|refine sQ ?_|refine AM ?_|refine sG ?_|refine Bp ?_));refine Au ?_)
       have Y:((x.args.take (x.args.take 6).length).drop 0).length=(x.args.take 6).length:=by rw[List.length_drop,fB];omega
       have Z:∀j,j < (x.args.take 6).length->((x.args.take (x.args.take 6).length).drop 0)[j]? =x.args[j]?:=λj hj=>by rw[dI,List.getElem?_take_of_lt hj]
       generalize cc:(x.args.take 6).length=m at ak ba Y Z e⊢;generalize ch:(x.args.take m).drop 0=S at Y Z⊢;refine bo _ ?_;refine nT ?_;refine Ac ?_;refine AB (λp:Nat×Nat=>⟨(A2 (.ptr 0 0::A2 (.lit (.int .i64 own)::.own 1 p.2::A20 (A3 (.bs Cw f.blocks::.lit (.int .i64 (f.blocks.length:Int))::.lit (.int .i64 (b:Int))::A4 (.bs Ei d.ins::.lit (.int .i64 (d.ins.length:Int))::.lit (.int .i64 (i:Int))::A20 (A8 (.bs tInt S::.lit (.int .i64 (S.length:Int))::.lit (.int .i64 (p.1:Int))::A10 (A5 []))))))))),[.box (Ak f),.row p.2 84 Gg (L0++[⟨x.d,8⟩]++MV x.args p.1)]⟩) (λp=>p.1<=S.length) (λp=>S.length - p.1) (0,ver+1) (jS _) (by rw[show L0++[⟨x.d,8⟩]++MV x.args (0,ver+1).1=L0++[⟨x.d,8⟩]by simp[MV]];exact Ki (.cons (.cons (iE _)))) ?_;rintro⟨j,ver⟩ hj
       (try dsimp only at hj);(try dsimp only)
       refine rCS ?_;refine Ab λcm bn=>?_
       refine Ag V (λB=>?_) (λB=>?_)
       ·have bc:j < S.length:=by simpa using B
        obtain⟨a,ha⟩:∃a,S[j]? =jY a:=⟨_,eE bc⟩
        have ar:x.args[j]? =jY a:=by rw[<-Z j (by omega)];exact ha
        have aw:=U.args a (fR ar);have ax:wfI .i64 (8+(j:Int)):=by
         have:wfI .i64 ((8+j:Nat):Int):=LK (by omega);rwa [show((8+j:Nat):Int)=8+(j:Int)by omega]at this
        have aq:=Abe ar;have bh:=U1 x.args j;generalize cj:MV x.args j=C0 at aq bh⊢;have cb:(L0++[(⟨x.d,8⟩:iJ)]++C0).length+ [(⟨a,8+(j:Int)⟩:iJ)].length<=cM:=by simp[cM];omega
        have ca:((L0++[(⟨x.d,8⟩:iJ)]++C0).length+ [(⟨a,8+(j:Int)⟩:iJ)].length) * 16<=140737488355328:=by simp;omega
        refine Al ?_;refine bn _ ?_;refine nT ?_;refine Ab λck bm=>?_
        refine Ac ?_;refine rCS ?_
        (refine iA ?_;(repeat(first|refine sQ ?_ (Md (rs:=[.lit (.int .i64 a),.lit (.int .i64 (8+(j:Int)))]) V XX V V)|refine sQ ?_ (Cg (T:=Gg) V V V (by rfl) (by decide) (Ob aw ax))|refine sQ ?_ (Ax V V V V)|refine sQ ?_ (Av V V V V)|refine sQ ?_|refine AM ?_|refine sG ?_|refine Bp ?_));refine Au ?_)
        refine bm _ ?_;refine nT ?_;refine rC ?_;refine An ⟨(j+1,ver+1),by dsimp only;omega,by dsimp only;omega,?_⟩;try dsimp only
        rw[aq,<-cZ];exact BU
       ·have be:j=S.length:=by
         have:¬j < S.length:=by simpa using B
         omega
        subst be;refine Ay ?_;refine ab _ ?_;refine nT ?_;refine rC ?_;refine An ⟨(i+1,ver),by dsimp only;omega,by dsimp only;omega,?_⟩;try dsimp only
        rw[q,e,Y,cZ L0];exact BU
      ·have e:EH own x= []:=by unfold EH;rw[if_neg (by rw[s];simp),if_neg (by rw[D];simp)]
       refine Al ?_;refine ab _ ?_;refine nT ?_;refine rC ?_;refine An ⟨(i+1,ver),by dsimp only;omega,by dsimp only;omega,?_⟩;try dsimp only
       rw[q,e,dB];exact Ki (.cons (.cons (iE _)))
    ·have bf:i=d.ins.length:=by
      have:¬i < d.ins.length:=by simpa using F
      omega
     subst bf;rw[gW];refine Ay ?_;refine bt _ ?_;refine nT ?_;refine rC ?_;refine An ⟨(b+1,ver),by dsimp only;omega,by dsimp only;omega,?_⟩;try dsimp only
     rw[bg,<-cZ];exact BU
   ·have bi:b=f.blocks.length:=by
     have:¬b < f.blocks.length:=by simpa using I
     omega
    subst bi;rw[gW];refine Ay ?_;refine bv _ ?_;refine nT ?_;refine rCS ?_;refine Aw ?_;subst bk;exact⟨.inr V,Fin.own V⟩
 refine rCS ?_;refine Ag V (λW=>?_) (λW=>?_)
 ·subst W;refine rC ?_;refine ac _ ?_;exact BU
 ·subst W;refine Al ?_;refine ac _ ?_;exact BU
open Go.Maps
def clsE(z:List (Int×List Int)):List (Int×List Int):=z.foldl (λE p=>B7 E p.1 p.2) []
def NH(E:List (Int×List Int))(h:iJ):List (Int×List Int):=B7 E h.r (((getK E h.r).getD [])++[h.at_])
def NO(l:List iJ):List (Int×List Int):=l.foldl NH []
def Ct(f:iI)(leaf:Bool)(ch:List Int):iC:=⟨regsB f,clsE ((regsB f).zip (CD f leaf (regsB f))),L8 (CC f),NO (B8 f leaf),L8 (mvL f),ch⟩
theorem Ahi{z:List (Int×List Int)}{k:Nat}{p:Int×List Int}(h:z[k]? =jY p):clsE (z.take (k+1))=B7 (clsE (z.take k)) p.1 p.2:=by
 unfold clsE;rw[gV,h];simp[dY]
theorem Alw(z:List (Int×List Int)):(clsE z).length<=z.length:=by
 have:∀E:List (Int×List Int),(z.foldl (λE p=>B7 E p.1 p.2) E).length<=E.length+z.length:=by
  induction z with
  |nil=>intro E;simp
  |cons x l a=>
   intro E;rw[dZ,eU];have h1:=a (B7 E x.1 x.2);have h2:=EY (l:=E) x.1 x.2;omega
 have:=this [];simpa[clsE]using this
theorem Z9{l:List iJ}{k:Nat}{x:iJ}(h:l[k]? =jY x):NO (l.take (k+1))=NH (NO (l.take k)) x:=by
 unfold NO;rw[gV,h];simp[dY]
theorem Agg(l:List iJ):(NO l).length<=l.length:=by
 have:∀E:List (Int×List Int),(l.foldl NH E).length<=E.length+l.length:=by
  induction l with
  |nil=>intro E;simp
  |cons x l a=>
   intro E;rw[dZ,eU];have h1:=a (NH E x);have h2:=EY (l:=E) x.r (((getK E x.r).getD [])++[x.at_]);unfold NH at h1⊢;omega
 have:=this [];simpa[NO]using this
theorem Ur(l:List iJ)(k:Int):((getK (NO l) k).getD []).length<=l.length:=by
 have:∀E:List (Int×List Int),Eb E->((getK (l.foldl NH E) k).getD []).length<=((getK E k).getD []).length+l.length:=by
  induction l with
  |nil=>intro E _;simp
  |cons x l a=>
   intro E h;rw[dZ,eU];have h1:=a (NH E x) (h.put _ _);have h2:((getK (NH E x) k).getD []).length<=((getK E k).getD []).length+1:=by
    unfold NH;rw[BH h];by_cases e:k=x.r
    ·rw[if_pos e,e];simp
    ·rw[if_neg e];omega
   omega
 have:=this [] Eb.nil;simpa[NO,getK]using this
def Az2(E:List (Int×List Int)):{vs:List (Int×(cC×List Int)) // mapK (·.2) vs=E}:=⟨mapK (λl=>(undef,l)) E,by unfold mapK;rw[fE];exact(List.map_congr_left (g:=id) λ_ _=>rfl).trans (List.map_id E)⟩
theorem mr2{m:Nat}{cv:List (Int×cC)}{a b:Bool}{X Y:gZ}{c:List (Int×(cC×List Int))}(d:b=aL)(f:a=aL):
 ∃vs,(bif a then X else(bif b then Y else .res (Ba m cv c)))=g8 (Ba m cv vs):=by
 subst f d;exact⟨_,rfl⟩
theorem Aj3:Eq bY 79=jY [(0,1),(1,1),(2,1),(3,1),(4,1),(5,1)]:=by kernel_rfl
instance Axr:ZC bY 79 [.slice jX 0 0,.map jX,.map jX,.map jX,.map jX,.slice jX 0 0]:=⟨by kernel_rfl⟩
theorem Aad(f:iI)(leaf:Bool)(ch:List Int)(J:iH f)(hr:(regsB f).length<=1073741824)(bc:Fn bY 48 [.agg (Ak f)] (.bs tInt ch))(av:(CC f).length<=1073741824)(aq:(mvL f).length<=1073741824)(au:Aml (CC f))(ar:Aml (mvL f))
 (hI:(Rk f).length<=2097152)(bq:(B8 f leaf).length<=1073741824)(hh:∀x∈B8 f leaf,Ch x.r/\Ch x.at_)(an:∀r∈regsB f,Ch r):Fn bY 25 [.agg (Ak f),.lit (.bool leaf)] (.bp Bc (Ct f leaf ch) 0):=by
 have ad:=Lr f J.ok J.small J.all;have bb:=Nr f leaf J.ok J.small J.reads J.ins J.all;have ba:=YD f J.ok J.small J.reads J.all J.ins;have ay:=Akk f J.ok J.small J.reads J.all J.ins;have az:=Z7 f leaf J.ok J.small hI;refine AQ Tryz.func25 V (by kernel_rfl) V Tryz.ntmps25 λC hC=>?_
 simp only[Nat.reduceAdd,Nat.reduceSub,zaa];refine wR ?_;refine AE _ (Ho.trans (Ho.trans (Ho.trans (Ho.trans Ho)))) ?_;refine AE ⟨.agg (Ak f)::.lit (.bool leaf)::.ptr 0 0::.any::.lit (.pointer jX)::A80 (A3 []),[.box (Ak f),.res nilR,.res nilR,.res nilR,.res nilR,.res nilR]⟩ AS ?_;refine Ab λbr ap=>?_
 refine Ff (n:=11) (0,0,0,0,0) (λ(i:Nat×Nat×Nat×Nat×Nat) (b:Nat->Bool)=>⟨.agg (Ak f)::.lit (.bool leaf)::.ptr 0 0::.any::.lit (.pointer jX)::(bif b 10 then .lit (.pointer (jY ⟨i.2.2.2.2,0,jX⟩))else .any)::A6 ((bif b 0 then .agg (Ak f)else .any)::(bif b 1 then .bs tInt (regsB f)else .any)::(bif b 2 then .lit (.map (jY i.1))else .any)::(bif b 3 then .lit (.map (jY i.2.1))else .any)::(bif b 4 then .lit (.map (jY i.2.2.1))else .any)::(bif b 5 then .lit (.map (jY i.2.2.2.1))else .any)::(bif b 6 then .agg (Ak f)else .any)::(bif b 7 then .bs tInt ch else .any)::(bif b 8 then .agg [.bs tInt (regsB f),.lit (.map (jY i.1)),.lit (.map (jY i.2.1)),.lit (.map (jY i.2.2.1)),.lit (.map (jY i.2.2.2.1)),.bs tInt ch]else .any)::(bif b 9 then .lit (.pointer (jY ⟨i.2.2.2.2,0,jX⟩))else .any)::.any::.any::.any::.any::.any::.any::.any::.any::.any::.any::.any::.any::.any::.any::.any::.any::.any::.any::.any::.any::.any::.any::.any::.any::.any::.any::.any::.any::.any::.any::.any::.any::.any::.any::.any::.any::.any::.any::.any::.any::.any::.any::.any::.any::.any::.any::.any::.any::.any::.any::.any::.any::.any::.any::.any::.any::.any::.any::.any::.any::.any::.any::.any::.any::.any::.any::[]),[.box (Ak f),(bif b 2 then(g8 (Do i.1 []))else .res nilR),(bif b 3 then(g8 (Ba i.2.1 [] []))else .res nilR),(bif b 4 then(g8 (Ba i.2.2.1 [] []))else .res nilR),(bif b 5 then(g8 (Ba i.2.2.2.1 [] []))else .res nilR),(bif b 9 then(g8 (Be i.2.2.2.2 [.bs tInt (regsB f),.lit (.map (jY i.1)),.lit (.map (jY i.2.1)),.lit (.map (jY i.2.2.1)),.lit (.map (jY i.2.2.2.1)),.bs tInt ch]))else .res nilR)]⟩) ?_ ?_ ?_ ?_ ?_
 ·rfl
 ·kernel_rfl
 ·kernel_rfl
 ·refine AK (λi b d a hc=>?_) ?_
  ·try dsimp only
   refine AX (AR V FG V V) ?_;exact⟨i,jA⟩
  refine AK (λi b d a hc=>?_) ?_
  ·have h0:b 0=aZ:=a 0 _ V V;try dsimp only
   refine AX (AH V (Pb ((Ao GO).trans (BJ h0 _ _)) V) ad V V) ?_;exact⟨i,jA⟩
  refine AK (λi b d a hc=>?_) ?_
  ·have F:b 8=aL:=AW hc (i:=2) (j:=8) (k:=1) V V V V d;have L:b 9=aL:=AW hc (i:=8) (j:=9) (k:=0) V V V V F;have u8:upd b 2 8=aL:=F;have u9:upd b 2 9=aL:=L;try dsimp only
   refine Iu 1 (λm=>Do m []) (λ_=>rfl) (λ_ _ h=>h) Wu V (congrArg jY (CT d _ _)) λm=>?_
   refine⟨(m,i.2),?_⟩;simp only[F,u8,cond_false,L,u9,cond_false];exact jA
  refine AK (λi b d a hc=>?_) ?_
  ·have F:b 8=aL:=AW hc (i:=3) (j:=8) (k:=2) V V V V d;have L:b 9=aL:=AW hc (i:=8) (j:=9) (k:=0) V V V V F;have u8:upd b 3 8=aL:=F;have u9:upd b 3 9=aL:=L;try dsimp only
   refine Iu 2 (λm=>Ba m [] []) (λ_=>rfl) O8 R4 V (congrArg jY (CT d _ _)) λm=>?_
   refine⟨(i.1,m,i.2.2),?_⟩;simp only[F,u8,cond_false,L,u9,cond_false];exact jA
  refine AK (λi b d a hc=>?_) ?_
  ·have F:b 8=aL:=AW hc (i:=4) (j:=8) (k:=3) V V V V d;have L:b 9=aL:=AW hc (i:=8) (j:=9) (k:=0) V V V V F;have u8:upd b 4 8=aL:=F;have u9:upd b 4 9=aL:=L;try dsimp only
   refine Iu 3 (λm=>Ba m [] []) (λ_=>rfl) O8 R4 V (congrArg jY (CT d _ _)) λm=>?_
   refine⟨(i.1,i.2.1,m,i.2.2.2),?_⟩;simp only[F,u8,cond_false,L,u9,cond_false];exact jA
  refine AK (λi b d a hc=>?_) ?_
  ·have F:b 8=aL:=AW hc (i:=5) (j:=8) (k:=4) V V V V d;have L:b 9=aL:=AW hc (i:=8) (j:=9) (k:=0) V V V V F;have u8:upd b 5 8=aL:=F;have u9:upd b 5 9=aL:=L;try dsimp only
   refine Iu 4 (λm=>Ba m [] []) (λ_=>rfl) O8 R4 V (congrArg jY (CT d _ _)) λm=>?_
   refine⟨(i.1,i.2.1,i.2.2.1,m,i.2.2.2.2),?_⟩;simp only[F,u8,cond_false,L,u9,cond_false];exact jA
  refine AK (λi b d a hc=>?_) ?_
  ·try dsimp only
   refine AX (AR V FG V V) ?_;exact⟨i,jA⟩
  refine AK (λi b d a hc=>?_) ?_
  ·have h6:b 6=aZ:=a 0 _ V V;try dsimp only
   refine AX (AH V (Pb ((Ao (Ao FG)).trans (BJ h6 _ _)) V) bc V V) ?_;exact⟨i,jA⟩
  refine AK (λi b d a hc=>?_) ?_
  ·have h1:b 1=aZ:=a 0 _ V V;have h2:b 2=aZ:=a 1 _ V V;have h3:b 3=aZ:=a 2 _ V V;have h4:b 4=aZ:=a 3 _ V V;have h5:b 5=aZ:=a 4 _ V V;have h7:b 7=aZ:=a 5 _ V V;try dsimp only
   refine AX (Xs V Aj3 (Pb ((Ao Fq).trans (BJ h1 _ _)) (Pb ((Ao Iy).trans (BJ h2 _ _)) (Pb ((Ao Hd).trans (BJ h3 _ _)) (Pb ((Ao (Ao IG)).trans (BJ h4 _ _)) (Pb ((Ao (Ao GP)).trans (BJ h5 _ _)) (Pb ((Ao (Ao FF)).trans (BJ h7 _ _)) V)))))) V V) ?_;exact⟨i,jA⟩
  refine AK (λi b d a hc=>?_) ?_
  ·have F:b 8=aZ:=a 0 _ V V;have W:b 10=aL:=AW hc (i:=9) (j:=10) (k:=0) V V V V d;have ak:upd b 9 10=aL:=W;try dsimp only
   refine Acb 5 V (congrArg jY (CT d _ _)) ((Ao (Ao GO)).trans (BJ F _ _)) V λg=>?_
   refine⟨(i.1,i.2.1,i.2.2.1,i.2.2.2.1,g),?_⟩;simp only[W,ak,cond_false];exact jA
  refine AK (λi b d a hc=>?_) ?_
  ·have L:b 9=aZ:=a 0 _ V V;try dsimp only
   refine AX (AT.assign V ((Ao (Ao Fq)).trans (BJ L _ _))) ?_;exact⟨i,jA⟩
  exact No
 intro i;refine ap _ ?_;refine AE ⟨.agg (Ak f)::.lit (.bool leaf)::.ptr 0 0::.any::.lit (.pointer jX)::.lit (.pointer (jY ⟨i.2.2.2.2,0,jX⟩))::A6 (.agg (Ak f)::.bs tInt (regsB f)::.lit (.map (jY i.1))::.lit (.map (jY i.2.1))::.lit (.map (jY i.2.2.1))::.lit (.map (jY i.2.2.2.1))::.agg (Ak f)::.bs tInt ch::.agg [.bs tInt (regsB f),.lit (.map (jY i.1)),.lit (.map (jY i.2.1)),.lit (.map (jY i.2.2.1)),.lit (.map (jY i.2.2.2.1)),.bs tInt ch]::.lit (.pointer (jY ⟨i.2.2.2.2,0,jX⟩))::.any::.any::.any::.any::.any::.any::.any::.any::.any::.any::.any::.any::.any::.any::.any::.any::.any::.any::.any::.any::.any::.any::.any::.any::.any::.any::.any::.any::.any::.any::.any::.any::.any::.any::.any::.any::.any::.any::.any::.any::.any::.any::.any::.any::.any::.any::.any::.any::.any::.any::.any::.any::.any::.any::.any::.any::.any::.any::.any::.any::.any::.any::.any::.any::.any::.any::[]),[.box (Ak f),.res (Do i.1 []),.res (Ba i.2.1 [] []),.res (Ba i.2.2.1 [] []),.res (Ba i.2.2.2.1 [] []),.res (Be i.2.2.2.2 [.bs tInt (regsB f),.lit (.map (jY i.1)),.lit (.map (jY i.2.1)),.lit (.map (jY i.2.2.1)),.lit (.map (jY i.2.2.2.1)),.bs tInt ch])]⟩ jA ?_;obtain⟨D,B,q,s,g⟩:=i;dsimp only;refine AE ⟨(.any::.lit (.bool leaf)::.ptr 0 0::A2 (.lit (.pointer (jY ⟨g,0,jX⟩))::A80 (A2 []))),[.box (Ak f),.res (Do D []),.res (Ba B [] []),.res (Ba q [] []),.res (Ba s [] []),.res (Be g [.bs tInt (regsB f),.lit (.map (jY D)),.lit (.map (jY B)),.lit (.map (jY q)),.lit (.map (jY s)),.bs tInt ch])]⟩ (AS) ?_;obtain⟨G,hG⟩:∃G,G= [AV.bs tInt (regsB f),.lit (.map (jY D)),.lit (.map (jY B)),.lit (.map (jY q)),.lit (.map (jY s)),.bs tInt ch]:=⟨_,rfl⟩
 obtain⟨z,hz⟩:∃z,z=(regsB f).zip (CD f leaf (regsB f)):=⟨_,rfl⟩
 have bn:z.length=(regsB f).length:=by rw[hz,List.length_zip];simp[CD]
 refine wR (hx:=by((repeat(first|refine sA ?_ (AH V V bb V V)|refine sA ?_|refine AM ?_|refine sAG ?_|refine Bp ?_));exact CS V)) ?_;refine Ab λK4 h4=>?_
 refine wR (hx:=by((repeat(first|refine sA ?_ (EP V V)|refine sA ?_ (Du V V)|refine sA ?_ (AY (i:=5) (g:=g) V V V V V)|refine sA ?_|refine AM ?_|refine sAG ?_|refine Bp ?_));exact CS V)) (hk:=?_);refine Ac ?_;refine AB (λk:Nat=>⟨(.any::.lit (.bool leaf)::.ptr 0 0::A2 (.lit (.pointer (jY ⟨g,0,jX⟩))::.bs tInt.slice (CD f leaf (regsB f))::A20 (.any::.bs tInt (regsB f)::.lit (.int .i64 ((regsB f).length:Int))::.lit (.int .i64 (k:Int))::A40 (A10 (A7 []))))),[.box (Ak f),.res (Do D (clsE (z.take k))),.res (Ba B [] []),.res (Ba q [] []),.res (Ba s [] []),.res (Be g [.bs tInt (regsB f),.lit (.map (jY D)),.lit (.map (jY B)),.lit (.map (jY q)),.lit (.map (jY s)),.bs tInt ch])]⟩) (λk=>k<=(regsB f).length) (λk=>(regsB f).length - k) 0 (jS _) (AS) ?_;rintro k hk;refine wR ?_;refine Ab λK8 F=>?_
 refine Ag V (λac=>?_) (λac=>?_)
 ·have U:k < (regsB f).length:=by simpa using ac
  obtain⟨r,ah⟩:∃r,(regsB f)[k]? =jY r:=⟨_,eE U⟩
  have ae:=an r (fR ah);obtain⟨c,ax⟩:∃c,(CD f leaf (regsB f))[k]? =jY c:=⟨_,eE (by simpa[CD]using U)⟩
  have al:z[k]? =jY (r,c):=by rw[hz,eO];exact⟨ah,ax⟩
  have ai:(clsE (z.take k)).length < cM:=by have h1:=Alw (z.take k);have h2:(z.take k).length<=z.length:=(by rw[fB];omega);unfold cM;omega
  refine Al ?_;refine F _ ?_;refine nT ?_;refine Ab λbw W=>?_
  refine Ac ?_;refine wR ?_;refine wDE 9 (hq:=by((repeat(first|refine qA ?_ (EP V V)|refine qA ?_ (Du V V)|refine qA ?_ (AY (i:=5) (g:=g) V V V V V)|refine qA ?_|refine G5 ?_|refine qAG (hk:=?_)));exact At0 V)) (hx:=by((repeat(first|refine sA ?_ (EP V V)|refine sA ?_ (Du V V)|refine sA ?_ (AY (i:=5) (g:=g) V V V V V)|(refine AC V (Aim 1 V Tryz.underlying77 V V V ae ai V ?_);refine sNt ?_)|refine sA ?_|refine AM ?_|refine sAG ?_|refine Bp ?_));exact CS V)) (hk:=?_);refine W _ ?_;refine nT ?_;refine wRE ?_;refine An ⟨k+1,U,by omega,?_⟩;rw[Ahi al];exact AS
 ·obtain rfl:k=(regsB f).length:=by have:¬k < (regsB f).length:=(by simpa using ac);omega
  rw[gX (by omega)];refine Ay ?_;refine h4 _ ?_;refine nT ?_;refine wR ?_;refine AE ⟨.any::.lit (.bool leaf)::.ptr 0 0::A2 (.lit (.pointer (jY ⟨g,0,jX⟩))::A3 (.lit (.func (.func 49) #[] #[])::A40 (A20 (A10 (A8 []))))),[.box (Ak f),.res (Do D (clsE z)),.res (Ba B [] []),.res (Ba q [] []),.res (Ba s [] []),.res (Be g [.bs tInt (regsB f),.lit (.map (jY D)),.lit (.map (jY B)),.lit (.map (jY q)),.lit (.map (jY s)),.bs tInt ch])]⟩ AS ?_;refine Ab λbm ag=>?_
  refine Ff (n:=8) (Az2 _) (λ(i:{vs:List (Int×(cC×List Int)) // mapK (·.2) vs=L8 (CC f)}) (b:Nat->Bool)=>⟨.any::.lit (.bool leaf)::.ptr 0 0::A2 (.lit (.pointer (jY ⟨g,0,jX⟩))::A3 (.lit (.func (.func 49) #[] #[])::A20 (A10 (A5 ((bif b 0 then .lit (.func (.func 49) #[] #[])else .any)::(bif b 1 then .agg (Ak f)else .any)::(bif b 2 then .bs Dk (CC f)else .any)::(bif b 3 then .lit (.pointer (jY ⟨g,0,jX⟩))else .any)::(bif b 4 then .lit (.pointer (jY ⟨g,0,jX⟩))else .any)::(bif b 5 then .lit (.pointer (jY ⟨g,2,jX⟩))else .any)::(bif b 6 then .lit (.map (jY B))else .any)::(bif b 7 then .lit (.tuple #[])else .any)::A20 (A10 (A5 []))))))),[.box (Ak f),.res (Do D (clsE z)),(bif b 7 then(g8 (Ba B (mapK (·.1) i.1) i.1))else .res (Ba B [] [])),.res (Ba q [] []),.res (Ba s [] []),.res (Be g [.bs tInt (regsB f),.lit (.map (jY D)),.lit (.map (jY B)),.lit (.map (jY q)),.lit (.map (jY s)),.bs tInt ch])]⟩) ?_ ?_ ?_ ?_ ?_
  ·rfl
  ·kernel_rfl
  ·kernel_rfl
  ·refine AK (λi b d a hc=>?_) ?_
   ·try dsimp only
    refine AX (AT.move V (Ao GP)) ?_;exact⟨i,jA⟩
   refine AK (λi b d a hc=>?_) ?_
   ·try dsimp only
    refine AX (AR V FG V V) ?_;exact⟨i,jA⟩
   refine AK (λi b d a hc=>?_) ?_
   ·have h1:b 1=aZ:=a 0 _ V V;try dsimp only
    refine AX (AH V (Pb ((As (Ao Iy)).trans (BJ h1 _ _)) V) ba V V) ?_;exact⟨i,jA⟩
   refine AK (λi b d a hc=>?_) ?_
   ·try dsimp only
    refine AX (AT.move V Fq) ?_;exact⟨i,jA⟩
   refine AK (λi b d a hc=>?_) ?_
   ·have h3:b 3=aZ:=a 0 _ V V;try dsimp only
    refine AX (EP V ((As (Ao (Ao IG))).trans (BJ h3 _ _))) ?_;exact⟨i,jA⟩
   refine AK (λi b d a hc=>?_) ?_
   ·have h4:b 4=aZ:=a 0 _ V V;try dsimp only
    refine AX (Du V ((As (Ao (Ao GP))).trans (BJ h4 _ _))) ?_;exact⟨i,jA⟩
   refine AK (λi b d a hc=>?_) ?_
   ·have h5:b 5=aZ:=a 0 _ V V;try dsimp only
    refine AX (AY (i:=5) (g:=g) V ((As (Ao (Ao FG))).trans (BJ h5 _ _)) V V V) ?_;exact⟨i,jA⟩
   refine AK (λi b d a hc=>?_) ?_
   ·have h0:b 0=aZ:=a 0 _ V V;have h2:b 2=aZ:=a 1 _ V V;have h6:b 6=aZ:=a 2 _ V V;try dsimp only
    refine Mj (i:=2) (congrArg jY (CT d _ _)) V ((As (Ao Fq)).trans (BJ h0 _ _)) (U6 (CC f) B av au) (λ_=>rfl) (Pb ((As (Ao Hd)).trans (BJ h2 _ _)) (Pb ((As (Ao (Ao FF))).trans (BJ h6 _ _)) V)) V λv=>?_
    refine⟨v,?_⟩;exact jA
   exact No
  intro I;refine ag _ ?_;refine AE ⟨.any::.lit (.bool leaf)::.ptr 0 0::A2 (.lit (.pointer (jY ⟨g,0,jX⟩))::A3 (.lit (.func (.func 49) #[] #[])::A20 (A10 (A5 (.lit (.func (.func 49) #[] #[])::.agg (Ak f)::.bs Dk (CC f)::.lit (.pointer (jY ⟨g,0,jX⟩))::.lit (.pointer (jY ⟨g,0,jX⟩))::.lit (.pointer (jY ⟨g,2,jX⟩))::.lit (.map (jY B))::.lit (.tuple #[])::A20 (A10 (A5 []))))))),[.box (Ak f),.res (Do D (clsE z)),.res (Ba B (mapK (·.1) I.1) I.1),.res (Ba q [] []),.res (Ba s [] []),.res (Be g [.bs tInt (regsB f),.lit (.map (jY D)),.lit (.map (jY B)),.lit (.map (jY q)),.lit (.map (jY s)),.bs tInt ch])]⟩ jA ?_;refine AE ⟨.any::.lit (.bool leaf)::.ptr 0 0::A2 (.lit (.pointer (jY ⟨g,0,jX⟩))::A3 (.lit (.func (.func 49) #[] #[])::A40 (A20 (A10 (A8 []))))),[.box (Ak f),.res (Do D (clsE z)),.res (Ba B (mapK (·.1) I.1) I.1),.res (Ba q [] []),.res (Ba s [] []),.res (Be g [.bs tInt (regsB f),.lit (.map (jY D)),.lit (.map (jY B)),.lit (.map (jY q)),.lit (.map (jY s)),.bs tInt ch])]⟩ AS ?_;refine Ab λbl af=>?_
  refine Ff (n:=8) (Az2 _) (λ(i:{vs:List (Int×(cC×List Int)) // mapK (·.2) vs=L8 (mvL f)}) (b:Nat->Bool)=>⟨.any::.lit (.bool leaf)::.ptr 0 0::A2 (.lit (.pointer (jY ⟨g,0,jX⟩))::A3 (.lit (.func (.func 49) #[] #[])::A40 (A3 ((bif b 0 then .lit (.func (.func 49) #[] #[])else .any)::(bif b 1 then .agg (Ak f)else .any)::(bif b 2 then .bs Dk (mvL f)else .any)::(bif b 3 then .lit (.pointer (jY ⟨g,0,jX⟩))else .any)::(bif b 4 then .lit (.pointer (jY ⟨g,0,jX⟩))else .any)::(bif b 5 then .lit (.pointer (jY ⟨g,4,jX⟩))else .any)::(bif b 6 then .lit (.map (jY s))else .any)::(bif b 7 then .lit (.tuple #[])else .any)::A20 (A7 []))))),[.box (Ak f),.res (Do D (clsE z)),.res (Ba B (mapK (·.1) I.1) I.1),.res (Ba q [] []),(bif b 7 then(g8 (Ba s (mapK (·.1) i.1) i.1))else .res (Ba s [] [])),.res (Be g [.bs tInt (regsB f),.lit (.map (jY D)),.lit (.map (jY B)),.lit (.map (jY q)),.lit (.map (jY s)),.bs tInt ch])]⟩) ?_ ?_ ?_ ?_ ?_
  ·rfl
  ·kernel_rfl
  ·kernel_rfl
  ·refine AK (λi b d a hc=>?_) ?_
   ·try dsimp only
    refine AX (AT.move V (Ao GP)) ?_;exact⟨i,jA⟩
   refine AK (λi b d a hc=>?_) ?_
   ·try dsimp only
    refine AX (AR V FG V V) ?_;exact⟨i,jA⟩
   refine AK (λi b d a hc=>?_) ?_
   ·have h1:b 1=aZ:=a 0 _ V V;try dsimp only
    refine AX (AH V (Pb ((As (Ao (Ao Iy))).trans (BJ h1 _ _)) V) ay V V) ?_;exact⟨i,jA⟩
   refine AK (λi b d a hc=>?_) ?_
   ·try dsimp only
    refine AX (AT.move V Fq) ?_;exact⟨i,jA⟩
   refine AK (λi b d a hc=>?_) ?_
   ·have h3:b 3=aZ:=a 0 _ V V;try dsimp only
    refine AX (EP V ((As (Ao (Ao (Ao IG)))).trans (BJ h3 _ _))) ?_;exact⟨i,jA⟩
   refine AK (λi b d a hc=>?_) ?_
   ·have h4:b 4=aZ:=a 0 _ V V;try dsimp only
    refine AX (Du V ((As (Ao (Ao (Ao GP)))).trans (BJ h4 _ _))) ?_;exact⟨i,jA⟩
   refine AK (λi b d a hc=>?_) ?_
   ·have h5:b 5=aZ:=a 0 _ V V;try dsimp only
    refine AX (AY (i:=5) (g:=g) V ((As (Ao (Ao (Ao FG)))).trans (BJ h5 _ _)) V V V) ?_;exact⟨i,jA⟩
   refine AK (λi b d a hc=>?_) ?_
   ·have h0:b 0=aZ:=a 0 _ V V;have h2:b 2=aZ:=a 1 _ V V;have h6:b 6=aZ:=a 2 _ V V;try dsimp only
    refine Mj (i:=4) (congrArg jY (CT d _ _)) V ((As (Ao (Ao Fq))).trans (BJ h0 _ _)) (U6 (mvL f) s aq ar) (λ_=>rfl) (Pb ((As (Ao (Ao Hd))).trans (BJ h2 _ _)) (Pb ((As (Ao (Ao (Ao FF)))).trans (BJ h6 _ _)) V)) V λv=>?_
    refine⟨v,?_⟩;exact jA
   exact No
  intro O;refine af _ ?_;refine AE ⟨.any::.lit (.bool leaf)::.ptr 0 0::A2 (.lit (.pointer (jY ⟨g,0,jX⟩))::A3 (.lit (.func (.func 49) #[] #[])::A40 (A3 (.lit (.func (.func 49) #[] #[])::.agg (Ak f)::.bs Dk (mvL f)::.lit (.pointer (jY ⟨g,0,jX⟩))::.lit (.pointer (jY ⟨g,0,jX⟩))::.lit (.pointer (jY ⟨g,4,jX⟩))::.lit (.map (jY s))::.lit (.tuple #[])::A20 (A7 []))))),[.box (Ak f),.res (Do D (clsE z)),.res (Ba B (mapK (·.1) I.1) I.1),.res (Ba q [] []),.res (Ba s (mapK (·.1) O.1) O.1),.res (Be g [.bs tInt (regsB f),.lit (.map (jY D)),.lit (.map (jY B)),.lit (.map (jY q)),.lit (.map (jY s)),.bs tInt ch])]⟩ jA ?_;refine Ab λbv N=>?_
  refine wR (hx:=by((repeat(first|refine sA ?_ (AH V V az V V)|refine sA ?_|refine AM ?_|refine sAG ?_|refine Bp ?_));exact CS V)) ?_;refine Ac ?_;refine AB (λp:Nat×List (Int×(cC×List Int))=>⟨(A5 (.lit (.pointer (jY ⟨g,0,jX⟩))::A40 (A10 (A7 (.bs Gg (B8 f leaf)::.lit (.int .i64 ((B8 f leaf).length:Int))::.lit (.int .i64 (p.1:Int))::A20 (A2 [])))))),[.box (Ak f),.res (Do D (clsE z)),.res (Ba B (mapK (·.1) I.1) I.1),.res (Ba q (mapK (·.1) p.2) p.2),.res (Ba s (mapK (·.1) O.1) O.1),.res (Be g [.bs tInt (regsB f),.lit (.map (jY D)),.lit (.map (jY B)),.lit (.map (jY q)),.lit (.map (jY s)),.bs tInt ch])]⟩) (λp=>p.1<=(B8 f leaf).length/\okK p.2/\mapK (·.2) p.2=NO ((B8 f leaf).take p.1)) (λp=>(B8 f leaf).length - p.1) (0,[]) ⟨jS _,okK.nil,rfl⟩ (AS) ?_;rintro⟨k,vs⟩ ⟨hk,ab,hE⟩;have hE:mapK (·.2) vs=NO ((B8 f leaf).take k):=hE;have ab:okK vs:=ab;have hk:k<=(B8 f leaf).length:=hk;refine wR ?_;refine Ab λbu bf=>?_
  refine Ag V (λY=>?_) (λY=>?_)
  ·have U:k < (B8 f leaf).length:=by simpa using Y
   obtain⟨x,hx⟩:∃x,(B8 f leaf)[k]? =jY x:=⟨_,eE U⟩
   obtain⟨Z,am⟩:=hh x (fR hx);have bo:((B8 f leaf).take k).length<=(B8 f leaf).length:=by rw[fB];omega
   have ao:Fj (((getK (mapK (·.2) vs) x.r).getD []).length+ [x.at_].length) 8=aZ:=by
    have h1:=Ur ((B8 f leaf).take k) x.r;rw[hE];unfold Fj;simp only[zaf,zai];unfold cM;omega
   have aw:(mapK (·.1) vs).length < cM:=by
    have h1:=Agg ((B8 f leaf).take k);rw[<-hE,LN]at h1;rw[LN];unfold cM;omega
   refine Al ?_;refine bf _ ?_;refine nT ?_;refine Ab λbt be=>?_
   refine Ac ?_;refine wR ?_;refine AE ⟨A5 (.lit (.pointer (jY ⟨g,0,jX⟩))::A5 (.ptr 6 0::A40 (A10 (.any::.bs Gg (B8 f leaf)::.lit (.int .i64 ((B8 f leaf).length:Int))::.lit (.int .i64 (k:Int))::A20 (A2 []))))),[.box (Ak f),.res (Do D (clsE z)),.res (Ba B (mapK (·.1) I.1) I.1),.res (Ba q (mapK (·.1) vs) vs),.res (Ba s (mapK (·.1) O.1) O.1),.res (Be g [.bs tInt (regsB f),.lit (.map (jY D)),.lit (.map (jY B)),.lit (.map (jY q)),.lit (.map (jY s)),.bs tInt ch]),.box (GK x)]⟩ AS ?_;refine Ff (n:=18) undef (λ(i:cC) (b:Nat->Bool)=>⟨A5 (.lit (.pointer (jY ⟨g,0,jX⟩))::A5 (.ptr 6 0::A40 (A10 (.any::.bs Gg (B8 f leaf)::.lit (.int .i64 ((B8 f leaf).length:Int))::.lit (.int .i64 (k:Int))::A3 ((bif b 0 then .lit (.pointer (jY ⟨g,0,jX⟩))else .any)::(bif b 1 then .lit (.pointer (jY ⟨g,0,jX⟩))else .any)::(bif b 2 then .lit (.pointer (jY ⟨g,3,jX⟩))else .any)::(bif b 3 then .lit (.map (jY q))else .any)::(bif b 4 then .ptr 6 0 else .any)::(bif b 5 then .lit (.int .i64 x.r)else .any)::(bif b 6 then .lit (.pointer (jY ⟨g,0,jX⟩))else .any)::(bif b 7 then .lit (.pointer (jY ⟨g,0,jX⟩))else .any)::(bif b 8 then .lit (.pointer (jY ⟨g,3,jX⟩))else .any)::(bif b 9 then .lit (.map (jY q))else .any)::(bif b 10 then .ptr 6 0 else .any)::(bif b 11 then .lit (.int .i64 x.r)else .any)::(bif b 12 then .lit ((getK (mapK (·.1) vs) x.r).getD (.slice jX 0 0))else .any)::(bif b 13 then .ptr 6 1 else .any)::(bif b 14 then .lit (.int .i64 x.at_)else .any)::(bif b 15 then .bs tInt [x.at_]else .any)::(bif b 16 then .lit i else .any)::A2 []))))),[.box (Ak f),.res (Do D (clsE z)),.res (Ba B (mapK (·.1) I.1) I.1),(bif b 17 then(g8 (Ba q (B7 (mapK (·.1) vs) x.r i) (B7 vs x.r (i,((getK (mapK (·.2) vs) x.r).getD [])++[x.at_]))))else(bif b 16 then(g8 (Ba q (mapK (·.1) vs) (B7 vs x.r (i,((getK (mapK (·.2) vs) x.r).getD [])++[x.at_]))))else .res (Ba q (mapK (·.1) vs) vs))),.res (Ba s (mapK (·.1) O.1) O.1),.res (Be g [.bs tInt (regsB f),.lit (.map (jY D)),.lit (.map (jY B)),.lit (.map (jY q)),.lit (.map (jY s)),.bs tInt ch]),.box (GK x)]⟩) ?_ ?_ ?_ ?_ ?_
   ·rfl
   ·kernel_rfl
   ·kernel_rfl
   ·refine AK (λi b d a hc=>?_) ?_
    ·try dsimp only
     refine AX (AT.move V Fq) ?_;exact⟨i,jA⟩
    refine AK (λi b d a hc=>?_) ?_
    ·have h0:b 0=aZ:=a 0 _ V V;try dsimp only
     refine AX (EP V ((As (As Fq)).trans (BJ h0 _ _))) ?_;exact⟨i,jA⟩
    refine AK (λi b d a hc=>?_) ?_
    ·have h1:b 1=aZ:=a 0 _ V V;try dsimp only
     refine AX (Du V ((As (As Iy)).trans (BJ h1 _ _))) ?_;exact⟨i,jA⟩
    refine AK (λi b d a hc=>?_) ?_
    ·have h2:b 2=aZ:=a 0 _ V V;try dsimp only
     refine AX (AY (i:=5) (g:=g) V ((As (As Hd)).trans (BJ h2 _ _)) V V V) ?_;exact⟨i,jA⟩
    refine AK (λi b d a hc=>?_) ?_
    ·try dsimp only
     refine AX (Br V (Ao FF) V) ?_;exact⟨i,jA⟩
    refine AK (λi b d a hc=>?_) ?_
    ·have h4:b 4=aZ:=a 0 _ V V;try dsimp only
     refine AX (Bf V ((As (As (Ao GP))).trans (BJ h4 _ _)) V V) ?_;exact⟨i,jA⟩
    refine AK (λi b d a hc=>?_) ?_
    ·try dsimp only
     refine AX (AT.move V Fq) ?_;exact⟨i,jA⟩
    refine AK (λi b d a hc=>?_) ?_
    ·have h6:b 6=aZ:=a 0 _ V V;try dsimp only
     refine AX (EP V ((As (As (Ao FF))).trans (BJ h6 _ _))) ?_;exact⟨i,jA⟩
    refine AK (λi b d a hc=>?_) ?_
    ·have h7:b 7=aZ:=a 0 _ V V;try dsimp only
     refine AX (Du V ((As (As (Ao GO))).trans (BJ h7 _ _))) ?_;exact⟨i,jA⟩
    refine AK (λi b d a hc=>?_) ?_
    ·have F:b 8=aZ:=a 0 _ V V;try dsimp only
     refine AX (AY (i:=5) (g:=g) V ((As (As (Ao Fq))).trans (BJ F _ _)) V V V) ?_;exact⟨i,jA⟩
    refine AK (λi b d a hc=>?_) ?_
    ·try dsimp only
     refine AX (Br V (Ao FF) V) ?_;exact⟨i,jA⟩
    refine AK (λi b d a hc=>?_) ?_
    ·have W:b 10=aZ:=a 0 _ V V;try dsimp only
     refine AX (Bf V ((As (As (Ao Hd))).trans (BJ W _ _)) V V) ?_;exact⟨i,jA⟩
    refine AK (λi b d a hc=>?_) ?_
    ·have L:b 9=aZ:=a 0 _ V V;have bk:b 11=aZ:=a 1 _ V V;have aa:b 16=aL:=AW hc (i:=12) (j:=16) (k:=0) V V V V d;have N:b 17=aL:=AW hc (i:=12) (j:=17) (k:=16) V V V V d;try dsimp only
     refine AX (KV (u:=((getK (mapK (·.1) vs) x.r).getD (.slice jX 0 0))) 3 V bZ ((As (As (Ao Iy))).trans (BJ L _ _)) ((As (As (Ao (Ao IG)))).trans (BJ bk _ _)) Z (mr2 aa N) V) ?_;exact⟨i,jA⟩
    refine AK (λi b d a hc=>?_) ?_
    ·try dsimp only
     refine AX (Br V (Ao FF) V) ?_;exact⟨i,jA⟩
    refine AK (λi b d a hc=>?_) ?_
    ·have bi:b 13=aZ:=a 0 _ V V;try dsimp only
     refine AX (Bf V ((As (As (Ao (Ao FG)))).trans (BJ bi _ _)) V V) ?_;exact⟨i,jA⟩
    refine AK (λi b d a hc=>?_) ?_
    ·have bh:b 14=aZ:=a 0 _ V V;try dsimp only
     refine AX (Cg (T:=tInt) V V V (by rfl) (by decide) (Fit.of_eq ((As (As (Ao (Ao FF)))).trans (BJ bh _ _)) (Fit.int am))) ?_;exact⟨i,jA⟩
    refine AK (λi b d a hc=>?_) ?_
    ·have bj:b 12=aZ:=a 0 _ V V;have bg:b 15=aZ:=a 1 _ V V;have N:b 17=aL:=AW hc (i:=16) (j:=17) (k:=2) V V V V d;have aj:upd b 16 17=aL:=N;try dsimp only
     refine Qa (k:=x.r) 3 V V ((As (As (Ao (Ao GP)))).trans (BJ bj _ _)) (congrArg jY ((CT N _ _).trans (CT d _ _))) ((As (As (Ao (Ao GO)))).trans (BJ bg _ _)) Z (Afi vs x.r) ao λv=>?_
     refine⟨v,?_⟩;simp only[N,aj,cond_false];exact jA
    refine AK (λi b d a hc=>?_) ?_
    ·have h3:b 3=aZ:=a 0 _ V V;have h5:b 5=aZ:=a 1 _ V V;have aa:b 16=aZ:=a 2 _ V V;try dsimp only
     refine VG 3 V bZ ((As (As (Ao IG))).trans (BJ h3 _ _)) ((As (As (Ao FG))).trans (BJ h5 _ _)) ((As (As (Ao (Ao Fq)))).trans (BJ aa _ _)) Z aw (congrArg jY ((CT d _ _).trans (Sp aa _ _))) ?_;refine⟨i,?_⟩;exact jA
    exact No
   intro i;refine qVia ⟨A5 (.lit (.pointer (jY ⟨g,0,jX⟩))::A5 (.ptr 6 0::A40 (A10 (.any::.bs Gg (B8 f leaf)::.lit (.int .i64 ((B8 f leaf).length:Int))::.lit (.int .i64 (k:Int))::A3 (.lit (.pointer (jY ⟨g,0,jX⟩))::.lit (.pointer (jY ⟨g,0,jX⟩))::.lit (.pointer (jY ⟨g,3,jX⟩))::.lit (.map (jY q))::.ptr 6 0::.lit (.int .i64 x.r)::.lit (.pointer (jY ⟨g,0,jX⟩))::.lit (.pointer (jY ⟨g,0,jX⟩))::.lit (.pointer (jY ⟨g,3,jX⟩))::.lit (.map (jY q))::.ptr 6 0::.lit (.int .i64 x.r)::.lit ((getK (mapK (·.1) vs) x.r).getD (.slice jX 0 0))::.ptr 6 1::.lit (.int .i64 x.at_)::.bs tInt [x.at_]::.lit i::A2 []))))),[.box (Ak f),.res (Do D (clsE z)),.res (Ba B (mapK (·.1) I.1) I.1),.res (Ba q (B7 (mapK (·.1) vs) x.r i) (B7 vs x.r (i,((getK (mapK (·.2) vs) x.r).getD [])++[x.at_]))),.res (Ba s (mapK (·.1) O.1) O.1),.res (Be g [.bs tInt (regsB f),.lit (.map (jY D)),.lit (.map (jY B)),.lit (.map (jY q)),.lit (.map (jY s)),.bs tInt ch]),.box (GK x)]⟩ V ?_;refine be _ ?_;refine nT ?_;refine AE ⟨(A5 (.lit (.pointer (jY ⟨g,0,jX⟩))::A40 (A10 (A7 (.bs Gg (B8 f leaf)::.lit (.int .i64 ((B8 f leaf).length:Int))::.lit (.int .i64 (k:Int))::A20 (A2 [])))))),[.box (Ak f),.res (Do D (clsE z)),.res (Ba B (mapK (·.1) I.1) I.1),.res (Ba q (mapK (·.1) (B7 vs x.r (i,((getK (mapK (·.2) vs) x.r).getD [])++[x.at_]))) (B7 vs x.r (i,((getK (mapK (·.2) vs) x.r).getD [])++[x.at_]))),.res (Ba s (mapK (·.1) O.1) O.1),.res (Be g [.bs tInt (regsB f),.lit (.map (jY D)),.lit (.map (jY B)),.lit (.map (jY q)),.lit (.map (jY s)),.bs tInt ch])]⟩ (by rw[Gs];exact Ki (.cons (.cons (.cons (.cons (.cons (.cons (iE _)))))))) ?_;refine wRE ?_;refine An ⟨(k+1,B7 vs x.r (i,((getK (mapK (·.2) vs) x.r).getD [])++[x.at_])),⟨U,ab.put Z _,?_⟩,by show(B8 f leaf).length - (k+1) < (B8 f leaf).length - k;omega,AS⟩;dsimp only;rw[Gs,Z9 hx,hE];rfl
  ·obtain rfl:k=(B8 f leaf).length:=by have:¬k < (B8 f leaf).length:=(by simpa using Y);omega
   rw[gW]at hE;refine Ay ?_;refine N _ ?_;refine nT ?_;refine wR ?_;have e:Ct f leaf ch=⟨regsB f,clsE z,mapK (·.2) I.1,mapK (·.2) vs,mapK (·.2) O.1,ch⟩:=by unfold Ct;rw[I.2,O.2,hE,hz]
   rw[e];exact Aw ⟨.inr V,Ab0 (i:=5) (j1:=1) (j2:=2) (j3:=3) (j4:=4) V V V V V V⟩
end Mu
namespace Mu
open Go Go.RowKit Go.Proofs
variable{f:iI}{k:Nat}{l:List Int}{p:i9}{r:Bool}{x:Int}
def IS(p:i9)(z:Int):Bool:=a8 (z≥32)&&a8 (bG.wrap (z - 32) < p.slots)
def GC(p:i9)(k:Nat):Int->Bool:=λz=>((p.at_.take k).filter (IS p)).contains z
theorem Aoj(p:i9):GC p 0=λ_=>aL:=by
 funext z;simp[GC]
theorem Y8(hx:p.at_[k]? =jY x)(h:IS p x=aZ):GC p (k+1)=Ah3 (GC p k) x:=by
 funext z;unfold GC Ah3;rw[gV,hx];simp[dN,h,List.contains_eq_mem];try grind
theorem Xz(hx:p.at_[k]? =jY x)(h:IS p x=aL):GC p (k+1)=GC p k:=by
 funext z;unfold GC;rw[gV,hx];simp[dN,h]
theorem RC(p:i9)(k:Nat):InR (Cy p.at_) (GC p k):=⟨λx _ a=>by
 refine((EF _).2 x).2 ?_;unfold GC at a;rw[dE]at a;exact fS (fN.1 a).1⟩
def cardC(p:i9):Nat:=((Cy p.at_).filter (GC p p.at_.length)).length
def atC(f:iI)(p:i9)(k:Nat)(x:Int):Bool:=if(regsB f).contains (k:Int)then IS p x||((CD f p.leaf (regsB f)).getD ((regsB f).countP (· < (k:Int))) []).contains x else x == -1
def T3(f:iI)(p:i9):Bool:=((((!Ia f)||((p.at_.length:Int) !=f.regs))||decide (p.slots < 0))||(p.leaf&&((!leaf f.blocks)||decide (p.slots > 0))))
def Nb(p:i9)(x:i8):Bool:=ixD p.at_ x.a ==ixD p.at_ x.b
def C4(f:iI)(p:i9):Bool:=!T3 f p&&((gJ p.at_.length).all λj=>atC f p j (p.at_.getD j 0))&&(((cardC p:Int) ==p.slots)&&!((CC f).any (Nb p)))
theorem QN(hx:p.at_[k]? =jY x)(h:atC f p k x=aL):C4 f p=aL:=by
 have hk:=(eG.1 hx).1;have:((gJ p.at_.length).all λj=>atC f p j (p.at_.getD j 0))=aL:=by
  rw[List.all_eq_false];refine⟨k,fU.2 hk,?_⟩;rw[eB,hx];simpa using h
 unfold C4;rw[this];simp
theorem OH(h0:T3 f p=aL)(h:∀j x,p.at_[j]? =jY x->atC f p j x=aZ):C4 f p=(((cardC p:Int) ==p.slots)&&!((CC f).any (Nb p))):=by
 have:((gJ p.at_.length).all λj=>atC f p j (p.at_.getD j 0))=aZ:=by
  rw[cV];intro j c;have a:=fU.1 c;exact h j _ (by rw[eB,eE a];rfl)
 unfold C4;rw[this,h0];simp
theorem Ve(h:Asc l)(hx:x∈l):l[l.countP (· < x)]? =jY x:=by
 induction l with
 |nil=>cases hx
 |cons y l a=>
  unfold Asc at h;rw[gG]at h;rcases fJ.1 hx with rfl|hx
  ·have:(x::l).countP (· < x)=0:=by
    rw[dH];intro z hz;rcases fJ.1 hz with rfl|hz
    ·simp
    ·have:=h.1 z hz;simp;omega
   rw[this];rfl
  ·have c:=h.1 x hx;rw[dF (by simpa using c)];simpa using a h.2 hx
theorem Ajp(f:iI)(p:i9)(q:iH f)(an:Dc.bulk f<=2097152)(hp:okPlan p)(hw:∀x∈p.at_,Ch x)(aj:p.at_.length<=2147483648)(hr:(regsB f).length<=2147483648)(am:∀c∈CD f p.leaf (regsB f),c.length<=2147483648)(al:(CC f).length<=2147483648)
 (hE:Ia f=aZ->∀x∈CC f,(0<=x.a/\x.a < f.regs)/\(0<=x.b/\x.b < f.regs)):Fn bY 16 [.agg (Ak f),.agg (BF p)] (.lit (.bool (C4 f p))):=by
 have au:=Afl f q hr;have ao:=Ns (f:=f) (Af (by rw[aI];exact⟨BM.2 q,decide_eq_true an⟩) (Aj _));have Z:=Lr f q.ok q.small q.all;have ap:=Nr f p.leaf q.ok q.small q.reads q.ins q.all;have ah:=YD f q.ok q.small q.reads q.all q.ins;have aa:RegsR (Cy p.at_):=⟨(EF _).1,λx hx=>hw x (((EF _).2 x).1 hx),jF (Dm _) aj⟩
 refine AQ Tryz.func16 V (by kernel_rfl) V Tryz.ntmps16 λC hC=>?_
 simp only[Nat.reduceAdd,Nat.reduceSub,zaa];refine wR ?_;refine Ab λK2 h2=>?_
 refine wR ?_;refine Ag V (λY=>?_) (λY=>?_)
 ·refine wR ?_;have e:C4 f p=aL:=by unfold C4;rw[show T3 f p=aZ from Y];rfl
  rw[e];exact Aw ⟨.inr V,iG V⟩
 ·have h0:T3 f p=aL:=Y;refine Al ?_;refine h2 _ ?_;refine nT ?_;refine AE ⟨.agg (Ak f)::.agg (BF p)::.ptr 0 0::.ptr 1 0::.lit (.bool aL)::A80 (A10 (A6 [])),[.box (Ak f),.box (BF p)]⟩ (AS) ?_;refine Ab λK7 h7=>?_
  refine Ff (n:=10) 0 (λ(m:Nat) (b:Nat->Bool)=>⟨.agg (Ak f)::.agg (BF p)::.ptr 0 0::.ptr 1 0::.lit (.bool aL)::(bif b 7 then .bs tInt (regsB f)else .any)::(bif b 8 then .bs tInt.slice (CD f p.leaf (regsB f))else .any)::(bif b 9 then .lit (.map (jY m))else .any)::A20 (A10 (A4 ((bif b 0 then .agg (Ak f)else .any)::(bif b 1 then .bs tInt (regsB f)else .any)::(bif b 2 then .agg (Ak f)else .any)::(bif b 3 then .ptr 1 0 else .any)::(bif b 4 then .lit (.bool p.leaf)else .any)::(bif b 5 then .bs tInt.slice (CD f p.leaf (regsB f))else .any)::(bif b 6 then .lit (.map (jY m))else .any)::A40 (A10 (A2 []))))),bif b 6 then [.box (Ak f),.box (BF p),.res (IF (λ_=>aL) m)]else [.box (Ak f),.box (BF p)]⟩) V (by kernel_rfl) (by kernel_rfl) ?_ (λm=>h7 _ ?_)
  ·refine AK (λm b O d hc=>?_) ?_
   ·try dsimp only
    refine AX (AR V FG (by cases b 6 <;> rfl) V) ?_;exact⟨m,jA⟩
   refine AK (λm b O d hc=>?_) ?_
   ·try dsimp only
    have h0:b 0=aZ:=d 0 _ V V;refine AX (AH V (Pb ((As (Ao FG)).trans (BJ h0 _ _)) V) Z V V) ?_;exact⟨m,jA⟩
   refine AK (λm b O d hc=>?_) ?_
   ·try dsimp only
    refine AX (AR V FG (by cases b 6 <;> rfl) V) ?_;exact⟨m,jA⟩
   refine AK (λm b O d hc=>?_) ?_
   ·try dsimp only
    refine AX (Br V FF (by cases b 6 <;> rfl)) ?_;exact⟨m,jA⟩
   refine AK (λm b O d hc=>?_) ?_
   ·try dsimp only
    have h3:b 3=aZ:=d 0 _ V V;refine AX (Bf V ((As (Ao Fq)).trans (BJ h3 _ _)) (by cases b 6 <;> rfl) V) ?_;exact⟨m,jA⟩
   refine AK (λm b O d hc=>?_) ?_
   ·try dsimp only
    have h2:b 2=aZ:=d 0 _ V V;have h4:b 4=aZ:=d 1 _ V V;refine AX (AH V (Pb ((As (Ao GO)).trans (BJ h2 _ _)) (Pb ((As (Ao Iy)).trans (BJ h4 _ _)) V)) ap V V) ?_;exact⟨m,jA⟩
   refine AK (λm b O d hc=>?_) ?_
   ·try dsimp only
    have h9:b 9=aL:=AW hc (i:=6) (j:=9) (k:=0) V V V V O;have e7:∀m1:Nat,(bif b 9 then AV.lit (.map (jY m))else .any)=(bif upd b 6 9 then AV.lit (.map (jY m1))else .any):=λm1=>by rw[show upd b 6 9=b 9 from V,h9];rfl
    rw[O];refine P5 V λm1=>⟨m1,?_⟩
    rw[e7 m1];exact jA
   refine AK (λm b O d hc=>?_) ?_
   ·try dsimp only
    have h1:b 1=aZ:=d 0 _ V V;refine AX (AT.assign V ((As (Ao FF)).trans (BJ h1 _ _))) ?_;exact⟨m,jA⟩
   refine AK (λm b O d hc=>?_) ?_
   ·try dsimp only
    have h5:b 5=aZ:=d 0 _ V V;refine AX (AT.assign V ((As (Ao Hd)).trans (BJ h5 _ _))) ?_;exact⟨m,jA⟩
   refine AK (λm b O d hc=>?_) ?_
   ·try dsimp only
    have h6:b 6=aZ:=d 0 _ V V;refine AX (AT.assign V ((As (Ao (Ao IG))).trans (BJ h6 _ _))) ?_;exact⟨m,jA⟩
   exact No
  refine Ab λK8 h8=>?_
  refine wR ?_;refine Ac ?_;refine AB (λk:Nat=>⟨(A2 (.ptr 0 0::.ptr 1 0::.any::.bs tInt (regsB f)::.bs tInt.slice (CD f p.leaf (regsB f))::.lit (.map (jY m))::A40 (A2 (.bs tInt p.at_::.lit (.int .i64 (p.at_.length:Int))::.lit (.int .i64 (k:Int))::A40 (A8 []))))),[.box (Ak f),.box (BF p),.res (IF (GC p k) m)]⟩) (λk=>k<=p.at_.length/\∀j x,j < k->p.at_[j]? =jY x->atC f p j x=aZ) (λk=>p.at_.length - k) 0 ⟨jS _,λj x h=>by omega⟩ (by rw[Aoj];exact AS) ?_;rintro k ⟨hk,a⟩;refine wR ?_;refine Ab λaw aq=>?_
  refine Ag V (λN=>?_) (λN=>?_)
  ·have ak:k < p.at_.length:=by simpa using N
   obtain⟨x,hx⟩:∃x,p.at_[k]? =jY x:=⟨_,eE ak⟩
   have hS:=OD (regsB f) (k:Int) (I3 f) hr;have ai:=hw x (fR hx);refine Al ?_;refine aq _ ?_;refine nT ?_;refine Ab λav ab=>?_
   refine Ac ?_;refine wR ?_;refine wR (hx:=by((repeat(first|refine sA ?_ (AH V V hS V V)|refine sA ?_|refine AM ?_|refine sAG (hq:=by(intro hg;(try simp only[zah]at hg);(try simp only[hg,zal,zaj]);exact AH V V hS V V)) ?_|refine sAG ?_|refine Bp ?_));exact CS V)) (hk:=?_);refine Ac ?_;refine wR ?_;refine Ag V (λJ=>?_) (λJ=>?_)
   ·have ac:(regsB f).contains (k:Int)=aL:=by simpa using J
    refine wR ?_;refine Ag V (λs=>?_) (λs=>?_)
    ·refine wR ?_;have e:C4 f p=aL:=QN hx (by unfold atC;rw[if_neg (by rw[ac];simp)];simpa using s);rw[e];exact Aw ⟨.inr V,iG V⟩
    ·have T:atC f p k x=aZ:=by unfold atC;rw[if_neg (by rw[ac];simp)];simpa using s
     have D:GC p (k+1)=GC p k:=Xz hx (by
      have:x= -1:=by simpa using s
      subst this;unfold IS;rfl)
     refine Al ?_;refine ab _ ?_;refine nT ?_;refine wRE ?_;refine An ⟨k+1,⟨by omega,λj y hj B=>?_⟩,by omega,?_⟩
     ·rcases jI j k with hj'|hj'
      ·exact a j y hj' B
      ·obtain rfl:j=k:=by omega
       rw[hx]at B;cases B;exact T
     ·rw[D];exact AS
   ·have U:(regsB f).contains (k:Int)=aZ:=by simpa using J
    refine wR ?_;refine Ag V (λI=>?_) (λI=>?_)
    ·have v:IS p x=aZ:=I;have T:atC f p k x=aZ:=by unfold atC;rw[if_pos U,v];rfl
     have D:=Y8 hx v;refine wRE (hx:=by((repeat(first|(refine AC V (Y1 (R:=Cy p.at_) 2 V Tryz.underlying51 V V V V aa (RC p k) ai ?_);refine sNt ?_)|refine sA ?_|refine AM ?_|refine sAG ?_|refine Bp ?_));exact CS V)) (hk:=?_);refine ab _ ?_;refine nT ?_;refine wRE ?_;refine An ⟨k+1,⟨by omega,λj y hj B=>?_⟩,by omega,?_⟩
     ·rcases jI j k with hj'|hj'
      ·exact a j y hj' B
      ·obtain rfl:j=k:=by omega
       rw[hx]at B;cases B;exact T
     ·rw[D];exact AS
    ·have v:IS p x=aL:=I;have D:=Xz hx v;have ae:=Ve (I3 f) (dE.1 U);have hc:(CD f p.leaf (regsB f))[(regsB f).countP (· < (k:Int))]? =jY (BA (B5 f) k p.leaf):=by unfold CD;rw[eH,ae];rfl
     have af:=Jn (BA (B5 f) k p.leaf) x (am _ (fR hc));have ag:(CD f p.leaf (regsB f)).getD ((regsB f).countP (· < (k:Int))) []=BA (B5 f) k p.leaf:=by rw[eB,hc];rfl
     refine wR (hx:=by((repeat(first|refine sA ?_ (AH V V af V V)|refine sA ?_|refine AM ?_|refine sAG (hq:=by(intro hg;(try simp only[zah]at hg);(try simp only[hg,zal,zaj]);exact AH V V af V V)) ?_|refine sAG ?_|refine Bp ?_));exact CS V)) (hk:=?_);refine Ag V (λF=>?_) (λF=>?_)
     ·refine wR ?_;have e:C4 f p=aL:=QN hx (by unfold atC;rw[if_pos U,v,ag];simpa using F);rw[e];exact Aw ⟨.inr V,iG V⟩
     ·have T:atC f p k x=aZ:=by unfold atC;rw[if_pos U,v,ag];simpa using F
      refine Al ?_;refine ab _ ?_;refine nT ?_;refine wRE ?_;refine An ⟨k+1,⟨by omega,λj y hj B=>?_⟩,by omega,?_⟩
      ·rcases jI j k with hj'|hj'
       ·exact a j y hj' B
       ·obtain rfl:j=k:=by omega
        rw[hx]at B;cases B;exact T
      ·rw[D];exact AS
  ·refine Ay ?_;refine h8 _ ?_;refine nT ?_;obtain rfl:k=p.at_.length:=by have:¬k < p.at_.length:=(by simpa using N);omega
   have ad:Ia f=aZ:=by
    have h1:=h0;unfold T3 at h1;simp only[aV]at h1;simpa using h1.1.1.1
   have ar:(p.at_.length:Int)=f.regs:=by
    have h1:=h0;unfold T3 at h1;simp only[aV]at h1;simpa using h1.1.1.2
   have W:=Ard (CC f) al 42 [.bp Mn p 0] V (Nb p) λx hx=>by
    obtain⟨⟨h1,h2⟩,h3,h4⟩:=hE ad x hx;exact NQ (Af (BL.2 ⟨h1,by omega⟩) (Af (BL.2 ⟨h3,by omega⟩) (Aj _)))
   refine wR (hx:=by((repeat(first|refine sA ?_ (Hs (i:=2) (L:=Cy p.at_) V Tryz.underlying51 V V (λ_ _ h=>h) aa (RC p _))|refine sA ?_ (AH V V ah V V)|refine sA (hq:=CJ V W (.cons (.cl V) (.cons (.fn (.cons (Yf V hp) .nil)) .nil))) (hk:=?_)|refine sA ?_|refine AM ?_|refine sAG (hq:=by(intro hg;(try simp only[zah]at hg);(try simp only[hg,zal,zaj]);exact Hs (i:=2) (L:=Cy p.at_) V Tryz.underlying51 V V (λ_ _ h=>h) aa (RC p _))) ?_|refine sAG (hq:=by(intro hg;(try simp only[zah]at hg);(try simp only[hg,zal,zaj]);exact AH V V ah V V)) ?_|refine sAG (hq:=by(intro hg;(try simp only[zah]at hg);(try simp only[hg,zal,zaj]);exact CJ V W (.cons (.cl V) (.cons (.fn (.cons (Yf V hp) .nil)) .nil)))) (hk:=?_)|refine sAG ?_|refine Bp ?_));exact CS V)) (hk:=?_);rw[OH h0 λj x h=>a j x (eG.1 h).1 h];exact Aw ⟨.inr V,iG V⟩
noncomputable section
def I5(l:List Int)(n:Int):Int->M (Int⊕((Unit)⊕(Bool))):=λa=>iM (a8 (a < (l.length:Int))) (iL (Cm l a) (iM ((ixD l a) ==n) (iU (.inr (.inr aZ))) (iU (.inl (bG.wrap (a+1)))))) (iU (.inr (.inl ())))
def ON(l:List Int)(n:Int):M Bool:=iN (iQ (I5 l n) 0) λ_=>iU aL
theorem NY{n:Int}(H:(ON l n).to r):Fn bY 35 [.bs tInt l,.lit (.int .i64 n)] (.lit (.bool r)):=by
 delta ON at H;try dsimp only at H
 refine AQ Tryz.func35 V (by kernel_rfl) V Tryz.ntmps35 λC Y=>?_
 simp only[Nat.reduceAdd,Nat.reduceSub,zaa];refine wS (sT (wN ?_));obtain⟨N,F,D,B⟩:=CH H;refine Bn (β:=(Unit)×(Unit)) (λI=>N= .inl I.1) (λI=>⟨A10 (A8 []),[]⟩) ?_ ?_
 ·refine wS (sT (wN ?_));refine Ac ?_;refine BB F (λO Z=>⟨.bs tInt l::.lit (.int .i64 n)::A3 (.lit (.int .i64 O)::A10 (A2 [])),[]⟩) () (?_) ?_
  ·try dsimp only
   exact AS
  ·rintro W _ U H j;try dsimp only
   dsimp only[I5]at H;refine Ab λL s=>?_
   refine wS (sT (sT (sT (sT (wN ?_)))));refine Ag V (λc=>?_) (λc=>?_)
   ·have H:=AN c H;refine Al ?_;refine s _ ?_;refine nT ?_;refine Ab λJ q=>?_
    refine Ac ?_;obtain⟨T,H⟩:=Ah.1 H;refine wS (sT (sT (sX T (sT (sT (sT (wN ?_)))))));refine Ag V (λa=>?_) (λa=>?_)
    ·have H:=AN a H;refine wS (sT (wN ?_));have H:=Ad.2 (B _ (j _ (Ad.1 H).symm).symm);obtain rfl:=Ad.1 H;exact Aw ⟨.inr V,iG V⟩
    ·have H:=AO a H;refine Al ?_;refine q _ ?_;refine nT ?_;refine wSE (sT (sT (sT (wN ?_))));have v:=Ad.1 H;repeat(first|refine abN ?_|refine asN ?_)
     refine An ⟨_,(),v.symm,?_⟩;try dsimp only
     exact AS
   ·have H:=AO c H;refine Ay ?_;repeat(first|refine BG ?_|refine exO (by decide) ?_|refine asE ?_)
    refine exN ?_;have v:=j _ (Ad.1 H).symm;repeat(first|refine abN ?_|refine asN ?_)
    refine An ⟨(_,()),v.symm,?_⟩;try dsimp only
    exact AS
 ·rintro⟨_,_⟩ d;try dsimp only at d
  have H:=D _ d;try dsimp only
  refine wS (sT (wN ?_));obtain rfl:=Ad.1 H;exact Aw ⟨.inr V,iG V⟩
def FV(f:iI)(r3:List Int):Int->M (Int⊕((Unit)⊕(Bool))):=λa=>iM (a8 (a < (r3.length:Int))) (iL (Cm r3 a) (iL (!(!(a8 ((ixD r3 a) < 0)))||(Cm r3 a)) (iM ((a8 ((ixD r3 a) < 0))||(a8 ((ixD r3 a)≥f.regs))) (iU (.inr (.inr aL))) (iU (.inl (bG.wrap (a+1))))))) (iU (.inr (.inl ())))
def OO(f:iI):M Bool:=iM (((((a8 (f.regs < 0))||(a8 (f.regs > 4096)))||(a8 (f.args < 0)))||(a8 (f.args > 6)))||(a8 (f.args > f.regs))) (iU aL) (iK (NZ f) λr3=>iN (iQ (FV f r3) 0) λ_=>iU aZ)
theorem Aej(H:(OO f).to r):Fn bY 12 [.agg (Ak f)] (.lit (.bool r)):=by
 delta OO at H;try dsimp only at H
 refine AQ Tryz.func12 V (by kernel_rfl) V Tryz.ntmps12 λC hC=>?_
 simp only[Nat.reduceAdd,Nat.reduceSub,zaa];refine wS (sB (sT (wN ?_)));refine Ab λW D=>?_
 refine wS (sT (sT (sT (sT ?_))));refine sGf V ?_;refine sGf V ?_;refine sGf V (sT (sT ?_));refine sGf V ?_;refine sGf V ?_;refine sGf V (sT (sT ?_));refine sGf V ?_;refine sGf V ?_;refine sGf V (sT (sT ?_));refine sGf V ?_;refine sGf V ?_;refine sGf V ?_;refine sGf V ?_;refine sGf V (sT (wN ?_));refine Ag V (λd=>?_) (λd=>?_)
 ·have H:=AN d H;refine wS (sT (wN ?_));obtain rfl:=Ad.1 H;exact Aw ⟨.inr V,iG V⟩
 ·have H:=AO d H;refine Al ?_;refine D _ ?_;refine nT ?_;obtain⟨r3,s,H⟩:=Aq.1 H;have s:=QR s;refine wS (sT (sC s (sT (wN ?_))));obtain⟨Y,N,L,J⟩:=CH H;refine Bn (β:=(Unit)×(Unit)) (λO=>Y= .inl O.1) (λO=>⟨A40 (A10 (A2 [])),[.dead]⟩) ?_ ?_
  ·refine wS (sT (wN ?_));refine Ac ?_;refine BB N (λZ b5=>⟨.any::.ptr 0 0::.any::.bs tInt r3::.lit (.int .i64 Z)::A40 (A7 []),[.box (Ak f)]⟩) () (?_) ?_
   ·try dsimp only
    exact AS
   ·rintro i4 _ x5 H q;try dsimp only
    dsimp only[FV]at H;refine Ab λU B=>?_
    refine wS (sT (sT (sT (sT (wN ?_)))));refine Ag V (λc=>?_) (λc=>?_)
    ·have H:=AN c H;refine Al ?_;refine B _ ?_;refine nT ?_;refine Ab λT v=>?_
     refine Ac ?_;obtain⟨c9,H⟩:=Ah.1 H;obtain⟨I,H⟩:=Ah.1 H;refine dS 14 (hq:=?_);refine qT (qT (qX c9 (qT (qT (qT ?_)))));refine qGf V ?_;refine qGf V ?_;refine qG (g:=(!(a8 ((ixD r3 i4) < 0)))) (hg:=Ak8 V) (hq:=λhg=>Fe V ((As (Ao GO)).trans (BJ hg _ _)) ((As (Ao Fq)).trans (BJ hg _ _)) V (Uq I hg)) (ht:=(Ar (Ap HT))) ?_;refine qGf V ?_;refine qGf V ?_;refine qGf V ?_;refine qGf V (qT (qN (wN ?_)));refine Ag V (λa=>?_) (λa=>?_)
     ·have H:=AN a H;refine wS (sT (wN ?_));have H:=Ad.2 (J _ (q _ (Ad.1 H).symm).symm);obtain rfl:=Ad.1 H;exact Aw ⟨.inr V,iG V⟩
     ·have H:=AO a H;refine Al ?_;refine v _ ?_;refine nT ?_;refine wSE (sT (sT (sT (wN ?_))));have F:=Ad.1 H;repeat(first|refine abN ?_|refine asN ?_)
      refine An ⟨_,(),F.symm,?_⟩;try dsimp only
      exact AS
    ·have H:=AO c H;refine Ay ?_;repeat(first|refine BG ?_|refine exO (by decide) ?_|refine asE ?_)
     refine exN ?_;have F:=q _ (Ad.1 H).symm;repeat(first|refine abN ?_|refine asN ?_)
     refine An ⟨(_,()),F.symm,?_⟩;try dsimp only
     exact leC (iD (iE _))
  ·rintro⟨_,_⟩ j;try dsimp only at j
   have H:=L _ j;try dsimp only
   refine wS (sT (wN ?_));obtain rfl:=Ad.1 H;exact Aw ⟨.inr V,iG V⟩
def I4(f:iI)(p:i9)(a:Int):M Bool:=iL (Cm p.at_ a) (iM (a8 ((ixD p.at_ a)≥32)) (iU ((!p.leaf)&&(a8 ((bG.wrap ((ixD p.at_ a) - 32)) < p.slots)))) (iK (QS f a p.leaf) λr4=>iK (ON r4 (ixD p.at_ a)) λc=>iU c))
theorem Wb{c:Int}(H:(I4 f p c).to r):Fn bY 36 [.agg (Ak f),.agg (BF p),.lit (.int .i64 c)] (.lit (.bool r)):=by
 delta I4 at H;try dsimp only at H
 refine AQ Tryz.func36 V (by kernel_rfl) V Tryz.ntmps36 λC D=>?_
 simp only[Nat.reduceAdd,Nat.reduceSub,zaa];refine wS (sB (sB (sT (wN ?_))));obtain⟨v,H⟩:=Ah.1 H;refine wS (sT (sT (sT (sX v (sT (sT (wN ?_)))))));refine Ab λs q=>?_
 refine wS (sT (sT (wN ?_)));refine Ag V (λa=>?_) (λa=>?_)
 ·have H:=AN a H;refine wS (sT (sT (sT (sT ?_))));refine sGt V ?_;refine sGt V ?_;refine sGt V ?_;refine sGt V ?_;refine sGt V (sT (sT (wN ?_)));obtain rfl:=Ad.1 H;exact Aw ⟨.inr V,iG V⟩
 ·have H:=AO a H;refine Al ?_;refine q _ ?_;refine nT ?_;obtain⟨r4,j,H⟩:=Aq.1 H;have j:=TC j;obtain⟨B,d,H⟩:=Aq.1 H;have d:=NY d;refine wS (sT (sT (sT (sT (sC j (sT (sC d (sT (wN ?_)))))))));obtain rfl:=Ad.1 H;exact Aw ⟨.inr V,iG V⟩
def Eo(f:iI)(p:i9)(q:List Int):Int->M (Int⊕((Unit)⊕(Bool))):=λa=>iM (a8 (a < f.regs)) (iK (ON q a) λc=>iL (!(!c)||(Cm p.at_ a)) (iK (M.whn (!((!c)&&((ixD p.at_ a) !=(-1)))) aL (ON q a)) λd=>iK (M.whn ((!((!c)&&((ixD p.at_ a) !=(-1))))&&d) aL (I4 f p a)) λj=>iM (((!c)&&((ixD p.at_ a) !=(-1)))||(d&&(!j))) (iU (.inr (.inr aL))) (iU (.inl (bG.wrap (a+1)))))) (iU (.inr (.inl ())))
def En(p:i9):Int->M (Int⊕((Unit)⊕(Bool))):=λa=>iM (a8 (a < p.slots)) (iK (ON p.at_ (bG.wrap (32+a))) λc=>iM (!c) (iU (.inr (.inr aL))) (iU (.inl (bG.wrap (a+1))))) (iU (.inr (.inl ())))
def El(f:iI)(p:i9)(d:List Int)(q:List (List (List Int)))(c:Int):Int->M (Int⊕((Unit)⊕((Int)⊕((Unit)⊕(Bool))))):=λa=>iM (a8 (a < c)) (iL (Cm d c) (iL (Cm p.at_ (ixD d c)) (iL (Cm d a) (iL (Cm p.at_ (ixD d a)) (iL (!((ixD p.at_ (ixD d c)) ==(ixD p.at_ (ixD d a)))||(Cm d c)) (iL (!((ixD p.at_ (ixD d c)) ==(ixD p.at_ (ixD d a)))||(Cm d a)) (iK (M.whn ((ixD p.at_ (ixD d c)) ==(ixD p.at_ (ixD d a))) aL (Lt f q (ixD d c) (ixD d a))) λj=>iM (((ixD p.at_ (ixD d c)) ==(ixD p.at_ (ixD d a)))&&j) (iU (.inr (.inr (.inr (.inr aL))))) (iU (.inl (bG.wrap (a+1))))))))))) (iU (.inr (.inl ())))
def Em(f:iI)(p:i9)(c:List Int)(d:List (List (List Int))):Int->M (Int⊕((Unit)⊕(Bool))):=λa=>iM (a8 (a < (c.length:Int))) (iN (iQ (El f p c d a) 0) λ_=>iU (.inl (bG.wrap (a+1)))) (iU (.inr (.inl ())))
def E4(f:iI)(p:i9):M Bool:=iK (OO f) λr2=>iK (M.whn ((!((((!r2)||((p.at_.length:Int) !=f.regs))||(a8 (p.slots < 0)))||(a8 (p.slots > f.regs))))&&p.leaf) aL (RM f)) λr3=>iM (((((!r2)||((p.at_.length:Int) !=f.regs))||(a8 (p.slots < 0)))||(a8 (p.slots > f.regs)))||(p.leaf&&((!r3)||(p.slots !=0)))) (iU aL) (iK (NZ f) λa=>iK (Ael f) λc=>iN (iQ (Eo f p a) 0) λ_=>iN (iQ (En p) 0) λ_=>iN (iQ (Em f p a c) 0) λ_=>iU aZ)
theorem KD(H:(E4 f p).to r):Fn bY 15 [.agg (Ak f),.agg (BF p)] (.lit (.bool r)):=by
 delta E4 at H;try dsimp only at H
 refine AQ Tryz.func15 V (by kernel_rfl) V Tryz.ntmps15 λC hC=>?_
 simp only[Nat.reduceAdd,Nat.reduceSub,zaa];refine wS (sB (sB (sT (wN ?_))));refine Ab λcj bo=>?_
 obtain⟨r2,k2,H⟩:=Aq.1 H;have k2:=Aej k2;obtain⟨r3,k3,H⟩:=Aq.1 H;refine wS (sT (sC k2 (sT (sT ?_))));refine sGf V ?_;refine sGf V ?_;refine sGf V ?_;refine sGf V ?_;refine sGf V ?_;refine sGf V (sT (sT ?_));refine sGf V ?_;refine sGf V ?_;refine sGf V (sT (sT ?_));refine sGf V ?_;refine sGf V ?_;refine sGf V ?_;refine sGf V ?_;refine sGf V (sT (sT ?_));refine sGf V ?_;refine sGf V ?_;refine sGf V ?_;refine sG (g:=((!((((!r2)||((p.at_.length:Int) !=f.regs))||(a8 (p.slots < 0)))||(a8 (p.slots > f.regs))))&&p.leaf)) (hg:=LZ V V) (hq:=λhg=>by(have a:=Hn hg;exact AR V FG V V)) (ht:=(Ar HT)) (hk:=?_);refine sG (g:=((!((((!r2)||((p.at_.length:Int) !=f.regs))||(a8 (p.slots < 0)))||(a8 (p.slots > f.regs))))&&p.leaf)) (hg:=LZ V V) (hq:=λhg=>by(have a:=Hn hg;(try simp only[BJ hg,BJ a]);(try simp only[Qv hg,Qv a]);exact AH V V (Zz (iV k3 hg)) V V)) (ht:=(Ar Hy)) (hk:=?_);refine sG (g:=((!((((!r2)||((p.at_.length:Int) !=f.regs))||(a8 (p.slots < 0)))||(a8 (p.slots > f.regs))))&&p.leaf)) (hg:=LZ V V) (hq:=λhg=>by(have a:=Hn hg;exact Co V ((As Hd).trans (BJ hg _ _)))) (ht:=(Ar (Ap HU))) (hk:=?_);refine sG (g:=((!((((!r2)||((p.at_.length:Int) !=f.regs))||(a8 (p.slots < 0)))||(a8 (p.slots > f.regs))))&&p.leaf)) (hg:=LZ V V) (hq:=λhg=>by(have a:=Hn hg;exact AT.move V ((As (Ao IG)).trans (BJ hg _ _)))) (ht:=(Ar (Ap JH))) (hk:=?_);refine sG (g:=(((!((((!r2)||((p.at_.length:Int) !=f.regs))||(a8 (p.slots < 0)))||(a8 (p.slots > f.regs))))&&p.leaf)&&(!(!r3)))) (hg:=Aqs V V) (hq:=λhg=>by(have a:=Hn hg;have T:=Hn a;exact Br V FF V)) (ht:=(Ar (Ap Mk))) (hk:=?_);refine sG (g:=(((!((((!r2)||((p.at_.length:Int) !=f.regs))||(a8 (p.slots < 0)))||(a8 (p.slots > f.regs))))&&p.leaf)&&(!(!r3)))) (hg:=Aqs V V) (hq:=λhg=>by(have a:=Hn hg;have T:=Hn a;exact Bf V ((As (Ao FG)).trans (BJ hg _ _)) V V)) (ht:=(Ar (Ap JG))) (hk:=?_);refine sG (g:=(((!((((!r2)||((p.at_.length:Int) !=f.regs))||(a8 (p.slots < 0)))||(a8 (p.slots > f.regs))))&&p.leaf)&&(!(!r3)))) (hg:=Aqs V V) (hq:=λhg=>by(have a:=Hn hg;have T:=Hn a;exact CQ V ((As (Ao FF)).trans (BJ hg _ _)) Acf V)) (ht:=(Ar (Ap Ka))) (hk:=?_);refine sG (g:=((!((((!r2)||((p.at_.length:Int) !=f.regs))||(a8 (p.slots < 0)))||(a8 (p.slots > f.regs))))&&p.leaf)) (hg:=LZ V V) (hq:=λhg=>by(have a:=Hn hg;exact Io V ((As (Ao GP)).trans (BJ hg _ _)) Acf ((As (Ao GO)).trans (Qv hg _ _)))) (ht:=(Ar (Ap GY))) (hk:=?_);refine sG (g:=(!((((!r2)||((p.at_.length:Int) !=f.regs))||(a8 (p.slots < 0)))||(a8 (p.slots > f.regs))))) (hg:=Ak8 V) (hq:=λhg=>DV V ((As Fq).trans (BJ hg _ _)) ((As (Ao Fq)).trans (Qv hg _ _)) Acf) (ht:=(Ar (Ap HT))) (hk:=?_);refine sT (wN ?_);refine Ag V (λac=>?_) (λac=>?_)
 ·have H:=AN ac H;refine wS (sT (wN ?_));obtain rfl:=Ad.1 H;exact Aw ⟨.inr V,iG V⟩
 ·have H:=AO ac H;refine Al ?_;refine bo _ ?_;refine nT ?_;obtain⟨d,k5,H⟩:=Aq.1 H;have k5:=QR k5;obtain⟨r6,k6,H⟩:=Aq.1 H;have k6:=Aek k6;refine dS 6 (hq:=?_);refine qT (qC k5 (qT (qC k6 (qT (qT (qN (wN ?_)))))));obtain⟨z8,ch,cg,cf⟩:=CH H;refine Bn (β:=(Unit)×(Unit)) (λq8=>z8= .inl q8.1) (λq8=>⟨A2 (.ptr 0 0::.ptr 1 0::.any::.bs tInt d::.bs tInt.slice.slice r6::A80 (A40 (A8 []))),[.box (Ak f),.box (BF p)]⟩) ?_ ?_
  ·refine wS (sT (wN ?_));refine Ac ?_;refine BB ch (λs8 b8=>⟨A2 (.ptr 0 0::.ptr 1 0::.any::.bs tInt d::.bs tInt.slice.slice r6::.lit (.int .i64 s8)::A80 (A40 (A7 []))),[.box (Ak f),.box (BF p)]⟩) () (?_) ?_
   ·try dsimp only
    exact AS
   ·rintro Z _ x8 H ar;try dsimp only
    dsimp only[Eo]at H;refine Ab λci bn=>?_
    refine wS (sT (sT (sT (sT (wN ?_)))));refine Ag V (λI=>?_) (λI=>?_)
    ·have H:=AN I H;refine Al ?_;refine bn _ ?_;refine nT ?_;refine Ab λce aq=>?_
     refine Ac ?_;obtain⟨c,ab,H⟩:=Aq.1 H;have ab:=NY ab;obtain⟨bx,H⟩:=Ah.1 H;obtain⟨j,bm,H⟩:=Aq.1 H;obtain⟨cr,bl,H⟩:=Aq.1 H;refine wS (sT (sT (sC ab (sT (sT ?_)))));refine sGt V ?_;refine sGt V ?_;refine sGt V ?_;refine Aor V bx ?_;refine sGt V ?_;refine sGt V (sT (sT ?_));refine sGf V ?_;refine sGf V ?_;refine sG (g:=(!((!c)&&((ixD p.at_ Z) !=(-1))))) (hg:=Ak8 V) (hq:=λhg=>by((try simp only[BJ hg]);(try simp only[Qv hg]);exact AH V V (NY (iV bm hg)) V V)) (ht:=(Ar (Ar (Ap JH)))) ?_;refine sGf V ?_;refine sG (g:=((!((!c)&&((ixD p.at_ Z) !=(-1))))&&j)) (hg:=LZ V V) (hq:=λhg=>by(have a:=Hn hg;exact AR V FG V V)) (ht:=(Ar (Ar (Ap JG)))) (hk:=?_);refine sG (g:=((!((!c)&&((ixD p.at_ Z) !=(-1))))&&j)) (hg:=LZ V V) (hq:=λhg=>by(have a:=Hn hg;exact AR V FF V V)) (ht:=(Ar (Ar (Ap Ka)))) (hk:=?_);refine sG (g:=((!((!c)&&((ixD p.at_ Z) !=(-1))))&&j)) (hg:=LZ V V) (hq:=λhg=>by(have a:=Hn hg;exact AT.move V Hd)) (ht:=(Ar (Ar (Ap GY)))) (hk:=?_);refine sG (g:=((!((!c)&&((ixD p.at_ Z) !=(-1))))&&j)) (hg:=LZ V V) (hq:=λhg=>by(have a:=Hn hg;(try simp only[BJ hg,BJ a]);(try simp only[Qv hg,Qv a]);exact AH V V (Wb (iV bl hg)) V V)) (ht:=(Ar (Ar (Ap HT)))) (hk:=?_);refine sG (g:=((!((!c)&&((ixD p.at_ Z) !=(-1))))&&j)) (hg:=LZ V V) (hq:=λhg=>by(have a:=Hn hg;exact Co V ((As (As (Ao Iy))).trans (BJ hg _ _)))) (ht:=(Ar (Ar (Ap Hy)))) (hk:=?_);refine sG (g:=(!((!c)&&((ixD p.at_ Z) !=(-1))))) (hg:=Ak8 V) (hq:=λhg=>DV V ((As (As (Ao FG))).trans (BJ hg _ _)) ((As (As (Ao Hd))).trans (Qv hg _ _)) Acf) (ht:=(Ar (Ar (Ap (Ap HU))))) ?_;refine sT (wN ?_);refine Ag V (λF=>?_) (λF=>?_)
     ·have H:=AN F H;refine wS (sT (wN ?_));have H:=Ad.2 (cf _ (ar _ (Ad.1 H).symm).symm);obtain rfl:=Ad.1 H;exact Aw ⟨.inr V,iG V⟩
     ·have H:=AO F H;refine Al ?_;refine aq _ ?_;refine nT ?_;refine wSE (sT (sT (sT (wN ?_))));have e8:=Ad.1 H;repeat(first|refine abN ?_|refine asN ?_)
      refine An ⟨_,(),e8.symm,?_⟩;try dsimp only
      exact AS
    ·have H:=AO I H;refine Ay ?_;repeat(first|refine BG ?_|refine exO (by decide) ?_|refine asE ?_)
     refine exN ?_;have e8:=ar _ (Ad.1 H).symm;repeat(first|refine abN ?_|refine asN ?_)
     refine An ⟨(_,()),e8.symm,?_⟩;try dsimp only
     exact AS
  ·rintro⟨_,_⟩ ak;try dsimp only at ak
   have H:=cg _ ak;try dsimp only
   obtain⟨bg,bc,az,aw⟩:=CH H;refine Bn (β:=(Unit)×(Unit)) (λai=>bg= .inl ai.1) (λai=>⟨A2 (.ptr 0 0::.ptr 1 0::.any::.bs tInt d::.bs tInt.slice.slice r6::A80 (A40 (A8 []))),[.box (Ak f),.box (BF p)]⟩) ?_ ?_
   ·refine wS (sT (wN ?_));refine Ac ?_;refine BB bc (λbj cu=>⟨A2 (.ptr 0 0::.ptr 1 0::.any::.bs tInt d::.bs tInt.slice.slice r6::.any::.lit (.int .i64 bj)::A80 (A40 (A6 []))),[.box (Ak f),.box (BF p)]⟩) () (?_) ?_
    ·try dsimp only
     exact AS
    ·rintro co _ cn H Y;try dsimp only
     dsimp only[En]at H;refine Ab λcd ap=>?_
     refine wS (sT (sT (sT (sT (wN ?_)))));refine Ag V (λD=>?_) (λD=>?_)
     ·have H:=AN D H;refine Al ?_;refine ap _ ?_;refine nT ?_;refine Ab λcc ao=>?_
      refine Ac ?_;obtain⟨cq,aa,H⟩:=Aq.1 H;have aa:=NY aa;refine wS (sT (sT (sT (sT (sC aa (sT (wN ?_)))))));refine Ag V (λB=>?_) (λB=>?_)
      ·have H:=AN B H;refine wS (sT (wN ?_));have H:=Ad.2 (aw _ (Y _ (Ad.1 H).symm).symm);obtain rfl:=Ad.1 H;exact Aw ⟨.inr V,iG V⟩
      ·have H:=AO B H;refine Al ?_;refine ao _ ?_;refine nT ?_;refine wSE (sT (sT (sT (wN ?_))));have af:=Ad.1 H;repeat(first|refine abN ?_|refine asN ?_)
       refine An ⟨_,(),af.symm,?_⟩;try dsimp only
       exact AS
     ·have H:=AO D H;refine Ay ?_;repeat(first|refine BG ?_|refine exO (by decide) ?_|refine asE ?_)
      refine exN ?_;have af:=Y _ (Ad.1 H).symm;repeat(first|refine abN ?_|refine asN ?_)
      refine An ⟨(_,()),af.symm,?_⟩;try dsimp only
      exact AS
   ·rintro⟨_,_⟩ O;try dsimp only at O
    have H:=az _ O;try dsimp only
    obtain⟨bf,bb,ay,av⟩:=CH H;refine Bn (β:=(Unit)×(Unit)) (λah=>bf= .inl ah.1) (λah=>⟨A80 (A40 (A10 (A5 []))),[.dead,.dead]⟩) ?_ ?_
    ·refine wS (sT (wN ?_));refine Ac ?_;refine BB bb (λbi ct=>⟨A2 (.ptr 0 0::.ptr 1 0::.any::.bs tInt d::.bs tInt.slice.slice r6::A2 (.lit (.int .i64 bi)::A80 (A40 (A5 [])))),[.box (Ak f),.box (BF p)]⟩) () (?_) ?_
     ·try dsimp only
      exact AS
     ·rintro J _ cm H W;try dsimp only
      dsimp only[Em]at H;refine Ab λcb an=>?_
      refine wS (sT (sT (sT (sT (wN ?_)))));refine Ag V (λv=>?_) (λv=>?_)
      ·have H:=AN v H;refine Al ?_;refine an _ ?_;refine nT ?_;obtain⟨be,ba,ax,au⟩:=CH H;refine Bn (β:=(Unit)×(Unit)) (λag=>be= .inl ag.1) (λag=>⟨A2 (.ptr 0 0::.ptr 1 0::.any::.bs tInt d::.bs tInt.slice.slice r6::A2 (.lit (.int .i64 J)::A80 (A40 (A5 [])))),[.box (Ak f),.box (BF p)]⟩) ?_ ?_
       ·refine Ac ?_;refine wS (sT (wN ?_));refine Ac ?_;refine BB ba (λbh cs=>⟨A2 (.ptr 0 0::.ptr 1 0::.any::.bs tInt d::.bs tInt.slice.slice r6::A2 (.lit (.int .i64 J)::.lit (.int .i64 bh)::A80 (A40 (A4 [])))),[.box (Ak f),.box (BF p)]⟩) () (?_) ?_
        ·try dsimp only
         exact AS
        ·rintro aj _ ck H U;try dsimp only
         dsimp only[El]at H;refine Ab λca am=>?_
         refine wS (sT (sT (sT (wN ?_))));refine Ag V (λs=>?_) (λs=>?_)
         ·have H:=AN s H;refine Al ?_;refine am _ ?_;refine nT ?_;refine Ab λbz al=>?_
          refine Ac ?_;obtain⟨bw,H⟩:=Ah.1 H;obtain⟨bv,H⟩:=Ah.1 H;obtain⟨bu,H⟩:=Ah.1 H;obtain⟨bt,H⟩:=Ah.1 H;obtain⟨br,H⟩:=Ah.1 H;obtain⟨bq,H⟩:=Ah.1 H;obtain⟨cp,bk,H⟩:=Aq.1 H;refine dS 30 (hq:=?_);refine qT (qT (qT (qT (qX bw (qT (qX bv (qT (qT (qT (qT (qT ?_)))))))))));refine qX bu (qT (qX bt (qT (qT (qT ?_)))));refine qG (g:=((ixD p.at_ (ixD d J)) ==(ixD p.at_ (ixD d aj)))) (hg:=Pm V) (hq:=λhg=>AR V FG V V) (ht:=(Ar (Ar (Ar (Ap (Ap (Ap JG))))))) (hk:=?_);refine qGt V ?_;refine qGt V ?_;refine qGt V ?_;refine Arp V br ?_;refine qGt V ?_;refine qGt V ?_;refine qGt V ?_;refine Arp V bq ?_;refine qGt V ?_;refine qG (g:=((ixD p.at_ (ixD d J)) ==(ixD p.at_ (ixD d aj)))) (hg:=Pm V) (hq:=λhg=>by((try simp only[BJ hg]);(try simp only[Qv hg]);exact AH V V (ZA (iV bk hg)) V V)) (ht:=(Ar (Ar (Ar (Ar GY))))) ?_;refine qT (qN (wN ?_));refine Ag V (λq=>?_) (λq=>?_)
          ·have H:=AN q H;refine wS (sT (wN ?_));have H:=Ad.2 (au _ (U _ (Ad.1 H).symm).symm);have H:=Ad.2 (av _ (W _ (Ad.1 H).symm).symm);obtain rfl:=Ad.1 H;exact Aw ⟨.inr V,iG V⟩
          ·have H:=AO q H;refine Al ?_;refine al _ ?_;refine nT ?_;refine wSE (sT (sT (sT (wN ?_))));have ad:=Ad.1 H;repeat(first|refine abN ?_|refine asN ?_)
           refine An ⟨_,(),ad.symm,?_⟩;try dsimp only
           exact AS
         ·have H:=AO s H;refine Ay ?_;repeat(first|refine BG ?_|refine exO (by decide) ?_|refine asE ?_)
          refine exN ?_;have ad:=U _ (Ad.1 H).symm;repeat(first|refine abN ?_|refine asN ?_)
          refine An ⟨(_,()),ad.symm,?_⟩;try dsimp only
          exact AS
       ·rintro⟨_,_⟩ L;try dsimp only at L
        have H:=ax _ L;try dsimp only
        refine wSE (sT (sT (sT (wN ?_))));have ae:=Ad.1 H;repeat(first|refine abN ?_|refine asN ?_)
        refine An ⟨_,(),ae.symm,?_⟩;try dsimp only
        exact AS
      ·have H:=AO v H;refine Ay ?_;repeat(first|refine BG ?_|refine exO (by decide) ?_|refine asE ?_)
       refine exN ?_;have ae:=W _ (Ad.1 H).symm;repeat(first|refine abN ?_|refine asN ?_)
       refine An ⟨(_,()),ae.symm,?_⟩;try dsimp only
       exact leC (iD (iD (iE _)))
    ·rintro⟨_,_⟩ N;try dsimp only at N
     have H:=ay _ N;try dsimp only
     refine wS (sT (wN ?_));obtain rfl:=Ad.1 H;exact Aw ⟨.inr V,iG V⟩
end
noncomputable section
end
end Mu
namespace Mu
open Go Go.RowKit
theorem GJ{h:List gZ}{x:Ins}(hk:E5 x=aZ):Fit h Ei (.agg (BV x)) x:=Oj (enc:=BV) λ_ _ _ _ H=>My (DC.1 hk) H
theorem Agv{h:List gZ}{x:iB}(hk:LG x=aZ):Fit h Cw (.agg (D1 x)) x:=Oj (enc:=D1) λ_ _ _ _ H=>Aeo (I9.1 hk).name H
section
variable{w:cG}{S:Nat->Prop}{h:List gZ}{ψ:Nat->cC}{cs:List cC}
end
open Go.Proofs
variable{a:Int}{c:Bool}{ρ:Type}{d:ρ}{k:Nat}{l:List Int}{n:Nat}{p:i9}{q:Ins×List Int}{r:Int}{v:ρ}{z:Int}{α:Type}
noncomputable section
def Jp(f:iI)(p:i9):M Bool:=iL (MQ f&&a8 (Dc.bulk f<=2097152)&&Wr p&&p.at_.all (wfB .i64)&&a8 (p.at_.length<=2147483648)&&a8 ((regsB f).length<=2147483648)&&(CD f p.leaf (regsB f)).all (λc=>decide (c.length<=2147483648))&&a8 ((CC f).length<=2147483648)&&(!Ia f||(CC f).all λx=>decide ((0<=x.a/\x.a < f.regs)/\(0<=x.b/\x.b < f.regs)))) (iU (C4 f p))
theorem Qp{f:iI}{r:Bool}(H:(Jp f p).to r):Fn bY 16 [.agg (Ak f),.agg (BF p)] (.lit (.bool r)):=by
 obtain⟨c,H⟩:=Ah.1 H;obtain rfl:=Ad.1 H;simp only[aI,aW,aR,cV,decide_eq_true_eq]at c;obtain⟨⟨⟨⟨⟨⟨⟨⟨h1,h2⟩,J⟩,I⟩,F⟩,D⟩,B⟩,s⟩,h9⟩:=c;exact Ajp f p (BM.1 h1) h2 (ZO J) (λx hx=>Xy (I x hx)) F D B s λj=>by
  rcases h9 with h9|h9
  ·rw[h9]at j;cases j
  ·exact h9
end
theorem w23(hk:k < n)(j:n<=10000000):bG.wrap ((k:Int)+1)=((k+1:Nat):Int):=by
 rw[bK _ (by omega)];rfl
theorem Qk{l:List α}(h:k < l.length):Cm l (k:Int)=aZ:=BL.2 ⟨by omega,by rw[cP];exact h⟩
theorem Ug{step:Int->M (Int⊕(Unit⊕ρ))}{p:Nat->Bool}
 (h:∀k,k < n->(step (k:Int)).to (if p k then .inr (.inr v)else .inl ((k+1:Nat):Int)))(F:(step (n:Int)).to (.inr (.inl ()))):(iQ step 0).to (if(gJ n).any p then .inr v else .inl ()):=by
 have B:∀(d k:Nat),k+d=n->(iQ step (k:Int)).to (if(gK k d).any p then .inr v else .inl ()):=by
  intro d;induction d with
  |zero=>
   intro k hk;have:k=n:=by omega
   subst this;exact iT F
  |succ d D=>
   intro k hk;have j:=h k (by omega);rw[gL,cW];by_cases s:p k=aZ
   ·rw[s]at j⊢;exact iT j
   ·have s:p k=aL:=by simpa using s
    rw[s]at j⊢;rw[aO];exact iR j (D (k+1) (by omega))
 have:=B n 0 (by omega);rwa [<-gN]at this
theorem Ax0{x:M (Unit⊕ρ)}(h:x.to (if c then .inr v else .inl ())):(iN x λ_=>iU d).to (if c then v else d):=by
 cases c
 ·exact iO h (Aj _)
 ·exact iP h
theorem Azd(c:Bool):(if c then aZ else aL)=c:=by cases c <;> rfl
theorem Id{l:List α}(h:k < l.length):Cm l (k:Int)=aZ:=BL.2 ⟨by omega,by rw[cP];exact h⟩
theorem Axs(hk:k < n)(j:n<=4611686018427387904):bG.wrap ((k:Int)+1)=((k+1:Nat):Int):=by rw[bK _ ⟨by omega,by omega⟩];omega
theorem Ub{f:iI}:q∈stepsL f↔∃b i,b < f.blocks.length/\(Cl f b)[i]? =jY q.1/\q.2=Df f (Bz f) b (i+1):=by
 constructor
 ·intro h;unfold stepsL at h;obtain⟨b,j,hq⟩:=fO.1 h;obtain⟨i,hi⟩:=fP.1 hq;unfold ED at hi;obtain⟨h1,h2⟩:=eO.1 hi;rw[List.getElem?_drop,Nat.add_comm]at h2;unfold B6 at h2;rw[eH]at h2;obtain⟨k,s,F⟩:=jW.1 h2;have B:=(eG.1 s).1;rw[eX]at B;rw[eJ B]at s;cases s;exact⟨b,i,fU.1 j,h1,F.symm⟩
 ·rintro⟨b,i,j,hx,D⟩;have hi:=(eG.1 hx).1;refine fR (Tc j hx (l:=q.2) ?_);unfold B6;rw[eH,eJ (by omega),D];rfl
theorem Pa{x:i8}:x∈WL q↔∃r∈q.2,MR q r=aZ/\x∈Dg q.1.d r:=by
 unfold WL;simp only[fO,fN,and_assoc]
theorem Wk(a:Int):Dg a a= []:=if_pos V
theorem Wl(a b:Int):Dg a b=Dg b a:=by
 unfold Dg;rw[Int.min_comm,Int.max_comm];by_cases h:a=b
 ·rw[if_pos h,if_pos h.symm]
 ·rw[if_neg h,if_neg (jT h)]
theorem Uc{x:i8}:x∈edgeF l↔∃a∈l,∃b∈l,x∈Dg a b:=by
 have s:∀(i j:Nat) (a b:Int),j < i->l[i]? =jY a->l[j]? =jY b->x∈Dg a b->x∈edgeF l:=λi j a b I F B hx=>by
  unfold edgeF;refine fO.2 ⟨i,fU.2 (eG.1 F).1,fO.2 ⟨b,?_,by rw[F];exact hx⟩⟩;exact fR (i:=j) (by rw[List.getElem?_take,if_pos I];exact B)
 constructor
 ·intro h;unfold edgeF at h;obtain⟨i,hi,h⟩:=fO.1 h;obtain⟨b,B,h⟩:=fO.1 h;have hi:=fU.1 hi;rw[eE hi]at h;exact⟨_,eP hi,b,fS B,h⟩
 ·rintro⟨a,F,b,B,hx⟩;obtain⟨i,hi⟩:=fP.1 F;obtain⟨j,D⟩:=fP.1 B;rcases jK i j with h|h|h
  ·exact s j i b a h D hi (by rw[Wl];exact hx)
  ·subst h;rw[hi]at D;cases D;rw[Wk]at hx;cases hx
  ·exact s i j a b h hi D hx
theorem Aao{f:iI}{x:i8}:Hf f x=aZ↔(∃q∈stepsL f,x∈WL q)\/x∈edgeF (CW f):=by
 unfold Hf Hg;rw[PI,PI,gW,fO];simp
theorem Aap(f:iI):Aoh (CC f):=PF (CL f).1
section
variable{f:iI}{b:Nat}{bl:iB}{x:Ins}(hb:f.blocks[b]? =jY bl)(hne:bl.ins≠[])(hw:Bd x=aL)
include hb hne hw
end
section
variable{P:bT}{C:Ctx}{t:List AV}{h:List gZ}{o:bR}
end
theorem Ajt(l:List Ins):(l.flatMap By).length<=DU Ei.bulk l:=by
 induction l with
 |nil=>simp[DU]
 |cons x l j=>
  have h1:=KC x;have h2:=Sr x;have B:=Ee Wp x.args;have s:(By x).length<=(readsC x).length+1:=by
   unfold By;rw[eT];split <;> simp
  simp only[dX,eT,DU];omega
theorem V5(l:List iB):(l.flatMap λb=>b.ins.flatMap By).length<=DU Cw.bulk l:=by
 induction l with
 |nil=>simp[DU]
 |cons b l j=>
  have h1:=Ajt b.ins;have h2:=Hm b;simp only[dX,eT,DU];omega
theorem Ah1{f:iI}(h:Dc.bulk f<=2097152):(Nv f).length<=2097152:=by
 have h1:=V5 f.blocks;have h2:=L7 f;have e:(Nv f).length=(f.blocks.flatMap λb=>b.ins.flatMap By).length:=rfl;omega
theorem Agw{f:iI}(j:okFunc f)(h:Dc.bulk f<=2097152):iH f:=⟨j,Zn h,Zx h,Ah1 h,Af7 h⟩
theorem Ah2{f:iI}{b:Nat}(hb:b < f.blocks.length):ixD (PH f) (b:Int)=B6 f b:=Cf (by unfold PH;rw[eH,eJ hb];rfl)
theorem Ahp{f:iI}{b i:Nat}(hi:i < (Cl f b).length):(B6 f b)[i+1]? =jY (Df f (Bz f) b (i+1)):=by
 unfold B6;rw[eH,eJ (by omega)];rfl
theorem Sb{step:Int->M (Int⊕(Unit⊕ρ))}{p:Nat->Bool}
 (h:∀k,k < n->(step (k:Int)).to (if p k then .inr (.inr v)else .inl ((k+1:Nat):Int)))(F:(step (n:Int)).to (.inr (.inl ()))):(iQ step 0).to (if(gJ n).any p then .inr v else .inl ()):=by
 have B:∀(d k:Nat),k+d=n->(iQ step (k:Int)).to (if(gK k d).any p then .inr v else .inl ()):=by
  intro d;induction d with
  |zero=>
   intro k hk;have:k=n:=by omega
   subst this;exact iT F
  |succ d D=>
   intro k hk;have j:=h k (by omega);rw[gL,cW];by_cases s:p k=aZ
   ·rw[s]at j⊢;exact iT j
   ·have s:p k=aL:=by simpa using s
    rw[s]at j⊢;rw[aO];exact iR j (D (k+1) (by omega))
 have:=B n 0 (by omega);rwa [<-gN]at this
theorem WK{x:M (Unit⊕ρ)}(h:x.to (if c then .inr v else .inl ())):(iN x λ_=>iU d).to (if c then v else d):=by
 cases c
 ·exact iO h (Aj _)
 ·exact iP h
theorem Arc{l:List α}{p:Nat->Bool}{q:α->Bool}(h:∀k x,l[k]? =jY x->p k=q x):(gJ l.length).any p=l.any q:=by
 rw[aK,cY,cY];constructor
 ·rintro⟨k,hk,j⟩;have hk:=fU.1 hk;exact⟨l[k],eP hk,by rw[<-h k _ (eE hk)];exact j⟩
 ·rintro⟨x,hx,hq⟩;obtain⟨k,hk⟩:=fP.1 hx;exact⟨k,fU.2 (eG.1 hk).1,by rw[h k x hk];exact hq⟩
theorem Ad7{n:Int}(j:l.length<=4611686018427387904):(OP l n).to (l.contains n):=by
 have h:=Sb (step:=I6 l n) (p:=λk=>l.getD k 0 ==n) (v:=aZ) (n:=l.length) (λk hk=>?_) ?_
 ·unfold OP;have h2:=WK (d:=aL) h;rw[Arc (q:=λx=>x ==n) λk x hx=>by rw[eA,hx];rfl]at h2;have e:(if(l.any λx=>x ==n)=aZ then aZ else aL)=l.contains n:=by
   rw[show l.contains n=l.any λx=>x ==n by rw[List.contains_eq_any_beq];congr 1;funext x;exact aJ ..];cases l.any λx=>x ==n <;> rfl
  rwa [e]at h2
 ·obtain⟨x,hx⟩:∃x,l[k]? =jY x:=⟨_,eE hk⟩
  have s:l.getD k 0=x:=by rw[eA,hx];rfl
  unfold I6;rw[Cf hx,s,Axs hk j];refine AI (decide_eq_true (by omega)) (Af (Id hk) ?_);by_cases h:(x ==n)=aZ
  ·rw[h];exact AI V (Aj _)
  ·have h:(x ==n)=aL:=by simpa using h
   rw[h];exact AJ V (Aj _)
 ·unfold I6;exact AJ (decide_eq_false (by omega)) (Aj _)
def Am8(a b:Int)(q:Ins×List Int):Bool:=Bd q.1&&(q.1.d ==a)&&q.2.contains b&&!((q.1.op ==2)&&(q.1.a ==b))
def O0(f:iI)(a b:Int):Bool:=(stepsL f).any (Am8 a b)
theorem Apc{f:iI}{b:Int}:((gJ f.blocks.length).any λk=>(gJ (Cl f k).length).any λi=>Am8 a b ((Cl f k).getD i default,Df f (Bz f) k (i+1)))=O0 f a b:=by
 unfold O0;rw[aK,cY,cY];constructor
 ·rintro⟨k,hk,h⟩;obtain⟨i,hi,h⟩:=cY.1 h;have hi:=fU.1 hi;refine⟨_,Ub.2 ⟨k,i,fU.1 hk,?_,rfl⟩,h⟩;try dsimp only
  rw[eA,eE hi];rfl
 ·rintro⟨q,hq,h⟩;obtain⟨k,i,hk,hx,j⟩:=Ub.1 hq;refine⟨k,fU.2 hk,cY.2 ⟨i,fU.2 (eG.1 hx).1,?_⟩⟩;rw[eA,hx,<-j];exact h
theorem Wg{f:iI}(c:iH f)(b i:Nat):(Df f (Bz f) b i).length<=2097152:=jF (eV _ _) (jF (Dm _) c.reads)
theorem Acl{x:Ins}(j:okIns x):(Mx x).to (if Bd x then x.d else 0,Bd x):=Af (DC.2 j) (Aj _)
theorem X7{f:iI}(c:iH f)(a b:Int):(Mw f (PH f) a b).to (O0 f a b):=by
 have O:=c.small.blocks;have h:=Sb (step:=G4 f (PH f) a b) (p:=λk=>(gJ (Cl f k).length).any λi=>Am8 a b ((Cl f k).getD i default,Df f (Bz f) k (i+1))) (v:=aZ) (n:=f.blocks.length) (λk hk=>?_) ?_
 ·unfold Mw;have h2:=WK (d:=aL) h;rw[Apc]at h2;have e:(if O0 f a b=aZ then aZ else aL)=O0 f a b:=by cases O0 f a b <;> rfl
  rwa [e]at h2
 ·obtain⟨bl,hb⟩:∃bl,f.blocks[k]? =jY bl:=⟨_,eE hk⟩
  have s:Cl f k=bl.ins:=by unfold Cl;rw[hb]
  have L:=c.ins bl (fR hb);have I:ixD f.blocks (k:Int)=bl:=Cf hb;have F:Cm f.blocks (k:Int)=aZ:=Id hk;have hi:=Sb (step:=FW f (PH f) a b (k:Int)) (p:=λi=>Am8 a b ((Cl f k).getD i default,Df f (Bz f) k (i+1))) (v:=(Sum.inr (Sum.inr aZ):Int⊕(Unit⊕Bool))) (n:=bl.ins.length) (λi hi=>?_) ?_
  ·unfold G4;rw[Axs hk (by omega)];refine AI (decide_eq_true (by omega)) ?_;rw[s];rw[s]at hi;have T:=WK (d:=(Sum.inl ((k+1:Nat):Int):Int⊕(Unit⊕Bool))) hi;exact T
  ·obtain⟨x,hx⟩:∃x,bl.ins[i]? =jY x:=⟨_,eE hi⟩
   have N:(Cl f k).getD i default=x:=by rw[s,eA,hx];rfl
   have U:ixD bl.ins (i:Int)=x:=Cf hx;have W:Cm bl.ins (i:Int)=aZ:=Id hi;have B:=(c.ok.blocks bl (fR hb)).ins x (fR hx);have h1:=Ah2 hk;have j:=Ahp (f:=f) (b:=k) (i:=i) (by rw[s];exact hi);have h2:ixD (B6 f k) ((i+1:Nat):Int)=Df f (Bz f) k (i+1):=Cf j;have Z:Cm (PH f) (k:Int)=aZ:=Id (by unfold PH;simpa using hk);have Y:Cm (B6 f k) ((i+1:Nat):Int)=aZ:=Id (eG.1 j).1;have J:=Ad7 (l:=Df f (Bz f) k (i+1)) (n:=b) (by have:=Wg c k (i+1);omega);rw[N];unfold FW;rw[I,U,Axs hi (by omega),h1,h2];refine Af F (AI (decide_eq_true (by omega)) (Af F (Af W (Am (Acl B) ?_))));try dsimp only
   generalize hg:(Bd x&&((if Bd x=aZ then x.d else 0) ==a))=g;have D:(Bd x&&(x.d ==a))=g:=by
    rw[<-hg];cases Bd x <;> rfl
   refine Af (by rw[Z,aY]) (Af (by rw[Y,aY]) (Am (a:=g&&(Df f (Bz f) k (i+1)).contains b) ?_ ?_))
   ·cases g
    ·exact iW V
    ·exact BW V J
   ·have e:Am8 a b (x,Df f (Bz f) k (i+1))=((g&&(g&&(Df f (Bz f) k (i+1)).contains b))&&(!((x.op ==2)&&(x.a ==b)))):=by
     unfold Am8;try dsimp only
     rw[D];cases g <;> simp
    rw[e];generalize ((g&&(g&&(Df f (Bz f) k (i+1)).contains b))&&(!((x.op ==2)&&(x.a ==b))))=z;cases z
    ·exact AJ V (Aj _)
    ·exact AI V (Aj _)
  ·unfold FW;rw[I];exact Af F (AJ (decide_eq_false (by omega)) (Aj _))
 ·unfold G4;exact AJ (decide_eq_false (by omega)) (Aj _)
def FY(f:iI)(a b:Int):Bool:=!(a ==b)&&(O0 f a b||O0 f b a||(a8 (0 < f.blocks.length)&&(CW f).contains a&&(CW f).contains b))
theorem UI{f:iI}(h:0 < f.blocks.length):(B6 f 0)[0]? =jY (CW f):=by
 unfold CW;rw[if_neg (by omega),Gy];rfl
theorem Aaj{f:iI}(c:iH f):(CW f).length<=2097152:=by
 unfold CW;split
 ·simp
 ·rw[Gy];exact jF (eV _ _) (jF (Dm _) c.reads)
theorem Aez{f:iI}(c:iH f)(a b:Int):(Lt f (PH f) a b).to (FY f a b):=by
 unfold Lt FY;by_cases j:(a ==b)=aZ
 ·rw[j];exact AI V (Aj _)
 ·have j:(a ==b)=aL:=by simpa using j
  rw[j];refine AJ V (Am (X7 c a b) (Am (a:=!O0 f a b&&O0 f b a) ?_ ?_))
  ·cases O0 f a b
   ·exact BW V (X7 c b a)
   ·exact iW V
  ·by_cases h1:(O0 f a b||O0 f b a)=aZ
   ·rw[h1];refine AI ?_ (Aj _);revert h1;cases O0 f a b <;> cases O0 f b a <;> simp
   ·have h1:(O0 f a b||O0 f b a)=aL:=by simpa using h1
    rw[h1];refine AJ ?_ ?_
    ·revert h1;cases O0 f a b <;> cases O0 f b a <;> simp
    have F:(PH f).length=f.blocks.length:=by simp[PH]
    by_cases h0:0 < f.blocks.length
    ·have e:a8 (((PH f).length:Int) > 0)=aZ:=decide_eq_true (by omega);have s:a8 (0 < f.blocks.length)=aZ:=decide_eq_true h0;have D:ixD (PH f) 0=B6 f 0:=Ah2 h0;have B:ixD (B6 f 0) 0=CW f:=Cf (k:=0) (UI h0);have J:Cm (PH f) 0=aZ:=Id (k:=0) (by omega);have I:Cm (B6 f 0) 0=aZ:=Id (k:=0) (eG.1 (UI h0)).1;have L:=Aaj c;rw[e,s,D,B,J,I];refine Af V (Af V (Am (BW V (Ad7 (by omega))) (Af (aY _) (Af (aY _) (Am (a:=(CW f).contains a&&(CW f).contains b) ?_ ?_)))))
     ·cases(CW f).contains a
      ·exact iW V
      ·exact BW V (Ad7 (by omega))
     ·refine Ad.2 ?_;cases(CW f).contains a <;> rfl
    ·have e:a8 (((PH f).length:Int) > 0)=aL:=decide_eq_false (by omega);have s:a8 (0 < f.blocks.length)=aL:=decide_eq_false h0;rw[e,s];exact Af V (Af V (Am (iW V) (Af V (Af V (Am (iW V) (Aj _))))))
theorem Akc{f:iI}{b:Int}:O0 f a b=aZ↔∃q∈stepsL f,Bd q.1=aZ/\q.1.d=a/\b∈q.2/\MR q b=aZ:=by
 unfold O0;rw[cY];constructor
 ·rintro⟨q,hq,h⟩;unfold Am8 at h;simp only[aI,beq_iff_eq,dE,aR,aH,beq_eq_false_iff_ne]at h;obtain⟨⟨⟨h1,h2⟩,j⟩,h4⟩:=h;refine⟨q,hq,h1,h2,j,?_⟩;unfold MR;simp only[h1,a6,aW,bne_iff_ne,ne_eq];rcases h4 with h4|h4
  ·exact .inl h4
  ·exact .inr λe=>h4 e.symm
 ·rintro⟨q,hq,h1,h2,j,h4⟩;refine⟨q,hq,?_⟩;unfold Am8;simp only[aI,beq_iff_eq,dE,aR,aH,beq_eq_false_iff_ne];refine⟨⟨⟨h1,h2⟩,j⟩,?_⟩;unfold MR at h4;simp only[h1,a6,aW,bne_iff_ne,ne_eq]at h4;rcases h4 with h4|h4
  ·exact .inl h4
  ·exact .inr λe=>h4 e.symm
theorem G7{b:Int}{x:i8}(hx:x.a < x.b):x∈Dg a b↔(x.a=a/\x.b=b)\/(x.a=b/\x.b=a):=by
 unfold Dg;obtain⟨u,v⟩:=x
 (try dsimp only at hx);(try dsimp only)
 by_cases h:a=b
 ·rw[if_pos h];simp only[gF,false_iff];omega
 ·rw[if_neg h];simp only[or_false,Pair.mk.injEq,zak];rw[Int.min_def,Int.max_def];split <;> omega
theorem TQ{f:iI}{x:i8}(hx:x.a < x.b):FY f x.a x.b=Hf f x:=by
 have hne:x.a≠x.b:=by omega
 rw[aK,Aao];unfold FY;have e:(x.a ==x.b)=aL:=by simpa using hne
 rw[e];simp only[aS,a6,aW,aI,decide_eq_true_eq,dE,Akc];constructor
 ·rintro((⟨q,hq,h1,h2,J,I⟩|⟨q,hq,h1,h2,J,I⟩)|⟨⟨_,h1⟩,h2⟩)
  ·exact .inl ⟨q,hq,Pa.2 ⟨x.b,J,I,(G7 hx).2 (.inl ⟨h2.symm,rfl⟩)⟩⟩
  ·exact .inl ⟨q,hq,Pa.2 ⟨x.a,J,I,(G7 hx).2 (.inr ⟨rfl,h2.symm⟩)⟩⟩
  ·exact .inr (Uc.2 ⟨x.a,h1,x.b,h2,(G7 hx).2 (.inl ⟨rfl,rfl⟩)⟩)
 ·rintro(⟨q,hq,h⟩|h)
  ·obtain⟨r,L,B,F⟩:=Pa.1 h;have hw:Bd q.1=aZ:=by unfold MR at B;rw[aI]at B;exact B.1
   rcases(G7 hx).1 F with⟨s,j⟩|⟨s,j⟩
   ·exact .inl (.inl ⟨q,hq,hw,s.symm,by rw[j];exact L,by rw[j];exact B⟩)
   ·exact .inl (.inr ⟨q,hq,hw,j.symm,by rw[s];exact L,by rw[s];exact B⟩)
  ·obtain⟨a,D,b,hb,F⟩:=Uc.1 h;have h0:0 < f.blocks.length:=by
    rcases Nat.eq_zero_or_pos f.blocks.length with h0|h0
    ·unfold CW at D;rw[if_pos h0]at D;cases D
    ·exact h0
   rcases(G7 hx).1 F with⟨s,j⟩|⟨s,j⟩
   ·exact .inr ⟨⟨h0,by rw[s];exact D⟩,by rw[j];exact hb⟩
   ·exact .inr ⟨⟨h0,by rw[s];exact hb⟩,by rw[j];exact D⟩
theorem Aaq(f:iI):((Fk (AF f)).filter λx=>FY f x.a x.b)=CC f:=by
 unfold CC D8;refine dO λx hx=>?_
 exact TQ ((D5 (CL f).1).1 hx).2.2
theorem KG{f:iI}{b:Int}:FY f a b=FY f b a:=by
 unfold FY;rw[show(a ==b)=(b ==a)from aJ ..];cases(b ==a) <;> cases O0 f a b <;> cases O0 f b a <;> cases a8 (0 < f.blocks.length) <;> cases(CW f).contains a <;> cases(CW f).contains b <;> rfl
theorem Vi{q:Int->Bool}:((gJ l.length).any λi=>q (l.getD i default))=l.any q:=by
 rw[aK,cY,cY];constructor
 ·rintro⟨k,hk,j⟩;have hk:=fU.1 hk;refine⟨l[k],eP hk,?_⟩;rw[eA,eE hk]at j;exact j
 ·rintro⟨x,hx,hq⟩;obtain⟨k,hk⟩:=fP.1 hx;refine⟨k,fU.2 (eG.1 hk).1,?_⟩;rw[eA,hk];exact hq
theorem WB(j:l.length<=10000000){n:Int}:(ON l n).to (l.contains n):=by
 have h:=Ug (step:=I5 l n) (p:=λi=>(l.getD i default) ==n) (v:=aZ) (n:=l.length) (λi hi=>?_) ?_
 ·have h2:=Ax0 (d:=aL) h;rw[Azd,Vi (q:=λy=>y ==n)]at h2;have e:(l.any λy=>y ==n)=l.contains n:=by
   rw[aK,cY,dE];constructor
   ·rintro⟨x,hx,hq⟩;rw[<-eq_of_beq hq];exact hx
   ·intro hx;exact⟨n,hx,beq_self_eq_true n⟩
  rw[e]at h2;exact h2
 ·obtain⟨x,hx⟩:∃x,l[i]? =jY x:=⟨_,eE hi⟩
  have s:l.getD i default=x:=by rw[eA,hx];rfl
  unfold I5;rw[Cf hx,w23 hi j];simp only[s];refine AI (decide_eq_true (by omega)) (Af (Qk hi) ?_);cases hc:(x ==n)with
  |true=>exact AI V (Aj _)
  |false=>exact AJ V (Aj _)
 ·unfold I5;exact AJ (decide_eq_false (by omega)) (Aj _)
def ZR(f:iI)(r:Int):Bool:=a8 (r < 0)||decide (r≥f.regs)
theorem Ako{f:iI}(c:iH f)(s:(regsB f).length<=10000000):(OO f).to (Ia f):=by
 have D:(NZ f).to (regsB f):=Af (BM.2 c) (Aj _);have j:(((((a8 (f.regs < 0))||(a8 (f.regs > 4096)))||(a8 (f.args < 0)))||(a8 (f.args > 6)))||(a8 (f.args > f.regs)))=Akg f:=by
  unfold Akg;rw[Bool.or_assoc _ (a8 (f.args > 6))];congr 1;rw[aK];simp only[zat];split <;> omega
 unfold OO Ia;rw[j];cases h:Akg f with
 |true=>exact AI V (Aj _)
 |false=>
  refine AJ V (Am D ?_);have h:=Ug (step:=FV f (regsB f)) (p:=λi=>ZR f ((regsB f).getD i default)) (v:=aL) (n:=(regsB f).length) (λi hi=>?_) ?_
  ·have h2:=Ax0 (d:=aZ) h;rw[Vi (q:=ZR f)]at h2;have e:(!false&&!((regsB f).any λr=>decide (r < 0)||decide (r≥f.regs)))=if(regsB f).any (ZR f)then aL else aZ:=by
    show(aZ&&!((regsB f).any (ZR f)))=_;cases(regsB f).any (ZR f) <;> rfl
   rw[e];exact h2
  ·obtain⟨x,hx⟩:∃x,(regsB f)[i]? =jY x:=⟨_,eE hi⟩
   have B:(regsB f).getD i default=x:=by rw[eA,hx];rfl
   unfold FV;rw[Cf hx,w23 hi s];simp only[B];refine AI (decide_eq_true (by omega)) (Af (Qk hi) (Af (by rw[Qk hi,aY]) ?_));unfold ZR;cases hc:(a8 (x < 0)||decide (x≥f.regs))with
   |true=>exact AI V (Aj _)
   |false=>exact AJ V (Aj _)
  ·unfold FV;exact AJ (decide_eq_false (by omega)) (Aj _)
theorem KF(j:List Int)(r:Int)(leaf:Bool):(BA j r leaf).length<=100:=by
 rw[Dn];split
 ·decide
 split
 ·decide
 ·decide
theorem ZD{j:List Int}{leaf:Bool}(h:z∈BA j r leaf):z < 32/\z≠-1:=by
 have s:∀y∈Aak++KK,y < 32/\y≠-1:=by decide
 rw[Dn]at h;refine s z ?_;split at h
 ·exact fH _ h
 split at h
 ·exact fI _ h
 ·exact h
def OS(f:iI)(p:i9)(r:Int):Bool:=if a8 (ixD p.at_ r≥32)then(!p.leaf)&&(a8 ((bG.wrap ((ixD p.at_ r) - 32)) < p.slots))else(BA (B5 f) r p.leaf).contains (ixD p.at_ r)
theorem ZF{f:iI}(c:iH f)(j:Cm p.at_ r=aZ):(I4 f p r).to (OS f p r):=by
 unfold I4 OS;refine Af j ?_;cases h:a8 (ixD p.at_ r≥32)with
 |true=>
  rw[if_pos V];exact AI V (Aj _)
 |false=>
  rw[if_neg (by simp)];exact AJ V (Am (Af (BM.2 c) (Aj _)) (Am (WB (by have:=KF (B5 f) r p.leaf;omega)) (Aj _)))
def Aht(f:iI)(p:i9)(k:Nat):Bool:=(!(regsB f).contains (k:Int)&&(ixD p.at_ (k:Int) != -1))||((regsB f).contains (k:Int)&&!OS f p (k:Int))
theorem Aea{f:iI}(c:iH f)(B:(regsB f).length<=10000000)(D:(p.at_.length:Int)=f.regs)(s:p.at_.length<=10000000):(iQ (Eo f p (regsB f)) 0).to (if(gJ p.at_.length).any (Aht f p)then .inr aL else .inl ()):=by
 refine Ug (λk hk=>?_) ?_
 ·have j:=Qk (l:=p.at_) hk;have hc:=WB B (n:=(k:Int));unfold Eo;rw[w23 hk s];refine AI (decide_eq_true (by omega)) (Am hc (Af (by rw[j,aY]) ?_));unfold Aht;cases h1:(regsB f).contains (k:Int)with
  |true=>
   rw[h1]at hc;refine Am (BW V hc) (Am (BW V (ZF c j)) ?_);cases h2:OS f p (k:Int)with
   |true=>exact AJ V (Aj _)
   |false=>exact AI V (Aj _)
  |false=>
   rw[h1]at hc;cases F:(ixD p.at_ (k:Int) != -1)with
   |true=>exact Am (iW V) (Am (iW V) (AI V (Aj _)))
   |false=>exact Am (BW V hc) (Am (iW V) (AJ V (Aj _)))
 ·unfold Eo;exact AJ (decide_eq_false (by omega)) (Aj _)
theorem Zq(j:p.at_.length<=10000000)(h0:0<=p.slots)(B:p.slots<=10000000):(iQ (En p) 0).to (if(gJ p.slots.toNat).any (λs=>!p.at_.contains (32+(s:Int)))then .inr aL else .inl ()):=by
 refine Ug (λk hk=>?_) ?_
 ·have hc:=WB j (n:=32+(k:Int));have hw:bG.wrap (32+(k:Int))=32+(k:Int):=bK _ (by omega);unfold En;rw[w23 hk (by omega),hw];refine AI (decide_eq_true (by omega)) (Am hc ?_);cases p.at_.contains (32+(k:Int))with
  |true=>exact AJ V (Aj _)
  |false=>exact AI V (Aj _)
 ·unfold En;exact AJ (decide_eq_false (by omega)) (Aj _)
def L6(f:iI)(p:i9)(i k:Nat):Bool:=(ixD p.at_ ((regsB f).getD i 0) ==ixD p.at_ ((regsB f).getD k 0))&&FY f ((regsB f).getD i 0) ((regsB f).getD k 0)
theorem Apl{D:Type}{step:Int->M (Int⊕(Unit⊕(D⊕(Unit⊕ρ))))}{p:Nat->Bool}{v:Unit⊕(D⊕(Unit⊕ρ))}
 (h:∀k,k < n->(step (k:Int)).to (if p k then .inr v else .inl ((k+1:Nat):Int)))(I:(step (n:Int)).to (.inr (.inl ()))):(iQ step 0).to (if(gJ n).any p then v else .inl ()):=by
 have B:∀(d k:Nat),k+d=n->(iQ step (k:Int)).to (if(gK k d).any p then v else .inl ()):=by
  intro d;induction d with
  |zero=>
   intro k hk;have:k=n:=by omega
   subst this;exact iT I
  |succ d F=>
   intro k hk;have j:=h k (by omega);rw[gL,cW];by_cases s:p k=aZ
   ·rw[s]at j⊢;exact iT j
   ·have s:p k=aL:=by simpa using s
    rw[s]at j⊢;rw[aO];exact iR j (F (k+1) (by omega))
 have:=B n 0 (by omega);rwa [<-gN]at this
theorem Aa7{f:iI}(c:iH f)(L:(regsB f).length<=10000000)(s:∀r∈regsB f,Cm p.at_ r=aZ):(iQ (Em f p (regsB f) (PH f)) 0).to (if(gJ (regsB f).length).any (λi=>(gJ i).any (L6 f p i))then .inr aL else .inl ()):=by
 refine Ug (λi hi=>?_) ?_
 ·obtain⟨x,hx⟩:∃x,(regsB f)[i]? =jY x:=⟨_,eE hi⟩
  have J:(regsB f).getD i 0=x:=by rw[eB,hx];rfl
  have F:=s x (fR hx);have j:(iQ (El f p (regsB f) (PH f) (i:Int)) 0).to (if(gJ i).any (L6 f p i)then .inr (.inr (.inr aL))else .inl ()):=by
   refine Apl (λk hk=>?_) ?_
   ·obtain⟨y,B⟩:∃y,(regsB f)[k]? =jY y:=⟨_,eE (by omega)⟩
    have I:(regsB f).getD k 0=y:=by rw[eB,B];rfl
    have D:=s y (fR B);unfold El L6;rw[Cf hx,Cf B,w23 hk (by omega),J,I];refine AI (decide_eq_true (by omega)) (Af (Qk hi) (Af F (Af (Qk (by omega)) (Af D (Af (by rw[Qk hi,aY]) (Af (by rw[Qk (l:=regsB f) (k:=k) (by omega),aY]) ?_))))));cases h1:(ixD p.at_ x ==ixD p.at_ y)with
    |true=>
     refine Am (BW V (Aez c x y)) ?_;cases FY f x y with
     |true=>exact AI V (Aj _)
     |false=>exact AJ V (Aj _)
    |false=>exact Am (iW V) (AJ V (Aj _))
   ·unfold El;exact AJ (decide_eq_false (by omega)) (Aj _)
  unfold Em;rw[w23 hi L];refine AI (decide_eq_true (by omega)) ?_;cases h:(gJ i).any (L6 f p i)with
  |true=>
   rw[h]at j;exact iP j
  |false=>
   rw[h]at j;exact iO j (Aj _)
 ·unfold Em;exact AJ (decide_eq_false (by omega)) (Aj _)
def T4(f:iI)(p:i9):Bool:=((((!Ia f)||((p.at_.length:Int) !=f.regs))||decide (p.slots < 0))||decide (p.slots > f.regs))
theorem Acw:GC p p.at_.length z=aZ↔z∈p.at_/\IS p z=aZ:=by
 unfold GC;rw[gW,dE,fN]
theorem IR(j:Ch z):IS p z=aZ↔32<=z/\z < 32+p.slots:=by
 have hw:wfI .i64 z:=j;simp[wfI,Lit.wf,bI,bH,bJ,bF]at hw;unfold IS;simp only[zaf];constructor
 ·rintro⟨h1,h2⟩;rw[bK _ (by omega)]at h2;omega
 ·rintro⟨h1,h2⟩;refine⟨h1,?_⟩;rw[bK _ (by omega)];omega
def NI(p:i9):List Int:=(gJ p.slots.toNat).map λ(s:Nat)=>32+(s:Int)
theorem Lj(h0:0<=p.slots):z∈NI p↔32<=z/\z < 32+p.slots:=by
 unfold NI;rw[fQ];constructor
 ·rintro⟨s,j,rfl⟩;have:=fU.1 j;omega
 ·rintro⟨h1,h2⟩;exact⟨(z - 32).toNat,fU.2 (by omega),by omega⟩
theorem VY(p:i9):(NI p).Nodup:=by
 unfold NI;exact gI.2 (cT (λh e=>h (by omega)) gE)
theorem Oo(hw:∀x∈p.at_,Ch x):z∈(Cy p.at_).filter (GC p p.at_.length)↔z∈p.at_/\32<=z/\z < 32+p.slots:=by
 rw[fN,Acw,(EF _).2 z];constructor
 ·rintro⟨h1,_,j⟩;exact⟨h1,(IR (hw z h1)).1 j⟩
 ·rintro⟨h1,h2⟩;exact⟨h1,h1,(IR (hw z h1)).2 h2⟩
theorem On(p:i9):((Cy p.at_).filter (GC p p.at_.length)).Nodup:=(cT (λh=>by omega) (EF p.at_).1:(Cy p.at_).Nodup).filter _
theorem Azw:∀(A B:List Int),A.Nodup->(∀a∈A,a∈B)->B.length<=A.length->∀b∈B,b∈A
 | [],B,_,_,I,b,hb=>by
  have:B= []:=dJ (by simpa using I);subst this;cases hb
 |a::A,B,D,J,I,b,hb=>by
  rw[gC]at D;have s:=J a (by simp);have F:=List.length_erase_of_mem s;have L:0 < B.length:=List.length_pos_of_mem s;by_cases j:b=a
  ·simp[j]
  ·have:=Azw A (B.erase a) D.2 (λx hx=>(fM (λe=>D.1 (by rw[<-e];exact hx))).2 (J x (by simp[hx]))) (by rw[F];simp only[eU]at I;omega) b ((fM j).2 hb);simp[this]
theorem Sq(hw:∀x∈p.at_,Ch x)(h0:0<=p.slots):((cardC p:Int) ==p.slots)= !((gJ p.slots.toNat).any λs=>!p.at_.contains (32+(s:Int))):=by
 have F:(NI p).length=p.slots.toNat:=by simp[NI]
 have j:∀z∈(Cy p.at_).filter (GC p p.at_.length),z∈NI p:=λz B=>(Lj h0).2 ((Oo hw).1 B).2
 rw[aK];simp only[beq_iff_eq,aR,cX,fU,Bool.not_eq_true,aP,dE];constructor
 ·intro h s D;have hc:(NI p).length<=((Cy p.at_).filter (GC p p.at_.length)).length:=by
   show _<=cardC p;omega
  have:=Azw _ _ (On p) j hc (32+(s:Int)) ((Lj h0).2 (by omega));simpa using((Oo hw).1 this).1
 ·intro h;have h1:=Dh (On p) j;have h2:=Dh (VY p) (m:=(Cy p.at_).filter (GC p p.at_.length)) λz B=>by
   have B:=(Lj h0).1 B;refine(Oo hw).2 ⟨?_,B⟩;have:=h (z - 32).toNat (by omega);have e:32+(((z - 32).toNat:Nat):Int)=z:=by omega
   rw[e]at this;simpa using this
  have:cardC p=(NI p).length:=jB h1 h2;omega
theorem YR{f:iI}(hw:∀x∈p.at_,Ch x)(s:p.leaf=aZ->p.slots=0)(hk:k < p.at_.length):atC f p k (p.at_.getD k 0)= !Aht f p k:=by
 obtain⟨x,hx⟩:∃x,p.at_[k]? =jY x:=⟨_,eE hk⟩
 have N:p.at_.getD k 0=x:=by rw[eB,hx];rfl
 have F:=hw x (fR hx);unfold atC Aht;rw[N,Cf hx];cases hc:(regsB f).contains (k:Int)with
 |false=>
  rw[if_neg (by simp)];cases hb:(x == -1) <;> simp[bne,hb]
 |true=>
  rw[if_pos V];have B:=dE.1 hc;have D:=Ve (I3 f) B;have J:(CD f p.leaf (regsB f)).getD ((regsB f).countP (· < (k:Int))) []=BA (B5 f) k p.leaf:=by
   rw[eB];unfold CD;rw[eH,D];rfl
  rw[J];unfold OS;rw[Cf hx];by_cases j:x≥32
  ·rw[if_pos (decide_eq_true j)];have L:(BA (B5 f) k p.leaf).contains x=aL:=by
    cases h:(BA (B5 f) k p.leaf).contains x with
    |false=>rfl
    |true=>have:=(ZD (dE.1 h)).1;omega
   rw[L];unfold IS;rw[decide_eq_true j];cases I:p.leaf with
   |false=>simp
   |true=>
    have O:=s I;have:IS p x=aL:=by
     cases h:IS p x with
     |false=>rfl
     |true=>have:=(IR F).1 h;omega
    unfold IS at this;rw[decide_eq_true j]at this;simpa using this
  ·rw[if_neg (by rw[decide_eq_false j];simp)];unfold IS;rw[decide_eq_false j];simp
theorem Cj{f:iI}(h:r∈AF f):r∈regsB f:=I2.2 (fI _ (((CL f).2 r).1 h))
theorem He{f:iI}{x:i8}:x∈CC f↔x.a∈AF f/\x.b∈AF f/\x.a < x.b/\FY f x.a x.b=aZ:=by
 rw[<-Aaq,fN,D5 (CL f).1];constructor
 ·rintro⟨⟨h1,h2,s⟩,j⟩;exact⟨h1,h2,s,j⟩
 ·rintro⟨h1,h2,s,j⟩;exact⟨⟨h1,h2,s⟩,j⟩
theorem EW{f:iI}(j:okFunc f)(h:r∈regsB f):Ch r:=Aeh j r (I2.1 h)
theorem Ahl{f:iI}(c:iH f):((CC f).any (Nb p))=(gJ (regsB f).length).any λi=>(gJ i).any (L6 f p i):=by
 have j:=I3 f;unfold Asc at j;rw[gH]at j;rw[aK,cY,cY];constructor
 ·rintro⟨x,hx,I⟩;obtain⟨h1,h2,O,N⟩:=He.1 hx;obtain⟨k,hk⟩:=fP.1 (Cj h1);obtain⟨i,hi⟩:=fP.1 (Cj h2);obtain⟨B,T⟩:=eG.1 hk;obtain⟨s,U⟩:=eG.1 hi;have D:k < i:=by
   rcases jI k i with h|h
   ·exact h
   ·rcases Nat.eq_or_lt_of_le h with h|h
    ·subst h;omega
    ·have:=j i k s B h;omega
  refine⟨i,fU.2 s,cY.2 ⟨k,fU.2 D,?_⟩⟩;unfold L6;rw[eB,eB,hk,hi];show((ixD p.at_ x.b ==ixD p.at_ x.a)&&FY f x.b x.a)=aZ;rw[KG,N,Bool.and_true];unfold Nb at I;rw[eq_of_beq I];exact beq_self_eq_true _
 ·rintro⟨i,hi,h⟩;obtain⟨k,hk,h⟩:=cY.1 h;have s:=fU.1 hi;have D:=fU.1 hk;have B:k < (regsB f).length:=by omega
  have F:=j k i B s D;unfold L6 at h;rw[eB,eB,eE s,eE B,aI]at h;obtain⟨h1,h2⟩:=h;have h2:FY f (regsB f)[k] (regsB f)[i]=aZ:=by rw[KG];exact h2
  have L:Hf f ⟨(regsB f)[k],(regsB f)[i]⟩=aZ:=by rw[<-TQ F];exact h2
  have J:=(UO c.all).mem ⟨(regsB f)[k],(regsB f)[i]⟩ L;refine⟨⟨(regsB f)[k],(regsB f)[i]⟩,He.2 ⟨J.1,J.2.1,F,h2⟩,?_⟩;unfold Nb;have h1:(ixD p.at_ (regsB f)[i] ==ixD p.at_ (regsB f)[k])=aZ:=h1;rw[eq_of_beq h1];exact beq_self_eq_true _
theorem Ud{f:iI}(h:Ia f=aZ)(j:r∈regsB f):0<=r/\r < f.regs:=by
 unfold Ia at h;rw[aI,aR,aR,cX]at h;have:=h.2 r j;simp at this;omega
theorem QO{f:iI}(c:iH f)(aa:Dc.bulk f<=2097152)(hw:∀x∈p.at_,Ch x)(hp:p.at_.length<=10000000)(U:(regsB f).length<=10000000):(E4 f p).to (C4 f p):=by
 have Y:=BM.2 c;have hM:=Ako c U;have ab:(RM f).to (leaf f.blocks):=Af (by rw[Y,decide_eq_true aa];rfl) (Aj _);have Z:cardC p<=p.at_.length:=jF (eV _ _) (Dm _);unfold E4;refine Am hM ?_;cases ho:T4 f p with
 |true=>
  have e:C4 f p=aL:=by
   unfold T4 at ho;rw[aW]at ho;rcases ho with ho|ho
   ·have:T3 f p=aZ:=by unfold T3;rw[ho];rfl
    unfold C4;rw[this];rfl
   ·have hs:=of_decide_eq_true ho;cases h0:T3 f p with
    |true=>unfold C4;rw[h0];rfl
    |false=>
     have h1:=h0;unfold T3 at h1;simp only[aV]at h1;have F:(p.at_.length:Int)=f.regs:=by simpa using h1.1.1.2
     have:((cardC p:Int) ==p.slots)=aL:=by
      cases h:((cardC p:Int) ==p.slots)with
      |false=>rfl
      |true=>have:=eq_of_beq h;omega
     unfold C4;rw[this];simp
  rw[e];unfold T4 at ho;exact Am (iW (by rw[ho];rfl)) (AI (by rw[ho];rfl) (Aj _))
 |false=>
  have I:=ho;unfold T4 at I;simp only[aV,decide_eq_false_iff_not]at I;obtain⟨⟨⟨g1,g2⟩,g3⟩,g4⟩:=I;have D:Ia f=aZ:=by simpa using g1
  have F:(p.at_.length:Int)=f.regs:=by simpa using g2
  have W:∀r∈regsB f,Cm p.at_ r=aZ:=λr hr=>by
   have:=Ud D hr;exact BL.2 ⟨this.1,by omega⟩
  unfold T4 at ho;refine Am (a:=bif p.leaf then leaf f.blocks else aL) ?_ ?_
  ·rw[ho];cases p.leaf
   ·exact iW V
   ·exact BW V ab
  rw[ho,aO];cases hq:(p.leaf&&((!bif p.leaf then leaf f.blocks else aL)||(p.slots !=0)))with
  |true=>
   have e:C4 f p=aL:=by
    have:T3 f p=aZ:=by
     rw[aI]at hq;obtain⟨q1,q2⟩:=hq;rw[q1,cond_true,aW]at q2;unfold T3;rw[q1,a6];rcases q2 with q2|q2
     ·rw[q2];simp
     ·have:a8 (p.slots > 0)=aZ:=decide_eq_true (by simp at q2;omega);rw[this];simp
    unfold C4;rw[this];rfl
   rw[e];exact AI V (Aj _)
  |false=>
   have h0:T3 f p=aL:=by
    unfold T3;rw[D];have e1:((p.at_.length:Int) !=f.regs)=aL:=g2;rw[e1,decide_eq_false g3];cases J:p.leaf with
    |false=>rfl
    |true=>
     rw[J,a6,aV,cond_true]at hq;rw[hq.1];have:p.slots=0:=by simpa using hq.2
     rw[this];rfl
   have B:p.leaf=aZ->p.slots=0:=λJ=>by
    rw[J,a6,aV]at hq;simpa using hq.2
   refine AJ V (Am (Af Y (Aj _)) (Am (Af Y (Aj _)) ?_));have e:C4 f p=(!((gJ p.at_.length).any (Aht f p))&&(!((gJ p.slots.toNat).any λs=>!p.at_.contains (32+(s:Int)))&&!((gJ (regsB f).length).any λi=>(gJ i).any (L6 f p i)))):=by
    unfold C4;rw[h0,Sq hw (by omega),Ahl c];have:((gJ p.at_.length).all λj=>atC f p j (p.at_.getD j 0))= !((gJ p.at_.length).any (Aht f p)):=by
     rw[List.not_any_eq_all_not];rw[aK,cV,cV];constructor
     ·intro h j L;rw[<-YR hw B (fU.1 L)];exact h j L
     ·intro h j L;rw[YR hw B (fU.1 L)];exact h j L
    rw[this];rfl
   rw[e];have T:=Aea c U F hp;have O:=Zq hp (p:=p) (by omega) (by omega);have N:=Aa7 c (p:=p) U W;cases b1:(gJ p.at_.length).any (Aht f p)with
   |true=>rw[b1]at T;exact iP T
   |false=>
    rw[b1]at T;refine iO T ?_;cases b2:(gJ p.slots.toNat).any λs=>!p.at_.contains (32+(s:Int))with
    |true=>rw[b2]at O;exact iP O
    |false=>
     rw[b2]at O;refine iO O ?_;cases b3:(gJ (regsB f).length).any λi=>(gJ i).any (L6 f p i)with
     |true=>rw[b3]at N;exact iP N
     |false=>
      rw[b3]at N;exact iO N (Aj _)
theorem Ada:∀{l:List Nat} {n:Nat},n∈l->n<=l.sum
 | [],_,h=>by cases h
 |m::l,n,h=>by
  rw[gU];rcases fJ.1 h with rfl|h
  ·omega
  ·have:=Ada h;omega
theorem Uv{f:iI}(h:CF f=aL){b:iB}(hb:b∈f.blocks):b.ins.length<=250:=by
 unfold CF at h;rw[aV]at h;have h1:=h.1;unfold Jg at h1;rw[aV,decide_eq_false_iff_not,decide_eq_false_iff_not]at h1;have ht:f.blocks.take 60=f.blocks:=gX (by omega);have h2:=h1.2;unfold sumB at h2;rw[ht]at h2;have:=Ada (fQ.2 ⟨b,hb,rfl⟩:b.ins.length+Tb b.ins 200∈f.blocks.map λbl=>bl.ins.length+Tb bl.ins 200);omega
theorem Nm{f:iI}(h:CF f=aL):f.blocks.length<=40:=by
 unfold CF at h;rw[aV]at h;have h1:=h.1;unfold Jg at h1;rw[aV,decide_eq_false_iff_not,decide_eq_false_iff_not]at h1;omega
theorem G2{f:iI}(h:CF f=aL):(regsB f).length<=126:=by
 have h1:(AF f).length<=60:=by
  unfold CF at h;rw[aV]at h;have:=of_decide_eq_false h.2;omega
 rw[<-G3];unfold Mt;have h2:=(List.takeWhile_sublist (λr:Int=>decide (r < 0)) (l:=AF f)).length_le;have s:=Yd f 6;have j:=eV (λr:Int=>decide (r > 5)) (AF f);simp only[eT];omega
theorem Ajo{f:iI}(c:iH f)(j:Dc.bulk f<=2097152)(g:CF f=aL)(B:okPlan p)(hw:∀x∈p.at_,Ch x)(I:p.at_.length<=10000000):(Jp f p).to (C4 f p):=by
 have F:=G2 g;have D:(CC f).length<=2147483648:=by
  have h1:(AF f).length<=60:=by
   have h:=g;unfold CF at h;rw[aV,decide_eq_false_iff_not]at h;omega
  refine jF (eV _ _) (jF (H6 _) ?_);have:(AF f).length *(AF f).length<=60 * 60:=jM h1 h1;omega
 refine Af ?_ (Aj _);simp only[aI,aW,aR,cV,decide_eq_true_eq];refine⟨⟨⟨⟨⟨⟨⟨⟨BM.2 c,j⟩,?_⟩,λx hx=>hw x hx⟩,by omega⟩,by omega⟩,λq hq=>?_⟩,D⟩,?_⟩
 ·exact B.slots
 ·obtain⟨r,_,rfl⟩:=fQ.1 hq;have:=KF (B5 f) r p.leaf;omega
 ·cases s:Ia f with
  |false=>exact .inl V
  |true=>exact .inr λx hx=>⟨Ud s (Cj (He.1 hx).1),Ud s (Cj (He.1 hx).2.1)⟩
section
variable{P:bT}{w:cG}
end
section
variable{P:bT}{C:Ctx}{t:List AV}{h:List gZ}{o:bR}
end
theorem Age{f:iI}{leaf:Bool}{q:iJ}(hq:q∈B8 f leaf):q.r∈regsB f/\∃n:Nat,q.at_=(n:Int)/\n < 30/\(8<=n/\n<=13\/24<=n/\n<=29):=by
 have O:=(Gz f).2;have s:∀k:Nat,k<=5->∃n:Nat,RU leaf+(k:Int)=(n:Int)/\n < 30/\(8<=n/\n<=13\/24<=n/\n<=29):=λk hk=>by
  unfold RU;cases leaf
  ·exact⟨24+k,by simp,by omega,by omega⟩
  ·exact⟨8+k,by simp,by omega,by omega⟩
 unfold B8 at hq;rcases fG.1 hq with hm|hm
 ·unfold Ahz at hm;obtain⟨k,hk,rfl⟩:=fQ.1 hm;have hk:=fU.1 hk;exact⟨I2.2 (fH _ (fQ.2 ⟨k,fU.2 hk,rfl⟩)),s k (by omega)⟩
 ·obtain⟨b,hb,hm⟩:=fO.1 hm;obtain⟨x,hx,hm⟩:=fO.1 hm;have D:∀r∈By x,r∈regsB f:=λr N=>I2.2 (fI _ (fO.2 ⟨b,hb,fO.2 ⟨x,hx,N⟩⟩))
  suffices L:q.r∈By x/\∃n:Nat,q.at_=(n:Int)/\n < 30/\(8<=n/\n<=13\/24<=n/\n<=29)from⟨D _ L.1,L.2⟩
  unfold EH at hm;split at hm
  ·rename_i B;have B:x.op=10:=by simpa using B
   simp only[or_false,zak]at hm;subst hm;refine⟨?_,?_⟩
   ·unfold By readsC;rw[B];exact fH _ (by simp[HC])
   ·have:=s 0 (by omega);simpa using this
  ·split at hm
   ·rename_i F;have F:x.op=5:=by simpa using F
    rcases fJ.1 hm with hm|hm
    ·subst hm;refine⟨?_,8,rfl,by omega,by omega⟩;unfold By Bd;rw[F];exact fI _ (by simp[HC])
    ·unfold MV at hm;obtain⟨j,J,rfl⟩:=fQ.1 hm;have J:=fU.1 J;rw[fB]at J;refine⟨?_,8+j,by dsimp only;omega,by omega,by omega⟩;have I:j < x.args.length:=by omega
     show x.args.getD j 0∈By x;rw[eB,eE I];unfold By readsC;rw[F];exact fH _ (fI _ (by simp[HC]))
   ·cases hm
theorem TO(j:List Int)(r:Int)(leaf:Bool):(leaf=aZ/\BA j r leaf=IB [0])\/(leaf=aL/\j.contains r=aZ/\BA j r leaf=IB [1,2])\/(leaf=aL/\j.contains r=aL/\BA j r leaf=IB [0,1,2]):=by
 unfold BA;cases leaf
 ·cases j.contains r
  ·exact .inr (.inr ⟨rfl,rfl,rfl⟩)
  ·exact .inr (.inl ⟨rfl,rfl,rfl⟩)
 ·exact .inl ⟨rfl,rfl⟩
theorem OR(j:List Int)(r:Int)(leaf:Bool):7<=(BA j r leaf).length/\(BA j r leaf).length<=24/\(BA j r leaf).Nodup:=by
 rcases TO j r leaf with⟨_,h2⟩|⟨_,_,h2⟩|⟨_,_,h2⟩ <;> rw[h2] <;> decide
end Mu
namespace Mu
open Go Go.RowKit Go.Proofs Go.Maps
variable{A:List (Int×Int)}{G:iC}{a b:Int}{j k:Nat}{l:List i8}{n:Nat}
def RZ(l:List i8)(k:Int):List Int:=l.flatMap λx=>if k=x.a then [x.b]else if k=x.b then [x.a]else []
theorem O6:b∈RZ l a↔∃x∈l,(a=x.a/\b=x.b)\/(a≠x.a/\a=x.b/\b=x.a):=by
 unfold RZ;rw[fO];constructor
 ·rintro⟨x,hx,h⟩;refine⟨x,hx,?_⟩;split at h
  ·rename_i e;exact .inl ⟨e,fX.1 h⟩
  ·rename_i e;split at h
   ·rename_i s;exact .inr ⟨e,s,fX.1 h⟩
   ·cases h
 ·rintro⟨x,hx,⟨e,h⟩|⟨e,s,h⟩⟩
  ·exact⟨x,hx,by rw[if_pos e,h];exact fX.2 V⟩
  ·exact⟨x,hx,by rw[if_neg e,if_pos s,h];exact fX.2 V⟩
theorem O7(k:Int):∀(l:List i8),(RZ l k).length<=l.length
 | []=>jE _
 |x::l=>by
  have h:=O7 k l;unfold RZ at h⊢;rw[dX,eT,eU];have:(if k=x.a then [x.b]else if k=x.b then [x.a]else []).length<=1:=by
   split
   ·exact jE _
   ·split
    ·exact jE _
    ·exact jS _
  omega
theorem Wt(J:∀x∈l,x.a < x.b)(F:Aoh l)(k:Int):(RZ l k).Nodup:=by
 induction l with
 |nil=>exact gD
 |cons x l N=>
  unfold Aoh at F;rw[gG]at F;have h1:=N (λy D=>J y (fK _ D)) F.2;have hx:=J x fL;show((if k=x.a then [x.b]else if k=x.b then [x.a]else [])++RZ l k).Nodup;refine gB.2 ⟨?_,h1,λp s q hq e=>?_⟩
  ·split
   ·simp
   ·split <;> simp
  ·subst e;obtain⟨y,D,B⟩:=O6.1 hq;have I:=F.1 y D;have O:=J y (fK _ D);unfold ltP at I;split at s
   ·rename_i U;have s:=fX.1 s;rcases B with⟨h2,L⟩|⟨h2,L,T⟩ <;> omega
   ·split at s
    ·have s:=fX.1 s;rcases B with⟨h2,L⟩|⟨h2,L,T⟩ <;> omega
    ·cases s
theorem Mm{x:Int}(h:-1<=x/\x<=4294967296):Ch x:=by
 have h1:wfB .i64 x=aZ:=by
  unfold wfB;simp[Lit.wf,bI,bH,bJ,bF];omega
 exact h1
theorem Lx{s:List Int}{r:Int}{leaf:Bool}{z:Int}(h:z∈BA s r leaf):4<=z/\z < 32:=by
 have B:∀y∈Aak++KK,4<=y/\y < 32:=by decide
 rw[Dn]at h;refine B z ?_;split at h
 ·exact fH _ h
 split at h
 ·exact fI _ h
 ·exact h
theorem Aqx{f:iI}(g:CF f=aL):(AF f).length<=60:=by
 unfold CF at g;rw[aV,decide_eq_false_iff_not]at g;omega
theorem LA{f:iI}(g:CF f=aL)(S:i8->Bool):(D8 (AF f) S).length<=3600:=by
 refine jF (eV _ _) (jF (H6 _) ?_);have:(AF f).length *(AF f).length<=60 * 60:=jM (Aqx g) (Aqx g);omega
theorem Er{f:iI}{S:i8->Bool}{x:i8}(hx:x∈D8 (AF f) S):x.a∈AF f/\x.b∈AF f/\x.a < x.b:=(D5 (CL f).1).1 (fN.1 hx).1
theorem QX{f:iI}(c:iH f)(S:i8->Bool):Aml (D8 (AF f) S):=λx hx=>by
 obtain⟨h1,h2,s⟩:=Er hx;exact⟨EW c.ok (Cj h1),EW c.ok (Cj h2),by omega⟩
theorem Oa{α β:Type}(n:Nat)(F:α->List β):∀(l:List α),(∀x∈l,(F x).length<=n)->(l.flatMap F).length<=n * l.length
 | [],_=>jS _
 |x::l,h=>by
  rw[dX,eT,eU,jL];have h1:=Oa n F l λy s=>h y (fK _ s)
  have h2:=h x fL;omega
theorem Q8{f:iI}(g:CF f=aL)(leaf:Bool):(B8 f leaf).length<=1000000:=by
 have hb:=Nm g;unfold B8;rw[eT,SB];have B:=(Gz f).2;have h1:=Oa 1750 (Jd (RU leaf)) f.blocks λb s=>by
  have hi:=Uv g s;unfold Jd;have h2:=Oa 7 (EH (RU leaf)) b.ins λx _=>by
   unfold EH;split
   ·exact jC V
   ·split
    ·unfold MV;rw[eU,eW,eX,fB];omega
    ·exact jS _
  omega
 omega
theorem Yn(k:Int):∀(l:List iJ) {E:List (Int×List Int)},Eb E->∀z∈(getK (l.foldl NH E) k).getD [],z∈(getK E k).getD []\/∃h∈l,z=h.at_
 | [],_,_,z,s=>.inl s
 |h::l,E,B,z,s=>by
  rcases Yn k l (E:=NH E h) (B.put _ _) z s with h1|⟨q,hq,e⟩
  ·unfold NH at h1;rw[BH B]at h1;split at h1
   ·rename_i e;rcases fG.1 h1 with h2|h2
    ·exact .inl (by rw[e];exact h2)
    ·exact .inr ⟨h,fL,fX.1 h2⟩
   ·exact .inl h1
  ·exact .inr ⟨q,fK _ hq,e⟩
theorem YJ(F:Int->List Int)(r:Int):∀(l:List Int) {E:List (Int×List Int)},Eb E->getK ((l.zip (l.map F)).foldl (λE p=>B7 E p.1 p.2) E) r=if r∈l then jY (F r)else getK E r
 | [],E,_=>by simp
 |x::l,E,s=>by
  rw[fD,List.zip_cons_cons,dZ,YJ F r l (s.put _ _),BH s];by_cases h1:r∈l
  ·rw[if_pos h1,if_pos (fK _ h1)]
  ·rw[if_neg h1];by_cases h2:r=x
   ·rw[if_pos h2,if_pos (by rw[h2];exact fL),h2]
   ·rw[if_neg h2,if_neg λh=>by
     rcases fJ.1 h with h|h
     ·exact h2 h
     ·exact h1 h]
section
variable{f:iI}{lf:Bool}{ch:List Int}
theorem Hj(r:Int):Qw (Ct f lf ch) r=if r∈regsB f then BA (B5 f) r lf else []:=by
 unfold Qw;have h:=YJ (λr=>BA (B5 f) r lf) r (regsB f) (E:=[]) Eb.nil;show(getK (clsE ((regsB f).zip (CD f lf (regsB f)))) r).getD []=_;unfold clsE CD;rw[h];split
 ·rfl
 ·rfl
theorem JS(r:Int):LJ (Ct f lf ch) r=RZ (CC f) r:=by
 unfold LJ RZ;exact PB (λx hx=>by have:=(Er hx).2.2;omega) r
theorem JR:b∈LJ (Ct f lf ch) a↔(⟨a,b⟩:i8)∈CC f\/(⟨b,a⟩:i8)∈CC f:=by
 rw[JS,O6];constructor
 ·rintro⟨x,hx,⟨rfl,rfl⟩|⟨_,rfl,rfl⟩⟩
  ·exact .inl hx
  ·exact .inr hx
 ·rintro(h|h)
  ·exact⟨_,h,.inl ⟨rfl,rfl⟩⟩
  ·refine⟨_,h,.inr ⟨?_,rfl,rfl⟩⟩;have:=(Er h).2.2;dsimp only at this⊢;omega
theorem Ac8:SymG (Ct f lf ch) where
 sym:=λa b h=>JR.2 (JR.1 h).symm
 irr:=λa h=>by
  rcases JR.1 h with h|h <;> exact absurd (Er h).2.2 (by dsimp only;omega)
theorem Afh(r:Int):(LJ (Ct f lf ch) r).length<=((regsB f).filter λy=>FY f r y).length:=by
 rw[JS];refine Dh (Wt (λx hx=>(Er hx).2.2) (Aap f) r) λb hb=>?_
 rw[<-JS (lf:=lf) (ch:=ch)]at hb;rw[fN];rcases JR.1 hb with h|h
 ·obtain⟨_,h2,_,s⟩:=He.1 h;exact⟨Cj h2,s⟩
 ·obtain⟨h1,_,_,s⟩:=He.1 h;exact⟨Cj h1,by rw[KG];exact s⟩
theorem Ake(c:iH f)(g:CF f=aL)(B:∀r∈ch,r∈AF f)(D:ch.length<=1000):iX (Ct f lf ch) where
 regs:=λr s=>EW c.ok s
 len:=by
  have:=G2 g;show(regsB f).length<=_;omega
 cheap:=by
  show ch.length<=_;omega
 cheapw:=λr s=>EW c.ok (Cj (B r s))
 near:=λr k hk=>by
  rcases JR.1 hk with h|h
  ·exact EW c.ok (Cj (Er h).2.1)
  ·exact EW c.ok (Cj (Er h).1)
 nearl:=λr=>by
  show(LJ (Ct f lf ch) r).length<=_;rw[JS];have h1:=O7 r (CC f);have h2:=LA g (Hf f);have e:CC f=D8 (AF f) (Hf f):=rfl;rw[<-e]at h2;omega
 mov:=λr=>by
  have e:(getK (Ct f lf ch).moves r).getD []=RZ (mvL f) r:=PB (λx hx=>by have:=(Er hx).2.2;omega) r;rw[e];have h1:=O7 r (mvL f);have h2:=LA g (mvK f (stepsL f).length);have F:mvL f=D8 (AF f) (mvK f (stepsL f).length):=rfl;rw[<-F]at h2;refine⟨λk hk=>?_,by omega⟩;obtain⟨x,hx,⟨_,rfl⟩|⟨_,_,rfl⟩⟩:=O6.1 hk
  ·exact EW c.ok (Cj (Er hx).2.1)
  ·exact EW c.ok (Cj (Er hx).1)
 lik:=λr=>by
  show(∀k∈(getK (NO (B8 f lf)) r).getD [],Ch k)/\((getK (NO (B8 f lf)) r).getD []).length<=_;refine⟨λk hk=>?_,?_⟩
  ·rcases Yn r (B8 f lf) (E:=[]) Eb.nil k hk with h|⟨q,hq,rfl⟩
   ·cases h
   ·obtain⟨_,n,e,h1,_⟩:=Age hq;rw[e];exact Mm ⟨by omega,by omega⟩
  ·have h1:=Ur (B8 f lf) r;have h2:=Q8 g lf;omega
 cl:=λr=>by
  show(∀k∈Qw (Ct f lf ch) r,Ch k)/\(Qw (Ct f lf ch) r).length<=_;rw[Hj];split
  ·have h1:=KF (B5 f) r lf;refine⟨λk hk=>?_,by omega⟩;exact Mm (by have:=Lx hk;omega)
  ·exact⟨λk hk=>(by cases hk),jS _⟩
end
theorem XK{G:iC}(hc:∀r,∀p∈Qw G r,p < 32)(D:SymG G):∀(l:List Int) {s:List (Int×Int)×Int} {Q:Int->Prop},SltQ G s Q->l.Nodup->(∀x∈l,¬Q x)->(l.foldl (IQ G) s).2<=s.2+(l.length:Int)
 | [],s,Q,_,_,_=>by simp
 |r::l,s,Q,h,B,hq=>by
  rw[gC]at B;have h1:=XK hc D l (h.next D (hq r fL)) B.2 λx hx hh=>by
   rcases hh with hh|hh
   ·exact hq x (fK _ hx) hh
   ·exact B.1 (hh▸hx)
  have h2:(IQ G s r).2<=s.2+1:=by
   obtain⟨_,_,J⟩:=Mq G s.1 r;have L:=h.pos;show max s.2 ((slotN G s.1 r:Int)+1)<=_;have N:(slotN G s.1 r:Int)<=s.2:=by
    refine Int.not_lt.1 λI=>?_
    have F:=J s.2.toNat (by omega);rw[Ji.2 λk _ e=>?_]at F
    ·cases F
    ·rcases h.cl k _ e with h6|h6
     ·have:=hc k _ h6;omega
     ·omega
   omega
  rw[dZ,eU];omega
theorem Ady{l:List (Int×Int)}(h:Eb l)(r p:Int):l.length<=(B7 l r p).length:=by
 have h1:=Dh (Cp h) (m:=keysK (B7 l r p)) λx hx=>by
  refine CN.2 ?_;rw[BH h];split
  ·rfl
  ·exact CN.1 hx
 simpa[keysK]using h1
theorem QY{G:iC}(N:SymG G)(m:Nat)(J:∀r∈G.regs,(Qw G r).Nodup/\m<=(Qw G r).length):∀(l:List Int),(∀x∈l,x∈G.regs)->∀{s:List (Int×Int)×List Int} {Q:Int->Prop},PntQ G s Q->(s.2= []\/m<=s.1.length)->((l.foldl (EE G) s).2= []\/m<=(l.foldl (EE G) s).1.length)
 | [],_,s,Q,_,h=>h
 |r::l,L,s,Q,D,h=>by
  refine QY N m J l (λx hx=>L x (fK _ hx)) (D.next N r) ?_;unfold EE;cases hk:Mz G s.1 r with
  |some p=>
   rcases h with h|h
   ·exact .inl h
   ·exact .inr (jF h (Ady D.asc r p))
  |none=>
   refine .inr ?_;show m<=s.1.length;obtain⟨h1,h2⟩:=J r (L r fL);unfold Mz at hk;rw[dW]at hk;have I:=Dh h1 (m:=s.1.map (·.2)) λp B=>by
    have hc:p∈D7 G s.1 r:=by
     unfold D7 Za;refine fN.2 ⟨?_,dE.2 B⟩;simp only[fG];exact .inr B
    have O:=hk p hc;refine a7 λF=>O (Ji.2 λk _ e=>F ?_)
    exact fQ.2 ⟨(k,p),(CK D.asc).1 e,rfl⟩
   rw[eW]at I;omega
theorem Wm(D:iX G)(I:SymG G)(m:Nat)(F:∀r∈G.regs,(Qw G r).Nodup/\m<=(Qw G r).length)(out:List (Int×Int)):(BD G out).2= []\/m+(BD G out).2.length<=(CV G out).length:=by
 have h:=QY I m F (CV G out).reverse (λx hx=>(H7 D.toOkG x (fW.1 hx)).1) (s:=([],[])) (Q:=λ_=>False) ⟨Eb.nil,λa p h=>(by cases h),λr p h=>(by cases h),λr h=>(by cases h),λr h=>h.elim⟩ (.inl V);have B:=(JL D out _ (jE _)).len;rw[MA]at B;rcases h with h|h
 ·exact .inl h
 ·have h:m<=(BD G out).1.length:=h;exact .inr (by omega)
theorem Afu(s:OkG G)(out:List (Int×Int)):(Ib G out).length<=NN G out:=by
 have h0:=LQ out s.regs;have h1:=F7 G h0 (keysK (EC G.regs out)) (Cp h0.1) λq hq=>hq
 have h2:=Dh (Cp (show Eb (Ib G out)from h1.1.1)) (m:=G.regs.filter λx=>(getK out x).getD 0 ==0) λx hx=>by
  obtain⟨D,B⟩:=MF s out x (CN.1 hx);exact fN.2 ⟨D,by rw[B];rfl⟩
 simpa[keysK,NN]using h2
theorem Aj7{out:List (Int×Int)}(D:Eb out)(h1:∀x v,getK out x=jY v->v=1)(B:∀x∈keysK out,x∈G.regs):out.length+NN G out<=G.regs.length:=by
 have h2:=Dh (Cp D) (m:=G.regs.filter λx=>!((getK out x).getD 0 ==0)) λx hx=>by
  obtain⟨v,s⟩:=jU.1 (CN.1 hx);refine fN.2 ⟨B x hx,?_⟩;rw[s,h1 x v s];rfl
 have I:out.length=(keysK out).length:=by simp[keysK]
 rw[<-I]at h2;have F:∀(l:List Int),(l.filter λx=>(getK out x).getD 0 ==0).length+(l.filter λx=>!((getK out x).getD 0 ==0)).length=l.length:=by
  intro l;induction l with
  |nil=>rfl
  |cons x l J=>
   rw[dP,dP,eU];cases(getK out x).getD 0 ==0
   ·simp only[aS,zaz];simp only[aN,if_false];omega
   ·simp only[aU,zaz];simp only[aN,if_false];omega
 have L:=F G.regs;unfold NN;omega
theorem Aeq(l:List Int):∀(o:List (Int×Int)),(l.foldl (λo r=>B7 o r 1) o).length<=o.length+l.length:=by
 induction l with
 |nil=>intro o;exact jE _
 |cons r l s=>
  intro o;have h1:=s (B7 o r 1);have h2:=EY (l:=o) r 1;rw[dZ,eU];omega
theorem Ao9(s:iX G)(D:SymG G)(m:Nat)(B:∀r∈G.regs,(Qw G r).Nodup/\m<=(Qw G r).length):∀n,(∀k,k < n->(BD G (DM G k)).2≠[])->DM G n= []\/(DM G n).length+m<=G.regs.length
 |0,_=>.inl V
 |n+1,h=>.inr (by
  have h1:=(Wm s D m B (DM G n)).resolve_left (h n (jJ n));have h2:=KH (G:=G) (Ib G (DM G n)).length (Ib G (DM G n)) [];have L:=Afu s.toOkG (DM G n);have J:=Aj7 (Gl s.toOkG n).1 (LF s.toOkG n) (JM s.toOkG n);have I:(DM G (n+1)).length<=_:=Aeq (BD G (DM G n)).2 (DM G n);have F:(CV G (DM G n)).length<=(Ib G (DM G n)).length:=by
   unfold CV;simpa using h2
  omega)
def atP(n:Nat)(A:List (Int×Int)):List Int:=(gJ n).map λ(k:Nat)=>(getK A (k:Int)).getD (-1)
theorem Xd(n:Nat)(A:List (Int×Int)):(atP n A).length=n:=by simp[atP]
theorem Xe(h:k < n):(atP n A)[k]? =jY ((getK A (k:Int)).getD (-1)):=by
 unfold atP;rw[eH,eJ h];rfl
def atK(n:Nat)(A:List (Int×Int))(j:Nat):List Int:=(gJ n).map λ(k:Nat)=>if k < j then(getK A (k:Int)).getD (-1)else 0
theorem KN(n:Nat)(A:List (Int×Int))(j:Nat):(atK n A j).length=n:=by simp[atK]
theorem Sz(h:k < n):(atK n A j)[k]? =jY (if k < j then(getK A (k:Int)).getD (-1)else 0):=by
 unfold atK;rw[eH,eJ h];rfl
theorem Al8(n:Nat)(A:List (Int×Int)):gP n (0:Int)=atK n A 0:=by
 refine dM λk=>?_
 by_cases h:k < n
 ·rw[Sz h,eK,if_pos h];rfl
 ·rw[eF (by simp;omega),eF (by rw[KN];omega)]
theorem Arb(n:Nat)(A:List (Int×Int)):atK n A n=atP n A:=by
 refine dM λk=>?_
 by_cases h:k < n
 ·rw[Sz h,Xe h,if_pos h]
 ·rw[eF (by rw[KN];omega),eF (by rw[Xd];omega)]
theorem Ara(s:j < n):(atK n A j).set j ((getK A (j:Int)).getD (-1))=atK n A (j+1):=by
 refine dM λk=>?_
 by_cases h:k < n
 ·rw[Sz h];by_cases e:j=k
  ·subst e;rw[eN (by rw[KN];exact s),if_pos (jJ _)]
  ·rw[eM e,Sz h];by_cases h1:k < j
   ·rw[if_pos h1,if_pos (by omega)]
   ·rw[if_neg h1,if_neg (by omega)]
 ·rw[eF (by rw[fA,KN];omega),eF (by rw[KN];omega)]
theorem Aex{f:iI}{lf:Bool}{slots:Int}(h0:0<=f.regs)(h1:f.regs<=4096)(F:∀r p,getK A r=jY p->Ch p):(Ij f A lf slots).to ⟨lf,slots,atP f.regs.toNat A⟩:=by
 obtain⟨n,B⟩:∃n,n=f.regs.toNat:=⟨_,rfl⟩
 unfold Ij;rw[<-B];refine Af (by unfold VN cM;simp only[zaf];omega) (Am (a:=atP n A) ?_ (Aj _));have e0:((0:Int),gP n (0:Int))=(((0:Nat):Int),atK n A 0):=by rw[<-Al8];rfl
 rw[e0];refine B9 (λk:Nat=>((k:Int),atK n A k)) n (λk hk=>?_) ?_ (jS _)
 ·have D:Cm (atK n A k) (k:Int)=aZ:=Qk (by rw[KN];exact hk);have s:Cm ((atK n A k).set (Int.toNat (k:Int)) (-1)) (k:Int)=aZ:=Qk (by rw[fA,KN];exact hk);simp only[EZ];rw[<-B];refine AI (decide_eq_true (by rw[eY];omega)) (Am (a:=atK n A (k+1)) (Af D (Af (Mm ⟨by omega,by omega⟩) ?_)) ?_)
  ·rw[cP,<-Ara hk];cases hg:getK A (k:Int)with
   |none=>exact AJ V (Aj _)
   |some p=>
    refine AI V (Af s (Af (F _ p hg) ?_));rw[gT];exact Aj _
  ·rw[w23 hk (by omega)];exact Aj _
 ·simp only[EZ];rw[<-B,<-Arb];exact AJ (decide_eq_false (by rw[eY];omega)) (Aj _)
structure RightP(f:Func)(p:Plan):Prop where
 may:Ia f=true
 len:(p.at_.length:Int)=f.regs
 pos:0<=p.slots
 lf:p.leaf=true->leaf f.blocks=true/\p.slots=0
 reg:∀(j:Nat) x,p.at_[j]? =some x->(j:Int)∈regsB f->x∈BA (B5 f) (j:Int) p.leaf\/(32<=x/\x < 32+p.slots)
 non:∀(j:Nat) x,p.at_[j]? =some x->(j:Int)∉regsB f->x= -1
 use:∀z,32<=z->z < 32+p.slots->z∈p.at_
 apart:∀x∈CC f,ixD p.at_ x.a≠ixD p.at_ x.b
theorem Tt{f:iI}{p:i9}(hw:∀x∈p.at_,Ch x):C4 f p=aZ↔RightP f p:=by
 constructor
 ·intro h;have h0:=h;unfold C4 at h0;simp only[aI,aR,cV,fU]at h0;obtain⟨⟨B,I⟩,D,U⟩:=h0;have aa:=B;unfold T3 at B;simp only[aV,aH,aP,decide_eq_false_iff_not]at B;obtain⟨⟨⟨h1,h2⟩,h3⟩,W⟩:=B;have J:0<=p.slots:=by omega
  have F:p.leaf=aZ->leaf f.blocks=aZ/\p.slots=0:=λL=>by
   rcases W with W|⟨h5,h6⟩
   ·rw[L]at W;cases W
   ·exact⟨h5,by omega⟩
  have N:∀j,j < p.at_.length->Aht f p j=aL:=λj hj=>by
   have:=YR (f:=f) hw (λL=>(F L).2) hj;rw[I j hj]at this;simpa using this.symm
  refine⟨h1,by simpa using h2,J,F,λj x hx Z=>?_,λj x hx Z=>?_,λz ad ac=>?_,λx hx e=>?_⟩
  ·have hb:=N j (eG.1 hx).1;unfold Aht OS at hb;rw[Cf hx,dE.2 Z]at hb;simp only[aU,aM,aO,a6,aP]at hb;have Y:Ch x:=hw x (fR hx);split at hb
   ·rename_i O;rw[aI,decide_eq_true_eq]at hb;have O:=of_decide_eq_true O;exact .inr ((IR Y).1 (by unfold IS;rw[aI,decide_eq_true_eq,decide_eq_true_eq];exact⟨O,hb.2⟩))
   ·exact .inl (dE.1 hb)
  ·have hb:=N j (eG.1 hx).1;unfold Aht at hb;have hc:(regsB f).contains (j:Int)=aL:=by
    cases e:(regsB f).contains (j:Int)with
    |false=>rfl
    |true=>exact absurd (dE.1 e) Z
   rw[Cf hx,hc]at hb;simpa using hb
  ·rw[Sq hw J,aR,cX]at D;have:=D (z - 32).toNat (fU.2 (by omega));rw[show 32+(((z - 32).toNat:Nat):Int)=z by omega]at this;simpa using this
  ·rw[cX]at U;refine U x hx ?_;unfold Nb;rw[e];simp
 ·intro H;have B:T3 f p=aL:=by
   unfold T3;rw[H.may,decide_eq_false (by have:=H.pos;omega:¬p.slots < 0),show((p.at_.length:Int) !=f.regs)=aL by rw[H.len];simp];cases L:p.leaf with
   |false=>rfl
   |true=>
    rw[(H.lf L).1,(H.lf L).2];rfl
  refine(OH B λj x hx=>?_).trans ?_
  ·have ab:=(eG.1 hx).1;have I:=YR (f:=f) hw (λL=>(H.lf L).2) ab;rw[show p.at_.getD j 0=x by rw[eB,hx];rfl]at I;rw[I];unfold Aht OS;rw[Cf hx];cases hc:(regsB f).contains (j:Int)with
   |false=>
    rw[H.non j x hx λh=>by rw[dE.2 h]at hc;cases hc];rfl
   |true=>
    rcases H.reg j x hx (dE.1 hc)with h1|h1
    ·have:=Lx h1;rw[decide_eq_false (by omega:¬x≥32)];have h1:=dE.2 h1;simp only[aU,aM,aO,a6,aN,if_false,aT];exact h1
    ·have F:p.leaf=aL:=by
      cases e:p.leaf with
      |false=>rfl
      |true=>have:=(H.lf e).2;omega
     have h2:=(IR (hw x (fR hx))).2 h1;unfold IS at h2;rw[aI]at h2;rw[h2.1,h2.2,F];rfl
  ·rw[Sq hw H.pos,aI,aR,aR,cX,cX];refine⟨λs T=>?_,λx hx T=>?_⟩
   ·have T:=fU.1 T;have:=H.use (32+(s:Int)) (by omega) (by have:=H.pos;omega);simpa using this
   ·unfold Nb at T;exact H.apart x hx (eq_of_beq T)
theorem QU{f:iI}{lf:Bool}{ch:List Int}{slots:Int}(Y:Ia f=aZ)(H:SltQ (Ct f lf ch) (A,slots) λx=>x∈regsB f)(hl:lf=aZ->leaf f.blocks=aZ/\slots=0)(hs:slots<=100000):
 C4 f ⟨lf,slots,atP f.regs.toNat A⟩=aZ/\∀x∈atP f.regs.toNat A,Ch x:=by
 have U:0<=f.regs/\f.regs<=4096:=by
  have h:=Y;unfold Ia Akg at h;simp only[zap]at h;omega
 have N:0<=slots:=H.pos;have L:∀r p,getK A r=jY p->-1<=p/\p<=4294967296:=λr p h=>by
  rcases H.cl r p h with h1|h1
  ·rw[Hj]at h1;split at h1
   ·have:=Lx h1;omega
   ·cases h1
  ·have h1:32<=p/\p < 32+slots:=h1;omega
 have J:∀x∈atP f.regs.toNat A,Ch x:=λx hx=>by
  obtain⟨k,_,rfl⟩:=fQ.1 hx;cases hg:getK A (k:Int)with
  |none=>exact Mm ⟨by simp,by simp⟩
  |some p=>exact Mm (L _ p hg)
 refine⟨?_,J⟩;have D:∀r,r∈regsB f->∃p,getK A r=jY p/\(atP f.regs.toNat A)[r.toNat]? =jY p/\0<=r/\r.toNat < f.regs.toNat:=λr s=>by
  obtain⟨h1,h2⟩:=Ud Y s;obtain⟨p,B⟩:=jU.1 ((H.key r).2 s);refine⟨p,B,?_,h1,by omega⟩;rw[Xe (by omega),show((r.toNat:Nat):Int)=r by omega,B];rfl
 have F:∀(j:Nat) x,(atP f.regs.toNat A)[j]? =jY x->x=(getK A (j:Int)).getD (-1):=λj x hx=>by
  have Z:=(eG.1 hx).1;rw[Xd]at Z;rw[Xe Z]at hx;exact(Option.some.inj hx).symm
 refine(Tt J).2 ⟨Y,?_,N,hl,λj x hx s=>?_,λj x hx s=>?_,λz T O=>?_,λx hx e=>?_⟩
 ·show((atP f.regs.toNat A).length:Int)=_;rw[Xd];omega
 ·obtain⟨p,B,_⟩:=D _ s;have e:=F j x hx;rw[B]at e;have e:x=p:=e;subst e;rcases H.cl _ _ B with h1|h1
  ·rw[Hj,if_pos s]at h1;exact .inl h1
  ·exact .inr h1
 ·have e:=F j x hx;cases hg:getK A (j:Int)with
  |none=>rw[hg]at e;exact e
  |some v=>exact absurd ((H.key (j:Int)).1 (by show(getK A (j:Int)).isSome=aZ;rw[hg];rfl)) s
 ·obtain⟨r,s⟩:=H.use z T O;have s:getK A r=jY z:=s;obtain⟨p,B,I,_⟩:=D r ((H.key r).1 (by show(getK A r).isSome=aZ;rw[s];rfl));rw[s]at B;cases B;exact fR I
 ·obtain⟨h1,h2,h3⟩:=Er hx;obtain⟨p,B,I,ab,_⟩:=D x.a (Cj h1);obtain⟨q,hq,W,aa,_⟩:=D x.b (Cj h2);have e:ixD (atP f.regs.toNat A) x.a=ixD (atP f.regs.toNat A) x.b:=e;rw[show ixD (atP f.regs.toNat A) x.a=p by rw[show x.a=((x.a.toNat:Nat):Int)by omega];exact Cf I,show ixD (atP f.regs.toNat A) x.b=q by rw[show x.b=((x.b.toNat:Nat):Int)by omega];exact Cf W]at e;subst e;exact H.nocl x.a p B x.b (JR.2 (.inl hx)) hq
end Mu
namespace Mu
open Go Go.RowKit Go.Proofs
variable{at':Nat}{h:Int}{ks l:List Int}{n:Nat}{ord:List Int}{p:Int->Bool}{r1:List Int}{x:Int}{α:Type}
noncomputable section
end
inductive RchF(f:Func)(no:Int):Int->Prop
 |start:no≠0->0 < f.blocks.length->RchF f no 0
 |step {a b:Int}:RchF f no a->b∈nextL f a->b≠no->RchF f no b
theorem RchF.lt{f:iI}{no b:Int}(h:RchF f no b):0<=b/\b.toNat < f.blocks.length:=by
 cases h with
 |start _ h=>exact⟨by omega,by simpa using h⟩
 |step _ h _=>exact EX h
theorem Yj{l:List Bool}{k b:Int}(hk:0<=k)(s:k.toNat < l.length)(hb:0<=b):ixD (l.set k.toNat aZ) b=(a8 (b=k)||ixD l b):=by
 unfold ixD;rw[eB,eB,eL];by_cases h:b=k
 ·subst h;rw[if_pos V,if_pos s];simp
 ·rw[if_neg (by omega)];simp[h]
structure Dfs(f:Func)(no:Int)(come:List Bool)(st:List FStep)(left:List Int):Prop where
 len:come.length=f.blocks.length
 els:∀e∈st,∃d,nextL f e.b=d++e.next/\∀k∈d,k=no\/ixD come k=true
 mem:∀b:Int,0<=b->(ixD come b=true↔b∈left\/b∈st.map (·.b))
 rch:∀b,b∈left\/b∈st.map (·.b)->RchF f no b
 nod:(left++st.map (·.b)).Nodup
 done:∀b∈left,∀k∈nextL f b,k=no\/ixD come k=true
 par:∀b∈left,b=0\/∃k,b∈nextL f k/\(k∈st.map (·.b)\/∃l1 l2 l3,left=l1++b::(l2++k::l3))
 chain:∀s e1 e2 s',st=s++e1::e2::s'->e2.b∈nextL f e1.b
 bot:∀e s,st=e::s->e.b=0
 zero:ixD come 0=true
variable{f:iI}{no:Int}{come:List Bool}{s:List iF}{left:List Int}{b k:Int}{r:List Int}
theorem Dfs.pop(H:Dfs f no come (s++[⟨b,[]⟩]) left):Dfs f no come s (left++[b]):=by
 have D:(s++[(⟨b,[]⟩:iF)]).map (·.b)=s.map (·.b)++[b]:=by simp
 have T:=H.mem;have L:=H.rch;have O:=H.nod;have N:=H.par;rw[D]at T L O N;refine⟨H.len,λe Z=>H.els e (fH _ Z),λc hc=>?_,λc hc=>L c ?_,?_,λc hc=>?_,λc hc=>?_,λt F e2 t' e=>H.chain t F e2 (t'++[⟨b,[]⟩]) (by rw[e];simp),λe t ht=>H.bot e (t++[⟨b,[]⟩]) (by rw[ht];simp),H.zero⟩
 ·rw[T c hc];simp only[fG,fX];constructor
  ·rintro(h|h|h)
   ·exact .inl (.inl h)
   ·exact .inr h
   ·exact .inl (.inr h)
  ·rintro((h|h)|h)
   ·exact .inl h
   ·exact .inr (.inr h)
   ·exact .inr (.inl h)
 ·simp only[fG,fX]at hc⊢;rcases hc with(h|h)|h
  ·exact .inl h
  ·exact .inr (.inr h)
  ·exact .inr (.inl h)
 ·rw[cZ];exact(List.Perm.append_left left (List.perm_append_comm)).nodup_iff.1 O
 ·rcases fG.1 hc with h|h
  ·exact H.done c h
  ·rw[fX]at h;subst h;obtain⟨d,h1,h2⟩:=H.els ⟨c,[]⟩ (by simp);intro j U;rw[show nextL f c=d from by simpa using h1]at U;exact h2 j U
 ·rcases fG.1 hc with h|h
  ·rcases N c h with h0|⟨q,h1,h2⟩
   ·exact .inl h0
   ·refine .inr ⟨q,h1,?_⟩;rcases h2 with h2|⟨J,I,Y,e⟩
    ·rcases fG.1 h2 with h2|h2
     ·exact .inl h2
     ·rw[fX]at h2;subst h2;obtain⟨J,I,e⟩:=List.append_of_mem h;exact .inr ⟨J,I,[],by rw[e];simp⟩
    ·exact .inr ⟨J,I,Y++[b],by rw[e];simp⟩
  ·rw[fX]at h;subst h;rcases dK s with B|⟨W,F,B⟩
   ·exact .inl (H.bot ⟨c,[]⟩ [] (by rw[B];rfl))
   ·rw[dC]at B;refine .inr ⟨F.b,H.chain W F ⟨c,[]⟩ [] (by rw[B];simp),.inl (by rw[B];simp)⟩
theorem Dfs.skip(H:Dfs f no come (s++[⟨b,k::r⟩]) left)(hk:k=no\/ixD come k=aZ):Dfs f no come (s++[⟨b,r⟩]) left:=by
 have B:(s++[(⟨b,k::r⟩:iF)]).map (·.b)=(s++[(⟨b,r⟩:iF)]).map (·.b):=by simp
 have T:=H.mem;have L:=H.rch;have O:=H.nod;have N:=H.par;rw[B]at T L O N;refine⟨H.len,λe U=>?_,T,L,O,H.done,N,λt D F t' e=>?_,λe t ht=>?_,H.zero⟩
 ·rcases fG.1 U with h|h
  ·exact H.els e (fH _ h)
  ·rw[fX]at h;subst h;obtain⟨d,h1,h2⟩:=H.els ⟨b,k::r⟩ (by simp);refine⟨d++[k],by rw[h1];simp,λj hj=>?_⟩;rcases fG.1 hj with hj|hj
   ·exact h2 j hj
   ·rw[fX]at hj;subst hj;exact hk
 ·rcases dK t' with ht|⟨J,W,ht⟩
  ·subst ht;have I:s++[(⟨b,r⟩:iF)]=(t++[D])++[F]:=by rw[e];simp
   obtain⟨h1,h2⟩:=dA I V;cases h2;exact H.chain t D ⟨b,k::r⟩ [] (by rw[h1];simp)
  ·rw[dC]at ht;subst ht;have I:s++[(⟨b,r⟩:iF)]=(t++D::F::J)++[W]:=by rw[e];simp
   obtain⟨h1,h2⟩:=dA I V;exact H.chain t D F (J++[⟨b,k::r⟩]) (by rw[h1];simp)
 ·cases s with
  |nil=>
   cases ht;exact H.bot ⟨b,k::r⟩ [] V
  |cons e0 s=>
   cases ht;exact H.bot e (s++[⟨b,k::r⟩]) V
theorem Dfs.push(H:Dfs f no come (s++[⟨b,k::r⟩]) left)(hc:ixD come k=aL)(Z:k≠no):Dfs f no (come.set k.toNat aZ) (s++[⟨b,r⟩]++[⟨k,nextL f k⟩]) left:=by
 obtain⟨Y,J,ab⟩:=H.els ⟨b,k::r⟩ (by simp);have I:k∈nextL f b:=by rw[show nextL f b=Y++k::r from J];simp
 have hk:=EX I;have aa:k.toNat < come.length:=by rw[H.len];exact hk.2
 have F:∀c:Int,0<=c->ixD (come.set k.toNat aZ) c=(a8 (c=k)||ixD come c):=λc h=>Yj hk.1 aa h
 have B:∀c a:Int,c∈nextL f a->(c=no\/ixD come c=aZ)->c=no\/ixD (come.set k.toNat aZ) c=aZ:=λc a ha h=>by
  rcases h with h|h
  ·exact .inl h
  ·refine .inr ?_;rw[F c (EX ha).1,h,aY]
 have D:(s++[(⟨b,r⟩:iF)]++[(⟨k,nextL f k⟩:iF)]).map (·.b)=(s++[(⟨b,k::r⟩:iF)]).map (·.b)++[k]:=by simp
 have ac:RchF f no b:=H.rch b (.inr (by simp));refine⟨by rw[fA];exact H.len,λe he=>?_,λc h0=>?_,λc h=>?_,?_,λc h j hj=>B j c hj (H.done c h j hj),λc h=>?_,λt N W t' e=>?_,λe t ht=>?_,?_⟩
 ·rcases fG.1 he with he|he
  ·rcases fG.1 he with he|he
   ·obtain⟨d,h1,h2⟩:=H.els e (fH _ he);exact⟨d,h1,λj hj=>B j e.b (by rw[h1];exact fH _ hj) (h2 j hj)⟩
   ·rw[fX]at he;subst he;refine⟨Y++[k],by rw[show nextL f b=Y++k::r from J];simp,λj hj=>?_⟩;rcases fG.1 hj with hj|hj
    ·exact B j b (by rw[show nextL f b=Y++k::r from J];exact fH _ hj) (ab j hj)
    ·rw[fX]at hj;subst hj;exact .inr (by rw[F j hk.1];simp)
  ·rw[fX]at he;subst he;exact⟨[],rfl,λj hj=>by cases hj⟩
 ·rw[F c h0,D];by_cases O:c=k
  ·subst O;simp
  ·have:=H.mem c h0;simp only[O,decide_false,aO,fG,fX,or_false]at this⊢;exact this
 ·rw[D]at h;rcases h with h|h
  ·exact H.rch c (.inl h)
  ·rcases fG.1 h with h|h
   ·exact H.rch c (.inr h)
   ·rw[fX]at h;subst h;exact ac.step I Z
 ·rw[D,<-cZ];refine gB.2 ⟨H.nod,by simp,λa ha c T=>?_⟩;rw[fX]at T;subst T;intro e;subst e;have:=(H.mem a hk.1).2 (fG.1 ha);rw[hc]at this;cases this
 ·rcases H.par c h with h0|⟨q,h1,h2⟩
  ·exact .inl h0
  ·refine .inr ⟨q,h1,?_⟩;rcases h2 with h2|h2
   ·exact .inl (by rw[D];exact fH _ h2)
   ·exact .inr h2
 ·rcases dK t' with ht|⟨t0,e3,ht⟩
  ·subst ht;have e':(s++[(⟨b,r⟩:iF)])++[⟨k,nextL f k⟩]=(t++[N])++[W]:=by rw[e];simp
   obtain⟨h1,h2⟩:=dA e' V;obtain⟨_,U⟩:=dA h1 V;cases h2;cases U;exact I
  ·rw[dC]at ht;subst ht;have e':(s++[(⟨b,r⟩:iF)])++[⟨k,nextL f k⟩]=(t++N::W::t0)++[e3]:=by rw[e];simp
   obtain⟨h1,_⟩:=dA e' V;rcases dK t0 with ht|⟨t1,e4,ht⟩
   ·subst ht;have L:s++[(⟨b,r⟩:iF)]=(t++[N])++[W]:=by rw[h1];simp
    obtain⟨U,h4⟩:=dA L V;cases h4;exact H.chain t N ⟨b,k::r⟩ [] (by rw[U];simp)
   ·rw[dC]at ht;subst ht;have L:s++[(⟨b,r⟩:iF)]=(t++N::W::t1)++[e4]:=by rw[h1];simp
    obtain⟨U,_⟩:=dA L V;exact H.chain t N W (t1++[⟨b,k::r⟩]) (by rw[U];simp)
 ·cases s with
  |nil=>
   cases ht;exact H.bot ⟨b,k::r⟩ [] V
  |cons e0 s=>
   cases ht;exact H.bot e (s++[⟨b,k::r⟩]) V
 ·rw[F 0 (cO 0),H.zero,aY]
def muD(q:List Bool×List iF×List Int):Nat:=4 *(q.1.filter λc=>!c).length+(q.2.1.map λe=>e.next.length+1).sum
theorem G8(D:l.Nodup)(B:∀b∈l,0<=b/\b.toNat < n):l.length<=n:=by
 have:=E6 (m:=(gJ n).map Int.ofNat) D λb hb=>by
  obtain⟨h0,h1⟩:=B b hb;exact fQ.2 ⟨b.toNat,fU.2 h1,by show((b.toNat:Nat):Int)=b;omega⟩
 simpa using this
theorem Dfs.few(H:Dfs f no come s left):left.length+s.length<=f.blocks.length:=by
 have:=G8 H.nod λc hc=>(H.rch c (fG.1 hc)).lt
 simpa using this
theorem Yu:∀{l:List Bool} {i:Nat},l[i]? =jY aL->((l.set i aZ).filter λc=>!c).length+1=(l.filter λc=>!c).length
 | [],i,h=>by simp at h
 |c::l,0,h=>by
  simp at h;subst h;simp
 |c::l,i+1,h=>by
  have B:=Yu (l:=l) (i:=i) (by simpa using h);cases c <;> simp[B]
theorem Af3{l:List Bool}{k:Int}(h:k.toNat < l.length)(hc:ixD l k=aL):l[k.toNat]? =jY aL:=by
 unfold ixD at hc;rw[eB,eE h]at hc;rw[eE h];exact congrArg jY hc
structure WalkP(f:Func)(no:Int)(l:List Int):Prop where
 nod:l.Nodup
 mem:∀b,b∈l↔RchF f no b
 par:∀b∈l,b=0\/∃k,b∈nextL f k/\∃l1 l2 l3,l=l1++b::(l2++k::l3)
theorem Dfs.fin(H:Dfs f no come [] left):WalkP f no left:=by
 have B:=(H.mem 0 (cO 0)).1 H.zero;simp only[fF,gF,or_false]at B;refine⟨by simpa using H.nod,λb=>⟨λh=>H.rch b (.inl h),λh=>?_⟩,λb hb=>?_⟩
 ·induction h with
  |start _ _=>exact B
  |@step a b h1 h2 F D=>
   rcases H.done a D b h2 with e|e
   ·exact absurd e F
   ·have:=(H.mem b (EX h2).1).1 e;simpa using this
 ·rcases H.par b hb with h|⟨k,h1,h2⟩
  ·exact .inl h
  ·rcases h2 with h2|h2
   ·simp at h2
   ·exact .inr ⟨k,h1,h2⟩
theorem Ay7{s:List α}{e:α}(h:s.length<=2097152):bG.wrap ((((s++[e]).length:Nat):Int) - 1)=(s.length:Int):=by
 rw[bK _ (by simp;omega)];simp
theorem Akx[Inhabited α](s:List α)(e:α):ixD (s++[e]) (s.length:Int)=e:=Cf (k:=s.length) (by simp)
theorem Acu(c:iH f):∀q,Dfs f no q.1 q.2.1 q.2.2->∃r,(iQ (Fx f no) q).to r/\WalkP f no r:=by
 refine iS (λq=>Dfs f no q.1 q.2.1 q.2.2) muD (WalkP f no) ?_;rintro⟨come,st,left⟩ H;have H:Dfs f no come st left:=H;have hn:=c.small.blocks;rcases dK st with O|⟨s,e,O⟩
 ·subst O;refine⟨.inr left,AJ (by simp) (Aj _),(λT h=>by cases h),λr h=>?_⟩;cases h;exact H.fin
 ·rw[dC]at O;subst O;have B:=H.few;have W:s.length<=2097152:=by simp at B;omega
  have hw:=Ay7 (s:=s) (e:=e) W;have hl:=Akx s e;have D:Cm (s++[e]) (s.length:Int)=aZ:=E7 (by simp);have L:∀e':iF,(s++[e]).set s.length e'=s++[e']:=λe'=>by simp
  obtain⟨b,nx⟩:=e;have Y:RchF f no b:=H.rch b (.inr (by simp));have ae:=Y.lt;have I:wfB .i64 b=aZ:=by
   unfold wfB;simp[Lit.wf,bI,bH,bJ,bF];omega
  simp only[Fx];rw[hw,hl,cP];simp only[L];cases nx with
  |nil=>
   refine⟨.inl (come,s,left++[b]),AI (by simp) (Af D (AI (by simp) (Af I (Af ?_ (Af ?_ ?_))))),λT h=>?_,(λr h=>by cases h)⟩
   ·unfold Fj cM;simp at B⊢;omega
   ·unfold slB;simp
   ·rw[List.take_left' V];exact Aj _
   ·cases h;refine⟨H.pop,?_⟩;simp[muD]
  |cons k r=>
   obtain⟨d0,ab,_⟩:=H.els ⟨b,k::r⟩ (by simp);have aa:k∈nextL f b:=by rw[show nextL f b=d0++k::r from ab];simp
   have hk:=EX aa;have h0:ixD (k::r) 0=k:=rfl;have J:slD (k::r) 1 (((k::r).length:Nat):Int)=r:=by
    unfold slD;simp
   have N:Cm come k=aZ:=BL.2 ⟨hk.1,by rw[H.len];exact hk.2⟩;have Z:Gn ⟨b,r⟩=aZ:=I;have U:wfB .i64 k=aZ:=by
    unfold wfB;simp[Lit.wf,bI,bH,bJ,bF];omega
   have F:∀{x:M ((List Bool×List iF×List Int)⊕List Int)} {y},x.to y->(iL (Cm (k::r) 0) (iL (slB (k::r) 1 (((k::r).length:Nat):Int)) (iL (Gn ⟨b,r⟩) (iL (Cm come k) x)))).to y:=λhx=>
    Af V (Af (by unfold slB;simp;omega) (Af Z (Af N hx)))
   simp only[h0,J];cases hc:(!(ixD come k)&&(k !=no))with
   |false=>
    have ac:k=no\/ixD come k=aZ:=by
     cases h1:ixD come k with
     |true=>exact .inr V
     |false=>rw[h1]at hc;simp at hc;exact .inl hc
    refine⟨.inl (come,s++[⟨b,r⟩],left),AI (by simp) (Af D (AJ (by simp;omega) (F (AJ V (Aj _))))),λT h=>?_,(λr h=>by cases h)⟩;cases h;refine⟨H.skip ac,?_⟩;simp[muD]
   |true=>
    simp only[bne_iff_ne,ne_eq,zas]at hc;refine⟨.inl (come.set k.toNat aZ,s++[⟨b,r⟩]++[⟨k,nextL f k⟩],left),AI (by simp) (Af D (AJ (by simp;omega) (F (AI V (Af N (Am (Af (BM.2 c) (Aj _)) (Af U (Af ?_ (Aj _))))))))),λT h=>?_,(λr h=>by cases h)⟩
    ·unfold Fj cM;simp at B⊢;omega
    ·cases h;refine⟨H.push hc.1 hc.2,?_⟩;have hf:=Yu (Af3 (by rw[H.len];exact hk.2) hc.1);have ad:=T8 f k;simp[muD];omega
theorem Acs(c:iH f)(no:Int):∃l,(E8 f no).to l/\WalkP f no l:=by
 unfold E8;have N:=c.small.blocks;cases hc:(((f.blocks.length:Int) ==0)||(no ==0))with
 |true=>
  refine⟨[],AI V (Aj _),gD,λb=>⟨(λh=>by cases h),λh=>?_⟩,(λb hb=>by cases hb)⟩;exfalso;induction h with
  |start h1 h2=>
   simp only[aW,beq_iff_eq]at hc;rcases hc with h|h
   ·omega
   ·exact h1 h
  |step _ _ _ J=>exact J
 |false=>
  simp only[aV,beq_eq_false_iff_ne,ne_eq]at hc;have B:0 < f.blocks.length:=by omega
  have D:∀b:Int,ixD (gP f.blocks.length aL) b=aL:=λb=>by
   unfold ixD;rw[eB,eK];split <;> rfl
  have F:∀b:Int,0<=b->ixD ((gP f.blocks.length aL).set (0:Int).toNat aZ) b=a8 (b=0):=λb hb=>by
   rw[Yj (cO 0) (by simpa using B) hb,D,aX]
  obtain⟨l,h1,h2⟩:=Acu (no:=no) c ((gP f.blocks.length aL).set (0:Int).toNat aZ,[⟨0,nextL f 0⟩],[]) ⟨by simp,λe I=>by
   rw[fX]at I;subst I;exact⟨[],rfl,λk hk=>by cases hk⟩,(λb hb=>by rw[F b hb];simp),λb hb=>by
   simp at hb;subst hb;exact .start hc.2 B,by simp,λb hb=>by simp at hb,λb hb=>by simp at hb,λs T O L e=>by
   have:=congrArg eS e;simp at this;omega,λe s I=>by cases I;rfl,by rw[F 0 (cO 0)];rfl⟩
  refine⟨l,AJ V (Af ?_ (Af ?_ (Am (Af (BM.2 c) (Aj _)) (Af V (Am ?_ (Aj _)))))),h2⟩
  ·unfold VN cM;simp;omega
  ·exact BL.2 ⟨by omega,by simpa using B⟩
  ·rw[cP];exact h1
def IK(n:Nat)(l:List Int)(k:Nat):List Bool:=(gJ n).map λ(b:Nat)=>(l.take k).contains (b:Int)
theorem Oq(n:Nat)(l:List Int)(k:Nat):(IK n l k).length=n:=by simp[IK]
theorem Aol(n:Nat)(l:List Int):IK n l 0=gP n aL:=by
 unfold IK;refine dM λb=>?_
 rw[eH,eK];by_cases hb:b < n
 ·rw[eJ hb,if_pos hb];simp
 ·rw[eF (by simpa using hb),if_neg hb];rfl
theorem Ac3{k:Nat}(hx:l[k]? =jY x)(h0:0<=x)(B:x.toNat < n):(IK n l k).set x.toNat aZ=IK n l (k+1):=by
 refine dM λb=>?_
 rw[eL,Oq];have ht:l.take (k+1)=l.take k++[x]:=by rw[gV,hx];rfl
 by_cases e:x.toNat=b
 ·rw[if_pos e,if_pos (by omega)];unfold IK;rw[eH,eJ (by omega),ht];have:(b:Int)=x:=by omega
  simp[this]
 ·rw[if_neg e];unfold IK;rw[eH,eH,ht];by_cases hb:b < n
  ·rw[eJ hb];have:(b:Int)≠x:=by omega
   simp[this]
  ·rw[eF (by simpa using hb)];rfl
theorem Ai7{b:Nat}(hb:b < n):ixD (IK n l l.length) (b:Int)=l.contains (b:Int):=by
 unfold IK;exact Cf (k:=b) (by rw[eH,eJ hb,gW];rfl)
theorem Zy(c:iH f):∃l,(E8 f (-1)).to l/\WalkP f (-1) l/\(Gv f).to (IK f.blocks.length l l.length):=by
 obtain⟨l,h1,h2⟩:=Acs c (-1);have F:=c.small.blocks;have D:l.length<=f.blocks.length:=G8 h2.nod λb hb=>((h2.mem b).1 hb).lt
 refine⟨l,h1,h2,Af (by unfold VN cM;simp;omega) (Am h1 (Am ?_ (Aj _)))⟩;rw[cP,<-Aol f.blocks.length l];refine B9 (λk:Nat=>((k:Int),IK f.blocks.length l k)) l.length (λk hk=>?_) ?_ (jS _)
 ·obtain⟨x,hx⟩:∃x,l[k]? =jY x:=⟨_,eE hk⟩
  have B:=((h2.mem x).1 (fR hx)).lt;simp only[Ev,Cf hx];rw[bK _ (by omega),show((k:Int)+1)=((k+1:Nat):Int)by omega,Ac3 hx B.1 B.2];exact AI (decide_eq_true (by omega)) (Af (E7 hk) (Af (BL.2 ⟨B.1,by rw[Oq];exact B.2⟩) (Aj _)))
 ·simp only[Ev];exact AJ (decide_eq_false (by omega)) (Aj _)
theorem Aj9(c:iH f):∃l,(E8 f (-1)).to l/\WalkP f (-1) l/\(JV f).to l.reverse:=by
 obtain⟨l,h1,h2⟩:=Acs c (-1);have D:=c.small.blocks;have B:l.length<=f.blocks.length:=G8 h2.nod λb hb=>((h2.mem b).1 hb).lt
 exact⟨l,h1,h2,Am h1 (Af (decide_eq_true (by omega)) (Aj _))⟩
def ID(o:Int->List Int)(ks:List Int):List Int:=
 match ks.filter λk=>!(o k).isEmpty with
 | []=>[]
 |k::r=>r.foldl (λl j=>l.filter λx=>(o j).contains x) (o k)
theorem Ya{o:Int->List Int}{x:Int}:∀{r l:List Int},x∈r.foldl (λl j=>l.filter λx=>(o j).contains x) l↔x∈l/\∀j∈r,x∈o j
 | [],l=>by simp
 |j::r,l=>by
  rw[dZ,Ya (r:=r),fN];simp only[dE,fJ,forall_eq_or_imp];exact and_assoc
theorem X9{o:Int->List Int}(h:∃k∈ks,o k≠[]):x∈ID o ks↔∀k∈ks,o k≠[]->x∈o k:=by
 have B:∀k,k∈(ks.filter λk=>!(o k).isEmpty)↔k∈ks/\o k≠[]:=λk=>by
  rw[fN];simp
 unfold ID;generalize (ks.filter λk=>!(o k).isEmpty)=fs at B;cases fs with
 |nil=>
  obtain⟨k,h1,h2⟩:=h;exact absurd ((B k).2 ⟨h1,h2⟩) (by simp)
 |cons a r=>
  simp only;rw[Ya];constructor
  ·rintro⟨h1,h2⟩ k hk hne;rcases fJ.1 ((B k).2 ⟨hk,hne⟩)with rfl|h3
   ·exact h1
   ·exact h2 k h3
  ·intro h1;exact⟨h1 a ((B a).1 (by simp)).1 ((B a).1 (by simp)).2,λj D=>h1 j ((B j).1 (fK _ D)).1 ((B j).1 (fK _ D)).2⟩
def Af6(l:List Int)(b:Int):List Int:=l.filter (λx=>decide (x < b))++b::l.filter λx=>decide (b < x)
theorem LM{b:Int}:x∈Af6 l b↔x=b\/x∈l:=by
 unfold Af6;simp only[fG,fJ,fN,decide_eq_true_eq];constructor
 ·rintro(⟨h,_⟩|h|⟨h,_⟩)
  ·exact .inr h
  ·exact .inl h
  ·exact .inr h
 ·rintro(h|h)
  ·exact .inr (.inl h)
  ·rcases Int.lt_trichotomy x b with h1|h1|h1
   ·exact .inl ⟨h,h1⟩
   ·exact .inr (.inl h1)
   ·exact .inr (.inr ⟨h,h1⟩)
theorem Wz{b:Int}:Af6 l b≠[]:=by unfold Af6;simp
def SU(o:Int->List Int)(B:Int->List Int)(b:Int):List Int:=Af6 (if b=0 then []else ID o (B b)) b
structure DomI(f:Func)(bf:Int->List Int)(o:Int->List Int):Prop where
 self:∀b,o b≠[]->b∈o b
 reach:∀b,o b≠[]->RchF f (-1) b
 all:∀b,o b≠[]->∀x,¬RchF f x b->x∈o b
 low:∀b,b≠0->o b≠[]->∀x,(∀k∈bf b,o k≠[]->x∈o k)->x∈o b
 has:∀b,b≠0->o b≠[]->∃k∈bf b,o k≠[]
section
variable{f:iI}{bf:Int->List Int}{o:Int->List Int}{b:Int}
def Aok(o:Int->List Int)(b:Int)(l:List Int):Int->List Int:=λc=>if c=b then l else o c
theorem DomI.step(H:DomI f bf o)(W:∀b k,k∈bf b↔RchF f (-1) k/\b∈nextL f k\/(k∈bf b/\¬RchF f (-1) k))(hb:RchF f (-1) b)(hk:b≠0->∃k∈bf b,o k≠[]):DomI f bf (Aok o b (SU o bf b))/\(o b≠[]->∀x∈SU o bf b,x∈o b):=by
 have T:∀k,k∈bf b->o k≠[]->b∈nextL f k:=λk h1 h2=>by
  rcases(W b k).1 h1 with h|h
  ·exact h.2
  ·exact absurd (H.reach k h2) h.2
 have B:∀x,x∈SU o bf b↔x=b\/(b≠0/\∀k∈bf b,o k≠[]->x∈o k):=λx=>by
  unfold SU;rw[LM];by_cases h0:b=0
  ·rw[if_pos h0];simp[h0]
  ·rw[if_neg h0,X9 (hk h0)];simp[h0]
 have J:o b≠[]->∀x∈SU o bf b,x∈o b:=λhne x hx=>by
  rcases(B x).1 hx with h|⟨h0,h⟩
  ·subst h;exact H.self x hne
  ·exact H.low b h0 hne x h
 have hne:SU o bf b≠[]:=Wz;have I:∀c,Aok o b (SU o bf b) c=if c=b then SU o bf b else o c:=λ_=>rfl
 have L:∀c,o c≠[]->Aok o b (SU o bf b) c≠[]:=λc hc=>by
  rw[I];split
  ·exact hne
  ·exact hc
 refine⟨⟨λc hc=>?_,λc hc=>?_,λc hc x hx=>?_,λc h0 hc x hx=>?_,λc h0 hc=>?_⟩,J⟩
 ·rw[I]at hc⊢;split
  ·rename_i e;subst e;exact(B c).2 (.inl V)
  ·rename_i e;rw[if_neg e]at hc;exact H.self c hc
 ·rw[I]at hc;by_cases e:c=b
  ·subst e;exact hb
  ·rw[if_neg e]at hc;exact H.reach c hc
 ·rw[I]at hc⊢;by_cases e:c=b
  ·subst e;rw[if_pos V];by_cases F:x=c
   ·exact(B x).2 (.inl F)
   ·refine(B x).2 (.inr ⟨λh0=>?_,λk U D=>H.all k D x λY=>hx (Y.step (T k U D) λe=>F e.symm)⟩);subst h0;cases hb with
    |start _ Z=>exact hx (.start F Z)
    |step _ hn _=>exact hx (.start F (by have:=EX hn;omega))
  ·rw[if_neg e]at hc⊢;exact H.all c hc x hx
 ·have N:∀k,o k≠[]->∀y∈Aok o b (SU o bf b) k,y∈o k:=λk D y O=>by
   rw[I]at O;split at O
   ·rename_i e;rw[e]at D⊢;exact J D y O
   ·exact O
  by_cases e:c=b
  ·subst e;rw[I,if_pos V];exact(B x).2 (.inr ⟨h0,λk h1 h2=>N k h2 x (hx k h1 (L k h2))⟩)
  ·rw[I,if_neg e]at hc⊢;exact H.low c h0 hc x λk h1 h2=>N k h2 x (hx k h1 (L k h2))
 ·rw[I]at hc;obtain⟨k,h1,h2⟩:∃k∈bf c,o k≠[]:=by
   by_cases e:c=b
   ·subst e;exact hk h0
   ·rw[if_neg e]at hc;exact H.has c h0 hc
  exact⟨k,h1,L k h2⟩
theorem DomI.fin(H:DomI f bf o)(L:∀b k,RchF f (-1) k->b∈nextL f k->k∈bf b)(B:∀b,RchF f (-1) b->o b≠[])(D:∀b,RchF f (-1) b->SU o bf b=o b)(hb:RchF f (-1) b):∀x,x∈o b↔¬RchF f x b:=λx=>by
 refine⟨λhx T=>?_,λh=>H.all b (B b hb) x h⟩;revert hx;induction T with
 |start h0 N=>
  intro hx;rw[<-D 0 hb]at hx;unfold SU at hx;rw[if_pos V,LM]at hx;rcases hx with h|h
  ·exact h0 h
  ·cases h
 |@step a c h1 h2 O I=>
  intro hx;have J:RchF f (-1) a:=by
   clear I hx h2 O hb;induction h1 with
   |start _ N=>exact .start (by decide) N
   |@step p q _ hq _ I=>exact I.step hq (by have:=EX hq;omega)
  rw[<-D c hb]at hx;unfold SU at hx;rw[LM]at hx;rcases hx with h|h
  ·exact O h.symm
  ·split at h
   ·cases h
   ·have F:=L c a J h2;exact I J ((X9 ⟨a,F,B a J⟩).1 h a F (B a J))
end
theorem PE(h:Asc l):l.Nodup:=h.imp λh=>by omega
theorem MZ(h:Asc l):Asc (l.filter p):=cR p h
theorem YS{b:Int}(h:Asc l):Asc (Af6 l b):=by
 unfold Af6 Asc;rw[List.pairwise_append];refine⟨MZ h,gG.2 ⟨λx hx=>by simpa using(fN.1 hx).2,MZ h⟩,λx hx y hy=>?_⟩;have h1:x < b:=by simpa using(fN.1 hx).2
 rcases fJ.1 hy with rfl|hy
 ·exact h1
 ·have h2:b < y:=by simpa using(fN.1 hy).2
  omega
theorem Apr{b:Int}(h:Asc l)(hb:b∈l):Af6 l b=l:=GN (YS h) h λx=>by
 rw[LM];exact⟨λe=>e.elim (λe=>e▸hb) id,.inr⟩
theorem Vd:∀{l:List Int} {b:Int},Asc l->l.take (l.countP (· < b))=l.filter (λx=>decide (x < b))/\l.drop (l.countP (· < b))=l.filter λx=>!decide (x < b)
 | [],b,_=>by simp
 |x::l,b,h=>by
  unfold Asc at h;rw[gG]at h;obtain⟨h1,h2⟩:=Vd (b:=b) h.2;by_cases hx:x < b
  ·rw[dF (by simpa using hx),List.take_succ_cons,List.drop_succ_cons,h1,h2];simp[hx]
  ·have B:∀y∈l,¬y < b:=λy hy=>by have:=h.1 y hy;omega
   rw[List.countP_cons_of_neg (by simpa using hx),dH.2 (λy hy=>by simpa using B y hy)];refine⟨?_,?_⟩
   ·rw[List.take_zero,dT.2];intro y hy;rcases fJ.1 hy with rfl|hy
    ·simpa using hx
    ·simpa using B y hy
   ·rw[dI,dU.2];intro y hy;rcases fJ.1 hy with rfl|hy
    ·simpa using hx
    ·simpa using B y hy
theorem Ak2{b:Int}(h:Asc l)(hb:b∉l):l.take (l.countP (· < b))++b::l.drop (l.countP (· < b))=Af6 l b:=by
 obtain⟨h1,h2⟩:=Vd (b:=b) h;rw[h1,h2];unfold Af6;congr 2;refine dO λx hx=>?_
 have:x≠b:=λe=>hb (e▸hx)
 by_cases B:x < b
 ·rw[decide_eq_true B,decide_eq_false (by omega)];rfl
 ·rw[decide_eq_false B,decide_eq_true (by omega)];rfl
theorem Xf{m:List Int}(D:Asc l)(B:Asc m)(h:∀x∈l,x∈m)(hne:l≠m):l.length < m.length:=by
 have e:l=m.filter λx=>l.contains x:=GN D (MZ B) λx=>by
  rw[fN,dE];exact⟨λhx=>⟨h x hx,hx⟩,λhx=>hx.2⟩
 have h1:=eV (λx=>l.contains x) m;rw[<-e]at h1;rcases Nat.lt_or_eq_of_le h1 with h2|h2
 ·exact h2
 ·rw[e]at h2;have F:=List.length_filter_eq_length_iff.1 h2;exact absurd (e.trans (dU.2 F)) hne
theorem Ai2{k:Nat}(h:k < n)(B:n<=2147483648):bG.wrap ((k:Int)+1)=((k+1:Nat):Int):=by
 rw[bK _ (by omega)];omega
theorem Alj(a b:List Int)(O:a.length<=2147483648):(Cs a b).to (a ==b):=by
 unfold Cs;by_cases L:a.length=b.length
 ·refine AJ (by simp[L]) ?_;have J:∀k,k<=a.length->a.take k=b.take k->(∃z,(iQ (BO a b) (k:Int)).to z/\((z= .inl ()/\a=b)\/(z= .inr aL/\a≠b))):=by
   intro k hk;generalize T:a.length - k=m;induction m generalizing k with
   |zero=>
    intro I;refine⟨.inl (),iT ?_,.inl ⟨rfl,?_⟩⟩
    ·simp only[BO];exact AJ (decide_eq_false (by omega)) (Aj _)
    ·rw[gX (by omega),gX (by omega)]at I;exact I
   |succ m N=>
    intro I;have D:k < a.length:=by omega
    obtain⟨x,hx⟩:∃x,a[k]? =jY x:=⟨_,eE D⟩
    obtain⟨y,F⟩:∃y,b[k]? =jY y:=⟨_,eE (by omega)⟩
    by_cases B:x=y
    ·obtain⟨z,h1,h2⟩:=N (k+1) (by omega) (by omega) (by rw[gV,gV,I,hx,F,B]);refine⟨z,iR ?_ h1,h2⟩;simp only[BO,Cf hx,Cf F];refine AI (decide_eq_true (by omega)) (Af (E7 D) (Af (E7 (by omega)) (AJ (by simp[B]) ?_)));rw[Ai2 D O];exact Aj _
    ·refine⟨.inr aL,iT ?_,.inr ⟨rfl,λe=>B ?_⟩⟩
     ·simp only[BO,Cf hx,Cf F];exact AI (decide_eq_true (by omega)) (Af (E7 D) (Af (E7 (by omega)) (AI (by simp[B]) (Aj _))))
     ·subst e;rw[hx]at F;exact Option.some.inj F
  obtain⟨z,h1,h2⟩:=J 0 (jS _) V;rcases h2 with⟨rfl,e⟩|⟨rfl,e⟩
  ·rw[show(a ==b)=aZ from beq_iff_eq.2 e];exact iO h1 (Aj _)
  ·rw[show(a ==b)=aL from beq_eq_false_iff_ne.2 e];exact iP h1
 ·rw[show(a ==b)=aL from beq_eq_false_iff_ne.2 λe=>L (by rw[e])];exact AI (by simp;omega) (Aj _)
theorem Acr(h:-9223372036854775808<=x/\x<=9223372036854775807):wfB .i64 x=aZ:=by
 unfold wfB;simp[Lit.wf,bI,bH,bJ,bF];omega
theorem Tn(n:Int)(h:Asc l)(B:l.length<=2147483648):(CY l n).to (((l.countP (· < n):Nat):Int),l.contains n):=
 Af (by rw[aI];exact⟨SA.2 h,decide_eq_true B⟩) (Aj _)
theorem Ahe{a b:List Int}(J:a.length<=2147483648)(hb:Asc b)(F:b.length<=2147483648)(I:∀x∈a,wfB .i64 x=aZ):(FZ a b).to (a.filter λx=>b.contains x):=by
 unfold FZ;refine Am ?_ (Aj _);have D:=B9 (step:=DS a b) (λk:Nat=>((k:Int),(a.take k).filter λx=>b.contains x)) a.length (r:=a.filter λx=>b.contains x) (λk hk=>?_) ?_ (j:=0) (jS _)
 ·simpa using D
 ·obtain⟨x,hx⟩:∃x,a[k]? =jY x:=⟨_,eE hk⟩
  simp only[DS,Cf hx];have B:=eV (λx=>b.contains x) (a.take k);rw[fB]at B;refine AI (decide_eq_true (by omega)) (Am (a:=(a.take (k+1)).filter λx=>b.contains x) (Af (E7 hk) (Am (Tn x hb F) ?_)) ?_)
  ·rw[gV,hx,dN];cases hc:b.contains x with
   |true=>
    refine AI V (Af (I x (fR hx)) (Af ?_ ?_))
    ·generalize ((a.take k).filter λx=>b.contains x).length=q at B;unfold Fj cM;simp;omega
    ·simp only[jZ,dP,hc,if_true,dV];exact Aj _
   |false=>
    refine AJ V ?_;simp only[jZ,dP,hc,dV,dB,aN,if_false];exact Aj _
  ·rw[Ai2 hk J];exact Aj _
 ·simp only[DS,gW];exact AJ (decide_eq_false (by omega)) (Aj _)
def D3(out:List (List Int))(b:Int):List Int:=if 0<=b then out.getD b.toNat []else []
def JZ(f:iI)(b:Int):List Int:=if 0<=b/\b.toNat < f.blocks.length then Sw f b.toNat else []
theorem Afd{f:iI}{k:Int}{x:Blk f}(h:x∈G6 f k):0<=k:=by
 unfold G6 at h;split at h
 ·assumption
 ·cases h
theorem EA{f:iI}{b k:Int}:k∈JZ f b↔b∈nextL f k:=by
 unfold JZ;constructor
 ·intro h;split at h
  ·rename_i hb;obtain⟨D,⟨x,hx,e⟩,rfl⟩:=(JY hb.2 k).1 h;refine fQ.2 ⟨x,hx,?_⟩;show(x.1:Int)=b;omega
  ·cases h
 ·intro h;have B:=EX h;rw[if_pos B];obtain⟨x,hx,e⟩:=fQ.1 h;have hk:=Afd hx;refine(JY B.2 k).2 ⟨k.toNat,⟨x,?_,?_⟩,by omega⟩
  ·rw[cQ hk];exact hx
  ·have:(x.1:Int)=b:=e;omega
structure RowsA(f:Func)(out:List (List Int)):Prop where
 len:out.length=f.blocks.length
 asc:∀r∈out,Asc r
 rng:∀r∈out,∀x∈r,0<=x/\x.toNat < f.blocks.length
section
variable{f:iI}{out:List (List Int)}
theorem Ms{b:Int}(h0:0<=b):D3 out b=ixD out b:=by unfold D3 ixD;rw[if_pos h0];rfl
theorem XO{b:Int}(h:D3 out b≠[]):D3 out b∈out:=by
 unfold D3 at h⊢;split
 ·rename_i h0;rw[if_pos h0]at h;rw[eB]at h⊢;cases e:out[b.toNat]? with
  |none=>rw[e]at h;exact absurd V h
  |some r=>exact fR e
 ·rename_i h0;rw[if_neg h0]at h;exact absurd V h
theorem Lm(H:RowsA f out)(b:Int):Asc (D3 out b):=by
 by_cases h:D3 out b= []
 ·rw[h];exact cU
 ·exact H.asc _ (XO h)
theorem RK(H:RowsA f out){b:Int}(hx:x∈D3 out b):0<=x/\x.toNat < f.blocks.length:=H.rng _ (XO (fY hx)) x hx
theorem Ajh{b:Int}(h0:0<=b)(hb:b.toNat < out.length):D3 (out.set b.toNat l)=Aok (D3 out) b l:=by
 funext c;show D3 (out.set b.toNat l) c=if c=b then l else D3 out c
 unfold D3;by_cases hc:c=b
 ·subst hc;rw[if_pos h0,if_pos V,eB,eN hb];rfl
 ·rw[if_neg hc];by_cases h1:0<=c
  ·rw[if_pos h1,if_pos h1,eB,eM (by omega),<-eB]
  ·rw[if_neg h1,if_neg h1]
theorem RowsA.set(H:RowsA f out){b:Nat}(D:Asc l)(B:∀x∈l,0<=x/\x.toNat < f.blocks.length):RowsA f (out.set b l):=
 ⟨by simp[H.len],λr h=>(fT h).elim (H.asc r) λe=>e▸D,λr h=>(fT h).elim (H.rng r) λe=>e▸B⟩
theorem Yq{o:Int->List Int}:∀(r l:List Int),(r.foldl (λl j=>l.filter λx=>(o j).contains x) l).Sublist l
 | [],_=>List.Sublist.refl _
 |_::r,_=>(Yq r _).trans List.filter_sublist
theorem Yc{o:Int->List Int}(ks:List Int):ID o ks= []\/∃k∈ks,(ID o ks).Sublist (o k):=by
 unfold ID;cases e:ks.filter λk=>!(o k).isEmpty with
 |nil=>exact .inl V
 |cons k r=>exact .inr ⟨k,(fN.1 (e▸fL:k∈ks.filter λk=>!(o k).isEmpty)).1,Yq r _⟩
theorem R5(H:RowsA f out)(ks:List Int):Asc (ID (D3 out) ks):=by
 rcases Yc (o:=D3 out) ks with h|⟨k,_,h⟩
 ·rw[h];exact cU
 ·exact(Lm H k).sublist h
theorem N8(H:RowsA f out)(hx:x∈ID (D3 out) ks):0<=x/\x.toNat < f.blocks.length:=by
 rcases Yc (o:=D3 out) ks with h|⟨k,_,h⟩
 ·rw[h]at hx;cases hx
 ·exact RK H (h.subset hx)
theorem Afk{o:Int->List Int}{k:Int}:ID o (ks++[k])=if(o k).isEmpty then ID o ks else if ks.any (λk=>!(o k).isEmpty)then(ID o ks).filter (λx=>(o k).contains x)else o k:=by
 unfold ID;rw[dN];cases hk:(o k).isEmpty with
 |true=>simp[hk]
 |false=>
  simp only[dP,hk,aS,if_true,dV,aN,if_false];cases e:ks.filter λk=>!(o k).isEmpty with
  |nil=>
   rw[show ks.any (λk=>!(o k).isEmpty)=aL from ?_]
   ·simp
   ·rw[cX];exact dT.1 e
  |cons a r=>
   rw[show ks.any (λk=>!(o k).isEmpty)=aZ from ?_]
   ·simp
   ·have:a∈ks.filter λk=>!(o k).isEmpty:=e▸fL
    exact cY.2 ⟨a,(fN.1 this).1,(fN.1 this).2⟩
theorem KO(h:Asc l)(B:∀x∈l,0<=x/\x.toNat < n):l.length<=n:=G8 (PE h) B
theorem Api(c:iH f)(H:RowsA f out){r2:List (List Int)}{i:Int}(J:ixD r2 (ixD r1 i)=ks)(hk:∀k∈ks,0<=k/\k.toNat < f.blocks.length)(T:ks.length<=2147483648):
 (iQ (Da r1 r2 out i) ([],aL,0)).to (ID (D3 out) ks):=by
 have U:=c.small.blocks;have L:=B9 (step:=Da r1 r2 out i) (λk:Nat=>(ID (D3 out) (ks.take k),(ks.take k).any (λk=>!(D3 out k).isEmpty),(k:Int))) ks.length (r:=ID (D3 out) ks) (λk D=>?_) ?_ (j:=0) (jS _)
 ·exact L
 ·obtain⟨x,hx⟩:∃x,ks[k]? =jY x:=⟨_,eE D⟩
  have B:=hk x (fR hx);have F:Cm out x=aZ:=BL.2 ⟨B.1,by rw[H.len];exact B.2⟩;simp only[Da,J,Cf hx,<-Ms (out:=out) B.1];refine AI (decide_eq_true (by omega)) (Am (Af (E7 D) (Af F (a:=(ID (D3 out) (ks.take (k+1)),(ks.take (k+1)).any (λk=>!(D3 out k).isEmpty))) ?_)) ?_)
  ·rw[gV,hx,jZ,Afk,List.any_append];cases O:(D3 out x).isEmpty with
   |true=>
    refine AI V ?_;simp only[if_true,cW,O,aU,List.any_nil,aX];exact Aj _
   |false=>
    refine AJ V ?_;simp only[aN,if_false,cW,O,aS,Bool.true_or,aY];cases W:(ks.take k).any (λk=>!(D3 out k).isEmpty)with
    |false=>
     simp only[aN,if_false];exact AI V (Af F (Aj _))
    |true=>
     simp only[if_true];have N:=R5 H (ks.take k);refine AJ V (Af F (Am (Ahe ?_ (Lm H x) ?_ λy I=>?_) (Aj _)))
     ·have:=KO N λy I=>N8 H I
      omega
     ·have:=KO (Lm H x) λy I=>RK H I
      omega
     ·have:=N8 H I;exact Acr (by omega)
  ·rw[Ai2 D T];exact Aj _
 ·simp only[Da,J,gW];exact AJ (decide_eq_false (by omega)) (Aj _)
def CE(f:iI)(out:List (List Int))(b:Int):List Int:=SU (D3 out) (JZ f) b
theorem Tf(H:RowsA f out)(b:Int):Asc (CE f out b):=by
 unfold CE SU;refine YS ?_;split
 ·exact cU
 ·exact R5 H _
theorem Te(H:RowsA f out){b:Int}(h0:0<=b/\b.toNat < f.blocks.length)(hx:x∈CE f out b):0<=x/\x.toNat < f.blocks.length:=by
 unfold CE SU at hx;rcases LM.1 hx with h|h
 ·rw[h];exact h0
 ·split at h
  ·cases h
  ·exact N8 H h
theorem Ax2(c:iH f)(H:RowsA f out){k:Nat}{b:Int}{more:Bool}(hb:r1[k]? =jY b)(W:r1.length<=2147483648)(h0:0<=b/\b.toNat < f.blocks.length):
 (CG r1 (GM f f.blocks.length) (more,(k:Int),out)).to (.inl (more||(CE f out b !=D3 out b),((k+1:Nat):Int),out.set b.toNat (CE f out b))):=by
 have hn:=c.small.blocks;have hk:=(eG.1 hb).1;have T:ixD r1 (k:Int)=b:=Cf hb;have U:ixD (GM f f.blocks.length) b=JZ f b:=by
  unfold JZ;rw[if_pos h0];rfl
 have D:Cm out b=aZ:=BL.2 ⟨h0.1,by rw[H.len];exact h0.2⟩;have I:Cm (GM f f.blocks.length) b=aZ:=BL.2 ⟨h0.1,by rw[F8];exact h0.2⟩;have aa:∀x∈JZ f b,0<=x/\x.toNat < f.blocks.length:=λx hx=>by
  unfold JZ at hx;rw[if_pos h0]at hx;obtain⟨k',O,rfl⟩:=(JY h0.2 x).1 hx;exact⟨by omega,by simpa using(Ii O).1⟩
 have ab:(JZ f b).length<=2147483648:=by
  have:JZ f b∈GM f f.blocks.length:=by
   rw[<-U];exact fR (BS I)
  have:=Sv f f.blocks.length _ this;omega
 have Z:=Api c H (r1:=r1) (r2:=GM f f.blocks.length) (i:=(k:Int)) (ks:=JZ f b) (by rw[T,U]) aa ab;have hL:∀l,l=(if b=0 then []else ID (D3 out) (JZ f b))->Asc l/\l.length<=2147483648:=λl W=>by
  have h1:Asc l:=by
   rw[W];split
   ·exact cU
   ·exact R5 H _
  refine⟨h1,?_⟩;have:=KO (n:=f.blocks.length) h1 λx hx=>by
   rw[W]at hx;split at hx
   ·cases hx
   ·exact N8 H hx
  omega
 obtain⟨l,B⟩:∃l,l=(if b=0 then []else ID (D3 out) (JZ f b)):=⟨_,rfl⟩
 obtain⟨N,L⟩:=hL l B;have J:CE f out b=Af6 l b:=by unfold CE SU;rw[B]
 have hne:CE f out b≠[]:=by rw[J];exact Wz
 have Y:=Tf H b;have ad:=KO Y λx hx=>Te H h0 hx
 simp only[CG,T];refine AI (decide_eq_true (by omega)) (Am (Af (E7 hk) (Af I (Am Z (Am (a:=l) ?_ (Am (Tn b N L) (Am (a:=CE f out b) ?_ (Af D (Am (a:=(CE f out b ==D3 out b)) ?_ (b:=(more||(CE f out b !=D3 out b),out.set b.toNat (CE f out b))) ?_)))))))) ?_)
 ·by_cases F:b=0
  ·rw[B,if_pos F];exact AI (by simp[F]) (Aj _)
  ·rw[B,if_neg F];exact AJ (by simp[F]) (Aj _)
 ·cases hc:l.contains b with
  |true=>
   refine AJ V ?_;rw[J,Apr N (dE.1 hc)];exact Aj _
  |false=>
   have ac:l.countP (λx=>decide (x < b))<=l.length:=List.countP_le_length;refine AI V (Am (Af (decide_eq_true L) (Aj _)) (Af (Acr (by omega)) (Af ?_ (Af (decide_eq_true L) ?_))))
   ·exact decide_eq_true ⟨by simp only;omega,by simp only[cP];exact ac⟩
   ·simp only[cP];rw[J,<-Ak2 N (λe=>by rw[dE.2 e]at hc;cases hc)];exact Aj _
 ·rw[Ms h0.1];exact Alj _ _ (by omega)
 ·cases O:(CE f out b ==D3 out b)with
  |true=>
   refine AJ V ?_;have e:CE f out b=D3 out b:=beq_iff_eq.1 O;rw[show(CE f out b !=D3 out b)=aL from by unfold bne;rw[O];rfl,aX];rw[show out.set b.toNat (CE f out b)=out from ?_]
   ·exact Aj _
   ·rw[e,Ms h0.1];have hg:=BS D;refine dM λj=>?_
    rw[eL];split
    ·rename_i hj;subst hj;rw[if_pos (BL.1 D).2,hg]
    ·rfl
  |false=>
   refine AI V (Af D (Af ?_ ?_))
   ·cases hs:CE f out b with
    |nil=>exact absurd hs hne
    |cons _ _=>rfl
   ·rw[show(CE f out b !=D3 out b)=aZ from by unfold bne;rw[O];rfl,aY];exact Aj _
 ·rw[Ai2 hk W];exact Aj _
end
theorem Ac9{α:Type}{g:α->Nat}:∀{l:List α} {i:Nat} {x y:α},l[i]? =jY x->((l.set i y).map g).sum+g x=(l.map g).sum+g y
 | [],_,_,_,h=>by simp at h
 |a::l,0,x,y,h=>by
  simp at h;subst h;simp only[List.set_cons_zero,fD,gU];omega
 |a::l,i+1,x,y,h=>by
  have:=Ac9 (g:=g) (l:=l) (i:=i) (x:=x) (y:=y) (by simpa using h);simp only[List.set_cons_succ,fD,gU];omega
section
variable{f:iI}
def muA(f:iI)(out:List (List Int)):Nat:=(out.map λl=>if l.isEmpty then f.blocks.length+1 else l.length).sum
structure OrdP(f:Func)(ord:List Int):Prop where
 len:ord.length<=f.blocks.length
 mem:∀b,b∈ord↔RchF f (-1) b
 par:∀(j:Nat) (b:Int),ord[j]? =some b->b=0\/∃(k:Int) (i:Nat),i < j/\ord[i]? =some k/\b∈nextL f k
theorem At3(H:WalkP f (-1) l):OrdP f l.reverse:=by
 refine⟨?_,λb=>by rw[fW];exact H.mem b,λj b N=>?_⟩
 ·rw[eZ];exact G8 H.nod λb hb=>((H.mem b).1 hb).lt
 ·have hb:b∈l:=fW.1 (fR N);rcases H.par b hb with h|⟨k,h1,W,D,B,h2⟩
  ·exact .inl h
  ·refine .inr ⟨k,B.length,?_,?_,h1⟩
   ·have F:l.reverse.Nodup:=List.pairwise_reverse.2 (H.nod.imp λh=>h.symm);have U:l.reverse[B.length+1+D.length]? =jY b:=by
     rw[h2];simp only[gQ,gR,cZ,dD,fZ];rw[eD (by simp;omega)];simp only[eZ];rw[show B.length+1+D.length - B.length=D.length+1 by omega,List.getElem?_cons_succ,eD (by simp)];simp
    have Y:j=B.length+1+D.length:=by
     obtain⟨J,T⟩:=eG.1 N;obtain⟨I,O⟩:=eG.1 U;have L:=gH.1 F;rcases jK j (B.length+1+D.length)with h|h|h
     ·exact absurd (T.trans O.symm) (L _ _ J I h)
     ·exact h
     ·exact absurd (O.trans T.symm) (L _ _ I J h)
    omega
   ·rw[h2];simp only[gQ,gR,cZ,dD,fZ];rw[eD (by simp)];simp
structure RndI(f:Func)(ord:List Int)(out0:List (List Int))(more:Bool)(k:Nat)(out:List (List Int)):Prop where
 rows:RowsA f out
 dom:DomI f (JZ f) (D3 out)
 known:∀(j:Nat) (b:Int),j < k->ord[j]? =some b->D3 out b≠[]
 same:more=false->out=out0/\∀(j:Nat) (b:Int),j < k->ord[j]? =some b->CE f out b=D3 out b
 le:muA f out<=muA f out0
 lt:more=true->muA f out < muA f out0
theorem AAe(f:iI)(b k:Int):k∈JZ f b↔RchF f (-1) k/\b∈nextL f k\/(k∈JZ f b/\¬RchF f (-1) k):=by
 by_cases h:RchF f (-1) k
 ·rw[EA];exact⟨λe=>.inl ⟨h,e⟩,λe=>e.elim (·.2) λe=>absurd h e.2⟩
 ·exact⟨λe=>.inr ⟨e,h⟩,λe=>e.elim (λe=>absurd e.1 h) (·.1)⟩
theorem RndI.next{F out:List (List Int)}{more:Bool}{k:Nat}{b:Int}(O:OrdP f ord)(H:RndI f ord F more k out)(hb:ord[k]? =jY b):RndI f ord F (more||(CE f out b !=D3 out b)) (k+1) (out.set b.toNat (CE f out b)):=by
 have hr:=(O.mem b).1 (fR hb);have Y:=hr.lt;have W:b.toNat < out.length:=by rw[H.rows.len];exact Y.2
 have hk:b≠0->∃k∈JZ f b,D3 out k≠[]:=λh0=>by
  rcases O.par k b hb with h|⟨q,i,hi,hq,hn⟩
  ·exact absurd h h0
  ·exact⟨q,EA.2 hn,H.known i q hi hq⟩
 obtain⟨hD,hS⟩:=H.dom.step (AAe f) hr hk;have D:=Ajh (out:=out) (l:=CE f out b) Y.1 W;have N:=Tf H.rows b;have T:∀x∈CE f out b,0<=x/\x.toNat < f.blocks.length:=λx hx=>Te H.rows Y hx
 have hne:CE f out b≠[]:=by unfold CE SU;exact Wz
 have I:out[b.toNat]? =jY (D3 out b):=by
  rw[Ms Y.1];exact BS (BL.2 ⟨Y.1,W⟩)
 have aa:=Ac9 (g:=λl:List Int=>if l.isEmpty then f.blocks.length+1 else l.length) (y:=CE f out b) I;have B:(if(CE f out b).isEmpty then f.blocks.length+1 else(CE f out b).length)=(CE f out b).length:=by
  cases hs:CE f out b with
  |nil=>exact absurd hs hne
  |cons _ _=>rfl
 have ac:=KO N T;simp only[B]at aa;have Z:CE f out b≠D3 out b->(CE f out b).length < (if(D3 out b).isEmpty then f.blocks.length+1 else(D3 out b).length):=λJ=>by
  cases ho:D3 out b with
  |nil=>simp;omega
  |cons x l=>
   have h1:D3 out b≠[]:=by rw[ho];simp
   have:=Xf N (Lm H.rows b) (hS h1) J;rw[ho]at this;exact this
 have ab:∀c,D3 out c≠[]->D3 (out.set b.toNat (CE f out b)) c≠[]:=λc hc=>by
  rw[D];unfold Aok;split
  ·exact hne
  ·exact hc
 have U:muA f (out.set b.toNat (CE f out b))<=muA f out/\(CE f out b≠D3 out b->muA f (out.set b.toNat (CE f out b)) < muA f out):=by
  by_cases J:CE f out b=D3 out b
  ·have:(CE f out b).length=(if(D3 out b).isEmpty then f.blocks.length+1 else(D3 out b).length):=by rw[<-J,B]
   exact⟨by unfold muA;omega,λh=>absurd J h⟩
  ·have:=Z J;exact⟨by unfold muA;omega,λ_=>by unfold muA;omega⟩
 have L:CE f out b=D3 out b->out.set b.toNat (CE f out b)=out:=λe=>by
  rw[e];refine dM λj=>?_
  rw[eL];split
  ·rename_i hj;subst hj;exact I.symm
  ·rfl
 have ad:=H.le;refine⟨H.rows.set N T,by rw[D];exact hD,λj c hj hc=>?_,λhm=>?_,by omega,λhm=>?_⟩
 ·by_cases e:j=k
  ·subst e;rw[hb]at hc;cases hc;rw[D];unfold Aok;rw[if_pos V];exact hne
  ·exact ab c (H.known j c (by omega) hc)
 ·rw[aV]at hm;have J:CE f out b=D3 out b:=by simpa using hm.2
  obtain⟨h1,h2⟩:=H.same hm.1;rw[L J];refine⟨h1,λj c hj hc=>?_⟩;by_cases e:j=k
  ·subst e;rw[hb]at hc;cases hc;exact J
  ·exact h2 j c (by omega) hc
 ·rw[aW]at hm;rcases hm with hm|hm
  ·have:=H.lt hm;omega
  ·have:=U.2 (by simpa using hm);omega
theorem Ajk(c:iH f)(O:OrdP f ord){B:List (List Int)}(h0:RowsA f B)(N:DomI f (JZ f) (D3 B)):
 ∃r,(iQ (CG ord (GM f f.blocks.length)) (aL,0,B)).to r/\RndI f ord B r.1 ord.length r.2:=by
 have T:=c.small.blocks;have L:=O.len;refine iS (step:=CG ord (GM f f.blocks.length)) (λq=>∃k:Nat,q.2.1=(k:Int)/\k<=ord.length/\RndI f ord B q.1 k q.2.2) (λq=>ord.length - q.2.1.toNat) (λr=>RndI f ord B r.1 ord.length r.2) ?_ _ ⟨0,rfl,jS _,h0,N,(λj b F=>absurd F (jQ _)),λ_=>⟨rfl,λj b F=>absurd F (jQ _)⟩,jE _,λe=>by cases e⟩;rintro⟨more,i,out⟩ ⟨k,e,hk,H⟩;have e:i=(k:Int):=e;subst e;by_cases D:k < ord.length
 ·obtain⟨b,hb⟩:∃b,ord[k]? =jY b:=⟨_,eE D⟩
  have J:=((O.mem b).1 (fR hb)).lt;refine⟨_,Ax2 c H.rows hb (by omega) J,λI h=>?_,λr h=>by cases h⟩;cases h;exact⟨⟨k+1,rfl,D,H.next O hb⟩,by simp only[cP];omega⟩
 ·have:k=ord.length:=by omega
  subst this;refine⟨.inr (more,out),?_,(λI h=>by cases h),λr h=>by cases h;exact H⟩;simp only[CG];exact AJ (decide_eq_false (by omega)) (Aj _)
structure AboveP(f:Func)(out:List (List Int)):Prop where
 rows:RowsA f out
 mem:∀b x,x∈D3 out b↔RchF f (-1) b/\¬RchF f x b
theorem Amd(c:iH f):∃out,(Db f).to out/\AboveP f out:=by
 have hn:=c.small.blocks;obtain⟨l,_,hw,Y⟩:=Aj9 c;have O:=At3 hw;have B:∀b,D3 (gP f.blocks.length ([]:List Int)) b= []:=λb=>by
  unfold D3;split
  ·rw[eB,eK];split <;> rfl
  ·rfl
 obtain⟨out,h1,h2⟩:=iS (step:=If l.reverse (GM f f.blocks.length)) (λq=>RowsA f q.2/\DomI f (JZ f) (D3 q.2)/\(q.1=aL->∀b,RchF f (-1) b->D3 q.2 b≠[]/\CE f q.2 b=D3 q.2 b)) (λq=>if q.1 then muA f q.2+1 else 0) (λout=>AboveP f out) (by
  rintro⟨more,out⟩ ⟨I,J,W⟩;have I:RowsA f out:=I;cases more with
  |true=>
   obtain⟨⟨T,L⟩,h3,H⟩:=Ajk c O I J;refine⟨.inl (T,L),AI V (Am h3 (Aj _)),λU h=>?_,λr h=>by cases h⟩;cases h;refine⟨⟨H.rows,H.dom,λZ b hb=>?_⟩,?_⟩
   ·obtain⟨j,N⟩:=eI ((O.mem b).2 hb);have F:=(eG.1 N).1;exact⟨H.known j b F N,(H.same Z).2 j b F N⟩
   ·cases T with
    |true=>
     have:muA f L < muA f out:=H.lt V;simp only[if_true];show muA f L+1 < muA f out+1;omega
    |false=>simp
  |false=>
   refine⟨.inr out,AJ V (Aj _),(λU h=>by cases h),λr h=>?_⟩;cases h;have D:=W V;refine⟨I,λb x=>⟨λhx=>?_,λh=>?_⟩⟩
   ·have hb:=J.reach b (fY hx);exact⟨hb,(J.fin (λb k _ h=>EA.2 h) (λb hb=>(D b hb).1) (λb hb=>(D b hb).2) hb x).1 hx⟩
   ·exact(J.fin (λb k _ h=>EA.2 h) (λb hb=>(D b hb).1) (λb hb=>(D b hb).2) h.1 x).2 h.2)
  (aZ,gP f.blocks.length []) ⟨⟨by simp,λr h=>by rw[(fV.1 h).2];exact cU,λr h x hx=>by rw[(fV.1 h).2]at hx;cases hx⟩,
   ⟨λb h=>absurd (B b) h,λb h=>absurd (B b) h,λb h=>absurd (B b) h,λb _ h=>absurd (B b) h,λb _ h=>absurd (B b) h⟩,λh=>by cases h⟩
 refine⟨out,Am Y (Am (Af (BM.2 c) (Aj _)) (Af ?_ (Am ?_ (Aj _)))),h2⟩
 ·unfold VN cM;simp;omega
 ·rw[cP];exact h1
end
section
variable{f:iI}{out:List (List Int)}
theorem O5{b k:Int}(h:b∈nextL f k):0<=k/\k.toNat < f.blocks.length:=by
 have hb:=EX h;have h1:=(EA (f:=f)).2 h;unfold JZ at h1;rw[if_pos hb]at h1;obtain⟨q,h2,rfl⟩:=(JY hb.2 k).1 h1;exact⟨by omega,by simpa using(Ii h2).1⟩
def Fs(f:iI)(out:List (List Int))(h:Int):List Int:=(JZ f h).filter λz=>(D3 out z).contains h
theorem NS(H:AboveP f out){b:Int}:b∈Fs f out h↔h∈nextL f b/\RchF f (-1) b/\¬RchF f h b:=by
 unfold Fs;rw[fN,EA,dE,H.mem]
theorem Of(b:Int):(JZ f b).length<=2 * f.blocks.length:=by
 unfold JZ;split
 ·unfold Sw;rw[eB];cases h:(GM f f.blocks.length)[b.toNat]? with
  |none=>simp
  |some l=>exact Sv f _ l (fR h)
 ·simp
theorem Ahs(h0:0<=h)(B:h.toNat < f.blocks.length):Cm (GM f f.blocks.length) h=aZ/\ixD (GM f f.blocks.length) h=JZ f h:=by
 refine⟨BL.2 ⟨h0,by rw[F8];exact B⟩,?_⟩;unfold JZ Sw ixD;rw[if_pos ⟨h0,B⟩];rfl
theorem U8(c:iH f):(F1 f).to (GM f f.blocks.length):=Af (BM.2 c) (Aj _)
theorem KL{n:Int}(h:l.length<=2147483648):(Ej l n).to (l.contains n):=Af (decide_eq_true h) (Aj _)
theorem wfN(h0:0<=h)(D:h.toNat < n)(B:n<=4611686018427387904):wfB .i64 h=aZ:=by
 unfold wfB;simp[Lit.wf,bI,bH,bJ,bF];omega
theorem Aqo{k:Nat}(hk:k < n)(B:n<=4611686018427387904):bG.wrap ((k:Int)+1)=((k+1:Nat):Int):=by rw[bK _ ⟨by omega,by omega⟩];omega
theorem XF(c:iH f)(I:(Db f).to out)(H:AboveP f out)(h:Int):(FJ f h).to (Fs f out h):=by
 have J:=c.small.blocks;unfold FJ;by_cases hh:0<=h/\h.toNat < f.blocks.length
 ·obtain⟨h1,h2⟩:=Ahs hh.1 hh.2;have D:(JZ f h).length<=2147483648:=by have:=Of (f:=f) h;omega
  refine AJ (by simp;omega) (Am I (Am (U8 c) (Af h1 ?_)));rw[h2];refine Am (Af (decide_eq_true D) (Aj _)) (Af (wfN hh.1 hh.2 (by omega)) (Af (decide_eq_true D) (Af (cV.2 λz B=>?_) ?_)))
  ·have:=O5 (EA.1 B);exact wfN this.1 this.2 (by omega)
  ·have e:Fs f out h=(JZ f h).filter λz=>!!((D3 out z).contains h):=by unfold Fs;simp only[aT]
   rw[e];refine Am (Ag0 λz B=>?_) (Aj _);have B:=O5 (EA.1 B);rw[Ms B.1];have F:(ixD out z).length<=2147483648:=by
    rw[<-Ms B.1];have:=KO (Lm H.rows z) λx hx=>RK H.rows hx
    omega
   exact Af (BL.2 ⟨B.1,by rw[H.rows.len];exact B.2⟩) (Am (KL F) (Aj _))
 ·have e:Fs f out h= []:=by unfold Fs JZ;rw[if_neg hh];rfl
  rw[e];refine AI ?_ (Aj _);simp only[zat];omega
def An9(f:iI):List Int:=(gJ f.blocks.length).map λk:Nat=>(k:Int)
theorem Yb{b:Int}:b∈An9 f↔0<=b/\b.toNat < f.blocks.length:=by
 unfold An9;simp only[fQ,fU];constructor
 ·rintro⟨k,hk,rfl⟩;exact⟨by omega,by simpa using hk⟩
 ·rintro⟨h0,h1⟩;exact⟨b.toNat,h1,by omega⟩
theorem Aei(n:Nat):Asc ((gJ n).map λk:Nat=>(k:Int)):=by
 unfold Asc;rw[gI];exact List.pairwise_lt_range.imp λh=>by omega
theorem Al4(f:iI):Asc (An9 f):=Aei _
theorem Al3(f:iI):(An9 f).length=f.blocks.length:=by simp[An9]
def Je(f:iI)(out:List (List Int)):List Int:=(An9 f).filter λh=>!(Fs f out h).isEmpty
theorem Agy{k:Nat}:(((gJ (k+1)).map λk:Nat=>(k:Int)).filter p)=(((gJ k).map λk:Nat=>(k:Int)).filter p)++(if p (k:Int)then [(k:Int)]else []):=by
 rw[gO,fC,dN];simp[dP]
theorem Alh{k:Nat}:(((gJ k).map λk:Nat=>(k:Int)).filter p).length<=k:=by
 have:=eV p ((gJ k).map λk:Nat=>(k:Int));simpa using this
theorem Ajj(h:n<=8796093022208):Fj n 8=aZ:=by
 unfold Fj cM;simp;omega
theorem Ak6(c:iH f)(B:(Db f).to out)(H:AboveP f out):(Hh f).to (Je f out):=by
 have D:=c.small.blocks;unfold Hh;refine Am (a:=Je f out) (B9 (λk:Nat=>((k:Int),((gJ k).map λk:Nat=>(k:Int)).filter λh=>!(Fs f out h).isEmpty)) f.blocks.length (λk hk=>?_) ?_ (jS _)) (Aj _)
 ·simp only[Fz];refine AI (decide_eq_true (by omega)) (Am (a:=((gJ (k+1)).map λk:Nat=>(k:Int)).filter λh=>!(Fs f out h).isEmpty) (Am (XF c B H _) ?_) ?_)
  ·rw[Agy];cases ht:Fs f out (k:Int)with
   |nil=>simp;exact Aj _
   |cons x l=>
    simp only[List.isEmpty_cons,aS,if_true];have:=Alh (p:=λh=>!(Fs f out h).isEmpty) (k:=k);exact AI (decide_eq_true (by simp only[eU];omega)) (Af (wfN (by omega) (n:=f.blocks.length) (by simpa using hk) (by omega)) (Af (Ajj (by simp only[zai];omega)) (Aj _)))
  ·rw[Aqo hk (by omega)];exact Aj _
 ·simp only[Fz];exact AJ (decide_eq_false (by omega)) (Aj _)
inductive LoopI(f:Func)(h:Int):Int->Prop
 |tail {b:Int}:b≠h->h∈nextL f b->RchF f (-1) b->¬RchF f h b->LoopI f h b
 |step {b k:Int}:b≠h->RchF f (-1) b->k∈nextL f b->k≠h->LoopI f h k->LoopI f h b
theorem LoopI.rch{b:Int}(H:LoopI f h b):RchF f (-1) b:=by cases H <;> assumption
open Classical in
noncomputable def Es(f:iI)(out:List (List Int))(h:Int):List Int:=if(Fs f out h).isEmpty then []else(An9 f).filter λb=>decide (b=h\/LoopI f h b)
theorem LP(h:Int):Asc (Es f out h):=by
 unfold Es;split
 ·exact cU
 ·exact(Al4 f).filter _
theorem XG{b:Int}(hb:b∈Fs f out h):0<=h/\h.toNat < f.blocks.length:=by
 unfold Fs JZ at hb;split at hb
 ·assumption
 ·cases hb
theorem Afp{b:Int}(ht:Fs f out h≠[]):b∈Es f out h↔b=h\/LoopI f h b:=by
 unfold Es;rw[if_neg (by simpa using ht),fN,Yb];simp only[decide_eq_true_eq];refine⟨(·.2),λe=>⟨?_,e⟩⟩;rcases e with e|e
 ·obtain⟨x,hx⟩:=dL _ ht;rw[e];exact XG hx
 ·exact e.rch.lt
structure LoopS(f:Func)(out:List (List Int))(h:Int)(at':Nat)(wait o:List Int):Prop where
 head:h∈o
 nod:o.Nodup
 inn:∀b∈o,b≠h->LoopI f h b
 rng:∀b∈o,0<=b/\b.toNat < f.blocks.length
 wrng:∀b∈wait,0<=b/\b.toNat < f.blocks.length
 win:∀b∈wait,RchF f (-1) b->b≠h->LoopI f h b
 tls:∀b∈Fs f out h,b∈wait
 bef:∀k∈o,k≠h->∀b∈JZ f k,b∈wait
 done:∀(j:Nat) (b:Int),j < at'->wait[j]? =some b->RchF f (-1) b->b∈o
 le:at'<=wait.length
 few:wait.length<=2 * f.blocks.length * o.length
theorem LoopS.fin{B o:List Int}(H:AboveP f out)(S:LoopS f out h B.length B o):∀b,b∈o↔b=h\/LoopI f h b:=λb=>by
 have hw:∀b∈B,RchF f (-1) b->b∈o:=λb hb L=>by
  obtain⟨j,I⟩:=eI hb;exact S.done j b (eG.1 I).1 I L
 constructor
 ·intro hb;by_cases e:b=h
  ·exact .inl e
  ·exact .inr (S.inn b hb e)
 ·rintro(e|e)
  ·rw[e];exact S.head
  ·induction e with
   |tail h1 h2 D F=>exact hw _ (S.tls _ ((NS H).2 ⟨h2,D,F⟩)) D
   |step h1 h2 D F _ J=>exact hw _ (S.bef _ J F _ (EA.2 D)) h2
theorem LoopS.skip{b:Int}{B o:List Int}(S:LoopS f out h at' B o)(hb:B[at']? =jY b)(F:RchF f (-1) b->b∈o):LoopS f out h (at'+1) B o:=
 ⟨S.head,S.nod,S.inn,S.rng,S.wrng,S.win,S.tls,S.bef,λj c I hc D=>by
  by_cases e:j=at'
  ·subst e;rw[hb]at hc;cases hc;exact F D
  ·exact S.done j c (by omega) hc D,(eG.1 hb).1,S.few⟩
theorem LoopS.add{b:Int}{B o:List Int}(S:LoopS f out h at' B o)(hb:B[at']? =jY b)(L:RchF f (-1) b)(N:b∉o):LoopS f out h (at'+1) (B++JZ f b) (o++[b]):=by
 have D:b≠h:=λe=>N (e▸S.head)
 have O:=S.win b (fR hb) L D;have I:=(eG.1 hb).1;refine⟨fH _ S.head,?_,λc hc hne=>?_,λc hc=>?_,λc hc=>?_,λc hc h1 h2=>?_,λc hc=>fH _ (S.tls c hc),λk hk J c hc=>?_,λj c U hc F=>?_,by rw[eT];omega,?_⟩
 ·rw[gB];exact⟨S.nod,by simp,λx hx y T=>by rw[fX.1 T];exact λe=>N (e▸hx)⟩
 ·rcases fG.1 hc with hc|hc
  ·exact S.inn c hc hne
  ·rw[fX.1 hc];exact O
 ·rcases fG.1 hc with hc|hc
  ·exact S.rng c hc
  ·rw[fX.1 hc];exact L.lt
 ·rcases fG.1 hc with hc|hc
  ·exact S.wrng c hc
  ·exact O5 (EA.1 hc)
 ·rcases fG.1 hc with hc|hc
  ·exact S.win c hc h1 h2
  ·exact .step h2 h1 (EA.1 hc) D O
 ·rcases fG.1 hk with hk|hk
  ·exact fH _ (S.bef k hk J c hc)
  ·rw[fX.1 hk]at hc;exact fI _ hc
 ·by_cases e:j=at'
  ·subst e;rw[eC I,hb]at hc;cases hc;exact fI _ (by simp)
  ·rw[eC (by omega)]at hc;exact fH _ (S.done j c (by omega) hc F)
 ·have h1:=S.few;have h2:=Of (f:=f) b;rw[eT,eT,jL];simp only[zai];omega
theorem T5{o:List Int}(h:o.Nodup)(B:∀b∈o,0<=b/\b.toNat < n):o.length<=n:=G8 h B
theorem Apk(c:iH f)(ho:(Db f).to out)(H:AboveP f out)(h:Int):(Jm f h).to (Es f out h):=by
 have hn:=c.small.blocks;unfold Jm;refine Am (XF c ho H h) ?_;by_cases ht:Fs f out h= []
 ·rw[ht];have:Es f out h= []:=by unfold Es;rw[ht];rfl
  rw[this];exact AI V (Aj _)
 ·obtain⟨x,hx⟩:=dL _ ht;have Z:=XG hx;obtain⟨l,_,W,Y⟩:=Zy c;refine AJ (by simpa using ht) (Am (U8 c) (Am Y (Af (wfN Z.1 Z.2 (by omega)) ?_)));have O:∀b:Int,0<=b->b.toNat < f.blocks.length->(ixD (IK f.blocks.length l l.length) b=aZ↔RchF f (-1) b):=λb h0 h1=>by
   have:=Ai7 (l:=l) h1;rw[cQ h0]at this;rw[this,dE,W.mem]
  have q1:∀b∈Fs f out h,0<=b/\b.toNat < f.blocks.length:=λb hb=>((NS H).1 hb).2.1.lt
  have q2:∀b∈Fs f out h,RchF f (-1) b->b≠h->LoopI f h b:=λb hb J hne=>.tail hne ((NS H).1 hb).1 J ((NS H).1 hb).2.2
  have q3:(Fs f out h).length<=2 * f.blocks.length * [h].length:=by
   have h3:=Of (f:=f) h;have h4:(Fs f out h).length<=(JZ f h).length:=eV _ _;simp only[jR,jO,zai];exact jF h4 h3
  obtain⟨r,h1,h2⟩:=iS (step:=Fy (GM f f.blocks.length) (IK f.blocks.length l l.length)) (λq=>∃k:Nat,q.1=(k:Int)/\LoopS f out h k q.2.1 q.2.2) (λq=>(f.blocks.length+1 - q.2.2.length) *(2 * f.blocks.length+1)+(q.2.1.length - q.1.toNat)) (λr=>r=Es f out h) (by
   rintro⟨i,B,o⟩ ⟨k,e,S⟩;have e:i=(k:Int):=e;subst e;have S:LoopS f out h k B o:=S;have aa:=T5 S.nod S.rng;have af:B.length<=2 * f.blocks.length * f.blocks.length:=jF S.few (jN _ aa);have ag:2 * f.blocks.length * f.blocks.length<=2 * 2097152 * 2097152:=jM (by omega) hn;simp only[Fy];by_cases hk:k=B.length
   ·subst hk;refine⟨.inr (o.mergeSort λx y=>decide (x<=y)),AI (by simp) (Af (decide_eq_true (by omega)) (Aj _)),(λs' e=>by cases e),λr e=>?_⟩;cases e;refine GN (Og S.nod) (LP h) λb=>?_
    rw[List.mem_mergeSort,S.fin H,Afp ht]
   ·have N:k < B.length:=by have:=S.le;omega
    obtain⟨b,hb⟩:∃b,B[k]? =jY b:=⟨_,eE N⟩
    have F:=S.wrng b (fR hb);have ac:ixD B (k:Int)=b:=Cf hb;rw[ac];have T:Cm (IK f.blocks.length l l.length) b=aZ:=BL.2 ⟨F.1,by rw[Oq];exact F.2⟩;by_cases I:RchF f (-1) b/\b∉o
    ·have U:=S.add hb I.1 I.2;have L:=T5 U.nod U.rng;rw[eT]at L;simp only[zai]at L;obtain⟨g1,g2⟩:=Ahs F.1 F.2;have ae:B.length+(JZ f b).length<=2 * f.blocks.length * f.blocks.length:=by
      have:=U.few;rw[eT,eT]at this;exact jF this (jN _ L)
     have ah:=Of (f:=f) b;have D:=(O b F.1 F.2).2 I.1;refine⟨.inl (((k+1:Nat):Int),B++JZ f b,o++[b]),AJ (by simp;omega) (Am (a:=(B++JZ f b,o++[b])) (Af (E7 N) (Af T (Am (BW D (KL (by omega))) (AI (by rw[D];simpa using I.2) (Af (wfN F.1 F.2 (by omega)) (Af (Ajj (by simp only[zai];omega)) (Af g1 ?_))))))) ?_),λs' e=>?_,λr e=>by cases e⟩
     ·rw[g2];exact Af (Ajj (by omega)) (Aj _)
     ·rw[Aqo N (by omega)];exact Aj _
     ·cases e;refine⟨⟨k+1,rfl,U⟩,?_⟩;have h5:f.blocks.length+1 - o.length=(f.blocks.length+1 - (o.length+1))+1:=by omega
      simp only[cP,jR,zaw];rw[h5,Nat.add_mul];omega
    ·refine⟨.inl (((k+1:Nat):Int),B,o),AJ (by simp;omega) (Am (a:=(B,o)) (Af (E7 N) (Af T ?_)) ?_),λs' e=>?_,λr e=>by cases e⟩
     ·by_cases J:RchF f (-1) b
      ·have D:=(O b F.1 F.2).2 J;have ad:b∈o:=a7 λe=>I ⟨J,e⟩
       exact Am (BW D (KL (by omega))) (AJ (by rw[D];simpa using ad) (Aj _))
      ·have D:ixD (IK f.blocks.length l l.length) b=aL:=by
        cases e:ixD (IK f.blocks.length l l.length) b with
        |false=>rfl
        |true=>exact absurd ((O b F.1 F.2).1 e) J
       exact Am (iW D) (AJ (by rw[D];rfl) (Aj _))
     ·rw[Aqo N (by omega)];exact Aj _
     ·cases e;refine⟨⟨k+1,rfl,S.skip hb λJ=>a7 λe=>I ⟨J,e⟩⟩,?_⟩;simp only[cP];omega)
   (0,Fs f out h,[h]) ⟨0,rfl,⟨by simp,by simp,λb hb hne=>absurd (fX.1 hb) hne,λb hb=>by rw[fX.1 hb];exact Z,q1,q2,λb hb=>hb,λk hk ab=>absurd (fX.1 hk) ab,λj b hj=>absurd hj (jQ _),jS _,q3⟩⟩
  rw[<-h2];exact h1
end
theorem snoc_ind{B:List α->Prop}(nil:B [])(append_singleton:∀l x,B l->B (l++[x]))(l:List α):B l:=by
 have h:∀l:List α,B l.reverse:=λl=>by
  induction l with
  |nil=>exact nil
  |cons x l D=>rw[gR];exact append_singleton _ _ D
 have:=h l.reverse;rwa [List.reverse_reverse]at this
section
variable{f:iI}
end
end Mu
