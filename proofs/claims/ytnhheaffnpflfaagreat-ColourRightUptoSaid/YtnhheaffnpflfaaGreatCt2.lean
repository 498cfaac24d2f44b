/-
  Lemmas for S, part 2.
  Conditions: as each lemma says.
-/
import Derived.Test.YtnhheaffnpflfaaGreatCt1
import Derived.Lib.AppendZeros
import Derived.Shelf.SlIterI.Nil
import Derived.Shelf.SortM.Plain
import Derived.Shelf.SortM.SortNone
import Derived.Shelf.SlMaps.Clone
import Derived.Shelf.SlMaps.Copy
set_option maxRecDepth 100000
set_option maxHeartbeats 4000000
set_option linter.unusedSimpArgs false
set_option linter.unusedVariables false
open Array renaming getD_eq_getD_getElem?->aA,getElem?_eq_getElem->aB,getElem?_eq_none->aC,getElem?_eq_some_iff->aD,getElem?_modify->aE,getElem?_replicate->aF,getElem_toList->aG,length_toList->aH,mem_append->aI,mem_of_getElem?->aJ,mem_toList_iff->aK,replicate->aL,toList_append->aM,toList_map->aN,toList_setIfInBounds->aO
open Bool renaming and_eq_false_iff->aP,and_eq_true->aR,false->aS,false_eq_true->aT,not_false->aU,not_true->aV,or_comm->aW,or_eq_false_iff->aX,or_eq_true->aY,true->aZ,true_and->a6
open Decidable renaming decide->a7
open Go renaming Addr->a8,Calls->bE,CallsIn->bF,Code->bG,DataW->bI,Edge->bJ,Exit->bL,Func->bN,FuncId->bO,IntKind->bV,LeavesInM->cB,LetsOut->cC,Loop->cH,Oper->cT,Operand->cY,Program->cZ,TypeId->eP,Value->eQ,World->eV,callsIn_of_wp->fE,callsIn_of_wp_marks->fF,callsIn_wide->fG,calls_of_wp->fH,execOp->fI,getD_replicate_false->fJ,getObj->fK,grownCap->fL,heap_alloc_new->fM,heap_alloc_old->fN,intKeys->fO,intOf->fP,invoke->fQ,maxLen->fR,mem_ready->fS,plainElem->fT,resolve->fU,results_none->fV,results_tmp->fW,run_storeCells_at->fX,run_underlying->fY,sizeOf->fZ,typeInfo->gB,wpListIn->gC,wpList_mapUpdate_own->gD,wpOpIn->gE,zeroValue->gF
open Go.Builtin renaming cap_->bA,clear_->bB,zeroCells->bC
open Go.Call renaming operands->bD
open Go.Code renaming exit->bH
open Go.Ending renaming returned->bK
open Go.Fence renaming wide->bM
open Go.Instr renaming entry->bP,fill->bR,indexAt->bS,lookup->bT,sureAddr->bU
open Go.IntKind renaming bits->bW,i64->bX,max->bY,min->bZ,signed->b9
open Go.IntWalk renaming i64_in->cA
open Go.Lib renaming hid->cD
open Go.Lit renaming int->cE,sameKey->cF,wf->cG
open Go.Maps renaming has_del_other->cI,has_del_same->cJ,has_eq->cL,has_put_other->cM,keyOf_i64->cN,size->cO
open Go.Op renaming eqFields->cP,equalIn->cQ,operands->cR
open Go.Oper renaming semAt_some->cU,upon->cV,wp->cW,wp_mono->cX
open Go.Proofs.Tryz renaming func181->dA,func62->dB,isAgg0->dC,isAgg156->dD,isAgg27->dE,isAgg3->dF,isAgg4->dG,isAgg90->dH,prog->dI,sizeOf0->dJ,sizeOf156->dK,sizeOf27->dL,sizeOf3->dM,sizeOf4->dN,sizeOf90->dO,underlying0->dP,underlying156->dQ,underlying27->dR,underlying3->dT,underlying4->dU,underlying90->dV,zeroValue0->dW,zeroValue156->dX,zeroValue27->dY,zeroValue3->dZ,zeroValue4->eA,zeroValue90->eB
open Go.Region renaming binds->eC,noSelect->eD,ready->eE,seqB->eF,wanted->eG
open Go.Result renaming andThen->eH,andThen_ok->eI
open Go.RowKit renaming intOf->eL
open Go.RowKit.Below renaming heap_alloc->eJ,refl->eK
open Go.Sem renaming run->eM,run_bind->eN
open Go.Shelf renaming Ren->eO
open Go.Value renaming func->eR,int->eS,ownBlock->eT,slice->eU
open Go.World renaming cell?->eW,frozen?->eX,ownsMap_made->eY,putObj_heap_other->fA,putObj_heap_same->fB,setCell->fC,size_alloc->fD
open Go.World.ownsRow renaming lt->eZ
open Int renaming eq_ofNat_of_zero_le->gG,toNat_natCast->gH
open List renaming all_eq_true->gI,any_eq_true->gJ,append_nil->gK,cons_append->gL,contains_iff_mem->gN,count_eq_zero->gO,count_pos_iff->gP,count_set->gQ,drop_succ_cons->gR,drop_take->gT,drop_zero->gU,eq_nil_iff_forall_not_mem->gV,eq_nil_of_length_eq_zero->gW,ext_getElem?->gX,filter_append->gY,filter_cons->gZ,filter_map->g8,find?_cons->g9,find?_eq_none->hZ,find?_some->iA,getD_eq_getElem?_getD->iB,getElem?_append_left->iC,getElem?_append_right->iD,getElem?_cons_succ->iE,getElem?_cons_zero->iF,getElem?_drop->iG,getElem?_eq_getElem->iH,getElem?_eq_none->iI,getElem?_eq_some_iff->iJ,getElem?_map->iK,getElem?_of_mem->iL,getElem?_replicate->iM,getElem?_set_ne->iN,getElem?_set_self->iO,getElem_of_mem->iP,head?_drop->iQ,head_eq_of_cons_eq->iR,length_append->iS,length_cons->iT,length_filter_le->iU,length_map->iV,length_nil->iW,length_replicate->iX,length_set->iY,length_take->iZ,map_cons->i6,map_nil->i7,map_toArray->i8,mem_append->i9,mem_cons->jA,mem_filter->jB,mem_map->jC,mem_of_find?_eq_some->jD,mem_of_getElem?->jE,mem_replicate->jF,mem_singleton->jG,mergeSort_perm->jH,nil_append->jI,nodup_append->jJ,nodup_nil->jK,not_mem_nil->jL,pairwise_cons->jM,pairwise_map->jN,perm_ext_iff_of_nodup->jO,replicate->jP,size_toArray->jQ,take->jR,take_add_one->jS,take_append_drop->jT,take_length->jU,take_one->jV,take_succ_cons->jW,take_take->jX,take_zero->jY
open Mu renaming ABlk->jZ,Func->kI,HRel->kJ,Turns->kV
open Mu.ABlk renaming live->j5,mrk->j6,res->j7,ver->j8
open Mu.AOp renaming turn->j9
open Mu.AV renaming bd->kA,cl->kB,lit->kC,rel->kD
open Mu.Awp renaming region->kE
open Mu.Ext renaming grow->kF,push->kG,set->kH
open Mu.M renaming bnd->kK,chk->kL,ok->kM
open Mu.OpnB renaming any->kO,keep->kP,nil->kQ,ptr->kR
open Mu.St renaming le->kS,rel->kU
open Mu.St.le renaming refl->kT
open Nat renaming add_comm->kW,add_mul->kX,add_zero->kY,eq_zero_or_pos->kZ,le_of_not_lt->lA,le_refl->lB,le_trans->lC,lt_of_lt_of_le->lD,lt_or_ge->lE,min_eq_left->lF,mod_lt->lG,mul_le_mul_right->lH,mul_one->lI,one_mul->lJ,sub_self->lK,zero_add->lL,zero_le->lM,zero_lt_one->lN
open Ne renaming symm->lO
open Option renaming bind_eq_some_iff->lP,bind_some->lQ,getD_some->lR,isSome_map->lS,map_eq_some_iff->lT,map_some->lU,none->lV,some->lW,toList_some->lZ
open Option.some renaming inj->lX,injEq->lY
open UInt8 renaming ofNat->mA
abbrev Mu.zaj.{u}:=And.intro @cond_true.{u} (@beq_self_eq_true.{u})
abbrev Mu.zah:=And.intro @aR (And.intro @beq_true (And.intro @beq_false (And.intro @Bool.not_eq_true' (And.intro @Bool.not_eq_eq_eq_not (And.intro @aV (@aU))))))
abbrev Mu.zal:=And.intro @beq_true (And.intro @beq_false (And.intro @a6 (And.intro @Bool.and_true (And.intro @aU (@aV)))))
abbrev Mu.zae.{u}:=And.intro @jQ.{u} (And.intro @iT.{u} (And.intro @iW.{u} (And.intro @Array.replicate_succ.{u} (And.intro @Array.replicate_zero.{u} (And.intro @List.push_toArray.{u} (And.intro @List.append_toArray.{u} (And.intro @jI.{u} (@gL.{u}))))))))
abbrev Mu.zaz.{u}:=And.intro @if_true.{u} (@iT.{u})
abbrev Mu.zay:=And.intro @aY (@aR)
abbrev Mu.zai.{u}:=And.intro @iT.{u} (@iW.{u})
namespace Mu
open Go Go.RowKit
variable{a b c:cY}{e g q:Bool}
section
variable{P:cZ}{C:Ctx}{t t':List AV}{h:List jZ}{o:cT}{r:AV}{ops:Array cT}{rest:List cT}{K:St->Prop}
theorem Axu{j:Nat}{d c:Bool}(f:o.guard=lW (j,d))(i:((ops[j]?).bind (·.dst)).bind (t[·]?)=lW (cond q (.lit (.bool c)) (.lit undef))):gA ops t o=lW (q&&(c ==d)):=by
 unfold gA;rw[f];simp only;rw[i];cases q <;> rfl
theorem AAl(hg:gA ops t o=lW g)(hq:g=aZ->AT P C t h o r):F9 P C ops h o (cond g r (.lit undef)) t:=by
 cases g with
 |true=>exact .inl ⟨hg,hq V⟩
 |false=>exact .inr ⟨hg,rfl⟩
theorem sG(hk:CU P C ops K rest ⟨t',h⟩)(hg:gA ops t o=some g:=by first|rfl|exact Axu V V)(hq:g=true->AT P C t h o r:=by(intro hg;(try simp only[Bool.and_eq_true,beq_iff_eq]at hg);(try simp only[hg,Bool.true_and,zaj]);(first|exact Ax V V V V|exact Av V V V V|exact AT.pickOr' V V V V|exact AT.pickAnd' V V V V|exact qt)))(ht:Bl t o.dst (cond g r (.lit undef))=t':=by((try simp only[Bl,zac]);exact V)):CU P C ops K (o::rest) ⟨t,h⟩:=by
 subst ht;cases g with
 |true=>exact Ah5 hg (hq V) hk
 |false=>exact PL hg hk
theorem qG{K:List AV->Prop}(hk:aQ P C ops h K rest t')(hg:gA ops t o=some g:=by first|rfl|exact Axu V V)(hq:g=true->AT P C t h o r:=by(intro hg;(try simp only[Bool.and_eq_true,beq_iff_eq]at hg);(try simp only[hg,Bool.true_and,zaj]);(first|exact Ax V V V V|exact Av V V V V|exact AT.pickOr' V V V V|exact AT.pickAnd' V V V V|exact qt)))(ht:Bl t o.dst (cond g r (.lit undef))=t':=by((try simp only[Bl,zac]);exact V)):aQ P C ops h K (o::rest) t:=by
 subst ht;exact⟨_,AAl hg hq,hk⟩
theorem Ax(d:o.op= .pick c a b)(hc:evA t c= .lit (.bool q))(i:evA t a= .lit (.bool aZ))(f:evA t b=cond (q ==aS) (.lit (.bool e)) (.lit undef)):AT P C t h o (.lit (.bool (q||e))):=by
 refine AT.pick d hc ?_;cases q
 ·exact f
 ·exact i
theorem Av(d:o.op= .pick c a b)(hc:evA t c= .lit (.bool q))(i:evA t a=cond (q ==aZ) (.lit (.bool e)) (.lit undef))(f:evA t b= .lit (.bool aS)):AT P C t h o (.lit (.bool (q&&e))):=by
 refine AT.pick d hc ?_;cases q
 ·exact f
 ·exact i
end
section
variable{P:cZ}{C:Ctx}{id:Nat}{l:List cT}{y:bG}{Q:bL->St->Prop}{t t':List AV}{h h':List jZ}
theorem rC(hk:Q .normal ⟨t',h'⟩)(hx:CU P C l.toArray (λs=>s=⟨t',h'⟩) l ⟨t,h⟩:=by((repeat(first|refine sQ ?_ (Ax V V V V)|refine sQ ?_ (Av V V V V)|refine sQ ?_|refine AM ?_|refine sG ?_|refine Bp ?_));exact CS V)):Awp P C (.region id l.toArray aS) Q ⟨t,h⟩:=kE (Dt (λs e=>by subst e;exact hk) hx)
theorem rCS(hk:Awp P C y Q ⟨t',h'⟩)(hx:CU P C l.toArray (λs=>s=⟨t',h'⟩) l ⟨t,h⟩:=by((repeat(first|refine sQ ?_ (Ax V V V V)|refine sQ ?_ (Av V V V V)|refine sQ ?_|refine AM ?_|refine sG ?_|refine Bp ?_));exact CS V)):Awp P C (.seq (.region id l.toArray aS) y) Q ⟨t,h⟩:=Ab λ_ d=>kE (Dt (λs e=>by subst e;exact d _ hk) hx)
end
open Go.Proofs
section
variable{P:cZ}{C:Ctx}{o:cT}{t:List AV}{h:List jZ}
end
open Go.ChangeShapes Go.WideShapes
class IntT(P:Program)(ty:TypeId)(k:outParam IntKind):Prop where
 eq:P.underlying ty=some (.int k)
class BoolT(P:Program)(ty:TypeId):Prop where
 eq:P.underlying ty=some .bool
section
variable{P:cZ}{C:Ctx}{o:cT}{t:List AV}{h:List jZ}
theorem PV{f j:eP}{x y:cY}{a b q:Bool}[BoolT P f](i:o.op= .binOp .eql f x y j)(hx:evA t x= .lit (.bool a))(k:evA t y= .lit (.bool b))(hq:(a ==b)=q):AT P C t h o (.lit (.bool q)):=
 AL λS ψ w ρ _ d=>by
  have h1:=d x (by simp[i,cR]);have h2:=d y (by simp[i,cR]);rw[hx]at h1;rw[k]at h2;unfold kD at h1 h2;refine⟨.bool (a ==b),?_,by rw[hq];unfold kD;rfl⟩;simp[fI,i,h1,h2,eqGuard,binOp,run_equal_bool _ _ _ _ (BoolT.eq (P:=P) (ty:=f))]
end
instance Atp:BoolT dI 4:=⟨by kernel_rfl⟩
instance Ato:IntT dI 3 .i64:=⟨by kernel_rfl⟩
end Mu
namespace Mu
open Go Go.RowKit Go.Proofs
variable{α:Type}{T:Ty α}{a b:cY}{c:bG}{e:eP}{f:bO}{n:Nat}{q:Bool}{sz:Nat}{tys:Array eP}{v:eQ}{w:eV}{x:cY}{xs:List AV}
section
variable{P:cZ}{C:Ctx}{t:List AV}{h:List jZ}{o:cT}
def JA(P:cZ)(f:bO)(args:List AV)(e:eP){α:Type}(T:Ty α)(l:List α):Prop:=
 Ca P f=aZ/\∀(w:eV) (S:Nat->Prop) (vs:List eQ),(∀k,S k->k < w.heap.size)->Ae w S [] ψ0 args vs->
  bE P f vs.toArray w λr w'=>∃v cells,r= .returned v/\Below w.heap.size w w'/\w'.ownsRow w.heap.size e T.size v l.length cells/\∀i d,l[i]? =lW d->T.RS w' S ((cells.drop (i * T.size)).take T.size) d
theorem WH{l:List α}{ver base:Nat}{cells:List eQ}(d:w.ownsRow base e sz v n cells):∀g,ftp (lW (.row ver e T l)) v g->base<=g:=λg hg=>by
 obtain⟨_,⟨rfl,_⟩|⟨j,cap,cur,rfl,i,_⟩⟩:=d
 ·simp[ftp,Bu]at hg
 ·simp[ftp,Bu]at hg;omega
theorem La{args:Array cY}{K:St->Prop}{l:List α}
 (j:o.op= .call {callee:=.value (.func f),args:=args,argTypes:=tys})(z:JA P f xs e T l)(h0:0 < T.size)(hx:args.toList.map (evA t)=xs)(hc:Bh xs=aZ)
 (G:K ⟨Bl t o.dst (.own h.length 0),h++[.row 0 e T l]⟩):AOp P C o ⟨t,h⟩ K:=by
 rintro Q' a w ⟨B,S,ψ,H,m⟩;refine⟨λc e=>(by rw[j]at e;cases e),?_⟩;have h2:Ae w S h ψ xs (args.toList.map a.eval):=by
  rw[<-hx];exact Cd λx _=>Bv m x
 unfold cW;rw[Cv j z.1 a.eval w V];simp only[cV];rw[show(args.map a.eval)=(args.toList.map a.eval).toArray from(by rw[<-aN])];refine(z.2 w S (args.toList.map a.eval) H.lt (Bi _ _ hc h2)).mono ?_;rintro r w' ⟨v,cells,rfl,u,d,E⟩;have X:Ext w S h ψ w' S (h++[.row 0 e T l]) (Bo ψ h.length v):=kG _ _ λk hk=>u.block k (H.lt k hk)
 have I:Hv C.N w' S (h++[.row 0 e T l]) (Bo ψ h.length v) v (.row 0 e T l):=
  ⟨cells,d.mono (lM _),h0,E,λg hg=>by
   have A:=d.lt g hg;exact⟨λF=>by have:=H.nlt _ F;have:=H.bel.size;omega,λD=>by have:=H.lt _ D;omega⟩⟩
 refine⟨_,G,Ow (s:=⟨t,h⟩) B m (H.push u I (WH d)) X ?_⟩;unfold kD;refine⟨by simp,λJ i=>?_⟩;rw[iD (lB _)]at i;simp[j8]at i;exact⟨by omega,λ_=>Bj.symm⟩
end
theorem TT{base:Nat}{cells:List eQ}(h:w.ownsRow 0 e sz v n cells)(hg:∀g,v.ownBlock=lW g->base<=g):w.ownsRow base e sz v n cells:=by
 obtain⟨h1,h2|⟨g,cap,cur,rfl,_,d⟩⟩:=h
 ·exact⟨h1,.inl h2⟩
 ·exact⟨h1,.inr ⟨g,cap,cur,rfl,hg g V,d⟩⟩
def Azo(t:Tmp)(e:eP){α:Type}(T:Ty α)(l:List α):bL->St->Prop:=λd s=>(d= .normal\/d= .ret)/\mkD s.h= []/\∃i ver,evA s.t (.tmp t)= .own i ver/\s.h[i]? =lW (.row ver e T l)
theorem Eg{P:cZ}{fn:bN}{args:List AV}{l:List α}{t:Tmp}(N:P.funcs[f]? =lW fn)(U:fn.body=lW c)(Y:Ca P f=aZ)(z:fn.results= #[.tmp t])(I:fn.ntmps=n)
 (W:∀w S S' cs d,T.RS w S cs d->T.RS w S' cs d)
 (h:∀C:Ctx,C.std->Awp P C c (Azo t e T l) ⟨args++jP (n - args.length) (.lit undef),[]⟩):JA P f args e T l:=by
 refine⟨Y,λw S vs X G=>fH N U ?_⟩;rw[I];refine wp_mono ((h ⟨w,S,λk=>k < w.heap.size,lV⟩ (λ_ h=>h)).wp V (Dl X G)) ?_;rintro ex a' w' ⟨s,⟨O,J,i,ver,hx,hi⟩,A,S1,ψ,H,L⟩;rw[J]at A;have D:=Bv L (.tmp t);rw[hx]at D;unfold kD at D;have B:=(D.2 _ (by rw[hi];rfl)).2 V;obtain⟨cells,h1,_,h2,Z⟩:=H.blk i _ hi;have m:(results fn a'.tmps).run P w'= .ok (a'.eval (.tmp t)) w':=fW z _ _ _;have u:w'.ownsRow w.heap.size e T.size (ψ i) l.length cells:=TT h1 λg hg=>lA λE=>(Z g hg).1 E
 rw[B]at m;have F:∀j d,l[j]? =lW d->T.RS w' S ((cells.drop (j * T.size)).take T.size) d:=λj d A=>W _ _ _ _ _ (h2 j d A)
 rcases O with rfl|rfl
 ·exact⟨A,_,m,_,cells,rfl,H.bel.below λ_ h=>h,u,F⟩
 ·exact⟨A,_,m,_,cells,rfl,H.bel.below λ_ h=>h,u,F⟩
theorem JA.fn{P:cZ}{args:List AV}{l:List α}(h:JA P f args e T l):Fn P f args (.bs T l):=by
 refine⟨h.1,λw S vs s u=>(h.2 w S vs s u).mono ?_⟩;rintro r w' ⟨v,cells,rfl,m,j,A⟩;refine⟨v,rfl,m,λk=>S k\/v.ownBlock=lW k,λ_ h=>.inl h,λk hk=>?_,λk hk=>?_,?_⟩
 ·rcases hk with hk|hk
  ·exact .inl hk
  ·exact .inr (j.lt k hk).1
 ·rcases hk with hk|hk
  ·exact lD (s k hk) m.size
  ·exact(j.lt k hk).2
 ·unfold kD;exact C5 j (λi d z=>T.keepS (A i d z) (λ_ _=>rfl) λ_ h=>.inl h) λ_ h=>.inr h
def Rv(P:cZ)(f:bO)(e:eP){α:Type}(T:Ty α)(l:List α)(xs:List AV)(l':List α):Prop:=
 Ca P f=aZ/\∀(N S:Nat->Prop) (w:eV) (v:eQ) (vs:List eQ),(∀k,N k->k < w.heap.size)->(∀k,S k->k < w.heap.size)->Hv N w S [] ψ0 v (.row 0 e T l)->Ae w S [] ψ0 xs vs->
  bE P f (v::vs).toArray w λx w'=>∃v',x= .returned v'/\w.grownBy w' (Bu v)/\Hv N w' S [] ψ0 v' (.row 0 e T l')/\∀g,Bu v'=lW g->Bu v=lW g\/w.heap.size<=g
theorem Mg{P:cZ}{fn:bN}{l l':List α}{t:Tmp}(hf:P.funcs[f]? =lW fn)(hb:fn.body=lW c)(hE:Ca P f=aZ)(D:fn.results= #[.tmp t])(hn:fn.ntmps=n)(B:∀w S S' cs d,T.RS w S cs d->T.RS w S' cs d)
 (h:∀C:Ctx,Awp P C c (Aib t e T l') ⟨(.own 0 0::xs)++jP (n - (xs.length+1)) (.lit undef),[.row 0 e T l]⟩):Rv P f e T l xs l':=by
 refine⟨hE,λN S w v vs hN hS hB hr=>fH hf hb ?_⟩;rw[hn];have ac:=hB.lt V;have Z:kU ⟨w,S,λk=>k < w.heap.size/\Bu v≠lW k,lV⟩ ⟨(.own 0 0::xs)++jP (n - (xs.length+1)) (.lit undef),[.row 0 e T l]⟩ {tmps:=(v::vs).toArray++aL (n - (v::vs).toArray.size) undef,defers:=[]} w:=by
  refine⟨rfl,S,λ_=>v,⟨Kp.refl _ _,λk hk=>hk.1,hS,λ_ h=>h,λ_ h=>.inl h,λi b hi=>?_,λi j ae hi hj=>?_⟩,?_⟩
  ·cases i with
   |zero=>
    simp only[iF,lY]at hi;subst hi;obtain⟨cells,O,L,J,I⟩:=hB;exact⟨cells,O,L,J,λg hg=>⟨λhc=>hc.2 (AU hg),(I g hg).2⟩⟩
   |succ i=>simp at hi
  ·cases i with
   |zero=>cases j with
    |zero=>exact absurd V ae
    |succ j=>simp[j5]at hj
   |succ i=>simp[j5]at hi
  ·have X:Ext w S [] ψ0 w S [.row 0 e T l] (λ_=>v):=⟨λ_ _=>rfl,λ_ h=>h,by simp,λi c' hi=>by simp at hi,λi hi=>by simp at hi⟩
   simp only[aM,Array.toList_replicate];refine BK ?_ (DL (by simp[Bw hr]) λi x u hx Y=>?_)
   ·unfold Ae;refine⟨v,vs,rfl,?_,Az X _ _ hr⟩;unfold kD;refine⟨by simp,λc hc=>?_⟩;simp[j8]at hc;exact⟨by omega,λ_=>rfl⟩
   ·rw[iM]at hx Y;split at hx <;> cases hx
    split at Y <;> cases Y
    unfold kD;rfl
 refine wp_mono ((h ⟨w,S,λk=>k < w.heap.size/\Bu v≠lW k,lV⟩).wp V Z) ?_;rintro x a' w' ⟨s,⟨hx,i,ver,af,hi,ab⟩,hd,S1,ψ,H,hl⟩;rw[ab]at hd;have W:=Bv hl (.tmp t);rw[af]at W;unfold kD at W;have U:=(W.2 _ (by rw[hi];rfl)).2 V;have G:=H.blk i _ hi;have ad:=G.lt V;have m:(results fn a'.tmps).run P w'= .ok (a'.eval (.tmp t)) w':=fW D _ _ _;have hg:w.grownBy w' (Bu v):=⟨H.bel.os,H.bel.tape,H.bel.output,H.bel.size,λk hk aa=>H.bel.block k ⟨hk,λe=>aa e.symm⟩⟩
 have A:∃v',bK (a'.eval (.tmp t))= .returned v'/\w.grownBy w' (Bu v)/\Hv N w' S [] ψ0 v' (.row 0 e T l')/\∀g,Bu v'=lW g->Bu v=lW g\/w.heap.size<=g:=by
  have E:∀g,Bu (ψ i)=lW g->Bu v=lW g\/w.heap.size<=g:=λg z=>by
   have:=(ad g z).1;by_cases hc:Bu v=lW g
   ·exact .inl hc
   ·exact .inr (lA λh=>this ⟨h,hc⟩)
  obtain⟨cells,O,L,J,I⟩:=G;rw[U];refine⟨_,rfl,hg,⟨cells,O,L,?_,λg z=>?_⟩,E⟩
  ·intro j d hj;exact B _ _ _ _ _ (J j d hj)
  ·refine⟨λF=>?_,λag=>(I g z).2 (H.sub g ag)⟩;rcases E g (AU z)with h1|h1
   ·exact(ac g h1).1 F
   ·have:=hN g F;omega
 rcases hx with rfl|rfl
 ·exact⟨hd,_,m,A⟩
 ·exact⟨hd,_,m,A⟩
theorem Yk{k:bV}:∀(w:eV) (S S':Nat->Prop) (cs:List eQ) (d:Int),(Ty.int k).RS w S cs d->(Ty.int k).RS w S' cs d:=λ_ _ _ _ _ h=>h
section
variable{P:cZ}{C:Ctx}{o:cT}{t:List AV}{h:List jZ}
theorem OF{args:Array cY}{cs:Array eQ}(ho:o.op= .call {callee:=.value x,args:=args,argTypes:=tys})(hE:Ca P f=aZ)(ρ:cY->eQ)(w:eV)(hρ:ρ x= .func (.func f) #[] cs):
 (fI ρ o).run P w= .ok (.enter f (args.map ρ++cs)) w:=by
 unfold Ca at hE;cases hf:P.funcs[f]? with
 |none=>rw[hf]at hE;cases hE
 |some fn=>
  rw[hf]at hE;simp only[zas]at hE;have h1:¬fn.name= "runtime.NumGoroutine" :=by simpa using hE.1
  have h2:¬fn.body=lV:=λe=>by have:=hE.2;rw[e]at this;cases this
  simp[fI,ho,fU,Deferred.ofValue,hρ,fQ,callFunc,hf,h1,h2]
theorem FK{cap:Array cY}(i:o.op= .makeFunc (.func f) #[] cap):AT P C t h o (.fn f (cap.toList.map (evA t))):=
 AL λS ψ w ρ H d=>by
  have j:Ae w S h ψ (cap.toList.map (evA t)) (cap.toList.map ρ):=Cd λx hx=>d x (by rw[i];simpa[cR]using hx)
  refine⟨.func (.func f) #[] (cap.map ρ),by simp[fI,i,Instr.makeFunc],?_⟩;unfold kD;exact⟨_,by rw[<-aN],j⟩
theorem Rg:∀l m:List AV,Bh (l++m)=(Bh l&&Bh m)
 | [],m=>by simp[Bh]
 |x::l,m=>by
  have e:∀y k,Bh (y::k)=(kB y&&Bh k):=λ_ _=>by rw[Bh]
  rw[gL,e,e,Rg l m,Bool.and_assoc]
mutual
theorem Sx(n:Nat):∀x:AV,kB x=aZ->kA n x=aZ
 | .any,_=>rfl
 | .lit _,_=>rfl
 | .bs _ _,_=>rfl
 | .tv _ _,_=>rfl
 | .own _ _,h=>by simp[kB]at h
 | .ptr _ _,h=>by simp[kB]at h
 | .rp _ _ _ _,h=>by simp[kB]at h
 | .bp _ _ _,_=>rfl
 | .agg l,h=>by unfold kB at h;unfold kA;exact L9 n l h
 | .tup l,h=>by unfold kB at h;unfold kA;exact L9 n l h
 | .fn _ l,h=>by unfold kB at h;unfold kA;exact L9 n l h
theorem L9(n:Nat):∀l:List AV,Bh l=aZ->Mi n l=aZ
 | [],_=>rfl
 |x::l,h=>by
  unfold Bh at h;rw[aR]at h;unfold Mi;rw[Sx n x h.1,L9 n l h.2];rfl
end
theorem Xr{args:Array cY}{l:List AV}{r:AV}(j:o.op= .call {callee:=.value x,args:=args,argTypes:=tys})(E:evA t x= .fn f l)(hx:args.toList.map (evA t)++l=xs)(u:Fn P f xs r)(s:Bh (args.toList.map (evA t))=aZ)(m:Bh l=aZ)(F:kB r=aZ):AT P C t h o r:=by
 have hc:Bh xs=aZ:=by rw[<-hx,Rg,s,m];rfl
 intro S ψ w ρ H d;have h1:=d x (by rw[j];exact aI.2 (.inl (by simp)));rw[E]at h1;unfold kD at h1;obtain⟨cs,e,k⟩:=h1;rw[OF j u.1 ρ w e];refine⟨rfl,?_⟩;have h2:Ae w S h ψ xs (args.toList.map ρ++cs):=by
  rw[<-hx];exact BK (Cd λx i=>d x (by rw[j];exact aI.2 (.inr (aK.1 i)))) k
 have J:=u.2 w S (args.toList.map ρ++cs) H.lt (Bi _ _ hc h2);rw[show(args.map ρ++cs.toArray)=(args.toList.map ρ++cs).toArray from(by simp)];refine J.mono ?_;rintro e w' ⟨v,G,I,S',D,B,A,z⟩;exact⟨v,G,I,S',D,B,A,Dv _ _ F z⟩
mutual
inductive LendV(h:List ABlk):AV->AV->Prop
 |cl {x:AV} (hx:AV.cl x=true):LendV h x x
 |own {i ver:Nat} {e:TypeId} {α:Type} {T:Ty α} {d:List α} (hi:h[i]? =some (.row ver e T d)):LendV h (.own i ver) (.bs T d)
 |box {i off:Nat} {cells:List AV} {α:Type} {T:Ty α} {d:α} (hi:h[i]? =some (.box cells)) (hn:((cells.drop off).take T.size).length=T.size) (hp:∀(C:Ctx) (S:Nat->Prop) (ψ:Nat->Value) (w:World) (cs:List Value),HRel C h S ψ w->Ae w S h ψ ((cells.drop off).take T.size) cs->T.RS w S cs d):LendV h (.ptr i off) (.bp T d 0)
 |fn {f:FuncId} {l l':List AV} (hl:LendL h l l'):LendV h (.fn f l) (.fn f l')
 |fl {f:FuncId}:LendV h (.lit (.func (.func f) #[] #[])) (.fn f [])
inductive LendL(h:List ABlk):List AV->List AV->Prop
 |nil:LendL h [] []
 |cons {x x':AV} {l l':List AV} (hx:LendV h x x') (hl:LendL h l l'):LendL h (x::l) (x'::l')
end
mutual
theorem LendV.rel{w:eV}{S:Nat->Prop}{ψ:Nat->eQ}(H:kJ C h S ψ w):∀{x x':AV} {v:eQ},LendV h x x'->kD w S h ψ x v->kD w (λk=>k < w.heap.size) [] ψ0 x' v
 |x,_,v,.cl hx,hr=>Dv _ _ hx (FN (kF h ψ (λ_ _=>rfl) H.lt:Ext w S h ψ w (λk=>k < w.heap.size) h ψ) _ _ hr)
 |_,_,v,.own (i:=i) hi,hr=>by
  unfold kD at hr⊢;have hv:=(hr.2 _ (by rw[hi];rfl)).2 V;subst hv;obtain⟨cells,k1,k0,k2,k3⟩:=H.blk _ _ hi;exact C5 k1 (λi d hd=>Ty.keepS _ (k2 i d hd) (λ_ _=>rfl) H.lt) λg hg=>(eZ k1 g hg).2
 |_,_,v,.box (i:=i) (off:=off) (cells:=cells) (T:=T) (d:=d) hi hn hp,hr=>by
  unfold kD at hr⊢;obtain⟨g,hg,hv⟩:=hr.2 (by rw[hi];rfl);obtain⟨g',cs,e,hg',_,_,hw,hcs⟩:=H.blk _ _ hi;rw[hg]at hg';cases hg';have hlt:g < w.heap.size:=(aD.1 hw).1;have hl:=Ln (Lo hcs off) T.size;refine⟨g,off,by rw[hv];rfl,hlt,(cs.drop off).take T.size,Ty.keepS _ (hp C S ψ w _ H hl) (λ_ _=>rfl) H.lt,λj u hj=>?_⟩;rw[List.getElem?_take]at hj;split at hj
  ·rw[iG]at hj;have:w.cell? ⟨g,off+0+j,lV⟩=lW u:=by
    unfold eW;rw[hw];simpa using hj
   simpa using this
  ·cases hj
 |_,_,v,.fn hl,hr=>by
  unfold kD at hr⊢;obtain⟨cs,e,hcs⟩:=hr;exact⟨cs,e,LendL.rel H hl hcs⟩
 |_,_,v,.fl,hr=>by
  unfold kD at hr⊢;exact⟨[],hr,by unfold Ae;rfl⟩
theorem LendL.rel{w:eV}{S:Nat->Prop}{ψ:Nat->eQ}(H:kJ C h S ψ w):∀{l l':List AV} {vs:List eQ},LendL h l l'->Ae w S h ψ l vs->Ae w (λk=>k < w.heap.size) [] ψ0 l' vs
 |_,_,vs,.nil,hr=>by
  unfold Ae at hr⊢;exact hr
 |_,_,vs,.cons hx hl,hr=>by
  unfold Ae at hr⊢;obtain⟨v,vs',e,h1,h2⟩:=hr;exact⟨v,vs',e,LendV.rel H hx h1,LendL.rel H hl h2⟩
end
end
section
variable{P:cZ}{C:Ctx}
theorem Xj{ops:Array cT}{h:List jZ}{K d:List AV->Prop}(hk:∀s,K s->d s):∀{l:List cT} {t:List AV},aQ P C ops h K l t->aQ P C ops h d l t
 | [],s,h=>hk s h
 |o::rest,t,h=>by
  obtain⟨r,h1,h2⟩:=h;exact⟨r,h1,Xj hk h2⟩
theorem AH{t:List AV}{h:List jZ}{o:cT}{args:Array cY}{r:AV}
 (i:o.op= .call {callee:=.value (.func f),args:=args,argTypes:=tys})(hx:args.toList.map (evA t)=xs)(j:Fn P f xs r)(hc:Bh xs=aZ)(d:kB r=aZ):AT P C t h o r:=AT.call i j hx hc d
theorem Io{t:List AV}{h:List jZ}{o:cT}{c:cY}{e:Bool}(d:o.op= .pick c a b)(hc:evA t c= .lit (.bool q))(j:evA t a= .lit (.bool aZ))(i:evA t b=cond (!q) (.lit (.bool e)) (.lit undef)):AT P C t h o (.lit (.bool (q||e))):=
 Ax d hc j (by rw[i];cases q <;> rfl)
theorem DV{t:List AV}{h:List jZ}{o:cT}{c:cY}{e:Bool}(d:o.op= .pick c a b)(hc:evA t c= .lit (.bool q))(j:evA t a=cond q (.lit (.bool e)) (.lit undef))(i:evA t b= .lit (.bool aS)):AT P C t h o (.lit (.bool (q&&e))):=
 Av d hc (by rw[j];cases q <;> rfl) i
theorem At0{ops:Array cT}{h:List jZ}{t t':List AV}(e:t=t'):aQ P C ops h (λx=>x=t') [] t:=e
section
variable{t t' t'':List AV}{h h' h'':List jZ}{o:cT}{r:AV}{ops:Array cT}{rest:List cT}{K:St->Prop}
theorem qAt(hq:AT P C t h o r:=by(first
 |exact AH V V (by assumption) V V
 |exact AT.callTA V V (by assumption) (by assumption) (by assumption) (by assumption) V V
 |exact CQ V V V (by assumption)
 |exact Ax V V V V
 |exact Av V V V V
 |exact Io V V V V
 |exact DV V V V V
 |exact AT.pickOr' V V V V
 |exact AT.pickAnd' V V V V
 |exact AT.move V (by(conv=>lhs;whnf);try rfl)
 |exact AT.assign V (by(conv=>lhs;whnf);try rfl)
 |exact Br V V V
 |exact Cq V V
 |exact CI V V V
 |exact Du V V
 |exact Bf V V V V
 |exact AA V V V
 |exact Bq V V V (by assumption) V
 |exact AR V V V V
 |exact DW V V V
 |exact Is V V V V (by assumption)
 |exact Ht V V V V (by first|decide|omega) (by assumption)
 |exact Jy V V V V V (by first|assumption|omega)
 |exact FL V V V V V (by first|decide|omega) (by first|assumption|omega)
 |exact J3 V V V (by first|assumption|omega)
 |exact AT.ln V V
 |exact Gd V V V
 |exact Jw V V
 |exact Ea V V V (by omega)
 |exact EO V V V (by omega)
 |exact Hu V V V V (by assumption)
 |exact CQ V V V V
 |exact Co V V
 |exact AT.pick V V (by(conv=>lhs;whnf);try rfl)
 |exact AT.extract V V V
 |exact Cg V V V (by rfl) (by decide) (by first|exact Fit.bool|exact Fit.bs|exact Fit.int (by assumption))
 |exact AT.max2 V V V
 |exact AT.min2 V V V
 |exact AY (i:=0) V V V (by first|rfl|assumption) V
 |exact AY (i:=1) V V V (by first|rfl|assumption) V
 |exact AY (i:=2) V V V (by first|rfl|assumption) V
 |exact AY (i:=3) V V V (by first|rfl|assumption) V
 |exact AY (i:=4) V V V (by first|rfl|assumption) V
 |exact AY (i:=5) V V V (by first|rfl|assumption) V
 |exact AY (i:=6) V V V (by first|rfl|assumption) V
 |exact AY (i:=7) V V V (by first|rfl|assumption) V
 |exact AY (i:=8) V V V (by first|rfl|assumption) V
 |exact BX (i:=1) V V V V V
 |exact BX (i:=2) V V V V V
 |exact BX (i:=3) V V V V V
 |exact BX (i:=4) V V V V V
 |exact BX (i:=5) V V V V V
 |exact BX (i:=6) V V V V V
 |exact BX (i:=7) V V V V V
 |exact BX (i:=8) V V V V V
 |exact PV V V V (by assumption)
 |exact PV V V V V
 |exact AT.neb V V V (by assumption)
 |exact AT.neb V V V V
 |exact AT.eqSs V V V
 |exact AT.eqS V V V
 |exact AT.neS V V V
 |exact AT.lnS V V
 |exact AT.ixS V V V (by assumption)
 |exact AT.cat V V V (by first|assumption|omega)
 |exact AT.cut V V V V (by first|assumption|omega) (by first|assumption|omega)
 |exact AT.cutS V V V (by first|assumption|omega)
 |exact AT.shl V V V (by decide) (by assumption)
 |exact AT.shl V V V (by decide) V
 |exact AT.shr V V V (by decide) (by assumption)
 |exact AT.shr V V V (by decide) V
 |exact AT.bit V V V V (by assumption)
 |exact AT.bit V V V V V
 |exact FK V
 |exact Xr V V V (by assumption) V (by first|rfl|assumption) V
 |exact AT.cv V V (by assumption)
 |exact AT.cv V V V
 |exact AT.b2s V V
 |exact AT.s2b V V (by first|assumption|omega))):AT P C t h o r:=hq
theorem sA(hk:CU P C ops K rest ⟨t',h⟩)(hq:AT P C t h o r:=by exact qAt)(ht:Bl t o.dst r=t':=by((try simp only[Bl,zac]);exact V))(hg:gA ops t o=some true:=by rfl):CU P C ops K (o::rest) ⟨t,h⟩:=by
 subst ht;exact Ah5 hg hq hk
theorem qA{K:List AV->Prop}(hk:aQ P C ops h K rest t')(hq:AT P C t h o r:=by exact qAt)(ht:Bl t o.dst r=t':=by((try simp only[Bl,zac]);exact V))(hg:gA ops t o=some true:=by rfl):aQ P C ops h K (o::rest) t:=by
 subst ht;exact Az3 hg hq hk
theorem sAG{g:Bool}(hk:CU P C ops K rest ⟨t',h⟩)(hg:gA ops t o=some g:=by first|rfl|exact Axu V V)(hq:g=true->AT P C t h o r:=by(intro hg;(try simp only[zah]at hg);(try simp only[hg,zal,zaj]);exact qAt))(ht:Bl t o.dst (cond g r (.lit undef))=t':=by((try simp only[Bl,zac]);exact V)):CU P C ops K (o::rest) ⟨t,h⟩:=sG (hg:=hg) (hq:=hq) (ht:=ht) (hk:=hk)
end
section
variable{id:Nat}{l l1 l2:List cT}{y:bG}{Q:bL->St->Prop}{t t' t'':List AV}{h h':List jZ}
theorem wR(hk:Awp P C y Q ⟨t',h'⟩)(hx:CU P C l.toArray (λs=>s=⟨t',h'⟩) l ⟨t,h⟩:=by((repeat(first|refine sA ?_|refine AM ?_|refine sAG ?_|refine Bp ?_));exact CS V)):Awp P C (.seq (.region id l.toArray aS) y) Q ⟨t,h⟩:=
 Ab λ_ d=>kE (Dt (λs e=>by subst e;exact d _ hk) hx)
theorem wRE(hk:Q .normal ⟨t',h'⟩)(hx:CU P C l.toArray (λs=>s=⟨t',h'⟩) l ⟨t,h⟩:=by((repeat(first|refine sA ?_|refine AM ?_|refine sAG ?_|refine Bp ?_));exact CS V)):Awp P C (.region id l.toArray aS) Q ⟨t,h⟩:=
 kE (Dt (λs e=>by subst e;exact hk) hx)
theorem wDE(n:Nat)(d:P.follows .mixedOrders=true:=by kernel_rfl)(i:Acd l.toArray n=true:=by kernel_rfl)(h1:l.take n=l1:=by(simp only[zad];exact V))(h2:l.drop n=l2:=by(simp only[zad];exact V))
 (hq:aQ P C l.toArray h (λx=>x=t'') l1 t:=by((repeat(first|refine qA ?_|refine G5 ?_|refine qAG (hk:=?_)));exact At0 V))
 (hx:CU P C l.toArray (λs=>s=⟨t',h'⟩) l2 ⟨t'',h⟩:=by((repeat(first|refine sA ?_|refine AM ?_|refine sAG ?_|refine Bp ?_));exact CS V))(hk:Q .normal ⟨t',h'⟩):Awp P C (.region id l.toArray aZ) Q ⟨t,h⟩:=by
 subst h1 h2;exact Ok n d i (Xj (λt e=>by subst e;exact Dt (λs e=>by subst e;exact hk) hx) hq)
theorem wD(n:Nat)(d:P.follows .mixedOrders=true:=by kernel_rfl)(j:Acd l.toArray n=true:=by kernel_rfl)(h1:l.take n=l1:=by(simp only[zad];exact V))(h2:l.drop n=l2:=by(simp only[zad];exact V))
 (hq:aQ P C l.toArray h (λx=>x=t'') l1 t:=by((repeat(first|refine qA ?_|refine G5 ?_|refine qAG (hk:=?_)));exact At0 V))
 (hx:CU P C l.toArray (λs=>s=⟨t',h'⟩) l2 ⟨t'',h⟩:=by((repeat(first|refine sA ?_|refine AM ?_|refine sAG ?_|refine Bp ?_));exact CS V))(hk:Awp P C y Q ⟨t',h'⟩):Awp P C (.seq (.region id l.toArray aZ) y) Q ⟨t,h⟩:=
 Ab λ_ i=>wDE n d j h1 h2 hq hx (i _ hk)
end
theorem AS{t t':List AV}{h:List jZ}(i:bdH h=true:=by rfl)(d:Fgt h.length t t':=by((try simp only[Bl,zac]);repeat(first|exact Fgt.nil|refine Fgt.keep V ?_|refine Fgt.any ?_|refine Fgt.keep (by first|assumption|exact Sx _ _ (by assumption)) ?_))):kS C ⟨t,h⟩ ⟨t',h⟩:=Xl i d
end
open Go.ChangeShapes Go.WideShapes
variable{a:Option a8}{c:Nat}{k:bV}{n:Nat}{ty:eP}{x y:cY}
def Am0(g:Nat)(cells:List eQ)(e:eP):Res:=⟨[],λk=>k=g,λw _=>w.heap[g]? =lW (.cells cells.toArray e (0,0)),λh hk _ _=>(hk g V).trans h⟩
section
variable{P:cZ}{C:Ctx}{t:List AV}{h:List jZ}{o:cT}{K:St->Prop}
end
section
variable{P:cZ}{C:Ctx}{t:List AV}{h:List jZ}{o:cT}{K:St->Prop}
theorem Aos{d:eP}{w:eV}(i:GG P ty=aZ):(bA #[ty] d #[.slice a n c]).run P w= .ok (.int .i64 (c:Int)) w:=by
 unfold GG at i;split at i <;> try(cases i;done)
 rename_i e h1;simp[bA,underlying,h1,goInt]
theorem Vu[SL P ty](i:o.op= .call {callee:=.builtin .cap,args:=#[x],argTypes:=#[ty]})(hx:evA t x= .lit (.slice a n c)):AT P C t h o (.lit (.int .i64 (c:Int))):=
 AL λS ψ w ρ H d=>by
  have h1:=d x (by simp[i,cR,bD]);rw[hx]at h1;unfold kD at h1;refine⟨_,by simp[fI,i,fU,fQ,builtin,h1,Aos (SL.eq (P:=P) (ty:=ty))];rfl,?_⟩;unfold kD;rfl
theorem Vp[ES P ty n](j:o.op= .slice ty x lV (lW y) lV)(hx:evA t x= .lit (.slice lV 0 0))(s:evA t y= .lit (.int k ((0:Nat):Int))):AT P C t h o (.lit (.slice lV 0 0)):=
 AL λS ψ w ρ H d=>by
  have h1:=d x (by simp[j,cR]);have h2:=d y (by simp[j,cR]);rw[hx]at h1;rw[s]at h2;unfold kD at h1 h2;have u:=To (P:=P) (w:=w) (a:=lV) (len:=0) (cap:=0) (lo:=lV) (hi:=lW (.int k ((0:Nat):Int))) (l:=0) (m:=0) (ES.eq (P:=P) (ty:=ty) (n:=n)) V ⟨k,rfl⟩ (lB _) (lB _);have i:(Instr.sliceAt ty (.slice lV 0 0) lV (lW (.int k 0)) lV).run P w= .ok (.slice lV 0 0) w:=by simpa using u
  refine⟨.slice lV 0 0,by simp[fI,j,h1,h2,i],?_⟩;unfold kD;rfl
theorem Amu{J:eP}{e:eP}{bytes:Nat}{W:bV}[RT P ty e 1 bytes][IntT P J W]{kk:bV}(u:Cx P e=lW [.int kk 0])(X:o.op= .call {callee:=.builtin .append,args:=#[x,y],argTypes:=#[ty,J]})
 (hx:evA t x= .lit (.slice lV 0 0))(hy:evA t y= .lit (.int k (n:Int)))(h0:0 < n)(B:n<=fR)(I:n * bytes<=140737488355328)
 (hK:K ⟨Bl t o.dst (.own h.length 0),h++[.row 0 e (Ty.int kk) (jP n 0)]⟩):AOp P C o ⟨t,h⟩ K:=by
 rintro Q' a w ⟨hd,S,ψ,H,N⟩;refine⟨λc e=>(by rw[X]at e;cases e),?_⟩;have E:=Bv N x;have D:=Bv N y;rw[show evA (St.mk t h).t x=_ from hx]at E;rw[show evA (St.mk t h).t y=_ from hy]at D;unfold kD at E D;obtain⟨h1,Z,z,h2,Y,h4,h5,h6⟩:=C9 (RT.eq (P:=P) (ty:=ty));have hz:z.cells.toList= [.int kk 0]:=by
  unfold Cx at u;rw[h2]at u;simp only[lQ,Y,lU,lY]at u;exact u
 have L:z.cells= #[.int kk 0]:=by
  apply Array.ext';rw[hz]
 have U:(n:Int)<=9223372036854775807:=by unfold fR at B;omega
 have F:=Lib.run_append_nil_zeros (P:=P) w ty J o.type e Z z k W h1 IntT.eq h2 Y n h0 (by omega) U (by rw[h5];omega);have A:∀m,bC z.cells m=(jP m (eS kk 0)).toArray:=λm=>by
  rw[L];apply Array.ext
  ·simp[bC]
  ·intro i h1 h2;simp[bC,Nat.mod_one]
 rw[A,A]at F;have G:=grownCap_ge w n 0 e;have hr:(fI a.eval o).run P w= .ok (.value (.slice (lW ⟨w.heap.size,0,lV⟩) n (fL w n 0 e))) (w.drew.alloc (.cells ((jP n (eS kk 0)).toArray++(jP (fL w n 0 e - n) (eS kk 0)).toArray) e)):=by
  simp[fI,X,fU,fQ,builtin,E,D,F]
 have hb:Below w.heap.size w (w.drew.alloc (.cells ((jP n (eS kk 0)).toArray++(jP (fL w n 0 e - n) (eS kk 0)).toArray) e)):=⟨rfl,rfl,rfl,by simp,λk hk=>fN w.drew _ hk⟩
 unfold cW;refine AOp.newRow (s:=⟨t,h⟩) (cells:=jP n (eS kk 0)) hd H N hr hb ⟨by show _=_ * 1;simp,.inr ⟨w.heap.size,_,_,by rw[iX],lM _,fM w.drew _,by rw[iX];exact G,grownCap_le_maxLen _ _ _ _ B,?_,?_⟩⟩ lN (λj d O=>?_) hK
 ·show _=_ * 1;simp;omega
 ·show jR ((jP n (0:Int)).length * 1) _=_;simp only[iX,lI,aM];rw[List.take_append_of_le_length (by simp),List.take_of_length_le (by simp)]
 ·show(Ty.int kk).RS _ _ (jR 1 (List.drop (j * 1) _)) d;rw[iM]at O;split at O <;> cases O
  rename_i aa;rw[lI,List.drop_replicate,List.take_replicate];have:min 1 (n - j)=1:=by omega
  rw[this];refine⟨rfl,?_⟩;cases kk <;> rfl
end
end Mu
namespace Mu
open Go Go.RowKit Go.Proofs
section
variable{P:cZ}
def Ayf(t u:Tmp)(m:Nat)(r q:AV):bL->St->Prop:=λe s=>(e= .normal\/e= .ret)/\∃i cells,evA s.t (.tmp t)= .ptr i 0/\s.h[i]? =lW (.box cells)/\cells.length=m/\Fin s.h (.tup [.agg cells,evA s.t (.tmp u)]) (.tup [r,q])
theorem KX{f:bO}{fn:bN}{c:bG}{args:List AV}{r q:AV}{t u:Tmp}{ty:eP}{n m:Nat}(W:P.funcs[f]? =lW fn)(Y:fn.body=lW c)(hE:Ca P f=aZ)(E:fn.results= #[.cell t ty,.tmp u])(Z:Rl P ty=lW (aZ,m))(O:fn.ntmps=n)
 (h:∀C:Ctx,C.std->Awp P C c (Ayf t u m r q) ⟨args++jP (n - args.length) (.lit undef),[]⟩):Fn P f args (.tup [r,q]):=by
 refine⟨hE,λw S vs hS N=>fH W Y ?_⟩;rw[O];refine wp_mono ((h ⟨w,S,λk=>k < w.heap.size,lV⟩ (λ_ h=>h)).wp V (Dl hS N)) ?_;rintro e a' w' ⟨s,⟨X,i,cells,F,hi,U,A⟩,G,S1,ψ,H,I⟩;rw[A.1]at G;have B:=Bv I (.tmp t);rw[F]at B;unfold kD at B;obtain⟨g,h1,h2⟩:=B.2 (by rw[hi];rfl);obtain⟨g',cs,e',L,_,_,h4,J⟩:=H.blk i _ hi;rw[h1]at L;cases L;have hc:∀j v,cs[j]? =lW v->w'.cell? ⟨g,0+j,lV⟩=lW v:=λj v B=>by simp[eW,h4,B]
 have d:=IY (P:=P) (ty:=ty) (b:=g) (off:=0) Z (by rw[Bw J];exact U) hc;have z:(results fn a'.tmps).run P w'= .ok (.tuple #[.agg cs.toArray,a'.eval (.tmp u)]) w':=by
  have e1:(a'.tmps[t]?).getD undef= .pointer (lW ⟨g,0,lV⟩):=by rw[<-aA];exact h2
  have e2:(a'.tmps[u]?).getD undef=a'.eval (.tmp u):=by rw[<-aA];rfl
  unfold Instr.loadAt bU at d;simp only[zam]at d;simp[results,E,e1,e2,asAddr,d]
 have D:kD w' S1 s.h ψ (.tup [.agg cells,evA s.t (.tmp u)]) (.tuple #[.agg cs.toArray,a'.eval (.tmp u)]):=by
  unfold kD;refine⟨[.agg cs.toArray,a'.eval (.tmp u)],rfl,?_⟩;unfold Ae;refine⟨_,_,rfl,(by unfold kD;exact⟨cs,rfl,J⟩),?_⟩;unfold Ae;refine⟨_,_,rfl,Bv I (.tmp u),?_⟩;unfold Ae;rfl
 have hg:YZ w S [] ψ0 (.tup [r,q]) (.tuple #[.agg cs.toArray,a'.eval (.tmp u)]) w':=by
  first
   |exact FE H A D
   |exact FE (a':=a') H A D
 rcases X with rfl|rfl
 ·exact⟨G,_,z,_,rfl,hg⟩
 ·exact⟨G,_,z,_,rfl,hg⟩
end
open Go.ChangeShapes Go.WideShapes
variable{h:List jZ}
theorem BR{P:cZ}{C:Ctx}{t:List AV}{o:cT}{ty:eP}{d:Array (Nat×cY)}{zs:List eQ}{j:List (Nat×Nat)}{rs:List AV}[ZC P ty zs](u:o.op= .build ty d)(i:Eq P ty=lW j)
 (m:putCells j (zs.map .lit) (d.toList.map λp=>(p.1,evA t p.2))=lW rs)(h1:(d.toList.all λp=>Wx (evA t p.2))=aZ):AT P C t h o (.agg rs):=
 AT.build u ZC.eq i m λp s=>Mf (gI.1 h1 p s)
theorem Fin.weak{x r:AV}(hx:kB x=aZ)(d:∀w S v,kD w S [] ψ0 x v->kD w S [] ψ0 r v)(j:mkD h= []:=by rfl):Fin h x r:=
 ⟨j,λ_ S _ w v _ H i=>⟨S,λ_ h=>h,λ_ h=>.inl h,H.lt,d w S v (Dv _ _ hx i)⟩⟩
end Mu
namespace Mu
open Go Go.RowKit Go.Proofs
variable{S:Nat->Prop}{α:Type}{T:Ty α}{a:Int}{b c:Bool}{e:eP}{enc:α->List AV}{f:bO}{i:Nat}{ik:bV}{k:Nat}{k':bV}{l':List AV}{m:Int}{n:Nat}{op:Op}{q:Bool}{r:AV}{s:St}{st:eP}{tys:Array eP}{v:eQ}{ver:Nat}{w:eV}{x:cY}{x0 x1 x10 x11 x12 x13 x14 x15 x16 x17 x18 x19 x2 x20 x21 x22 x23 x24 x25 x26 x27 x28 x29 x3 x30 x31 x4 x5 x6 x7 x8 x9:AV}{xs:List AV}{z:Int}{zs:List eQ}{β:Type}{ψ:Nat->eQ}
def ixD{α:Type}[Inhabited α](l:List α)(z:Int):α:=l.getD z.toNat default
def Cm{α:Type}(l:List α)(z:Int):Bool:=a7 (0<=z)&&a7 (z.toNat < l.length)
theorem BL{l:List α}:Cm l z=aZ↔0<=z/\z.toNat < l.length:=by unfold Cm;simp
theorem BS[Inhabited α]{l:List α}(h:Cm l z=aZ):l[z.toNat]? =lW (ixD l z):=by
 have h1:=(BL.1 h).2;unfold ixD;rw[iB,iH h1];rfl
theorem Cf[Inhabited α]{l:List α}{x:α}(h:l[k]? =lW x):ixD l (k:Int)=x:=by
 unfold ixD;rw[gH,iB,h];rfl
theorem E7{l:List α}(h:k < l.length):Cm l (k:Int)=aZ:=BL.2 ⟨by omega,by simpa using h⟩
def slB{α:Type}(l:List α)(a b:Int):Bool:=a7 (0<=a)&&a7 (a<=b)&&a7 (b.toNat<=l.length)
def slD{α:Type}(l:List α)(a b:Int):List α:=(l.take b.toNat).drop a.toNat
def Fj(n bytes:Nat):Bool:=a7 (n<=fR)&&a7 (n * bytes<=140737488355328)
def VN(z:Int)(bytes:Nat):Bool:=a7 (0<=z)&&a7 (z.toNat<=fR)&&a7 (bytes * z.toNat<=281474976710656)
def Ay8(s:ByteArray):Bool:=a7 (s.size<=fR)
def wfB(k:bV)(a:Int):Bool:=(cE k a).wf
theorem Xy{k:bV}(h:wfB k a=aZ):wfI k a:=h
theorem Aji{b:Nat}(h:Fj n b=aZ):n<=fR:=by unfold Fj at h;simp at h;exact h.1
theorem Zt{b:Nat}(h:Fj n b=aZ):n * b<=140737488355328:=by unfold Fj at h;simp at h;exact h.2
theorem Adc{s:ByteArray}(h:Ay8 s=aZ):s.size<=fR:=of_decide_eq_true h
theorem Uq{g p:Bool}(h:(!g||p)=aZ)(hg:g=aZ):p=aZ:=by subst hg;simpa using h
theorem Hn{a:Bool}(h:(a&&b)=aZ):a=aZ:=by cases a;cases h;rfl
theorem Qv{α:Type 1}{a:Bool}(h:a=aZ)(x y:α):(bif a&&b then x else y)=bif b then x else y:=by subst h;rfl
theorem BJ{α:Type 1}(h:b=aZ)(x y:α):(bif b then x else y)=x:=by subst h;rfl
theorem Azz{α:Type 1}(h:b=aS)(x y:α):(bif b then x else y)=y:=by subst h;rfl
theorem HU{l:List AV}:Bl (x0::l) (lW 0) r=r::l:=rfl
theorem JH{l:List AV}:Bl (x0::x1::l) (lW 1) r=x0::r::l:=rfl
theorem Mk{l:List AV}:Bl (x0::x1::x2::l) (lW 2) r=x0::x1::r::l:=rfl
theorem JG{l:List AV}:Bl (x0::x1::x2::x3::l) (lW 3) r=x0::x1::x2::r::l:=rfl
theorem Ka{l:List AV}:Bl (x0::x1::x2::x3::x4::l) (lW 4) r=x0::x1::x2::x3::r::l:=rfl
theorem GY{l:List AV}:Bl (x0::x1::x2::x3::x4::x5::l) (lW 5) r=x0::x1::x2::x3::x4::r::l:=rfl
theorem HT{l:List AV}:Bl (x0::x1::x2::x3::x4::x5::x6::l) (lW 6) r=x0::x1::x2::x3::x4::x5::r::l:=rfl
theorem Hy{l:List AV}:Bl (x0::x1::x2::x3::x4::x5::x6::x7::l) (lW 7) r=x0::x1::x2::x3::x4::x5::x6::r::l:=rfl
theorem Ap{l:List AV}(e:Bl l (lW k) r=l'):Bl (x0::x1::x2::x3::x4::x5::x6::x7::l) (lW (k+8)) r=x0::x1::x2::x3::x4::x5::x6::x7::l':=by subst e;rfl
theorem Ar{l:List AV}(e:Bl l (lW k) r=l'):Bl (x0::x1::x2::x3::x4::x5::x6::x7::x8::x9::x10::x11::x12::x13::x14::x15::x16::x17::x18::x19::x20::x21::x22::x23::x24::x25::x26::x27::x28::x29::x30::x31::l) (lW (k+32)) r=x0::x1::x2::x3::x4::x5::x6::x7::x8::x9::x10::x11::x12::x13::x14::x15::x16::x17::x18::x19::x20::x21::x22::x23::x24::x25::x26::x27::x28::x29::x30::x31::l':=by subst e;rfl
theorem IG{l:List AV}:evA (x0::l) (.tmp 0)=x0:=rfl
theorem GP{l:List AV}:evA (x0::x1::l) (.tmp 1)=x1:=rfl
theorem FG{l:List AV}:evA (x0::x1::x2::l) (.tmp 2)=x2:=rfl
theorem FF{l:List AV}:evA (x0::x1::x2::x3::l) (.tmp 3)=x3:=rfl
theorem GO{l:List AV}:evA (x0::x1::x2::x3::x4::l) (.tmp 4)=x4:=rfl
theorem Fq{l:List AV}:evA (x0::x1::x2::x3::x4::x5::l) (.tmp 5)=x5:=rfl
theorem Iy{l:List AV}:evA (x0::x1::x2::x3::x4::x5::x6::l) (.tmp 6)=x6:=rfl
theorem Hd{l:List AV}:evA (x0::x1::x2::x3::x4::x5::x6::x7::l) (.tmp 7)=x7:=rfl
theorem Ao{l:List AV}(e:evA l (.tmp k)=r):evA (x0::x1::x2::x3::x4::x5::x6::x7::l) (.tmp (k+8))=r:=e
theorem As{l:List AV}(e:evA l (.tmp k)=r):evA (x0::x1::x2::x3::x4::x5::x6::x7::x8::x9::x10::x11::x12::x13::x14::x15::x16::x17::x18::x19::x20::x21::x22::x23::x24::x25::x26::x27::x28::x29::x30::x31::l) (.tmp (k+32))=r:=e
theorem Acf{l:List AV}:evA l (.const v)= .lit v:=rfl
theorem RG{l:List AV}:Bl l lV r=l:=rfl
inductive Up:AV->AV->Prop
 |refl (x:AV):Up x x
 |nil {α:Type} (T:Ty α):Up (.lit (.slice none 0 0)) (.bs T [])
 |agg {l l':List AV}:l.length=l'.length->(∀(i:Nat) (x y:AV),l[i]? =some x->l'[i]? =some y->Up x y)->Up (.agg l) (.agg l')
 |tup {l l':List AV}:l.length=l'.length->(∀(i:Nat) (x y:AV),l[i]? =some x->l'[i]? =some y->Up x y)->Up (.tup l) (.tup l')
theorem Up.rel{h:List jZ}{x y:AV}(j:Up x y):∀{v:eQ},kD w S h ψ x v->kD w S h ψ y v:=by
 induction j with
 |refl x=>exact λh=>h
 |nil T=>
  intro v H;unfold kD at H⊢;rw[H];exact T.slice_nilS _ _
 |@agg l l' d hi E=>
  intro v H;unfold kD at H⊢;obtain⟨cs,e,D⟩:=H;refine⟨cs,e,DL (by rw[Bw D,d]) λi y u B j=>?_⟩;have A:i < l.length:=by rw[d];exact(iJ.1 B).1
  obtain⟨x,hx⟩:∃x,l[i]? =lW x:=⟨_,iH A⟩
  obtain⟨F,h1,h2⟩:=BY D hx;rw[h1]at j;cases j;exact E i x y hx B h2
 |@tup l l' d hi E=>
  intro v H;unfold kD at H⊢;obtain⟨cs,e,D⟩:=H;refine⟨cs,e,DL (by rw[Bw D,d]) λi y u B j=>?_⟩;have A:i < l.length:=by rw[d];exact(iJ.1 B).1
  obtain⟨x,hx⟩:∃x,l[i]? =lW x:=⟨_,iH A⟩
  obtain⟨F,h1,h2⟩:=BY D hx;rw[h1]at j;cases j;exact E i x y hx B h2
inductive UpL:List AV->List AV->Prop
 |nil:UpL [] []
 |cons {x y:AV} {l l':List AV}:Up x y->UpL l l'->UpL (x::l) (y::l')
theorem UpL.len{l:List AV}(h:UpL l l'):l.length=l'.length:=by
 induction h with
 |nil=>rfl
 |cons _ _ d=>simp[d]
theorem UpL.get{l:List AV}(h:UpL l l'):∀(i:Nat) (x y:AV),l[i]? =lW x->l'[i]? =lW y->Up x y:=by
 induction h with
 |nil=>intro i x y hx;simp at hx
 |cons h1 _ j=>
  intro i x y hx d;cases i with
  |zero=>simp at hx d;subst hx d;exact h1
  |succ i=>exact j i x y (by simpa using hx) (by simpa using d)
theorem UpL.rel{h:List jZ}{l:List AV}(d:UpL l l'){cs:List eQ}(H:Ae w S h ψ l cs):Ae w S h ψ l' cs:=by
 refine DL (by rw[Bw H,d.len]) λi y u A B=>?_
 have j:i < l.length:=by rw[d.len];exact(iJ.1 A).1
 obtain⟨x,hx⟩:∃x,l[i]? =lW x:=⟨_,iH j⟩
 obtain⟨D,h1,h2⟩:=BY H hx;rw[h1]at B;cases B;exact(d.get i x y hx A).rel h2
theorem Qy{l:List AV}(h:UpL l l'):Up (.agg l) (.agg l'):=.agg h.len h.get
theorem Azl{l:List AV}(h:UpL l l'):Up (.tup l) (.tup l'):=.tup h.len h.get
section
variable{P:cZ}{C:Ctx}{t t':List AV}{h h':List jZ}{o:cT}
theorem Fe{ty:eP}{y:cY}[Inhabited α]{l:List α}[ES P ty n](A:o.op= .indexAddr ty x y)(hx:evA t x= .bs T l)(j:evA t y= .lit (.int ik z))(u:T.size=n)(d:Cm l z=aZ):AT P C t h o (.bp T (ixD l z) 0):=
 Ht A hx j u (BL.1 d).1 (BS d)
theorem Cb{ty:eP}{y:cY}{l:List α}[ES P ty n](A:o.op= .indexAddr ty x y)(hx:evA t x= .own i ver)(hi:h[i]? =lW (.row ver e T l))(j:evA t y= .lit (.int ik z))(u:T.size=n)(d:Cm l z=aZ):AT P C t h o (.rp i ver z.toNat 0):=
 FL A hx hi j u (BL.1 d).1 (BL.1 d).2
theorem Adt{l:List α}{b:Int}:slB l a b=aZ↔0<=a/\a<=b/\b.toNat<=l.length:=by unfold slB;simp[and_assoc]
theorem Aig{d:Nat}{y:cY}(j:evA t y= .lit (.int ik a))(h0:0<=a):Aog t d (lW y) a.toNat:=⟨ik,by rw[j];congr 2;omega⟩
theorem Abq{ty:eP}{y:cY}{l:List α}[ES P ty n](u:o.op= .slice ty x (lW y) lV lV)(hx:evA t x= .bs T l)(j:T.size=n)(d:evA t y= .lit (.int ik a))(hc:slB l a (l.length:Int)=aZ):AT P C t h o (.bs T (slD l a (l.length:Int))):=by
 obtain⟨h1,h2,A⟩:=Adt.1 hc;have:=PQ (P:=P) (C:=C) (h:=h) (lo:=lW y) (hi:=lV) (m:=l.length) u hx j (Aig d h1) V (by omega) (lB _);unfold slD;rwa [gH]
theorem J7{ty:eP}{y:cY}{bytes:Nat}{l l2:List α}{K:St->Prop}[RT P ty e n bytes][EncOf T enc](A:o.op= .call {callee:=.builtin .append,args:=#[x,y],argTypes:=#[ty,ty]})
 (hx:evA t x= .own i ver)(hi:h[i]? =lW (.row ver e T l))(j:evA t y= .bs T l2)(u:T.size=n)(d:Fj (l.length+l2.length) bytes=aZ)
 (B:K ⟨Bl t o.dst (.own i (ver+1)),h.set i (.row (ver+1) e T (l++l2))⟩):AOp P C o ⟨t,h⟩ K:=SS A hx hi j u (Aji d) (Zt d) B
theorem Aro{ty:eP}{y:cY}{k:bV}{bytes:Nat}{K:St->Prop}(d:α)(D:o.op= .makeSlice ty x y)(B:GB P ty=lW (e,v,bytes))(E:T.size=1)(j:∀w S,T.RS w S [v] d)
 (hx:evA t x= .lit (.int k z))(A:evA t y= .lit (.int k' z))(u:VN z bytes=aZ)
 (F:K ⟨Bl t o.dst (.own h.length 0),h++[.row 0 e T (jP z.toNat d)]⟩):AOp P C o ⟨t,h⟩ K:=by
 unfold VN at u;simp only[zaf]at u;obtain⟨⟨h0,h1⟩,h2⟩:=u;have G:z=((z.toNat:Nat):Int):=by omega
 rw[G]at hx A;exact Aip d D B E j hx A h2 h1 F
theorem Pm{ops:Array cT}(hg:gA ops t o=lW (b ==aZ)):gA ops t o=lW b:=by rw[hg];cases b <;> rfl
theorem Ak8{ops:Array cT}(hg:gA ops t o=lW (b ==aS)):gA ops t o=lW (!b):=by rw[hg];cases b <;> rfl
theorem LZ{ops:Array cT}{j:Nat}(d:o.guard=lW (j,aZ))(u:((ops[j]?).bind (·.dst)).bind (t[·]?)=lW (cond q (.lit (.bool c)) (.lit undef))):gA ops t o=lW (q&&c):=by rw[Axu d u];cases c <;> rfl
theorem Aqs{ops:Array cT}{j:Nat}(d:o.guard=lW (j,aS))(u:((ops[j]?).bind (·.dst)).bind (t[·]?)=lW (cond q (.lit (.bool c)) (.lit undef))):gA ops t o=lW (q&&!c):=by rw[Axu d u];cases c <;> rfl
theorem Fit.up{x y:AV}{d:α}(u:Up x y)(A:Fit h T y d):Fit h T x d:=λC S ψ w v H j=>A C S ψ w v H (u.rel j)
theorem Amf(d:UpL t t'):kS C ⟨t,h⟩ ⟨t',h⟩:=λa w ⟨u,S,ψ,H,j⟩=>⟨u,S,ψ,H,d.rel j⟩
theorem XA:∀t:List AV,UpL t t
 | []=>.nil
 |x::t=>.cons (.refl x) (XA t)
theorem Acx:∀{t:List AV} {j:Nat} {x y:AV},t[j]? =lW x->Up x y->UpL t (t.set j y)
 | [],_,_,_,h,_=>by simp at h
 |a::t,0,x,y,h,d=>by
  simp at h;subst h;exact .cons d (XA t)
 |a::t,j+1,x,y,h,d=>.cons (.refl a) (Acx (t:=t) (by simpa using h) d)
theorem SE(j:Nat)(T:Ty α)(d:t[j]? =lW (.lit (.slice lV 0 0)))(ht:t.set j (.bs T [])=t':=by((try simp only[zac]);exact V)):kS C ⟨t,h⟩ ⟨t',h⟩:=by
 subst ht;exact Amf (Acx d (.nil T))
theorem EB(j:Nat)(e:eP)(T:Ty α)(d:t[j]? =lW (.lit (.slice lV 0 0)))(h0:0 < T.size)(ht:t.set j (.own h.length 0)=t':=by((try simp only[List.set_cons_zero,List.set_cons_succ,List.length_nil,List.length_cons,Nat.reduceAdd]);exact V))(hh:h++[.row 0 e T []]=h':=by((try simp only[List.nil_append,List.cons_append]);exact V)):kS C ⟨t,h⟩ ⟨t',h'⟩:=by
 subst ht hh;exact Cz j e T d h0
theorem leC(hc:Cut h h')(u:bdH h'=true:=by rfl)(j:Fgt h'.length t t':=by((try simp only[Bl,zac]);repeat(first|exact Fgt.nil|refine Fgt.keep V ?_|refine Fgt.any ?_|refine Fgt.keep (by first|assumption|exact Sx _ _ (by assumption)) ?_)))(d:mkD h'=mkD h:=by rfl):kS C ⟨t,h⟩ ⟨t',h'⟩:=Ah8 hc u j d
theorem exN{id:Nat}{Q:bL->St->Prop}(hq:Q .normal s):Jt id Q (.exit id) s:=by
 unfold Jt;simp[hq]
theorem exO{id j:Nat}{Q:bL->St->Prop}(d:j≠id)(hq:Q (.exit j) s):Jt id Q (.exit j) s:=by
 unfold Jt;simp[d,hq]
theorem BG{K:St->Prop}{Q:bL->St->Prop}{id:Nat}(hq:Q (.exit id) s):Ke K Q (.exit id) s:=hq
theorem abN{id:Nat}{Q:bL->St->Prop}(hq:Q .normal s):Jt id Q .normal s:=hq
theorem AOp.boxI{d:eP}{cells:List AV}{K:St->Prop}(i:Nat)(hi:h.length=i)(u:o.op= .box d x)(j:Vx h (evA t x) cells)(A:K ⟨Bl t o.dst (.ptr i 0),h++[.box cells]⟩):AOp P C o ⟨t,h⟩ K:=by
 subst hi;exact AOp.box (s:=⟨t,h⟩) u j A
theorem ST{d:eP}{K:St->Prop}[ZC P d zs](i:Nat)(hi:h.length=i)(j:o.op= .alloc d)(u:K ⟨Bl t o.dst (.ptr i 0),h++[.box (zs.map .lit)]⟩):AOp P C o ⟨t,h⟩ K:=by
 subst hi;exact Y3 j u
theorem SQ{ty:eP}{bytes:Nat}{d:Array (Nat×cY)}{xs:List cY}{ds:List α}{K:St->Prop}(i:Nat)(hi:h.length=i)(A:o.op= .buildSlice ty n d)(u:d=Gp xs)(B:n=xs.length)
 (E:NK P ty=lW (e,T.size,bytes))(h0:0 < T.size)(j:n * T.size<=16777216)(D:Fits h T (xs.map (evA t)) ds)(F:K ⟨Bl t o.dst (.own i 0),h++[.row 0 e T ds]⟩):AOp P C o ⟨t,h⟩ K:=by
 subst hi;exact AOp.lit (s:=⟨t,h⟩) A u B E h0 j D F
theorem P6{ty:eP}{y:cY}{k:bV}{bytes:Nat}{K:St->Prop}(i:Nat)(hi:h.length=i)(d:α)(B:o.op= .makeSlice ty x y)(u:GB P ty=lW (e,v,bytes))(E:T.size=1)(j:∀w S,T.RS w S [v] d)
 (hx:evA t x= .lit (.int k z))(A:evA t y= .lit (.int k' z))(D:VN z bytes=aZ)
 (F:K ⟨Bl t o.dst (.own i 0),h++[.row 0 e T (jP z.toNat d)]⟩):AOp P C o ⟨t,h⟩ K:=by
 subst hi;exact Aro d B u E j hx A D F
theorem D2{ops:Array cT}{rest:List cT}{K:St->Prop}(hk:CU P C ops K rest ⟨t',h'⟩)(ht:t=t':=by exact V)(hh:h=h':=by((try simp only[List.nil_append,List.cons_append,List.set_cons_zero,List.set_cons_succ,List.take_zero,List.take_succ_cons,List.drop_succ_cons,List.drop_zero,List.drop_nil,List.take_nil,List.map_cons,List.map_nil,List.append_nil,List.length_cons,List.length_nil,Nat.zero_add,Nat.reduceAdd]);exact V)):CU P C ops K rest ⟨t,h⟩:=by
 subst ht hh;exact hk
theorem J0{ops:Array cT}{K:St->Prop}{rest:List cT}{j:St}(hg:o.guard=lV)(d:kS C s j)(hk:CU P C ops K (o::rest) j):CU P C ops K (o::rest) s:=by
 obtain⟨b,h1,h2,u⟩:=hk;have e:∀t,gA ops t o=lW aZ:=λt=>by unfold gA;rw[hg]
 rw[e]at h1;cases h1;exact⟨aZ,e _,λ_ Q' a w H=>h2 V Q' a w (d a w H),λh=>by cases h⟩
theorem Bn{x y:bG}{Q:bL->St->Prop}(J:β->Prop)(G:β->St)(hx:Awp P C x (Ke (λd=>∃b,J b/\kS C d (G b)) Q) s)(u:∀b,J b->Awp P C y Q (G b)):Awp P C (.seq x y) Q s:=
 Ab λK A=>hx.mono λe d q=>by
  cases e with
  |normal=>
   obtain⟨b,B,j⟩:=q;exact A d ((u b B).le j)
  |_=>exact q
theorem P0{c:bG}{Q:bL->St->Prop}(J:β->Prop)(G:β->St)(hx:Awp P C c (Ke (λd=>∃b,J b/\kS C d (G b)) Q) s)(u:∀b d,J b->kS C d (G b)->Q .normal d):Awp P C c Q s:=
 hx.mono λe d q=>by
  cases e with
  |normal=>
   obtain⟨b,A,j⟩:=q;exact u b d A j
  |_=>exact q
theorem BB{c:bG}{Q:bL->St->Prop}{u ρ:Type}{step:u->M (u⊕ρ)}{B:u}{r:ρ}(H:(M.loop step B).to r)(F:u->β->St)(I:β)(h0:kS C s (F B I))
 (G:∀d b x,(step d).to x->(∀A,x= .inr A->A=r)->Awp P C c (Ke (λst=>∃j b',x= .inl j/\kS C st (F j b')) Q) (F d b)):Awp P C (.loop c) Q s:=by
 obtain⟨k,hk⟩:=Nw.1 H;refine Awp.loop (λm st=>∃d b,st=F d b/\M.Rounds step m d r) k ⟨_,h0,B,I,rfl,hk⟩ ?_;rintro m st ⟨d,b,rfl,D⟩;cases D with
 |out hx=>
  refine(G d b _ hx λA e=>by cases e;rfl).mono λe J q=>?_
  cases e with
  |normal=>obtain⟨_,_,e,_⟩:=q;cases e
  |_=>exact q
 |on hx D=>
  refine(G d b _ hx λA e=>by cases e).mono λe J q=>?_
  cases e with
  |normal=>
   obtain⟨L,b',e,E⟩:=q;cases e;exact⟨_,Nat.lt_succ_self _,_,E,_,b',rfl,D⟩
  |_=>exact q
theorem YX(d:C.std)(i:Nat){l:List α}(hi:h[i]? =lW (.row ver e T l))(ht:Eh i ver (.bs T l) t=t')(hh:fzH i ver (.bs T l) h=h'):kS C ⟨t,h⟩ ⟨t',h'⟩:=by
 subst ht hh;exact Oi d i hi
end
instance Axe:Inhabited Ins:=⟨⟨0,0,0,0,0,0,[],0,0⟩⟩
instance Axd:Inhabited Block:=⟨⟨⟨#[]⟩,[]⟩⟩
class GA(t:List AV)(x:Operand)(r:outParam AV):Prop where
 e:evA t x=r
class PA(t:List AV)(d:Option Nat)(r:AV)(t':outParam (List AV)):Prop where
 e:Bl t d r=t'
instance Ayu{l:List AV}{v:eQ}:GA l (.const v) (.lit v):=⟨rfl⟩
instance Ayt{x0:AV}{l:List AV}:GA (x0::l) (.tmp 0) x0:=⟨rfl⟩
instance Ays{x0 x1:AV}{l:List AV}:GA (x0::x1::l) (.tmp 1) x1:=⟨rfl⟩
instance Ayr{x0 x1 x2:AV}{l:List AV}:GA (x0::x1::x2::l) (.tmp 2) x2:=⟨rfl⟩
instance Ayq{x0 x1 x2 x3:AV}{l:List AV}:GA (x0::x1::x2::x3::l) (.tmp 3) x3:=⟨rfl⟩
instance Ayp{x0 x1 x2 x3 x4:AV}{l:List AV}:GA (x0::x1::x2::x3::x4::l) (.tmp 4) x4:=⟨rfl⟩
instance Ayo{x0 x1 x2 x3 x4 x5:AV}{l:List AV}:GA (x0::x1::x2::x3::x4::x5::l) (.tmp 5) x5:=⟨rfl⟩
instance Ayn{x0 x1 x2 x3 x4 x5 x6:AV}{l:List AV}:GA (x0::x1::x2::x3::x4::x5::x6::l) (.tmp 6) x6:=⟨rfl⟩
instance Awv{x0 x1 x2 x3 x4 x5 x6 x7:AV}{l:List AV}:GA (x0::x1::x2::x3::x4::x5::x6::x7::l) (.tmp 7) x7:=⟨rfl⟩
instance Awu{x0 x1 x2 x3 x4 x5 x6 x7 r:AV}{l:List AV}{k:Nat}[GA l (.tmp k) r]:GA (x0::x1::x2::x3::x4::x5::x6::x7::l) (.tmp (k+8)) r:=⟨Ao GA.e⟩
instance Awt{x0 x1 x2 x3 x4 x5 x6 x7 x8 x9 x10 x11 x12 x13 x14 x15 x16 x17 x18 x19 x20 x21 x22 x23 x24 x25 x26 x27 x28 x29 x30 x31 r:AV}{l:List AV}{k:Nat}[GA l (.tmp k) r]:GA (x0::x1::x2::x3::x4::x5::x6::x7::x8::x9::x10::x11::x12::x13::x14::x15::x16::x17::x18::x19::x20::x21::x22::x23::x24::x25::x26::x27::x28::x29::x30::x31::l) (.tmp (k+32)) r:=⟨As GA.e⟩
instance Aws{l:List AV}{r:AV}:PA l lV r l:=⟨rfl⟩
instance Awr{x0 r:AV}{l:List AV}:PA (x0::l) (lW 0) r (r::l):=⟨rfl⟩
instance Awq{x0 x1 r:AV}{l:List AV}:PA (x0::x1::l) (lW 1) r (x0::r::l):=⟨rfl⟩
instance Awo{x0 x1 x2 r:AV}{l:List AV}:PA (x0::x1::x2::l) (lW 2) r (x0::x1::r::l):=⟨rfl⟩
instance Awn{x0 x1 x2 x3 r:AV}{l:List AV}:PA (x0::x1::x2::x3::l) (lW 3) r (x0::x1::x2::r::l):=⟨rfl⟩
instance Awm{x0 x1 x2 x3 x4 r:AV}{l:List AV}:PA (x0::x1::x2::x3::x4::l) (lW 4) r (x0::x1::x2::x3::r::l):=⟨rfl⟩
instance Awl{x0 x1 x2 x3 x4 x5 r:AV}{l:List AV}:PA (x0::x1::x2::x3::x4::x5::l) (lW 5) r (x0::x1::x2::x3::x4::r::l):=⟨rfl⟩
instance Awk{x0 x1 x2 x3 x4 x5 x6 r:AV}{l:List AV}:PA (x0::x1::x2::x3::x4::x5::x6::l) (lW 6) r (x0::x1::x2::x3::x4::x5::r::l):=⟨rfl⟩
instance Awj{x0 x1 x2 x3 x4 x5 x6 x7 r:AV}{l:List AV}:PA (x0::x1::x2::x3::x4::x5::x6::x7::l) (lW 7) r (x0::x1::x2::x3::x4::x5::x6::r::l):=⟨rfl⟩
instance Awi{x0 x1 x2 x3 x4 x5 x6 x7 r:AV}{l l':List AV}{k:Nat}[PA l (lW k) r l']:PA (x0::x1::x2::x3::x4::x5::x6::x7::l) (lW (k+8)) r (x0::x1::x2::x3::x4::x5::x6::x7::l'):=⟨Ap PA.e⟩
instance Awh{x0 x1 x2 x3 x4 x5 x6 x7 x8 x9 x10 x11 x12 x13 x14 x15 x16 x17 x18 x19 x20 x21 x22 x23 x24 x25 x26 x27 x28 x29 x30 x31 r:AV}{l l':List AV}{k:Nat}[PA l (lW k) r l']:PA (x0::x1::x2::x3::x4::x5::x6::x7::x8::x9::x10::x11::x12::x13::x14::x15::x16::x17::x18::x19::x20::x21::x22::x23::x24::x25::x26::x27::x28::x29::x30::x31::l) (lW (k+32)) r (x0::x1::x2::x3::x4::x5::x6::x7::x8::x9::x10::x11::x12::x13::x14::x15::x16::x17::x18::x19::x20::x21::x22::x23::x24::x25::x26::x27::x28::x29::x30::x31::l'):=⟨Ar PA.e⟩
class BI(op:BinOp)(k:IntKind)(a b:Int)(v:outParam Value):Prop where
 e:Ix op k a b=some v
instance Awg{k:bV}{a b:Int}:BI .add k a b (.int k (k.wrap (a+b))):=⟨rfl⟩
instance Awf{k:bV}{a b:Int}:BI .sub k a b (.int k (k.wrap (a - b))):=⟨rfl⟩
instance Awe{k:bV}{a b:Int}:BI .mul k a b (.int k (k.wrap (a * b))):=⟨rfl⟩
instance Awd{k:bV}{a b:Int}:BI .eql k a b (.bool (a ==b)):=⟨rfl⟩
instance Awc{k:bV}{a b:Int}:BI .neq k a b (.bool (a !=b)):=⟨rfl⟩
instance Awb{k:bV}{a b:Int}:BI .lss k a b (.bool (a7 (a < b))):=⟨rfl⟩
instance Awa{k:bV}{a b:Int}:BI .gtr k a b (.bool (a7 (a > b))):=⟨rfl⟩
instance Av9{k:bV}{a b:Int}:BI .geq k a b (.bool (a7 (a≥b))):=⟨rfl⟩
class HB(h:List ABlk)(i:Nat)(b:outParam ABlk):Prop where
 e:h[i]? =some b
instance Av8{b:jZ}{h:List jZ}:HB (b::h) 0 b:=⟨rfl⟩
instance Av7{b c:jZ}{h:List jZ}{i:Nat}[HB h i b]:HB (c::h) (i+1) b:=⟨by rw[iE];exact HB.e⟩
class LD(l:List AV)(k:Nat)(x:outParam AV):Prop where
 e:(l.drop k)[0]? =some x
instance Av6{x:AV}{l:List AV}:LD (x::l) 0 x:=⟨rfl⟩
instance Av5{x y:AV}{l:List AV}{k:Nat}[LD l k x]:LD (y::l) (k+1) x:=⟨by rw[gR];exact LD.e⟩
class TK(l:List AV)(k n:Nat)(r:outParam (List AV)):Prop where
 e:(l.drop k).take n=r/\r.length=n
instance Av4{l:List AV}:TK l 0 0 []:=⟨by simp⟩
instance Av3{x:AV}{l r:List AV}{n:Nat}[TK l 0 n r]:TK (x::l) 0 (n+1) (x::r):=⟨by have h:=TK.e (l:=l) (k:=0) (n:=n) (r:=r);rw[gU]at h;rw[gU,jW,h.1,iT,h.2];exact⟨rfl,rfl⟩⟩
class AD(a b:Nat)(c:outParam Nat):Prop where
 e:a+b=c
instance Av2{n:Nat}:AD 0 n n:=⟨lL n⟩
class EL{α:Type}(T:Ty α)(d:α)(l:outParam (List AV)):Prop where
 e:∀(h:List ABlk) (off:Nat),KY h (.bp T d off) (l.drop off)
instance Av1{α:Type}{T:Ty α}{d:α}{enc:α->List AV}[EncOf T enc]:EL T d (enc d):=⟨λ_ _=>KY.bp EncOf.ok⟩
class QI(P:Program)(C:Ctx)(t:List AV)(h:List ABlk)(op:Op)(r:outParam AV):Prop where
 e:∀(d:Option Nat) (ty:TypeId) (ps:String) (af:Array Go.Edge),AT P C t h ⟨d,op,ty,ps,af,none⟩ r
section
variable{P:cZ}{C:Ctx}{t t':List AV}{h h':List jZ}
instance Av0{x:cY}{r:AV}[GA t x r]:QI P C t h (.move x) r:=⟨λ_ _ _ _=>AT.move V GA.e⟩
instance Avz{x:cY}{r:AV}[GA t x r]:QI P C t h (.assign x) r:=⟨λ_ _ _ _=>AT.assign V GA.e⟩
instance Avy{op:BinOp}{j d:eP}{x z:cY}{k:bV}{a b:Int}{v:eQ}[GA t x (.lit (.int k a))][GA t z (.lit (.int k b))][BI op k a b v]:QI P C t h (.binOp op j x z d) (.lit v):=⟨λ_ _ _ _=>CQ V GA.e GA.e BI.e⟩
instance Avx{d:eP}{x:cY}{b:Bool}[GA t x (.lit (.bool b))]:QI P C t h (.unOp .not d x) (.lit (.bool (!b))):=⟨λ_ _ _ _=>Co V GA.e⟩
instance Avw{ty:eP}{x:cY}{n i off:Nat}{r:AV}{cells:List AV}[AG P ty aS n][GA t x (.ptr i off)][HB h i (.box cells)][LD cells off r]:QI P C t h (.load ty x) r:=⟨λ_ _ _ _=>Bf V GA.e HB.e LD.e⟩
instance Avv{ty:eP}{x:cY}{n i off:Nat}{cells r:List AV}[AG P ty aZ n][GA t x (.ptr i off)][HB h i (.box cells)][TK cells off n r]:QI P C t h (.load ty x) (.agg r):=⟨λ_ _ _ _=>Gc V AG.eq GA.e (KY.ptr HB.e) (TK.e (l:=cells) (k:=off) (n:=n) (r:=r)).1 (TK.e (l:=cells) (k:=off) (n:=n) (r:=r)).2⟩
instance Avu{ty:eP}{x:cY}{n off:Nat}{r:AV}{α:Type}{T:Ty α}{d:α}{cells:List AV}[AG P ty aS n][GA t x (.bp T d off)][EL T d cells][LD cells off r]:QI P C t h (.load ty x) r:=⟨λ_ _ _ _=>D9 V AG.eq GA.e (EL.e h off) LD.e⟩
instance Avt{ty:eP}{x:cY}{n off:Nat}{r:List AV}{α:Type}{T:Ty α}{d:α}{cells:List AV}[AG P ty aZ n][GA t x (.bp T d off)][EL T d cells][TK cells off n r]:QI P C t h (.load ty x) (.agg r):=⟨λ_ _ _ _=>Gc V AG.eq GA.e (EL.e h off) (TK.e (l:=cells) (k:=off) (n:=n) (r:=r)).1 (TK.e (l:=cells) (k:=off) (n:=n) (r:=r)).2⟩
instance Avs{st:eP}{x:cY}{j n m i off:Nat}{cells:List AV}[FO P st j n][GA t x (.ptr i off)][HB h i (.box cells)][AD off n m]:QI P C t h (.fieldAddr st x j) (.ptr i m):=⟨λ_ _ _ _=>by rw[<-AD.e (a:=off) (b:=n) (c:=m)];exact Br V GA.e HB.e⟩
instance Avr{st:eP}{x:cY}{j n m off:Nat}{α:Type}{T:Ty α}{d:α}[FO P st j n][GA t x (.bp T d off)][AD off n m]:QI P C t h (.fieldAddr st x j) (.bp T d m):=⟨λ_ _ _ _=>by rw[<-AD.e (a:=off) (b:=n) (c:=m)];exact Cq V GA.e⟩
instance Avq{ty:eP}{x:cY}{α:Type}{T:Ty α}{l:List α}[SL P ty][GA t x (.bs T l)]:QI P C t h (.call {callee:=.builtin .len,args:=#[x],argTypes:=#[ty]}) (.lit (.int .i64 (l.length:Int))):=⟨λ_ _ _ _=>AT.ln V GA.e⟩
instance Avp{ty:eP}{x:cY}{i ver:Nat}{e:eP}{α:Type}{T:Ty α}{l:List α}[SL P ty][GA t x (.own i ver)][HB h i (.row ver e T l)]:QI P C t h (.call {callee:=.builtin .len,args:=#[x],argTypes:=#[ty]}) (.lit (.int .i64 (l.length:Int))):=⟨λ_ _ _ _=>Gd V GA.e HB.e⟩
instance Avo{x:cY}{j:Nat}{xs:List AV}{r:AV}[GA t x (.tup xs)][LD xs j r]:QI P C t h (.extract x j) r:=⟨λ_ _ _ _=>AT.extract V GA.e (by rw[<-LD.e (l:=xs) (k:=j) (x:=r),iG,kY])⟩
instance Avn{c a b:cY}{q e:Bool}[GA t c (.lit (.bool q))][GA t a (.lit (.bool aZ))][GA t b (cond (!q) (.lit (.bool e)) (.lit undef))]:QI P C t h (.pick c a b) (.lit (.bool (q||e))):=⟨λ_ _ _ _=>Io V GA.e GA.e GA.e⟩
instance Avm{c a b:cY}{q e:Bool}[GA t c (.lit (.bool q))][GA t a (cond q (.lit (.bool e)) (.lit undef))][GA t b (.lit (.bool aS))]:QI P C t h (.pick c a b) (.lit (.bool (q&&e))):=⟨λ_ _ _ _=>DV V GA.e GA.e GA.e⟩
end
section
variable{P:cZ}{C:Ctx}{t t':List AV}{h h':List jZ}{ops:Array cT}{rest l:List cT}{d:Option Nat}{ty:eP}{ps:String}{af:Array bJ}{K:St->Prop}{L:List AV->Prop}{y:bG}{Q:bL->St->Prop}{id:Nat}
theorem wS(hx:CU P C l.toArray (λs=>Awp P C y Q s) l ⟨t,h⟩):Awp P C (.seq (.region id l.toArray aS) y) Q ⟨t,h⟩:=Ab λ_ j=>kE (Dt (λ_ e=>j _ e) hx)
theorem wSE(hx:CU P C l.toArray (Q .normal) l ⟨t,h⟩):Awp P C (.region id l.toArray aS) Q ⟨t,h⟩:=kE hx
theorem wN(hk:K s):CU P C ops K [] s:=hk
theorem qN(hk:L t):aQ P C ops h L [] t:=hk
theorem sT[QI P C t h op r][PA t d r t'](hk:CU P C ops K rest ⟨t',h⟩):CU P C ops K (⟨d,op,ty,ps,af,lV⟩::rest) ⟨t,h⟩:=sA (hg:=rfl) (hq:=QI.e d ty ps af) (ht:=PA.e) (hk:=hk)
theorem qT[QI P C t h op r][PA t d r t'](hk:aQ P C ops h L rest t'):aQ P C ops h L (⟨d,op,ty,ps,af,lV⟩::rest) t:=qA (hg:=rfl) (hq:=QI.e d ty ps af) (ht:=PA.e) (hk:=hk)
theorem sX{z:cY}[Inhabited α]{l:List α}(j:Cm l m=aZ)[GA t x (.bs T l)][GA t z (.lit (.int ik m))][ES P st n][PA t d (.bp T (ixD l m) 0) t'](hk:CU P C ops K rest ⟨t',h⟩)(u:T.size=n:=by exact V):CU P C ops K (⟨d,.indexAddr st x z,ty,ps,af,lV⟩::rest) ⟨t,h⟩:=sA (hg:=rfl) (hq:=Fe V GA.e GA.e u j) (ht:=PA.e) (hk:=hk)
theorem qX{z:cY}[Inhabited α]{l:List α}(j:Cm l m=aZ)[GA t x (.bs T l)][GA t z (.lit (.int ik m))][ES P st n][PA t d (.bp T (ixD l m) 0) t'](hk:aQ P C ops h L rest t')(u:T.size=n:=by exact V):aQ P C ops h L (⟨d,.indexAddr st x z,ty,ps,af,lV⟩::rest) t:=qA (hg:=rfl) (hq:=Fe V GA.e GA.e u j) (ht:=PA.e) (hk:=hk)
theorem sC{args:Array cY}(u:Fn P f xs r)[PA t d r t'](hk:CU P C ops K rest ⟨t',h⟩)(hx:args.toList.map (evA t)=xs:=by exact V)(hc:Bh xs=true:=by exact V)(j:AV.cl r=true:=by exact V):CU P C ops K (⟨d,.call {callee:=.value (.func f),args:=args,argTypes:=tys},ty,ps,af,lV⟩::rest) ⟨t,h⟩:=sA (hg:=rfl) (hq:=AH V hx u hc j) (ht:=PA.e) (hk:=hk)
theorem qC{args:Array cY}(u:Fn P f xs r)[PA t d r t'](hk:aQ P C ops h L rest t')(hx:args.toList.map (evA t)=xs:=by exact V)(hc:Bh xs=true:=by exact V)(j:AV.cl r=true:=by exact V):aQ P C ops h L (⟨d,.call {callee:=.value (.func f),args:=args,argTypes:=tys},ty,ps,af,lV⟩::rest) t:=qA (hg:=rfl) (hq:=AH V hx u hc j) (ht:=PA.e) (hk:=hk)
end
class GX(g:Bool)(t:List AV)(x:Operand)(r:outParam AV):Prop where
 e:g=true->evA t x=r
instance Avl{g:Bool}{t:List AV}{x:cY}{r:AV}[GA t x r]:GX g t x r:=⟨λ_=>GA.e⟩
instance Avk{g:Bool}{t:List AV}{x:cY}{r:AV}[GA t x (cond g r (.lit undef))]:GX g t x r:=⟨λh=>by have e:=GA.e (t:=t) (x:=x) (r:=cond g r (.lit undef));rw[e,h];rfl⟩
class QG(P:Program)(C:Ctx)(t:List AV)(h:List ABlk)(op:Op)(g:Bool)(r:outParam AV):Prop where
 e:∀(d:Option Nat) (ty:TypeId) (ps:String) (af:Array Go.Edge) (gd:Option (Nat×Bool)),g=true->AT P C t h ⟨d,op,ty,ps,af,gd⟩ r
section
variable{P:cZ}{C:Ctx}{t t':List AV}{h h':List jZ}{g:Bool}
instance Avj{x:cY}{r:AV}[GX g t x r]:QG P C t h (.move x) g r:=⟨λ_ _ _ _ _ hg=>AT.move V (GX.e hg)⟩
instance Avi{op:BinOp}{u j:eP}{x z:cY}{k:bV}{a b:Int}{v:eQ}[GX g t x (.lit (.int k a))][GX g t z (.lit (.int k b))][BI op k a b v]:QG P C t h (.binOp op u x z j) g (.lit v):=⟨λ_ _ _ _ _ hg=>CQ V (GX.e hg) (GX.e hg) BI.e⟩
instance Avh{j:eP}{x:cY}{b:Bool}[GX g t x (.lit (.bool b))]:QG P C t h (.unOp .not j x) g (.lit (.bool (!b))):=⟨λ_ _ _ _ _ hg=>Co V (GX.e hg)⟩
instance Avg{ty:eP}{x:cY}{n i off:Nat}{r:AV}{cells:List AV}[AG P ty aS n][GX g t x (.ptr i off)][HB h i (.box cells)][LD cells off r]:QG P C t h (.load ty x) g r:=⟨λ_ _ _ _ _ hg=>Bf V (GX.e hg) HB.e LD.e⟩
instance Avf{ty:eP}{x:cY}{n off:Nat}{r:AV}{α:Type}{T:Ty α}{d:α}{cells:List AV}[AG P ty aS n][GX g t x (.bp T d off)][EL T d cells][LD cells off r]:QG P C t h (.load ty x) g r:=⟨λ_ _ _ _ _ hg=>D9 V AG.eq (GX.e hg) (EL.e h off) LD.e⟩
instance Ave{st:eP}{x:cY}{j n m i off:Nat}{cells:List AV}[FO P st j n][GX g t x (.ptr i off)][HB h i (.box cells)][AD off n m]:QG P C t h (.fieldAddr st x j) g (.ptr i m):=⟨λ_ _ _ _ _ hg=>by rw[<-AD.e (a:=off) (b:=n) (c:=m)];exact Br V (GX.e hg) HB.e⟩
instance Avd{st:eP}{x:cY}{j n m off:Nat}{α:Type}{T:Ty α}{d:α}[FO P st j n][GX g t x (.bp T d off)][AD off n m]:QG P C t h (.fieldAddr st x j) g (.bp T d m):=⟨λ_ _ _ _ _ hg=>by rw[<-AD.e (a:=off) (b:=n) (c:=m)];exact Cq V (GX.e hg)⟩
instance Avc{ty:eP}{x:cY}{α:Type}{T:Ty α}{l:List α}[SL P ty][GX g t x (.bs T l)]:QG P C t h (.call {callee:=.builtin .len,args:=#[x],argTypes:=#[ty]}) g (.lit (.int .i64 (l.length:Int))):=⟨λ_ _ _ _ _ hg=>AT.ln V (GX.e hg)⟩
end
class HA(h:List ABlk)(b:ABlk)(i:outParam Nat)(h':outParam (List ABlk)):Prop where
 e:h.length=i/\h++[b]=h'
instance Avb{b:jZ}:HA [] b 0 [b]:=⟨rfl,rfl⟩
instance Ava{b j:jZ}:HA [j] b 1 [j,b]:=⟨rfl,rfl⟩
instance Au9{b u j:jZ}:HA [u,j] b 2 [u,j,b]:=⟨rfl,rfl⟩
instance Au8{b A u j:jZ}:HA [A,u,j] b 3 [A,u,j,b]:=⟨rfl,rfl⟩
instance Au7{b B A u j:jZ}:HA [B,A,u,j] b 4 [B,A,u,j,b]:=⟨rfl,rfl⟩
instance Au6{b D B A u j:jZ}:HA [D,B,A,u,j] b 5 [D,B,A,u,j,b]:=⟨rfl,rfl⟩
instance Au5{b F E D B A u j:jZ}:HA [F,E,D,B,A,u,j] b 7 [F,E,D,B,A,u,j,b]:=⟨rfl,rfl⟩
class HS(h:List ABlk)(i:Nat)(b:ABlk)(h':outParam (List ABlk)):Prop where
 e:h.set i b=h'
instance Au4{b c:jZ}{h:List jZ}:HS (c::h) 0 b (b::h):=⟨rfl⟩
instance Au3{b c:jZ}{h h':List jZ}{i:Nat}[HS h i b h']:HS (c::h) (i+1) b (c::h'):=⟨by rw[List.set_cons_succ,HS.e (h:=h) (i:=i) (b:=b) (h':=h')]⟩
class OneI(h:List ABlk)(x:AV):Prop where
 e:One h x
instance Au2{h:List jZ}{k:bV}{n:Int}:OneI h (.lit (.int k n)):=⟨One.lit V⟩
instance Au1{h:List jZ}{b:Bool}:OneI h (.lit (.bool b)):=⟨One.lit V⟩
instance Au0{h:List jZ}{b:ByteArray}:OneI h (.lit (.string b)):=⟨One.lit V⟩
instance Auz{h:List jZ}{a:Option a8}{n c:Nat}:OneI h (.lit (.slice a n c)):=⟨One.lit V⟩
instance Auy{h:List jZ}{α:Type}{T:Ty α}{l:List α}:OneI h (.bs T l):=⟨One.bs⟩
class AllO(h:List ABlk)(l:List AV):Prop where
 e:∀x∈l,One h x
instance Aux{h:List jZ}:AllO h []:=⟨λ_ hx=>by cases hx⟩
instance Auw{h:List jZ}{x:AV}{l:List AV}[OneI h x][AllO h l]:AllO h (x::l):=⟨λy hy=>by
 rcases jA.1 hy with rfl|hy
 ·exact OneI.e
 ·exact AllO.e (h:=h) (l:=l) y hy⟩
class PT(h:List ABlk)(y:AV)(new:outParam (List AV)):Prop where
 e:PW h y new
instance Auv{h:List jZ}{l:List AV}[AllO h l]:PT h (.agg l) l:=⟨PW.agg AllO.e⟩
instance Auu{h:List jZ}{x:AV}[OneI h x]:PT h x [x]:=⟨PW.one OneI.e⟩
class WR(cells:List AV)(off:Nat)(new:List AV)(r:outParam (List AV)):Prop where
 e:cells.take off++new++cells.drop (off+new.length)=r/\off+new.length<=cells.length
instance Aut{l:List AV}:WR l 0 [] l:=⟨by simp⟩
instance Aus{c x:AV}{l new r:List AV}[WR l 0 new r]:WR (c::l) 0 (x::new) (x::r):=⟨by
 have h:=WR.e (cells:=l) (off:=0) (new:=new) (r:=r);simp only[jY,jI,lL,iT,gL,gR]at h⊢;exact⟨by rw[h.1],by omega⟩⟩
instance Aur{c:AV}{l new r:List AV}{k:Nat}[WR l k new r]:WR (c::l) (k+1) new (c::r):=⟨by
 have h:=WR.e (cells:=l) (off:=k) (new:=new) (r:=r);rw[show k+1+new.length=(k+new.length)+1 by omega,jW,gR,gL,gL,h.1,iT];exact⟨rfl,by omega⟩⟩
class ML(zs:List Value)(l:outParam (List AV)):Prop where
 e:zs.map AV.lit=l
instance Ayv:ML [] []:=⟨rfl⟩
instance Auq{z:eQ}{zs:List eQ}{l:List AV}[ML zs l]:ML (z::zs) (.lit z::l):=⟨by rw[i6,ML.e (zs:=zs) (l:=l)]⟩
section
variable{P:cZ}{C:Ctx}{t t':List AV}{h h':List jZ}{ops:Array cT}{rest l l1 l2:List cT}{d:Option Nat}{ty:eP}{ps:String}{af:Array bJ}{gd:Option (Nat×Bool)}{K:St->Prop}{L:List AV->Prop}{y:bG}{Q:bL->St->Prop}{id j:Nat}{g:Bool}
theorem sGt(hg:gA ops t ⟨d,op,ty,ps,af,lW (j,aZ)⟩=lW (g ==aZ))[QG P C t h op g r][PA t d (cond g r (.lit undef)) t'](hk:CU P C ops K rest ⟨t',h⟩):CU P C ops K (⟨d,op,ty,ps,af,lW (j,aZ)⟩::rest) ⟨t,h⟩:=sG (hg:=Pm hg) (hq:=λhg=>QG.e d ty ps af (lW (j,aZ)) hg) (ht:=PA.e) (hk:=hk)
theorem sGf(hg:gA ops t ⟨d,op,ty,ps,af,lW (j,aS)⟩=lW (g ==aS))[QG P C t h op (!g) r][PA t d (cond (!g) r (.lit undef)) t'](hk:CU P C ops K rest ⟨t',h⟩):CU P C ops K (⟨d,op,ty,ps,af,lW (j,aS)⟩::rest) ⟨t,h⟩:=sG (hg:=Ak8 hg) (hq:=λhg=>QG.e d ty ps af (lW (j,aS)) hg) (ht:=PA.e) (hk:=hk)
theorem qGt(hg:gA ops t ⟨d,op,ty,ps,af,lW (j,aZ)⟩=lW (g ==aZ))[QG P C t h op g r][PA t d (cond g r (.lit undef)) t'](hk:aQ P C ops h L rest t'):aQ P C ops h L (⟨d,op,ty,ps,af,lW (j,aZ)⟩::rest) t:=qG (hg:=Pm hg) (hq:=λhg=>QG.e d ty ps af (lW (j,aZ)) hg) (ht:=PA.e) (hk:=hk)
theorem qGf(hg:gA ops t ⟨d,op,ty,ps,af,lW (j,aS)⟩=lW (g ==aS))[QG P C t h op (!g) r][PA t d (cond (!g) r (.lit undef)) t'](hk:aQ P C ops h L rest t'):aQ P C ops h L (⟨d,op,ty,ps,af,lW (j,aS)⟩::rest) t:=qG (hg:=Ak8 hg) (hq:=λhg=>QG.e d ty ps af (lW (j,aS)) hg) (ht:=PA.e) (hk:=hk)
theorem Aor{z:cY}[Inhabited α]{l:List α}(hg:gA ops t ⟨d,.indexAddr st x z,ty,ps,af,lW (j,aZ)⟩=lW (g ==aZ))(u:(!g||Cm l m)=aZ)[GX g t x (.bs T l)][GX g t z (.lit (.int ik m))][ES P st n][PA t d (cond g (.bp T (ixD l m) 0) (.lit undef)) t'](hk:CU P C ops K rest ⟨t',h⟩)(A:T.size=n:=by exact V):CU P C ops K (⟨d,.indexAddr st x z,ty,ps,af,lW (j,aZ)⟩::rest) ⟨t,h⟩:=sG (hg:=Pm hg) (hq:=λhg=>Fe V (GX.e hg) (GX.e hg) A (Uq u hg)) (ht:=PA.e) (hk:=hk)
theorem Arp{z:cY}[Inhabited α]{l:List α}(hg:gA ops t ⟨d,.indexAddr st x z,ty,ps,af,lW (j,aZ)⟩=lW (g ==aZ))(u:(!g||Cm l m)=aZ)[GX g t x (.bs T l)][GX g t z (.lit (.int ik m))][ES P st n][PA t d (cond g (.bp T (ixD l m) 0) (.lit undef)) t'](hk:aQ P C ops h L rest t')(A:T.size=n:=by exact V):aQ P C ops h L (⟨d,.indexAddr st x z,ty,ps,af,lW (j,aZ)⟩::rest) t:=qG (hg:=Pm hg) (hq:=λhg=>Fe V (GX.e hg) (GX.e hg) A (Uq u hg)) (ht:=PA.e) (hk:=hk)
theorem sB{u:eP}{cells:List AV}[GA t x (.agg cells)][HA h (.box cells) i h'][PA t d (.ptr i 0) t'](hk:CU P C ops K rest ⟨t',h'⟩):CU P C ops K (⟨d,.box u x,ty,ps,af,lV⟩::rest) ⟨t,h⟩:=AC V (AOp.boxI i (HA.e (b:=.box cells) (h':=h')).1 V (by rw[GA.e (t:=t) (x:=x) (r:=.agg cells)];exact Vx.agg) (by rw[(HA.e (h:=h) (b:=.box cells) (i:=i) (h':=h')).2,PA.e (t:=t) (d:=d) (r:=.ptr i 0) (t':=t')];exact hk))
theorem sA0{u:eP}{cells:List AV}[ZC P u zs][ML zs cells][HA h (.box cells) i h'][PA t d (.ptr i 0) t'](hk:CU P C ops K rest ⟨t',h'⟩):CU P C ops K (⟨d,.alloc u,ty,ps,af,lV⟩::rest) ⟨t,h⟩:=AC V (ST i (HA.e (b:=.box cells) (h':=h')).1 V (by rw[ML.e (zs:=zs) (l:=cells),(HA.e (h:=h) (b:=.box cells) (i:=i) (h':=h')).2,PA.e (t:=t) (d:=d) (r:=.ptr i 0) (t':=t')];exact hk))
theorem sW{u:eP}{z:cY}{off:Nat}{cells new r:List AV}{v:AV}[SZ P u n][GA t x (.ptr i off)][HB h i (.box cells)][GA t z v][PT h v new][WR cells off new r][HS h i (.box r) h'][PA t d (.lit undef) t'](hk:CU P C ops K rest ⟨t',h'⟩)(A:n=new.length:=by exact V):CU P C ops K (⟨d,.store u x z,ty,ps,af,lV⟩::rest) ⟨t,h⟩:=
 AC V (CR V GA.e HB.e (by rw[GA.e (t:=t) (x:=z) (r:=v)];exact PT.e) A (WR.e (cells:=cells) (off:=off) (new:=new) (r:=r)).2 (by rw[(WR.e (cells:=cells) (off:=off) (new:=new) (r:=r)).1,HS.e (h:=h) (i:=i) (b:=.box r) (h':=h'),PA.e (t:=t) (d:=d) (r:=.lit undef) (t':=t')];exact hk))
theorem sP{at_:eP}{z:cY}{bytes:Nat}{l l2:List α}(A:Fj (l.length+l2.length) bytes=aZ)[GA t x (.own i ver)][HB h i (.row ver e T l)][GA t z (.bs T l2)][RT P at_ e n bytes][EncOf T enc][HS h i (.row (ver+1) e T (l++l2)) h'][PA t d (.own i (ver+1)) t'](hk:CU P C ops K rest ⟨t',h'⟩)(u:T.size=n:=by exact V):CU P C ops K (⟨d,.call {callee:=.builtin .append,args:=#[x,z],argTypes:=#[at_,at_]},ty,ps,af,lV⟩::rest) ⟨t,h⟩:=AC V (J7 V GA.e HB.e GA.e u A (by rw[HS.e (h:=h) (i:=i) (b:=.row (ver+1) e T (l++l2)) (h':=h'),PA.e (t:=t) (d:=d) (r:=.own i (ver+1)) (t':=t')];exact hk))
theorem dS(n:Nat)(u:P.follows .mixedOrders=true:=by kernel_rfl)(B:Acd l.toArray n=true:=by kernel_rfl)(h1:l.take n=l1:=by(simp only[zad];exact V))(h2:l.drop n=l2:=by(simp only[zad];exact V))
 (hq:aQ P C l.toArray h (λt=>CU P C l.toArray (λs=>Awp P C y Q s) l2 ⟨t,h⟩) l1 t):Awp P C (.seq (.region id l.toArray aZ) y) Q ⟨t,h⟩:=by
 subst h1 h2;exact Ab λ_ A=>Ok n u B (Xj (λ_ hx=>Dt (λs e=>A _ e) hx) hq)
theorem dSE(n:Nat)(u:P.follows .mixedOrders=true:=by kernel_rfl)(A:Acd l.toArray n=true:=by kernel_rfl)(h1:l.take n=l1:=by(simp only[zad];exact V))(h2:l.drop n=l2:=by(simp only[zad];exact V))
 (hq:aQ P C l.toArray h (λt=>CU P C l.toArray (Q .normal) l2 ⟨t,h⟩) l1 t):Awp P C (.region id l.toArray aZ) Q ⟨t,h⟩:=by
 subst h1 h2;exact Ok n u A hq
end
open Go.Shelf
attribute [local go_sem] cU
theorem Xa(F:Fence)(n:Nat)(h78:F.fn 152)(hro:F.round=lV)(A:Option a8)(m c:Nat)(w:eV):
 bF F n dI 152 #[.slice A m c] w λe w'=>e= .returned (.func (.func 166) #[] #[.pointer (lW ⟨w.heap.size,0,lV⟩)])/\w'=w.alloc (.cells #[.slice A m c] 48):=by
 refine fE Tryz.func152 V h78 ?_ hro;simp only[Tryz.ntmps152,Nat.reduceAdd,Nat.reduceSub,zae]
 gi_wp2
 go_ret
 exact⟨rfl,rfl⟩
attribute [local go_sem] cU
theorem Xb(F:Fence)(n:Nat)(h105:F.fn 166)(hro:F.round=lV)(hn:1<=n)(l:Nat)(ds:List Ins)(A:Option a8)(c Bb:Nat)(S0 S:Nat->Prop)(hS0:∀k,S0 k->S k)(W0 W:eV)(J:Nat->eV->Prop)
 (hW:KS S W0 W)
 (hY:∀(k j:Nat) (es:List eQ) (d:Ins) (W:eV),k+j+1=ds.length->ds[j]? =lW d->Ei.RS W0 S0 es d->J k W->YieldAt F (n - 1) dI l #[.int .i64 (j:Int),.agg es.toArray] W λe W'=>e= .returned (.bool aZ)/\J (k+1) W'/\KS S W W')
 (hB:S Bb)(hB0:W0.cell? ⟨Bb,0,lV⟩=lW (.slice A ds.length c))(hR:Ei.slice.RS W0 S0 [.slice A ds.length c] ds)(hl:ds.length<=2097152)(h0:J 0 W):
 bF F n dI 166 #[.func (.yield l) #[] #[],.pointer (lW ⟨Bb,0,lV⟩)] W λe W'=>(∃v,e= .returned v)/\J ds.length W':=by
 have HR:=cD hR;have HY:=cD hY;have H0:=cD h0;have x1:bX.wrap ((ds.length:Int) - 1)=(ds.length:Int) - 1:=cA _ (by omega);have hb0:=hW.cell hB hB0;clear hR hY h0;refine fE Tryz.func166 V h105 ?_ hro;simp only[Tryz.ntmps166,Nat.reduceAdd,Nat.reduceSub,zae]
 gi_wp2
 gi_loopw [3] (λi wr=>∃m:Nat,m<=ds.length/\i= .int .i64 ((m:Int) - 1)/\J (ds.length - m) wr/\KS S W wr) (λi _=>(eL i+1).toNat)
 case atStart=>exact⟨ds.length,lB _,rfl,by rw[lK];exact H0.out,KS.refl⟩
 case round=>
  obtain⟨m,hm,rfl,hJ,hK⟩:=hrel;rcases m with _|j
  ·have d0:a7 ((0:Int)<=((0:Nat):Int) - 1)=aS:=decide_eq_false (by omega)
   gi_wp2
   go_end0
   exact⟨⟨_,rfl⟩,hJ⟩
  ·have ej:((j+1:Nat):Int) - 1=(j:Int):=by omega
   rw[ej];have d0:a7 ((0:Int)<=(j:Int))=aZ:=decide_eq_true (by omega);have x2:bX.wrap ((j:Int) - 1)=(j:Int) - 1:=cA _ (by omega);obtain⟨x,hxk⟩:∃x,ds[j]? =lW x:=⟨_,iH (by omega)⟩
   obtain⟨ib,io,Aa,ca,rfl,hib,hat⟩:=Af5 HR.out hxk;replace hib:=hS0 _ hib;have hK0:=hW.trans hK;have e0:=hK0.cell (a:=⟨ib,_,lV⟩) hib hat.c0;have e1:=hK0.cell (a:=⟨ib,_,lV⟩) hib hat.c1;have e2:=hK0.cell (a:=⟨ib,_,lV⟩) hib hat.c2;have e3:=hK0.cell (a:=⟨ib,_,lV⟩) hib hat.c3;have e4:=hK0.cell (a:=⟨ib,_,lV⟩) hib hat.c4;have e5:=hK0.cell (a:=⟨ib,_,lV⟩) hib hat.c5;have e6:=hK0.cell (a:=⟨ib,_,lV⟩) hib hat.c6;have e7:=hK0.cell (a:=⟨ib,_,lV⟩) hib hat.c7;have e8:=hK0.cell (a:=⟨ib,_,lV⟩) hib hat.c8;have eb:=hK0.cell hB hB0;have hjl:(j:Int) < (ds.length:Int):=by omega
   obtain⟨fn,tmps,assign,body,hy,hR⟩:=HY.out (ds.length - (j+1)) j [.int .u8 x.op,.int .i64 x.d,.int .i64 x.a,.int .i64 x.b,.int .u32 x.n,.int .i64 x.f,.slice Aa x.args.length ca,.int .i64 x.l1,.int .i64 x.l2] x wr (by omega) hxk (IL.2 ⟨Aa,ca,hat.raw⟩) hJ;clear hat hxk
   gi_wp2
   refine hR.mono ?_;rintro e W3 ⟨rfl,hJ3,hk3⟩
   gi_wp2
   go_roundw
   case rel=>
    refine⟨j,by omega,rfl,?_,hK.trans hk3⟩;rw[show ds.length - (j+1)+1=ds.length - j by omega]at hJ3;exact hJ3
   case measure=>simp[eL]
def bkR(ds:List Ins)(p:Nat×Option a8×Nat):Res:=⟨[],λg=>g=p.1,λw S=>w.heap[p.1]? =lW (.cells #[.slice p.2.1 ds.length p.2.2] 48 (0,0))/\Ei.slice.RS w S [.slice p.2.1 ds.length p.2.2] ds,
 λh hk A u=>⟨(hk _ V).trans h.1,Ei.slice.keepS h.2 A u⟩⟩
def bkF(p:Nat×Option a8×Nat):eQ:=.func (.func 166) #[] #[.pointer (lW ⟨p.1,0,lV⟩)]
theorem Nu(ds:List Ins):M3 dI 152 [.bs Ei ds] (bkR ds) bkF:=by
 refine⟨by kernel_rfl,λw S vs E D=>?_⟩;unfold Ae kD Ae at D;obtain⟨v,_,rfl,B,rfl⟩:=D;obtain⟨A,c,e,hx⟩:=id B;simp only[List.cons.injEq,and_true]at e;subst e;refine((fG (n:=4)).1 (Xa bM 4 trivial V A ds.length c w)).mono ?_;rintro e w' ⟨rfl,rfl⟩;have u:Below w.heap.size w (w.alloc (.cells #[.slice A ds.length c] 48)):=(eK _ _).alloc (lB _) _;exact⟨_,rfl,⟨u.os,u.tape,u.output,u.size,λk hk _=>u.block k hk⟩,(w.heap.size,A,c),rfl,⟨fM w _,Ei.slice.keepS B (λk hk=>u.block k (E k hk)) λ_ h=>h⟩,λk hk=>by
  have hk:k=w.heap.size:=hk;subst hk;exact⟨.inr (lB _),by simp⟩⟩
def bkE(ds:List Ins)(k:Nat):List AV:=match ds[ds.length - 1 - k]? with
 |some d=>[.lit (.int .i64 ((ds.length - 1 - k:Nat):Int)),.agg (BV d)]
 |none=>(A2 [])
theorem Ma(ds:List Ins)(D:ds.length<=2097152)(p:Nat×Option a8×Nat)(w:eV)(S:Nat->Prop)(U:∀k,S k->k < w.heap.size)(X:∀k,(bkR ds p).F k->k < w.heap.size)(B:(bkR ds p).R w S):
 Arl dI 166 #[.pointer (lW ⟨p.1,0,lV⟩)] (λk=>S k\/(bkR ds p).F k) w (λk vs=>Ae w S [] ψ0 (bkE ds k) vs) ds.length:=λl J W I H h0=>by
 refine Xb bM 3 trivial V (by decide) l ds p.2.1 p.2.2 p.1 S (λk=>S k\/(bkR ds p).F k) (λ_ h=>.inl h) w W J I ?_ (.inr V) (Oe (cs:=[_]) B.1 V) B.2 D h0;intro k j A d O E G u N;refine H k [.int .i64 (j:Int),.agg A.toArray] O (by omega) ?_ N;have F:ds.length - 1 - k=j:=by omega
 show Ae w S [] ψ0 (bkE ds k) _;unfold bkE;rw[F,G];unfold Ae;refine⟨_,_,rfl,by unfold kD;rfl,?_⟩;unfold Ae;refine⟨_,_,rfl,?_,by unfold Ae;rfl⟩;unfold kD;exact⟨A,rfl,EncOf.ok (T:=Ei) w S [] ψ0 A d u⟩
theorem Aoa(ds:List Ins)(k:Nat):Bh (bkE ds k)=aZ:=by
 unfold bkE;split <;> rfl
theorem Ahq(ds:List Ins)(k:Nat):(bkE ds k).length=2:=by
 unfold bkE;split <;> rfl
end Mu
section
namespace Go.Proofs
open Go.Shelf
def Tryz.keysM_ren:eO:=⟨fun|7=>165|10=>181|n=>n,fun|23=>156|26=>3|3=>3|28=>90|0=>0|27=>89|33=>50|4=>4|n=>n,fun|n=>n⟩
theorem Tryz.keysM:Go.Proofs.SlLaysZI.n7 dI Tryz.keysM_ren:={
 mixed:=by kernel_rfl
 f7:=⟨Tryz.f165.name,by decide,Tryz.func165.trans (congrArg lW (by kernel_rfl))⟩
 f10:=⟨Tryz.f181.name,by decide,dA.trans (congrArg lW (by kernel_rfl))⟩
 t0:=dP
 a0:=dC
 z0:=dJ
 v0:=dW
 t4:=dU
 a4:=dG
 z4:=dN
 v4:=eA
 t23:=dQ
 a23:=dD
 z23:=dK
 v23:=dX
 t26:=dT
 a26:=dF
 z26:=dM
 v26:=dZ
 t27:=Tryz.underlying89
 a27:=Tryz.isAgg89
 z27:=Tryz.sizeOf89
 v27:=Tryz.zeroValue89
 t28:=dV
 a28:=dH
 z28:=dO
 v28:=eB
 t33:=Tryz.underlying50
 a33:=Tryz.isAgg50
 z33:=Tryz.sizeOf50
 v33:=Tryz.zeroValue50}
def Tryz.sortedM_ren:eO:=⟨fun|6=>56|8=>96|9=>62|11=>117|13=>99|12=>98|23=>126|24=>127|14=>118|15=>119|16=>120|17=>121|18=>122|19=>123|20=>73|21=>124|22=>125|25=>145|26=>146|27=>147|28=>148|29=>149|30=>107|31=>163|n=>n,fun|26=>3|28=>90|24=>27|0=>0|3=>3|37=>104|48=>45|50=>151|4=>4|40=>144|39=>143|45=>68|5=>5|9=>9|51=>166|55=>170|57=>185|58=>186|33=>50|n=>n,fun|n=>n⟩
theorem Tryz.sortedM:Go.Proofs.SlLaysZI.n6 dI Tryz.sortedM_ren:={
 mixed:=by kernel_rfl
 f6:=⟨Tryz.f56.name,by decide,Tryz.func56.trans (congrArg lW (by kernel_rfl))⟩
 f8:=⟨Tryz.f96.name,by decide,Tryz.func96.trans (congrArg lW (by kernel_rfl))⟩
 f11:=⟨Tryz.f117.name,by decide,Tryz.func117.trans (congrArg lW (by kernel_rfl))⟩
 t0:=dP
 a0:=dC
 z0:=dJ
 v0:=dW
 t24:=dR
 a24:=dE
 z24:=dL
 v24:=dY
 t26:=dT
 a26:=dF
 z26:=dM
 v26:=dZ
 t28:=dV
 a28:=dH
 z28:=dO
 v28:=eB
 i26:=by kernel_rfl}
def Tryz.sortM_ren:eO:=⟨fun|5=>62|8=>99|7=>98|19=>126|20=>127|10=>118|11=>119|12=>120|13=>121|14=>122|15=>123|16=>73|17=>124|18=>125|30=>145|31=>146|32=>147|33=>148|34=>149|35=>107|40=>163|n=>n,fun|23=>27|25=>3|3=>3|32=>104|22=>27|0=>0|44=>45|46=>151|4=>4|36=>144|35=>143|41=>68|5=>5|9=>9|53=>166|57=>170|63=>185|64=>186|n=>n,fun|n=>n⟩
theorem Tryz.sortM:Go.Proofs.SlLaysM.n5 dI Tryz.sortM_ren:={
 mixed:=by kernel_rfl
 f5:=⟨Tryz.f62.name,by decide,dB.trans (congrArg lW (by kernel_rfl))⟩
 f7:=⟨Tryz.f98.name,by decide,Tryz.func98.trans (congrArg lW (by kernel_rfl))⟩
 f8:=Tryz.func99.trans (congrArg lW (by kernel_rfl))
 f10:=⟨Tryz.f118.name,by decide,Tryz.func118.trans (congrArg lW (by kernel_rfl))⟩
 f11:=⟨Tryz.f119.name,by decide,Tryz.func119.trans (congrArg lW (by kernel_rfl))⟩
 f12:=⟨Tryz.f120.name,by decide,Tryz.func120.trans (congrArg lW (by kernel_rfl))⟩
 f13:=⟨Tryz.f121.name,by decide,Tryz.func121.trans (congrArg lW (by kernel_rfl))⟩
 f14:=⟨Tryz.f122.name,by decide,Tryz.func122.trans (congrArg lW (by kernel_rfl))⟩
 f15:=⟨Tryz.f123.name,by decide,Tryz.func123.trans (congrArg lW (by kernel_rfl))⟩
 f16:=⟨Tryz.f73.name,by decide,Tryz.func73.trans (congrArg lW (by kernel_rfl))⟩
 f17:=⟨Tryz.f124.name,by decide,Tryz.func124.trans (congrArg lW (by kernel_rfl))⟩
 f18:=⟨Tryz.f125.name,by decide,Tryz.func125.trans (congrArg lW (by kernel_rfl))⟩
 f19:=Tryz.func126.trans (congrArg lW (by kernel_rfl))
 f20:=Tryz.func127.trans (congrArg lW (by kernel_rfl))
 f30:=⟨Tryz.f145.name,by decide,Tryz.func145.trans (congrArg lW (by kernel_rfl))⟩
 f31:=Tryz.func146.trans (congrArg lW (by kernel_rfl))
 f32:=Tryz.func147.trans (congrArg lW (by kernel_rfl))
 f33:=⟨Tryz.f148.name,by decide,Tryz.func148.trans (congrArg lW (by kernel_rfl))⟩
 f34:=⟨Tryz.f149.name,by decide,Tryz.func149.trans (congrArg lW (by kernel_rfl))⟩
 f35:=⟨Tryz.f107.name,by decide,Tryz.func107.trans (congrArg lW (by kernel_rfl))⟩
 f40:=⟨Tryz.f163.name,by decide,Tryz.func163.trans (congrArg lW (by kernel_rfl))⟩
 t0:=dP
 a0:=dC
 z0:=dJ
 v0:=dW
 t3:=dT
 a3:=dF
 z3:=dM
 v3:=dZ
 t4:=dU
 a4:=dG
 z4:=dN
 v4:=eA
 t5:=Tryz.underlying5
 a5:=Tryz.isAgg5
 z5:=Tryz.sizeOf5
 v5:=Tryz.zeroValue5
 t9:=Tryz.underlying9
 a9:=Tryz.isAgg9
 z9:=Tryz.sizeOf9
 v9:=Tryz.zeroValue9
 t22:=dR
 a22:=dE
 z22:=dL
 v22:=dY
 t23:=dR
 a23:=dE
 z23:=dL
 v23:=dY
 t25:=dT
 a25:=dF
 z25:=dM
 v25:=dZ
 t32:=Tryz.underlying104
 a32:=Tryz.isAgg104
 z32:=Tryz.sizeOf104
 v32:=Tryz.zeroValue104
 t35:=Tryz.underlying143
 a35:=Tryz.isAgg143
 z35:=Tryz.sizeOf143
 v35:=Tryz.zeroValue143
 t36:=Tryz.underlying144
 a36:=Tryz.isAgg144
 z36:=Tryz.sizeOf144
 v36:=Tryz.zeroValue144
 t41:=Tryz.underlying68
 a41:=Tryz.isAgg68
 z41:=Tryz.sizeOf68
 v41:=Tryz.zeroValue68
 t44:=Tryz.underlying45
 a44:=Tryz.isAgg45
 z44:=Tryz.sizeOf45
 v44:=Tryz.zeroValue45
 t46:=Tryz.underlying151
 a46:=Tryz.isAgg151
 z46:=Tryz.sizeOf151
 v46:=Tryz.zeroValue151
 t53:=Tryz.underlying166
 a53:=Tryz.isAgg166
 z53:=Tryz.sizeOf166
 v53:=Tryz.zeroValue166
 t57:=Tryz.underlying170
 a57:=Tryz.isAgg170
 z57:=Tryz.sizeOf170
 v57:=Tryz.zeroValue170
 t63:=Tryz.underlying185
 a63:=Tryz.isAgg185
 z63:=Tryz.sizeOf185
 v63:=Tryz.zeroValue185
 t64:=Tryz.underlying186
 a64:=Tryz.isAgg186
 z64:=Tryz.sizeOf186
 v64:=Tryz.zeroValue186}
def Tryz.cloneM_ren:eO:=⟨fun|5=>150|7=>164|n=>n,fun|23=>156|25=>3|3=>3|4=>4|20=>20|n=>n,fun|n=>n⟩
theorem Tryz.cloneM:Go.Proofs.SlLaysW.n5 dI Tryz.cloneM_ren:={
 mixed:=by kernel_rfl
 f5:=⟨Tryz.f150.name,by decide,Tryz.func150.trans (congrArg lW (by kernel_rfl))⟩
 f7:=Tryz.func164.trans (congrArg lW (by kernel_rfl))
 t4:=dU
 a4:=dG
 z4:=dN
 v4:=eA
 t20:=Tryz.underlying20
 a20:=Tryz.isAgg20
 z20:=Tryz.sizeOf20
 v20:=Tryz.zeroValue20
 t23:=dQ
 a23:=dD
 z23:=dK
 v23:=dX}
def Tryz.copyM_ren:eO:=⟨fun|5=>155|n=>n,fun|23=>156|24=>156|26=>3|27=>3|0=>0|4=>4|n=>n,fun|n=>n⟩
theorem Tryz.copyM:Go.Proofs.SlLaysX.n5 dI Tryz.copyM_ren:={
 mixed:=by kernel_rfl
 f5:=⟨Tryz.f155.name,by decide,Tryz.func155.trans (congrArg lW (by kernel_rfl))⟩
 t0:=dP
 a0:=dC
 z0:=dJ
 v0:=dW
 t4:=dU
 a4:=dG
 z4:=dN
 v4:=eA
 t23:=dQ
 a23:=dD
 z23:=dK
 v23:=dX
 t24:=dQ
 a24:=dD
 z24:=dK
 v24:=dX
 a26:=dF
 z26:=dM
 a27:=dF
 z27:=dM}
end Go.Proofs
end
namespace Mu
open Go Go.RowKit Go.Proofs Go.Maps Go.Sort Go.Shelf
variable{D:bI Unit}{R:List Int}{S:Int->Bool}{b:Nat}{l:List Int}{n:Nat}{w:eV}
def Ch(x:Int):Prop:=(cE .i64 x).wf=aZ
def IH(w:eV)(b:Nat)(S:Int->Bool):Prop:=∃(D:bI Unit),w.ownsMap dI 3 (fT dI 3) b (cO D) D/\∀x,Ch x->has D (.int .i64 x)=S x
theorem Qj:Keyed dI 3:=int_keyed dT
theorem LC(h:w.ownsMap dI 3 (fT dI 3) b n D):w.ownsMap dI 3 (fT dI 3) b (cO D) D:=by
 obtain⟨A,u,h1,h2,B,rfl⟩:=h;refine⟨A,u,h1,h2,?_,rfl⟩;rw[size_eq,length_read];exact lB _
theorem IH.lt(h:IH w b S):b < w.heap.size:=by
 obtain⟨D,h1,_⟩:=h;exact h1.lt
theorem IH.keep{w':eV}(h:IH w b S)(hk:w'.heap[b]? =w.heap[b]?):IH w' b S:=by
 obtain⟨D,⟨B,u,h1,h2⟩,A⟩:=h;exact⟨D,⟨B,u,hk.trans h1,h2⟩,A⟩
def Asc(l:List Int):Prop:=l.Pairwise (· < ·)
theorem Asc.nodup(h:Asc l):l.Nodup:=h.imp (λ{a b} hab=>by omega)
theorem Asc.filter(h:Asc l)(S:Int->Bool):Asc (l.filter S):=List.Pairwise.filter _ h
theorem GN{m:List Int}(A:Asc l)(u:Asc m)(h:∀x,x∈l↔x∈m):l=m:=by
 have B:l.Perm m:=(jO A.nodup u.nodup).2 h;exact List.Perm.eq_of_pairwise (le:=λa b=>a < b) (λa b _ _ h1 h2=>by omega) A u B
theorem Og(h:l.Nodup):Asc (l.mergeSort λx y=>decide (x<=y)):=by
 have u:∀a b c:Int,leI a b=aZ->leI b c=aZ->leI a c=aZ:=λa b c h1 h2=>by simp only[leI,decide_eq_true_eq]at *;exact Int.le_trans h1 h2
 have to:∀a b:Int,(leI a b||leI b a)=aZ:=λa b=>by simp only[leI,zat];exact Int.le_total a b
 have h1:=List.pairwise_mergeSort u to l;have h2:(l.mergeSort leI).Nodup:=(jH l leI).nodup_iff.2 h;refine(List.Pairwise.and h1 h2).imp λ{a b} hab=>?_
 obtain⟨A,B⟩:=hab;simp only[leI,decide_eq_true_eq]at A;omega
theorem Apn(h:w.ownsMap dI 3 (fT dI 3) b n D):(fO D).Nodup/\(∀x,x∈fO D↔Ch x/\has D (.int .i64 x)=aZ)/\(fO D).length=cO D:=by
 obtain⟨B,rfl,F,_⟩:=h.entries Qj;obtain⟨I,H,G⟩:=h.keysOf;obtain rfl:B=I:=by simpa using H
 have hk:∀p∈B,∃x,p.1= .int .i64 x/\Ch x:=λp O=>by
  obtain⟨v,N⟩:=G p O;obtain⟨x,_,hx,E⟩:=cN dT N;exact⟨x,hx,E⟩
 refine⟨?_,λx=>?_,by simp[fO,size_eq]⟩
 ·show(B.map λp=>fP p.1).Nodup;refine jN.2 (F.imp_of_mem λ{p q} u hq' hne e=>hne ?_);obtain⟨a,A,_⟩:=hk p u;obtain⟨b,U,_⟩:=hk q hq';rw[A,U]at e⊢;exact congrArg _ e
 ·rw[cL,gJ];show x∈B.map (λp=>fP p.1)↔_;rw[jC];constructor
  ·rintro⟨p,u,rfl⟩;obtain⟨a,A,E⟩:=hk p u;rw[A];exact⟨E,p,u,by rw[A];simp[cF,fP]⟩
  ·rintro⟨_,p,u,J⟩;obtain⟨a,A,_⟩:=hk p u;rw[A]at J;exact⟨p,u,by rw[A];simpa[cF,fP]using J⟩
theorem V0(h:w.ownsMap dI 3 (fT dI 3) b n D)(E:∀x,Ch x->has D (.int .i64 x)=S x)(G:Asc R)(A:∀x∈R,Ch x)
 (u:∀x,Ch x->S x=aZ->x∈R):(fO D).Perm (R.filter S)/\cO D=(R.filter S).length:=by
 obtain⟨h1,h2,H⟩:=Apn h;have B:(fO D).Perm (R.filter S):=(jO h1 (G.filter S).nodup).2 λx=>by
  rw[h2,jB];constructor
  ·rintro⟨hx,hh⟩;rw[E x hx]at hh;exact⟨u x hx hh,hh⟩
  ·rintro⟨hx,F⟩;exact⟨A x hx,by rw[E x (A x hx)];exact F⟩
 exact⟨B,by rw[<-H];exact B.length_eq⟩
theorem Adk(m:Nat):AnyZI.SortsIn dI Tryz.sortedM_ren bM m:=
 ⟨λB off cap ss W E u A=>fG.2 (AnyM.slices_Sort_int Tryz.sortM B off cap ss W E u A),
  λp cap W=>fG.2 (AnyM.slices_Sort_int_none Tryz.sortM p cap W)⟩
theorem Ajf(w:eV)(h:IH w b S)(hR:Asc R)(hw:∀x∈R,Ch x)(hin:∀x,Ch x->S x=aZ->x∈R)(hl:R.length<=2147483648):
 bE dI 151 #[.map (lW b)] w λe w'=>∃v,e= .returned v/\Gf w' w.heap.size v (R.filter S)/\Below w.heap.size w w':=by
 obtain⟨D,hown,hS⟩:=h;obtain⟨hperm,hsz⟩:=V0 hown hS hR hw hin;have hfl:=iU S R;have hmax:cO D<=fR:=by rw[hsz];unfold fR;omega
 have hbytes:cO D * 8<=140737488355328:=by rw[hsz];omega
 refine(fG (n:=6)).1 ?_;have hbl:=hown.lt;have hseq:SeqGives bM 2 dI 181 #[.pointer (lW ⟨w.heap.size,0,lV⟩)] encZ (λss=>ss.Perm (fO D)) (cO D) (w.alloc (.cells #[.map (lW b)] 156)):=
  AnyZI.keys_gives (ρ:=Tryz.keysM_ren) {Tryz.keysM with} bM _ trivial rfl (by omega) w.heap.size b (cO D) D _ (by simp) (by simp) (by
   obtain⟨es,clock,hb,Ft,hs,hD⟩:=hown;exact⟨es,clock,(eJ _ _ b hbl).trans hb,Ft,hs,hD⟩)
 have cK:∀mb W,bF bM 5 dI 165 #[.map mb] W λe w'=>e= .returned (.func (.func 181) #[] #[.pointer (lW ⟨W.heap.size,0,lV⟩)])/\w'=W.alloc (.cells #[.map mb] 156):=λmb W=>AnyZI.keys_in Tryz.keysM bM 5 trivial V mb W
 have cS:=AnyZI.sorted_in Tryz.sortedM bM 5 trivial trivial trivial trivial V (by omega) (Adk _) (enters_of dB (by kernel_rfl) V) 181 #[.pointer (lW ⟨w.heap.size,0,lV⟩)] trivial (enters_of dA (by kernel_rfl) V) _ _ hmax hbytes _ hseq;change bF _ _ dI 56 _ _ _ at cS;have hfK:bM.fn 165:=trivial;have hfS:bM.fn 56:=trivial;have HP:=cD hperm;clear hS hsz hperm hin hw;refine fE Tryz.func151 V trivial ?_ V;simp only[Tryz.ntmps151,Nat.reduceAdd,Nat.reduceSub,zae]
 gi_wp2_with (first
  |(gi_at_call 165;refine(cK _ _).mono ?_;rintro e w' ⟨rfl,rfl⟩)
  |(gi_at_call 56;refine cS.mono ?_;rintro e w' ⟨v,ss,rfl,hS,hrow,hnil,hb⟩))
 go_ret
 have hp2:ss.Perm (R.filter S):=hS.trans HP.out;have he:(ss.mergeSort λx y=>decide (x<=y))=R.filter S:=
  GN (Og (hp2.nodup_iff.2 (hR.filter S).nodup)) (hR.filter S) (λx=>((jH ss _).mem_iff).trans hp2.mem_iff)
 refine⟨v,rfl,?_,((eK _ w).alloc (lB _) _).trans (hb.mono (by simp))⟩;have hrow2:w'.ownsRow w.heap.size 3 1 v ss.length ((ss.mergeSort (λx y=>decide (x<=y))).map encZ):=ownsRow_base_a hrow (by simp);rw[he]at hrow2;exact .of hrow2 hp2.length_eq V
end Mu
namespace Mu
open Go Go.RowKit Go.Proofs Go.Maps
variable{D:bI Unit}{S:Int->Bool}{β:Type}{U:Ty β}{c:Nat}{α:Type}{d:α}{es:Array MapEntry}{l:List Int}{n:Nat}{r:Int}{w w1:eV}
theorem GH{r:Option Nat}(h:Below w.heap.size w w1):w.grownBy w1 r:=⟨h.os,h.tape,h.output,h.size,λk hk _=>h.block k hk⟩
def IA{α:Type}(T:Ty α):Prop:=∀(w:eV) (S:Nat->Prop) (cs:List eQ) (d:α) (b:Nat) (es:Array MapEntry) (c:Nat),T.RS w S cs d->w.heap[b]? =lW (.map es c)->T.RS w (λk=>S k/\k≠b) cs d
theorem DG(k:bV):IA (Ty.int k):=λ_ _ _ _ _ _ _ h _=>h
theorem Xc:IA Dj:=λ_ _ _ _ _ _ _ h _=>h
theorem C1{T:Ty α}(h1:IA T)(h2:IA U):IA (T.cons U):=by
 rintro w S cs d b es c ⟨B,A,rfl,F,E⟩ u;exact⟨B,A,rfl,h1 w S B d.1 b es c F u,h2 w S A d.2 b es c E u⟩
theorem Abj{f:β->α}{g:α->β}(h:IA U):IA (U.via f g):=by
 rintro w S cs d b es c ⟨A,u⟩ B;exact⟨h w S cs (g d) b es c A B,u⟩
theorem Vc{T:Ty α}(h:IA T)(N:0 < T.size):IA T.slice:=by
 rintro w S cs ds b es c ⟨A,J,rfl,G,hc,hi⟩ u;refine⟨A,J,rfl,G,hc,λi d H=>?_⟩;obtain⟨b',o,rfl,I,cs,E,F⟩:=hi i d H;refine⟨b',o,rfl,⟨I,λe=>?_⟩,cs,h w S cs d b es c E u,F⟩;subst e;have B:=T.len E;have h0:=F 0 _ (iH (by omega));simp[eW,u]at h0
theorem KM:IA Ei:=
 Abj (C1 (DG _) (C1 (DG _) (C1 (DG _) (C1 (DG _) (C1 (DG _) (C1 (DG _) (C1 (Vc (DG _) (by decide)) (C1 (DG _) (C1 (DG _) Xc)))))))))
theorem Ami{T:Ty α}(h:IA T){w':eV}{B b:Nat}{cs:List eQ}(A:T.R w B cs d)(E:B<=w.heap.size)(u:w.heap[b]? =lW (.map es c))(hg:w.grownBy w' (lW b)):T.R w' w'.heap.size cs d:=
 T.keepS (h w _ cs d b es c A u) (λk hk=>hg.block k (by have:=hk.1;omega) (by simp;exact hk.2)) (λk hk=>by have:=hk.1;have:=hg.size;omega)
theorem IH.mapAt{b:Nat}(h:IH w b S):∃es c,w.heap[b]? =lW (.map es c):=by
 obtain⟨D,⟨es,c,h1,_⟩,_⟩:=h;exact⟨es,c,h1⟩
def Bm(w0:eV)(cs:List eQ)(T:eP)(b:Nat)(w':eV):Prop:=(w0.alloc (.cells cs.toArray T)).grownBy w' (lW b)
section
variable{w0 w' w'':eV}{cs:List eQ}{T:eP}{b:Nat}
theorem Bm.refl:Bm w0 cs T b (w0.alloc (.cells cs.toArray T)):=World.grownBy.refl _ _
theorem Bm.cell(h:Bm w0 cs T b w')(A:b < w0.heap.size){j:Nat}{v:eQ}(u:cs[j]? =lW v):w'.cell? ⟨w0.heap.size,j,lV⟩=lW v:=by
 have h1:=h.block w0.heap.size (by simp) (by simp;omega);exact Oe (h1.trans (fM w0 _)) u
theorem Bm.lt(h:Bm w0 cs T b w'):w0.heap.size < w'.heap.size:=by have:=h.size;simp at this;omega
theorem Bm.grown(h:Bm w0 cs T b w'):w0.grownBy w' (lW b):=Dp (World.grownBy_alloc _ _ _) h
theorem Bm.call(h:Bm w0 cs T b w')(u:Below w'.heap.size w' w''):Bm w0 cs T b w'':=Dp h (GH u)
theorem Bm.turn(h:Bm w0 cs T b w')(hg:w'.grownBy w'' (lW b)):Bm w0 cs T b w'':=Dp h hg
theorem Bm.R{U:Ty α}{u:List eQ}(h:Bm w0 cs T b w')(B:IA U)(A:w0.heap[b]? =lW (.map es c))(E:U.R w0 w0.heap.size u d):U.R w' w'.heap.size u d:=
 Ami B E (lB _) A h.grown
end
structure InR(R:List Int)(S:Int->Bool):Prop where
 mem:∀x,Ch x->S x=true->x∈R
structure RegsR(R:List Int):Prop where
 asc:Asc R
 wf:∀x∈R,Ch x
 len:R.length<=2147483648
theorem Ayl(u:Ch r):keyOf dI 3 (.int .i64 r)=lW (.int .i64 r):=Maps.keyOf_int_mk dT u
theorem X6:(cE .i64 1).wf=aZ:=by decide
theorem GV{b:Nat}{R:List Int}(u:w.ownsMap dI 3 (fT dI 3) b n D)(B:∀x,Ch x->has D (.int .i64 x)=S x)(A:RegsR R)(hi:InR R S):cO D=(R.filter S).length/\cO D<=2147483648:=by
 have h:=(V0 u B A.asc A.wf hi.mem).2;have h2:=iU S R;have:=A.len;exact⟨h,by omega⟩
def Ah3(S:Int->Bool)(r:Int):Int->Bool:=λx=>S x||x ==r
def Ag8(S:Int->Bool)(r:Int):Int->Bool:=λx=>S x&&x !=r
def addL(S:Int->Bool)(l:List Int):Int->Bool:=λx=>S x||l.contains x
theorem Oh(S:Int->Bool):addL S []=S:=by funext x;simp[addL]
theorem PJ(S:Int->Bool)(l:List Int)(r:Int):addL S (l++[r])=Ah3 (addL S l) r:=by
 funext x;simp only[addL,Ah3,List.contains_eq_mem,i9,jG,Bool.decide_or,Bool.or_assoc];congr 2
theorem IH.put{b:Nat}{d:bI Unit}(u:w.ownsMap dI 3 (fT dI 3) b n D)(A:∀x,Ch x->has D (.int .i64 x)=S x)
 (h1:w1.ownsMap dI 3 (fT dI 3) b (n+1) (D.put (.int .i64 r) d)):IH w1 b (Ah3 S r):=by
 refine⟨_,LC h1,λx hx=>?_⟩;by_cases e:x=r
 ·subst e;rw[has_put_same u.isMap (by trivial)];simp[Ah3]
 ·rw[cM (by simpa using e),A x hx];simp[Ah3,e]
theorem IH.del{b:Nat}(u:∀x,Ch x->has D (.int .i64 x)=S x)
 (h1:w1.ownsMap dI 3 (fT dI 3) b n (D.del (.int .i64 r))):IH w1 b (Ag8 S r):=by
 refine⟨_,LC h1,λx hx=>?_⟩;by_cases e:x=r
 ·subst e;rw[cJ];simp[Ag8]
 ·rw[cI (by simpa using e),u x hx];simp[Ag8,e]
def MY(x:Ins)(S:Int->Bool):Int->Bool:=addL (if Bd x then Ag8 S x.d else S) (readsC x)
theorem InR.del{R:List Int}(h:InR R S)(r:Int):InR R (Ag8 S r):=⟨λx hx u=>h.mem x hx (by simp only[Ag8,aR]at u;exact u.1)⟩
theorem InR.addL{R:List Int}(h:InR R S)(u:∀r∈l,r∈R):InR R (addL S l):=⟨λx hx hs=>by
 simp only[Mu.addL,aY,gN]at hs;rcases hs with hs|hs
 ·exact h.mem x hx hs
 ·exact u x hs⟩
theorem InR.take{R:List Int}(h:InR R S)(A:∀r∈l,r∈R)(k:Nat):InR R (Mu.addL S (l.take k)):=h.addL λr u=>A r (List.mem_of_mem_take u)
theorem Mu{x:Ins}(h:x.args.length<=2097152):(readsC x).length<=2097154:=by
 unfold readsC;simp only[iS];have B:(if(HC x.op).contains 97 then [x.a]else []).length<=1:=by split <;> simp
 have A:(if(HC x.op).contains 98 then [x.b]else []).length<=1:=by split <;> simp
 have u:(if(HC x.op).contains 120 then x.args else []).length<=x.args.length:=by split <;> simp
 omega
theorem Ahu(x:Ins)(b:Nat)(S:Int->Bool)(R:List Int)(w:eV)(cs:List eQ)(hRI:Ei.R w w.heap.size cs x)(hl:x.args.length<=2097152)(hs:IH w b S)(hR:RegsR R)(hi:InR R S)(hx:∀r∈readsC x,r∈R):
 bE dI 153 #[.map (lW b),.agg cs.toArray] w λe w'=>e= .returned (.tuple #[])/\IH w' b (MY x S)/\w.grownBy w' (lW b):=by
 have hRI2:=hRI;obtain⟨A,c,hI⟩:=IL.1 hRI;have hb:=hs.lt;obtain⟨rfl,hop,hd,_,_,_,_,_,_,_⟩:=hI;have hrl:=Mu hl;obtain⟨cs,hcs⟩:∃cs:List eQ,cs= [.int .u8 x.op,.int .i64 x.d,.int .i64 x.a,.int .i64 x.b,.int .u32 x.n,.int .i64 x.f,.slice A x.args.length c,.int .i64 x.l1,.int .i64 x.l2]:=⟨_,rfl⟩
 have q0:∀w',Bm w cs 47 b w'->w'.cell? ⟨w.heap.size,0,lV⟩=lW (.int .u8 x.op):=λw' h=>h.cell hb (by rw[hcs];rfl)
 have q1:∀w',Bm w cs 47 b w'->w'.cell? ⟨w.heap.size,1,lV⟩=lW (.int .i64 x.d):=λw' h=>h.cell hb (by rw[hcs];rfl)
 have q2:∀w',Bm w cs 47 b w'->w'.cell? ⟨w.heap.size,2,lV⟩=lW (.int .i64 x.a):=λw' h=>h.cell hb (by rw[hcs];rfl)
 have q3:∀w',Bm w cs 47 b w'->w'.cell? ⟨w.heap.size,3,lV⟩=lW (.int .i64 x.b):=λw' h=>h.cell hb (by rw[hcs];rfl)
 have q4:∀w',Bm w cs 47 b w'->w'.cell? ⟨w.heap.size,4,lV⟩=lW (.int .u32 x.n):=λw' h=>h.cell hb (by rw[hcs];rfl)
 have q5:∀w',Bm w cs 47 b w'->w'.cell? ⟨w.heap.size,5,lV⟩=lW (.int .i64 x.f):=λw' h=>h.cell hb (by rw[hcs];rfl)
 have q6:∀w',Bm w cs 47 b w'->w'.cell? ⟨w.heap.size,6,lV⟩=lW (.slice A x.args.length c):=λw' h=>h.cell hb (by rw[hcs];rfl)
 have q7:∀w',Bm w cs 47 b w'->w'.cell? ⟨w.heap.size,7,lV⟩=lW (.int .i64 x.l1):=λw' h=>h.cell hb (by rw[hcs];rfl)
 have q8:∀w',Bm w cs 47 b w'->w'.cell? ⟨w.heap.size,8,lV⟩=lW (.int .i64 x.l2):=λw' h=>h.cell hb (by rw[hcs];rfl)
 have hstart:Hid (Bm w cs 47 b (w.alloc (.cells #[.int .u8 x.op,.int .i64 x.d,.int .i64 x.a,.int .i64 x.b,.int .u32 x.n,.int .i64 x.f,.slice A x.args.length c,.int .i64 x.l1,.int .i64 x.l2] 47))):=by
  have h:=Bm.refl (w0:=w) (cs:=cs) (T:=47) (b:=b);rw[hcs]at h;rw[hcs];exact h
 have HRI:=cD hRI2;have HX:=cD hx;have HS:=cD hs;clear hcs hRI hRI2 hx hs;have hst:=hstart.out
 go_enter Tryz.func153,Tryz.ntmps153
 obtain⟨mes,mc,hmap⟩:=HS.out.mapAt;have HM:=cD hmap;clear hmap
 go_wp2_with fail
 refine(Na x _ _ (hst.R KM HM.out HRI.out)).mono ?_;rintro e w1 ⟨rfl,hb1⟩;have hx1:Bm w cs 47 b w1:=hst.call hb1;have hs1:Hid (IH w1 b S):=HS.out.keep ((hb1.block b (by simp;omega)).trans (eJ _ _ _ hb));have hlt1:=hx1.lt;clear hb1 hst hstart HS;have hg1:Hid (w.grownBy w1 (lW b)):=hx1.grown;have hi1:=hi;rcases hq:Bd x with _|_
 ·have HQ:=cD hq;rw[Ml HQ.out];clear hq
  go_wp2_with fail
  refine(HI x _ _ (hx1.R KM HM.out HRI.out) hl).mono ?_;rintro e w4 ⟨v4,rfl,ho4,hb4⟩;have hx4:Bm w cs 47 b w4:=hx1.call hb4;have hs4:Hid (IH w4 b S):=hs1.out.keep (hb4.block b (by have:=hx1.lt;omega));have hg4:Hid (w.grownBy w4 (lW b)):=Dp hg1.out (GH hb4);obtain⟨A4,c4,rfl⟩:=X0 ho4;have HO4:=cD ho4;have hlow4:∀g,(eU A4 (readsC x).length c4).ownBlock=lW g->b < g:=λg hg=>by have:=(ho4.lt g hg).1;have:=hx1.lt;omega
  have HLOW:=cD hlow4;have hlt4:=hx4.lt;clear ho4 hb4 hlow4
  go_wp2_with fail
  go_loopw [19] (λi wr=>∃k:Nat,k<=(readsC x).length/\i= .int .i64 k/\Hid (IH wr b (addL S ((readsC x).take k)))/\Hid (w.grownBy wr (lW b))/\Hid (Gf wr w1.heap.size (.slice A4 (readsC x).length c4) (readsC x))) (λi _=>(readsC x).length - (eL i).toNat)
  case atStart=>exact⟨0,lM _,rfl,by rw[jY,Oh];exact hs4,hg4,HO4⟩
  case round=>
   obtain⟨k,hk,rfl,hsr,hgr,hor⟩:=hrel;clear hs4 hg4 HO4;by_cases hlt:k < (readsC x).length
   ·obtain⟨z,hz⟩:∃z,(readsC x)[k]? =lW z:=⟨_,iH hlt⟩
    have hzR:=HX.out z (jE hz);have hzw:=hR.wf z hzR;obtain⟨g,cap,e,_⟩:=TU hor.out (by omega);cases e;have hcz:=X3 hor.out hz;obtain⟨D,hown,hD⟩:=hsr.out;have hsz:=GV hown hD hR (hi1.take HX.out k);have hm:cO D < fR:=by have:=hsz.2;unfold fR;omega
    have HD:=cD hD;have HZ:=cD hz;have HK:=cD (Ayl hzw);clear hsz hD hz hsr
    go_wp2_with (at_mapUpdate;refine gD _ V _ _ _ 156 V 3 3 Qj dQ _ b _ D V hown hm _ _ (.int .i64 z) V V HK.out _ [] (plainElem_int dT X6) ?_;intro w5 hown5 hgrow5)
    have hs5:Hid (IH w5 b (addL S ((readsC x).take (k+1)))):=by
     rw[jS,HZ.out,lZ,PJ];exact IH.put hown HD.out hown5
    have hg5:Hid (w.grownBy w5 (lW b)):=Dp hgr.out hgrow5;have ho5:Hid (Gf w5 w1.heap.size (.slice (lW ⟨g,0,lV⟩) (readsC x).length c4) (readsC x)):=Ng hor.out (λq hq=>hgrow5.block q (eZ hor.out q hq).2 (by have:=HLOW.out q hq;simp;omega));clear hown5 hgrow5 hgr hor hown hcz
    go_wp2_with fail
    go_roundw
    case rel=>exact⟨k+1,by omega,by go_num,hs5,hg5,ho5⟩
    case measure=>simp[eL];omega
   ·obtain rfl:k=(readsC x).length:=by omega
    have hfin:Hid (IH wr b (MY x S)):=by
     have h:=hsr.out;rw[jU]at h;unfold MY;rw[HQ.out,if_neg (by simp)];exact h
    go_wp2_with fail
    go_end0
    exact⟨rfl,hfin.out,hgr.out⟩
 ·have HQ:=cD hq;rw[Ks HQ.out];clear hq;have HKD:=cD (Ayl (r:=x.d) hd);obtain⟨D0,hown0,hD0⟩:=hs1.out;have HD0:=cD hD0;clear hD0;have hi2:=hi.del x.d
  go_wp2_with (at_delete;refine wpList_delete_own _ V _ _ 156 3 V 3 Qj dQ _ b _ D0 V hown0 _ _ V HKD.out ?_)
  intro w2 hown2 hturn2;have hs2:Hid (IH w2 b (Ag8 S x.d)):=IH.del HD0.out hown2;have hg2:Hid (w.grownBy w2 (lW b)):=Dp hg1.out hturn2.grown;have hx2:Bm w cs 47 b w2:=hx1.turn hturn2.grown;have hlt2:=hx2.lt;clear hown2 hturn2 hown0 hs1 hg1
  go_wp2_with fail
  refine(HI x _ _ (hx2.R KM HM.out HRI.out) hl).mono ?_;rintro e w4 ⟨v4,rfl,ho4,hb4⟩;have hx4:Bm w cs 47 b w4:=hx2.call hb4;have hs4:Hid (IH w4 b (Ag8 S x.d)):=hs2.out.keep (hb4.block b (by have:=hx2.lt;omega));have hg4:Hid (w.grownBy w4 (lW b)):=Dp hg2.out (GH hb4);obtain⟨A4,c4,rfl⟩:=X0 ho4;have HO4:=cD ho4;have hlow4:∀g,(eU A4 (readsC x).length c4).ownBlock=lW g->b < g:=λg hg=>by have:=(ho4.lt g hg).1;have:=hx2.lt;omega
  have HLOW:=cD hlow4;have hlt4:=hx4.lt;clear ho4 hb4 hlow4
  go_wp2_with fail
  go_loopw [19] (λi wr=>∃k:Nat,k<=(readsC x).length/\i= .int .i64 k/\Hid (IH wr b (addL (Ag8 S x.d) ((readsC x).take k)))/\Hid (w.grownBy wr (lW b))/\Hid (Gf wr w2.heap.size (.slice A4 (readsC x).length c4) (readsC x))) (λi _=>(readsC x).length - (eL i).toNat)
  case atStart=>exact⟨0,lM _,rfl,by rw[jY,Oh];exact hs4,hg4,HO4⟩
  case round=>
   obtain⟨k,hk,rfl,hsr,hgr,hor⟩:=hrel;clear hs4 hg4 HO4;by_cases hlt:k < (readsC x).length
   ·obtain⟨z,hz⟩:∃z,(readsC x)[k]? =lW z:=⟨_,iH hlt⟩
    have hzR:=HX.out z (jE hz);have hzw:=hR.wf z hzR;obtain⟨g,cap,e,_⟩:=TU hor.out (by omega);cases e;have hcz:=X3 hor.out hz;obtain⟨D,hown,hD⟩:=hsr.out;have hsz:=GV hown hD hR (hi2.take HX.out k);have hm:cO D < fR:=by have:=hsz.2;unfold fR;omega
    have HD:=cD hD;have HZ:=cD hz;have HK:=cD (Ayl hzw);clear hsz hD hz hsr
    go_wp2_with (at_mapUpdate;refine gD _ V _ _ _ 156 V 3 3 Qj dQ _ b _ D V hown hm _ _ (.int .i64 z) V V HK.out _ [] (plainElem_int dT X6) ?_;intro w5 hown5 hgrow5)
    have hs5:Hid (IH w5 b (addL (Ag8 S x.d) ((readsC x).take (k+1)))):=by
     rw[jS,HZ.out,lZ,PJ];exact IH.put hown HD.out hown5
    have hg5:Hid (w.grownBy w5 (lW b)):=Dp hgr.out hgrow5;have ho5:Hid (Gf w5 w2.heap.size (.slice (lW ⟨g,0,lV⟩) (readsC x).length c4) (readsC x)):=Ng hor.out (λq hq=>hgrow5.block q (eZ hor.out q hq).2 (by have:=HLOW.out q hq;simp;omega));clear hown5 hgrow5 hgr hor hown hcz
    go_wp2_with fail
    go_roundw
    case rel=>exact⟨k+1,by omega,by go_num,hs5,hg5,ho5⟩
    case measure=>simp[eL];omega
   ·obtain rfl:k=(readsC x).length:=by omega
    have hfin:Hid (IH wr b (MY x S)):=by
     have h:=hsr.out;rw[jU]at h;unfold MY;rw[HQ.out,if_pos V];exact h
    go_wp2_with fail
    go_end0
    exact⟨rfl,hfin.out,hgr.out⟩
open Go.Shelf
theorem UZ{b:Nat}{S:Int->Bool}(w:eV)(h:IH w b S):
 bE dI 150 #[.map (lW b)] w λe w'=>e= .returned (.map (lW w.heap.size))/\IH w' w.heap.size S/\∃es c,w'=w.alloc (.map es c):=by
 obtain⟨D,A,I⟩:=h;have F:=A.lt;obtain⟨es,u,H,N,E,J⟩:=A;refine(AnyW.maps_Clone Tryz.cloneM b es u w H).mono λe w' ⟨G,B⟩=>?_
 subst B;exact⟨G,⟨D,⟨es,u,(MapKept.heap_alloc w _).1,N,E,J⟩,I⟩,es,u,rfl⟩
theorem Agi{w:eV}{bd bs I H:Nat}{F E:bI Unit}(O:w.ownsMap dI 3 (fT dI 3) bd I F)(G:w.ownsMap dI 3 (fT dI 3) bs H E)(k:Lit):
 has (Lib.mergeD F E) k=(has F k||has E k):=by
 obtain⟨X,rfl,_,_⟩:=O.entries Qj;obtain⟨es,rfl,_,_⟩:=G.entries Qj;obtain⟨B,A,u⟩:=G.keysOf;obtain rfl:es=B:=by simpa using A
 have hk:∀p∈es,WideAt.IsKeyLit p.1:=λp N=>by
  obtain⟨v,J⟩:=u p N;obtain⟨x,_,hx,W⟩:=cN dT J;rw[hx];exact trivial
 exact has_foldPut k es _ ⟨_,rfl⟩ hk
theorem Alt{bd bs:Nat}{S T:Int->Bool}{R:List Int}(w:eV)(N:IH w bd S)(I:IH w bs T)(B:bd≠bs)(G:RegsR R)(hi:InR R S)(J:InR R T):
 bE dI 155 #[.map (lW bd),.map (lW bs)] w λe w'=>e= .returned (.tuple #[])/\IH w' bd (λx=>S x||T x)/\IH w' bs T/\w.grownBy w' (lW bd):=by
 obtain⟨Y,A,F⟩:=N;obtain⟨H,u,E⟩:=I;have h1:=GV A F G hi;have h2:=GV u E G J;refine(AnyX.maps_Copy Tryz.copyM Qj (fT dI 3) bd bs _ _ Y H w A u B ?_).mono ?_
 ·have:=h1.2;have:=h2.2;unfold fR;omega
 ·rintro e w' ⟨rfl,X,W,O⟩;refine⟨rfl,⟨_,LC X,λx hx=>?_⟩,⟨H,W,E⟩,O⟩;rw[Agi A u,F x hx,E x hx]
end Mu
namespace Mu
open Go Go.RowKit Go.Proofs Go.Maps
def IF(S:Int->Bool)(m:Nat):Res:=⟨[],λg=>g=m,λw _=>IH w m S,λh hk _ _=>h.keep (hk m V)⟩
theorem Ek{w:eV}{S:Nat->Prop}{h:List jZ}{ψ:Nat->eQ}{u:eQ}{l:List AV}{vs:List eQ}(H:Ae w S h ψ (.lit u::l) vs):∃A,vs=u::A/\Ae w S h ψ l A:=by
 unfold Ae kD at H;obtain⟨v,A,e,rfl,h2⟩:=H;exact⟨A,e,h2⟩
theorem Vb(x:Ins)(S:Int->Bool)(R:List Int)(m:Nat)(E:okIns x)(G:x.args.length<=2097152)(I:RegsR R)(hi:InR R S)(hx:∀r∈readsC x,r∈R):
 DK dI 153 (IF S m) [.lit (.map (lW m)),.agg (BV x)] (λ_:Unit=>IF (MY x S) m) (λ_=>.tuple #[]):=by
 refine⟨by kernel_rfl,λw T vs H N A B=>?_⟩;obtain⟨J,rfl,h1⟩:=Ek B;obtain⟨v,rfl,h2⟩:=Ach h1;unfold kD at h2;obtain⟨cs,rfl,u⟩:=h2;refine(Ahu x m S R w cs (Ei.keepS (My E u) (λ_ _=>rfl) λk hk=>(H k hk).1) G A I hi hx).mono ?_;rintro e w' ⟨rfl,h1,h2⟩;exact⟨_,rfl,⟨h2.os,h2.tape,h2.output,h2.size,λk hk F=>h2.block k hk λe=>F (by injection e)⟩,(),rfl,h1,λk hk=>by
  have hk:k=m:=hk;subst hk;exact⟨.inl V,h1.lt⟩⟩
theorem Ahk(B:Res)(S:Int->Bool)(m:Nat)(A:∀w T,B.R w T->IH w m S):
 Aie dI 150 B [.lit (.map (lW m))] (IF S) (λp=>.map (lW p)):=by
 refine⟨by kernel_rfl,λw T vs H I E F=>?_⟩;obtain⟨G,rfl,h0⟩:=Ek F;unfold Ae at h0;subst h0;refine(UZ w (A w T E)).mono ?_;rintro e w' ⟨rfl,h1,es,c,rfl⟩;have u:Below w.heap.size w (w.alloc (.map es c)):=(eK _ _).alloc (lB _) _;exact⟨_,rfl,⟨u.os,u.tape,u.output,u.size,λk hk _=>u.block k hk⟩,w.heap.size,rfl,h1,λk hk=>by
  have hk:k=w.heap.size:=hk;subst hk;exact⟨.inr (lB _),h1.lt⟩⟩
theorem Z0(B:Res)(S:Int->Bool)(R:List Int)(m:Nat)(u:RegsR R)(hi:InR R S)(A:∀w T,B.R w T->IH w m S):
 FnR dI 151 B [.lit (.map (lW m))] (.bs tInt (R.filter S)):=by
 refine⟨by kernel_rfl,λw T vs G I E F=>?_⟩;obtain⟨H,rfl,h0⟩:=Ek F;unfold Ae at h0;subst h0;refine(Ajf w (A w T E) u.asc u.wf hi.mem u.len).mono ?_;rintro e w' ⟨v,rfl,h1,h2⟩;refine⟨v,rfl,h2,λk=>T k\/v.ownBlock=lW k,λ_ h=>.inl h,λk hk=>?_,λk hk=>?_,?_⟩
 ·rcases hk with hk|hk
  ·exact .inl hk
  ·exact .inr (h1.lt k hk).1
 ·rcases hk with hk|hk
  ·exact lD (G k hk) h2.size
  ·exact(h1.lt k hk).2
 ·unfold kD;exact tInt.slice.keepS (LB h1 λx hx=>u.wf x (jB.1 hx).1) (λ_ _=>rfl) λk hk=>.inr hk
section
variable{P:cZ}{C:Ctx}{t:List AV}{h:List jZ}{o:cT}{ι:Type}{Rs:ι->Res}{val:ι->eQ}
def Aid(P:cZ)(f:bO)(R R2:Res)(args:List AV)(Rs:ι->Res)(val:ι->eQ):Prop:=
 Ca P f=aZ/\∀(w:eV) (S:Nat->Prop) (vs:List eQ),(∀k,S k->k < w.heap.size/\¬R.F k)->(∀g,R.F g->g < w.heap.size)->R.R w S->R2.R w S->(∀g,R.F g->¬R2.F g)->Ae w S [] ψ0 args vs->
  bE P f vs.toArray w λe w'=>∃v,e= .returned v/\kV w S R.F Rs val v w'
theorem SR{i j:Nat}{R R2:Res}{f:bO}{args:Array cY}{tys:Array eP}{xs:List AV}{K:St->Prop}(G:i≠j)(hi:h[i]? =lW (.res R))(F:h[j]? =lW (.res R2))
 (B:o.op= .call {callee:=.value (.func f),args:=args,argTypes:=tys})(I:Aid P f R R2 xs Rs val)(O:∀p,(Rs p).mrk=R.mrk)(hx:args.toList.map (evA t)=xs)(hc:Bh xs=aZ)
 (Y:∀p,K ⟨Bl t o.dst (.lit (val p)),h.set i (.res (Rs p))⟩):AOp P C o ⟨t,h⟩ K:=by
 refine j9 hi O (λS ψ w ρ H X E u=>?_) Y;have h1:ρ (.func f)= .func (.func f) #[] #[]:=by
  have:=u (.func f) (by rw[B];exact aI.2 (.inl (by simp)));simpa[evA,kD]using this
 rw[Cv B I.1 ρ w h1];refine⟨rfl,?_⟩;have h2:Ae w S h ψ xs (args.toList.map ρ):=by
  rw[<-hx];exact Cd λx A=>u x (by rw[B];exact aI.2 (.inr (aK.1 A)))
 rw[show(args.map ρ)=(args.toList.map ρ).toArray from(by rw[<-aN])];exact I.2 w S (args.toList.map ρ) (λk hk=>⟨H.lt k hk,λW=>((H.blk i _ hi).1 k W).2.1 hk⟩) E X (H.blk j _ F).2 (λg N J=>H.dis i j G (by rw[hi];rfl) (by rw[F];rfl) g (by rw[hi];exact N) (by rw[F];exact J)) (Bi _ _ hc h2)
end
open Go.Shelf
variable{R':Res}{n:Nat}{q:Int}{w':eV}{zv:eQ}
section
variable{α β:Type}
def Eb(l:List (Int×α)):Prop:=l.Pairwise λp q=>p.1 < q.1
def getK(l:List (Int×α))(k:Int):Option α:=(l.find? λp=>p.1 ==k).map (·.2)
def B7(l:List (Int×α))(k:Int)(v:α):List (Int×α):=l.filter (λp=>decide (p.1 < k))++(k,v)::l.filter λp=>decide (k < p.1)
def Qm(l:List (Int×α))(k:Int):List (Int×α):=l.filter λp=>p.1 !=k
def keysK(l:List (Int×α)):List Int:=l.map (·.1)
instance Axc(l:List (Int×α)):Decidable (Eb l):=by unfold Eb;infer_instance
theorem Eb.nil:Eb ([]:List (Int×α)):=List.Pairwise.nil
theorem Eb.put{l:List (Int×α)}(h:Eb l)(k:Int)(v:α):Eb (B7 l k v):=by
 unfold B7 Eb;rw[List.pairwise_append,jM];refine⟨h.filter _,⟨λp u=>by simpa using(jB.1 u).2,h.filter _⟩,λp u q hq=>?_⟩;have h1:p.1 < k:=by simpa using(jB.1 u).2
 rcases jA.1 hq with rfl|hq
 ·exact h1
 ·have h2:k < q.1:=by simpa using(jB.1 hq).2
  omega
theorem Eb.del{l:List (Int×α)}(h:Eb l)(k:Int):Eb (Qm l k):=h.filter _
theorem mem_setK{l:List (Int×α)}{k:Int}{v:α}{p:Int×α}:p∈B7 l k v↔p=(k,v)\/(p∈l/\p.1≠k):=by
 unfold B7;rw[i9,jA,jB,jB];simp only[decide_eq_true_eq];constructor
 ·rintro(⟨h1,h2⟩|h|⟨h1,h2⟩)
  ·exact .inr ⟨h1,by omega⟩
  ·exact .inl h
  ·exact .inr ⟨h1,by omega⟩
 ·rintro(h|⟨h1,h2⟩)
  ·exact .inr (.inl h)
  ·rcases Int.lt_or_gt_of_ne h2 with h3|h3
   ·exact .inl ⟨h1,h3⟩
   ·exact .inr (.inr ⟨h1,h3⟩)
theorem JT{l:List (Int×α)}{k:Int}{p:Int×α}:p∈Qm l k↔p∈l/\p.1≠k:=by
 unfold Qm;rw[jB];simp
theorem Eb.uniq{l:List (Int×α)}(h:Eb l){p q:Int×α}(u:p∈l)(hq:q∈l)(e:p.1=q.1):p=q:=by
 induction l with
 |nil=>cases u
 |cons x l A=>
  have h:=jM.1 h;rcases jA.1 u with h1|h1 <;> rcases jA.1 hq with h2|h2
  ·rw[h1,h2]
  ·have:=h.1 q h2;rw[h1]at e;omega
  ·have:=h.1 p h1;rw[h2]at e;omega
  ·exact A h.2 h1 h2
theorem CK{l:List (Int×α)}(h:Eb l){k:Int}{v:α}:getK l k=lW v↔(k,v)∈l:=by
 unfold getK;constructor
 ·intro e;obtain⟨p,u,rfl⟩:=lT.1 e;have h1:=iA u;have h2:=jD u;have B:p.1=k:=by simpa using h1
  rw[<-B];exact h2
 ·intro A;cases e:l.find? λp=>p.1 ==k with
  |none=>
   have:=hZ.1 e _ A;simp at this
  |some p=>
   have h1:p.1=k:=by simpa using iA e
   have:=h.uniq (jD e) A h1;rw[this];rfl
theorem Jh{l:List (Int×α)}{k:Int}:getK l k=lV↔∀p∈l,p.1≠k:=by
 unfold getK;rw[Option.map_eq_none_iff,hZ];simp
theorem BH{l:List (Int×α)}(h:Eb l)(k x:Int)(v:α):getK (B7 l k v) x=if x=k then lW v else getK l x:=by
 by_cases e:x=k
 ·rw[if_pos e,CK (h.put k v),mem_setK,e];exact .inl V
 ·rw[if_neg e];cases hg:getK l x with
  |none=>
   rw[Jh]at hg⊢;intro p hp;rcases mem_setK.1 hp with rfl|hp
   ·exact λA=>e A.symm
   ·exact hg p hp.1
  |some u=>
   rw[CK h]at hg;rw[CK (h.put k v),mem_setK];exact .inr ⟨hg,e⟩
theorem LY{l:List (Int×α)}(h:Eb l)(k x:Int):getK (Qm l k) x=if x=k then lV else getK l x:=by
 by_cases e:x=k
 ·rw[if_pos e,Jh];intro p A;rw[e];exact(JT.1 A).2
 ·rw[if_neg e];cases hg:getK l x with
  |none=>
   rw[Jh]at hg⊢;exact λp A=>hg p (JT.1 A).1
  |some u=>
   rw[CK h]at hg;rw[CK (h.del k),JT];exact⟨hg,e⟩
theorem Al9{l m:List (Int×α)}(A:Eb l)(u:Eb m)(h:∀k,getK l k=getK m k):l=m:=by
 have B:∀{l:List (Int×α)},Eb l->l.Nodup:=λh=>h.imp λ{a b} hab e=>by rw[e]at hab;omega
 have E:l.Perm m:=(jO (B A) (B u)).2 λp=>by
  obtain⟨k,v⟩:=p;rw[<-CK A,<-CK u,h]
 exact List.Perm.eq_of_pairwise (le:=λ(a b:Int×α)=>a.1 < b.1) (λa b _ _ h1 h2=>by omega) A u E
def mapK(e:α->β)(l:List (Int×α)):List (Int×β):=l.map λp=>(p.1,e p.2)
theorem Eb.map{l:List (Int×α)}(h:Eb l)(e:α->β):Eb (mapK e l):=jN.2 h
theorem CB(e:α->β)(l:List (Int×α))(k:Int):getK (mapK e l) k=(getK l k).map e:=by
 unfold getK mapK;induction l with
 |nil=>rfl
 |cons p l u=>
  rw[i6,g9,g9];cases p.1 ==k
  ·exact u
  ·rfl
theorem Gs(e:α->β)(l:List (Int×α))(k:Int)(v:α):mapK e (B7 l k v)=B7 (mapK e l) k (e v):=by
 simp[mapK,B7,g8,Function.comp_def]
theorem Akp(e:α->β)(l:List (Int×α))(k:Int):mapK e (Qm l k)=Qm (mapK e l) k:=by
 simp[mapK,Qm,g8,Function.comp_def]
theorem EY{l:List (Int×α)}(k:Int)(v:α):(B7 l k v).length<=l.length+1:=by
 unfold B7;rw[iS,iT];have:∀l:List (Int×α),(l.filter λp=>decide (p.1 < k)).length+(l.filter λp=>decide (k < p.1)).length<=l.length:=by
  intro l;induction l with
  |nil=>simp
  |cons p l u=>
   rw[gZ,gZ];by_cases h1:p.1 < k
   ·have h2:¬k < p.1:=by omega
    simp only[h1,h2,decide_true,decide_false,zaz];simp only[aT,if_false];omega
   ·by_cases h2:k < p.1
    ·simp only[h1,h2,decide_true,decide_false,zaz];simp only[aT,if_false];omega
    ·simp only[h1,h2,decide_false,iT];simp only[aT,if_false];omega
 have:=this l;omega
end
def Am1(v:eQ):Option (bI eQ×List MemPlace):=lW (.held v,[])
def LW(l:List (Int×eQ)):bI eQ:=.map (l.map λp=>(cE .i64 p.1,.held p.2))
def okK{α:Type}(l:List (Int×α)):Prop:=Eb l/\∀p∈l,Ch p.1
theorem Aoq(a b:Int):(cE .i64 a).sameKey (.int .i64 b)=(a ==b):=by rw[Bool.eq_iff_iff];simp[cF]
theorem Eu(l:List (Int×eQ))(k:Int):has (LW l) (.int .i64 k)=(getK l k).isSome:=by
 unfold LW getK;rw[cL,List.any_map,lS];induction l with
 |nil=>rfl
 |cons p l u=>
  rw[List.any_cons,g9];simp only[Function.comp,Aoq]at u⊢;cases p.1 ==k
  ·simpa using u
  ·rfl
theorem Ef(l:List (Int×eQ))(k:Int)(z:bI eQ):(LW l).atKey (.int .i64 k) z=((getK l k).map DataW.held).getD z:=by
 unfold LW getK DataW.atKey;simp only;induction l with
 |nil=>rfl
 |cons p l u=>
  rw[i6,g9,g9];simp only[Aoq];cases p.1 ==k
  ·exact u
  ·rfl
theorem Oz(l:List (Int×eQ)):cO (LW l)=l.length:=by simp[LW,size_eq]
theorem Af1{x:Int}(h:Ch x):WideAt.IsKeyLit (.int .i64 x):=Qj.key (keyOf_int_mk dT h)
theorem Rh{l:List (Int×eQ)}(h:okK l):Canon (LW l):=⟨_,rfl,jN.2 (h.1.imp λ{p q} hpq=>by simp[Lit.before];exact hpq),λp u=>by
 obtain⟨q,hq,rfl⟩:=jC.1 u;exact Af1 (h.2 q hq)⟩
theorem Ed{l:List (Int×eQ)}{k:Lit}(h:has (LW l) k=aZ):∃p∈l,k= .int .i64 p.1:=by
 unfold LW at h;rw[cL]at h;obtain⟨q,hq,u⟩:=gJ.1 h;obtain⟨p,A,rfl⟩:=jC.1 hq;exact⟨p,A,(WideAt.sameKey_eq u).symm⟩
theorem okK.put{α:Type}{l:List (Int×α)}(h:okK l){k:Int}(hk:Ch k)(v:α):okK (B7 l k v):=⟨h.1.put k v,λp hp=>by
 rcases mem_setK.1 hp with rfl|hp
 ·exact hk
 ·exact h.2 p hp.1⟩
theorem okK.del{α:Type}{l:List (Int×α)}(h:okK l)(k:Int):okK (Qm l k):=⟨h.1.del k,λp u=>h.2 p (JT.1 u).1⟩
theorem okK.nil{α:Type}:okK ([]:List (Int×α)):=⟨Eb.nil,λp u=>by cases u⟩
theorem okK.map{α β:Type}{l:List (Int×α)}(h:okK l)(e:α->β):okK (mapK e l):=⟨h.1.map e,λp u=>by
 obtain⟨q,hq,rfl⟩:=jC.1 u;exact h.2 q hq⟩
theorem Ym{l:List (Int×eQ)}(h:okK l){k:Int}(hk:Ch k)(v:eQ)(hc:Canon ((LW l).put (.int .i64 k) (.held v))):(LW l).put (.int .i64 k) (.held v)=LW (B7 l k v):=by
 have B:IsMap (LW l):=⟨_,rfl⟩
 refine Maps.ext hc (Rh (h.put hk v)) (λx=>?_) λx z hx=>?_
 ·by_cases e:x= .int .i64 k
  ·subst e;rw[has_put_same B (Af1 hk),Eu,BH h.1,if_pos V];rfl
  ·rw[cM e];cases h1:has (LW l) x with
   |true=>
    obtain⟨p,A,rfl⟩:=Ed h1;rw[Eu]at h1⊢;rw[BH h.1,if_neg λu=>e (by rw[u]),h1]
   |false=>
    cases h2:has (LW (B7 l k v)) x with
    |false=>rfl
    |true=>
     obtain⟨p,A,rfl⟩:=Ed h2;rw[Eu,BH h.1,if_neg λu=>e (by rw[u]),<-Eu,h1]at h2;cases h2
 ·by_cases e:x= .int .i64 k
  ·subst e;rw[atKey_put_same B (Af1 hk),Ef,BH h.1,if_pos V];rfl
  ·rw[cM e]at hx;rw[atKey_put_other e];obtain⟨p,A,rfl⟩:=Ed hx;rw[Ef,Ef,BH h.1,if_neg λu=>e (by rw[u])]
theorem Ak3{l:List (Int×eQ)}(h:okK l){k:Int}(hc:Canon ((LW l).del (.int .i64 k))):(LW l).del (.int .i64 k)=LW (Qm l k):=by
 refine Maps.ext hc (Rh (h.del k)) (λx=>?_) λx z hx=>?_
 ·by_cases e:x= .int .i64 k
  ·subst e;rw[cJ,Eu,LY h.1,if_pos V];rfl
  ·rw[cI e];cases h1:has (LW l) x with
   |true=>
    obtain⟨p,A,rfl⟩:=Ed h1;rw[Eu]at h1⊢;rw[LY h.1,if_neg λu=>e (by rw[u]),h1]
   |false=>
    cases h2:has (LW (Qm l k)) x with
    |false=>rfl
    |true=>
     obtain⟨p,A,rfl⟩:=Ed h2;rw[Eu,LY h.1,if_neg λu=>e (by rw[u]),<-Eu,h1]at h2;cases h2
 ·by_cases e:x= .int .i64 k
  ·subst e;rw[cJ]at hx;cases hx
  ·rw[cI e]at hx;rw[atKey_del_other e];obtain⟨p,A,rfl⟩:=Ed hx;rw[Ef,Ef,LY h.1,if_neg λu=>e (by rw[u])]
def M1(w:eV)(b:Nat)(l:List (Int×eQ)):Prop:=okK l/\w.ownsMap dI 3 Am1 b l.length (LW l)
theorem M1.lt{w:eV}{b:Nat}{l:List (Int×eQ)}(h:M1 w b l):b < w.heap.size:=h.2.lt
theorem M1.keep{w:eV}{b:Nat}{l:List (Int×eQ)}(h:M1 w b l)(hk:w'.heap[b]? =w.heap[b]?):M1 w' b l:=by
 obtain⟨h0,es,u,h1,h2⟩:=h;exact⟨h0,es,u,hk.trans h1,h2⟩
theorem Aeg{w:eV}{b:Nat}{D:bI eQ}(h:w.ownsMap dI 3 Am1 b n D):w.ownsMap dI 3 Am1 b (cO D) D:=by
 obtain⟨es,u,h1,h2,A,rfl⟩:=h;refine⟨es,u,h1,h2,?_,rfl⟩;rw[size_eq,length_read];exact lB _
theorem M1.of{w:eV}{b:Nat}{l:List (Int×eQ)}(h:okK l)(u:w.ownsMap dI 3 Am1 b n (LW l)):M1 w b l:=⟨h,by have:=Aeg u;rwa [Oz]at this⟩
theorem ME(w:eV):M1 (w.alloc (.map #[] 0)) w.heap.size []:=⟨okK.nil,eY w _ _ _⟩
section
variable{w:eV}{b:Nat}{l:List (Int×eQ)}{ty e:eP}
theorem M1.look(h:M1 w b l)(E:dI.underlying ty=lW (.map 3 e)){z:eQ}(F:(gF e).run dI w= .ok z w){k:Int}(hk:Ch k):(bT ty (.map (lW b)) (.int .i64 k) aS).run dI w= .ok ((getK l k).getD z) w:=by
 obtain⟨v,ps,B,A⟩:=h.2.lookup Qj E F (zd:=.held z) (zp:=[]) V (keyOf_int_mk dT hk);rw[B];rw[Ef]at A;unfold Am1 at A;cases hg:getK l k with
 |none=>rw[hg]at A;cases A;rfl
 |some u=>rw[hg]at A;cases A;rfl
theorem M1.look_ok(h:M1 w b l)(E:dI.underlying ty=lW (.map 3 e)){z:eQ}(F:(gF e).run dI w= .ok z w){k:Int}(hk:Ch k):(bT ty (.map (lW b)) (.int .i64 k) aZ).run dI w= .ok (.tuple #[(getK l k).getD z,.bool (getK l k).isSome]) w:=by
 obtain⟨v,ps,B,A⟩:=h.2.look_ok Qj E F (zd:=.held z) (zp:=[]) V (keyOf_int_mk dT hk);rw[B,Eu];rw[Ef]at A;unfold Am1 at A;cases hg:getK l k with
 |none=>rw[hg]at A;cases A;rfl
 |some u=>rw[hg]at A;cases A;rfl
theorem M1.put(h:M1 w b l)(E:dI.underlying ty=lW (.map 3 e))(G:l.length < fR){k:Int}(hk:Ch k)(v:eQ):∃w',(Instr.mapUpdate ty (.map (lW b)) (.int .i64 k) v).run dI w= .ok () w'/\M1 w' b (B7 l k v)/\w.grownBy w' (lW b)/\w'.heap.size=w.heap.size:=by
 obtain⟨w',A,u,ht⟩:=h.2.store Qj E G (keyOf_int_mk dT hk) (d:=.held v) (ps:=[]) V;refine⟨w',A,?_,ht.grown,?_⟩
 ·rw[Ym h.1 hk v (u.canon Qj)]at u;exact .of (h.1.put hk v) u
 ·obtain⟨es,F,H,B,I,rfl⟩:=ht;simp[Go.ChangeMaps.setBlock]
theorem M1.drop(h:M1 w b l)(E:dI.underlying ty=lW (.map 3 e)){k:Int}(hk:Ch k)(G:eP):∃w',(Builtin.delete_ #[ty,3] G #[.map (lW b),.int .i64 k]).run dI w= .ok (.tuple #[]) w'/\M1 w' b (Qm l k)/\w.grownBy w' (lW b)/\w'.heap.size=w.heap.size:=by
 obtain⟨w',A,u,ht⟩:=h.2.drop Qj E (keyOf_int_mk dT hk) G;refine⟨w',A,?_,ht.grown,?_⟩
 ·rw[Ak3 h.1 (u.canon Qj)]at u;exact .of (h.1.del k) u
 ·obtain⟨es,F,H,B,I,rfl⟩:=ht;simp[Go.ChangeMaps.setBlock]
theorem M1.len(h:M1 w b l)(u:dI.underlying ty=lW (.map 3 e))(A:eP):(Builtin.len_ #[ty] A #[.map (lW b)]).run dI w= .ok (.int .i64 l.length) w:=by
 have:=h.2.len u A;rwa [Oz]at this
end
def EG{α:Type}(e:α->eQ)(l:List (Int×α))(m:Nat):Res:=⟨[],λg=>g=m,λw _=>M1 w m (mapK e l),λh hk _ _=>h.keep (hk m V)⟩
def Amk(R:Res)(m:Nat)(l:List (Int×eQ)):Prop:=∀w T,R.R w T->M1 w m l
theorem Amk.self{α:Type}{e:α->eQ}{l:List (Int×α)}{m:Nat}:Amk (EG e l m) m (mapK e l):=λ_ _ h=>h
structure SetM'(R R':Res)(m:Nat)(l l':List (Int×Value)):Prop where
 has:Amk R m l
 mrk:R'.mrk=R.mrk
 mem:R.F m
 sub:∀g,R'.F g->R.F g
 put:∀w w' T,R.R w T->(∀k,k≠m->k < w.heap.size->w'.heap[k]? =w.heap[k]?)->M1 w' m l'->R'.R w' T
theorem SetM'.self{α:Type}{e:α->eQ}{l l':List (Int×α)}{m:Nat}:SetM' (EG e l m) (EG e l' m) m (mapK e l) (mapK e l'):=⟨Amk.self,rfl,rfl,λ_ h=>h,λ_ _ _ _ _ h=>h⟩
section
variable{C:Ctx}{t:List AV}{h:List jZ}{o:cT}{K:St->Prop}{ty e:eP}{x y z:cY}{m:Nat}{R:Res}{l:List (Int×eQ)}{k:Int}
theorem J6{α:Type}(A:α->eQ)(E:o.op= .makeMap ty lV)(G:∀m,K ⟨Bl t o.dst (.lit (.map (lW m))),h++[.res (EG A [] m)]⟩):AOp dI C o ⟨t,h⟩ K:=by
 refine CX (ι:=Nat) (Rs:=EG A []) (val:=λm=>.map (lW m)) (λ_=>rfl) (λS ψ w ρ H B=>?_) G;have F:(fI ρ o).run dI w= .ok (.value (.map (lW w.heap.size))) (w.alloc (.map #[] 0)):=by simp[fI,E,run_makeMap]
 rw[F];have u:=(eK w.heap.size w).alloc (lB _) (.map #[] 0);refine⟨⟨u.os,u.tape,u.output,u.size,λk hk _=>u.block k hk⟩,w.heap.size,rfl,ME w,λk hk=>?_⟩;have hk:k=w.heap.size:=hk;subst hk;exact⟨.inr (lB _),by simp⟩
theorem KU(i:Nat)(E:o.op= .lookup ty x y aS)(B:dI.underlying ty=lW (.map 3 e))(F:∀w,(gF e).run dI w= .ok zv w)(hx:evA t x= .lit (.map (lW m)))(G:evA t y= .lit (.int .i64 k))(hk:Ch k)(hi:h[i]? =lW (.res R))(I:Amk R m l):
 AT dI C t h o (.lit ((getK l k).getD zv)):=
 AL λT ψ w ρ H u=>by
  have h1:=u x (by simp[E,cR]);have h2:=u y (by simp[E,cR]);rw[hx]at h1;rw[G]at h2;unfold kD at h1 h2;have A:=(I w T (H.blk i _ hi).2).look B (F w) hk;refine⟨_,by simp[fI,E,h1,h2,A,eH];rfl,?_⟩;unfold kD;rfl
theorem Iq(i:Nat)(E:o.op= .lookup ty x y aZ)(B:dI.underlying ty=lW (.map 3 e))(F:∀w,(gF e).run dI w= .ok zv w)(hx:evA t x= .lit (.map (lW m)))(G:evA t y= .lit (.int .i64 k))(hk:Ch k)(hi:h[i]? =lW (.res R))(I:Amk R m l):
 AT dI C t h o (.tup [.lit ((getK l k).getD zv),.lit (.bool (getK l k).isSome)]):=
 AL λT ψ w ρ H u=>by
  have h1:=u x (by simp[E,cR]);have h2:=u y (by simp[E,cR]);rw[hx]at h1;rw[G]at h2;unfold kD at h1 h2;have A:=(I w T (H.blk i _ hi).2).look_ok B (F w) hk;refine⟨.tuple #[(getK l k).getD zv,.bool (getK l k).isSome],by simp[fI,E,h1,h2,A,eH],?_⟩;simp only[kD,Ae];exact⟨[_,_],rfl,_,_,rfl,rfl,_,_,rfl,rfl,rfl⟩
theorem Abt(i:Nat)(B:o.op= .call {callee:=.builtin .len,args:=#[x],argTypes:=#[ty]})(A:dI.underlying ty=lW (.map 3 e))(hx:evA t x= .lit (.map (lW m)))(hi:h[i]? =lW (.res R))(F:Amk R m l):
 AT dI C t h o (.lit (.int .i64 (l.length:Int))):=
 AL λT ψ w ρ H u=>by
  have h1:=u x (by simp[B,cR,bD]);rw[hx]at h1;unfold kD at h1;have E:=(F w T (H.blk i _ hi).2).len A o.type;refine⟨_,by simp[fI,B,fU,fQ,builtin,h1,E];rfl,?_⟩;unfold kD;rfl
theorem Y2(i:Nat){v:eQ}(G:o.op= .mapUpdate ty x y z)(I:dI.underlying ty=lW (.map 3 e))(hx:evA t x= .lit (.map (lW m)))(Y:evA t y= .lit (.int .i64 k))(X:evA t z= .lit v)(hk:Ch k)(J:l.length < fR)(hi:h[i]? =lW (.res R))(A:SetM' R R' m l (B7 l k v))
 (hK:K ⟨Bl t o.dst (.lit undef),h.set i (.res R')⟩):AOp dI C o ⟨t,h⟩ K:=by
 refine j9 (ι:=Unit) (Rs:=λ_=>R') (val:=λ_=>undef) hi (λ_=>A.mrk) (λT ψ w ρ H F O u=>?_) (λ_=>hK);have h1:=u x (by simp[G,cR]);have h2:=u y (by simp[G,cR]);have W:=u z (by simp[G,cR]);rw[hx]at h1;rw[Y]at h2;rw[X]at W;unfold kD at h1 h2 W;obtain⟨w',B,N,hg,Z⟩:=(A.has w T F).put I J hk v;have he:(fI ρ o).run dI w= .ok .skip w':=by
  simp[fI,G,h1,h2,W,B,eH]
 rw[he];refine⟨⟨hg.os,hg.tape,hg.output,hg.size,λq hq J=>hg.block q hq λe=>J (by cases e;exact A.mem)⟩,(),rfl,A.put w w' T F (λq hq hl=>hg.block q hl λe=>hq (by cases e;rfl)) N,λg E=>⟨.inl (A.sub g E),by have:=O g (A.sub g E);omega⟩⟩
theorem Ams(i:Nat)(I:o.op= .call {callee:=.builtin .delete,args:=#[x,y],argTypes:=#[ty,3]})(G:dI.underlying ty=lW (.map 3 e))(hx:evA t x= .lit (.map (lW m)))(O:evA t y= .lit (.int .i64 k))(hk:Ch k)(hi:h[i]? =lW (.res R))(u:SetM' R R' m l (Qm l k))
 (hK:K ⟨Bl t o.dst (.lit (.tuple #[])),h.set i (.res R')⟩):AOp dI C o ⟨t,h⟩ K:=by
 refine j9 (ι:=Unit) (Rs:=λ_=>R') (val:=λ_=>.tuple #[]) hi (λ_=>u.mrk) (λT ψ w ρ H F N A=>?_) (λ_=>hK);have h1:=A x (by simp[I,cR,bD]);have h2:=A y (by simp[I,cR,bD]);rw[hx]at h1;rw[O]at h2;unfold kD at h1 h2;obtain⟨w',B,J,hg,W⟩:=(u.has w T F).drop G hk o.type;have Z:(fI ρ o).run dI w= .ok (.value (.tuple #[])) w':=by
  simp[fI,I,fU,fQ,builtin,h1,h2,B,eH]
 rw[Z];refine⟨⟨hg.os,hg.tape,hg.output,hg.size,λq hq X=>hg.block q hq λe=>X (by cases e;exact u.mem)⟩,(),rfl,u.put w w' T F (λq hq Y=>hg.block q Y λe=>hq (by cases e;rfl)) J,λg E=>⟨.inl (u.sub g E),by have:=N g (u.sub g E);omega⟩⟩
end
def Aia(w:eV)(m r:Nat)(l:List (Int×eQ))(ks:List Int):Prop:=okK l/\∃(left:Lit->Bool) (cnt:Nat),
 w.ranges dI 3 Am1 m r l.length (LW l) left cnt/\(∀x,Ch x->left (.int .i64 x)=((getK l x).isSome&&!ks.contains x))/\(∀x∈ks,(getK l x).isSome=aZ)/\ks.Nodup
def Ayg(w:eV)(r:Nat)(q:Int)(v:eQ):Prop:=(bP (.pointer (lW ⟨r,0,lV⟩))).run dI w= .ok (.tuple #[.int .i64 q,v]) w
theorem TB{H:Type}{P:cZ}{k:eP}{R:eQ->Option (bI H×List MemPlace)}{w:eV}{b r:Nat}{D:bI H}{left:Lit->Bool}{cnt:Nat}(h:w.ranges P k R b r n D left cnt)(G:w'.heap[b]? =w.heap[b]?)(E:w'.heap[r]? =w.heap[r]?):w'.ranges P k R b r n D left cnt:=by
 obtain⟨es,A,u,seen,J,h1,F,B,I,h2,rest⟩:=h;exact⟨es,A,u,seen,J,G.trans h1,F,B,I,E.trans h2,rest⟩
theorem Aia.keep{w:eV}{m r:Nat}{l:List (Int×eQ)}{ks:List Int}(h:Aia w m r l ks)(A:w'.heap[m]? =w.heap[m]?)(u:w'.heap[r]? =w.heap[r]?):Aia w' m r l ks:=by
 obtain⟨h0,left,cnt,h1,h2⟩:=h;exact⟨h0,left,cnt,TB h1 A u,h2⟩
theorem Ayg.keep{w:eV}{m r:Nat}{l:List (Int×eQ)}{ks:List Int}{v:eQ}(h:Aia w m r l ks)(B:Ayg w r q v)(J:w'.heap[m]? =w.heap[m]?)(I:w'.heap[r]? =w.heap[r]?):Ayg w' r q v:=by
 obtain⟨_,left,cnt,⟨es,u,A,seen,F,h1,_,_,_,h2,_⟩,_⟩:=h;unfold Ayg at B⊢;have X:(fK r).run dI w= .ok (.mapIter (lW m) A seen F) w:=by simp[fK,eM,h2]
 have W:(fK m).run dI w= .ok (.map es u) w:=by simp[fK,eM,h1]
 have O:(fK r).run dI w'= .ok (.mapIter (lW m) A seen F) w':=by simp[fK,eM,I,h2]
 have N:(fK m).run dI w'= .ok (.map es u) w':=by simp[fK,eM,J,h1]
 unfold bP at B⊢;simp only[eN,X,O,eI]at B⊢;cases G:seen.back? with
 |none=>rw[G]at B;simp[stuck]at B
 |some E=>
  rw[G]at B;simp only[eN,W,N,eI]at B⊢;by_cases hc:u !=F
  ·simp[hc,unsupported]at B
  ·cases H:es.find? (λx=>x.born ==E)with
   |none=>simp[hc,H,unsupported]at B
   |some e=>
    simp[hc,H]at B⊢;exact B
def Tr{α:Type}(e:α->eQ)(l:List (Int×α))(ks:List Int)(m r:Nat):Res:=⟨[],λg=>g=m\/g=r,λw _=>Aia w m r (mapK e l) ks,λh hk _ _=>h.keep (hk m (.inl V)) (hk r (.inr V))⟩
def atT{α:Type}(e:α->eQ)(l:List (Int×α))(ks:List Int)(q:Int)(v:α)(m r:Nat):Res:=⟨[],λg=>g=m\/g=r,λw _=>Aia w m r (mapK e l) ks/\Ayg w r q (e v),λh hk _ _=>⟨h.1.keep (hk m (.inl V)) (hk r (.inr V)),Ayg.keep h.1 h.2 (hk m (.inl V)) (hk r (.inr V))⟩⟩
section
variable{C:Ctx}{t:List AV}{h:List jZ}{o:cT}{K:St->Prop}{ty ee:eP}{x:cY}{m r:Nat}{α:Type}{e:α->eQ}{l:List (Int×α)}{ks:List Int}
theorem Rz(i:Nat)(I:o.op= .range ty x)(E:dI.underlying ty=lW (.map 3 ee))(hi:h[i]? =lW (.res (EG e l m)))
 (hx:evA t x= .lit (.map (lW m)))(X:∀r,K ⟨Bl t o.dst (.lit (.pointer (lW ⟨r,0,lV⟩))),h.set i (.res (Tr e l [] m r))⟩):AOp dI C o ⟨t,h⟩ K:=by
 refine j9 (ι:=Nat) (Rs:=λr=>Tr e l [] m r) (val:=λr=>.pointer (lW ⟨r,0,lV⟩)) hi (λ_=>rfl) (λT ψ w ρ H F O B=>?_) X;have h1:=B x (by simp[I,cR]);rw[hx]at h1;unfold kD at h1;obtain⟨h0,u⟩:=(show M1 w m (mapK e l)from F)
 obtain⟨w',A,N,hg,J⟩:=u.range Qj E;have W:(fI ρ o).run dI w= .ok (.value (.pointer (lW ⟨w.heap.size,0,lV⟩))) w':=by
  simp[fI,I,h1,A,eH]
 rw[W];have Z:=u.lt;refine⟨Bs hg |> λG=>⟨G.os,G.tape,G.output,G.size,λk hk Y=>G.block k hk λe=>by cases e⟩,w.heap.size,rfl,⟨h0,_,_,N,λx hx=>by simp[Eu],(λ_ hx=>by cases hx),jK⟩,λk hk=>?_⟩;rcases(show k=m\/k=w.heap.size from hk)with rfl|rfl
 ·exact⟨.inl V,by omega⟩
 ·exact⟨.inr (lB _),by omega⟩
theorem VH(i:Nat)(ho:o.op= .next x aS)(hi:h[i]? =lW (.res (Tr e l ks m r)))
 (hx:evA t x= .lit (.pointer (lW ⟨r,0,lV⟩)))(ah:ks.Nodup->(∀q,q∈ks↔q∈keysK l)->K ⟨Bl t o.dst (.lit (.tuple #[.bool aS])),h.set i (.res (Tr e l ks m r))⟩)
 (ag:∀q v,ks.Nodup->(∀q∈ks,q∈keysK l)->Ch q->getK l q=lW v->q∉ks->K ⟨Bl t o.dst (.lit (.tuple #[.bool aZ,.int .i64 q,e v])),h.set i (.res (atT e l (ks++[q]) q v m r))⟩):AOp dI C o ⟨t,h⟩ K:=by
 have E:∀q,(getK (mapK e l) q).isSome=aZ↔q∈keysK l:=λq=>by
  rw[CB,lS];unfold keysK getK;rw[lS,List.find?_isSome];simp
 refine j9 (ι:={p:Option (Int×α) // ks.Nodup/\(∀q∈ks,q∈keysK l)/\match p with|none=>∀q,q∈ks↔q∈keysK l|some (q,v)=>Ch q/\getK l q=lW v/\q∉ks})
  (Rs:=λp=>match p.1 with|none=>Tr e l ks m r|some (q,c)=>atT e l (ks++[q]) q c m r) (val:=λp=>match p.1 with|none=>.tuple #[.bool aS]|some (q,c)=>.tuple #[.bool aZ,.int .i64 q,e c]) hi ?_ (λT ψ w ρ H Y al Z=>?_) ?_
 ·rintro⟨_|⟨q,c⟩,F⟩ <;> rfl
 ·have h1:=Z x (by simp[ho,cR]);rw[hx]at h1;unfold kD at h1;obtain⟨h0,left,cnt,hr,hl,O,I⟩:=(show Aia w m r (mapK e l) ks from Y)
  have B:∀q∈ks,q∈keysK l:=λq hq=>(E q).1 (O q hq)
  have hm:=hr.owns.lt;have ab:=hr.lt;rcases hr.next Qj o.type with⟨_,ad,A⟩|⟨aj,v,kl,y,w',ai,W,J,hv,ae,A,ac,_,hg,ak,X⟩
  ·have he:(fI ρ o).run dI w= .ok (.value (.tuple #[.bool aS])) w:=by
    simp[fI,ho,h1,A,eH]
   rw[he];refine⟨⟨rfl,rfl,rfl,lB _,λ_ _ _=>rfl⟩,⟨lV,I,B,λq=>⟨B q,λhq=>?_⟩⟩,rfl,Y,λk hk=>⟨.inl hk,?_⟩⟩
   ·obtain⟨p,F,rfl⟩:=jC.1 hq;have hw:=h0.2 (p.1,e p.2) (jC.2 ⟨p,F,rfl⟩);have:=hl p.1 hw;rw[ad,(E p.1).2 hq]at this;simpa using this
   ·rcases(show k=m\/k=r from hk)with rfl|rfl
    ·exact hm
    ·exact ab
  ·obtain⟨q,rfl,rfl,hq⟩:=Maps.keyOf_int_inv dT W;have u:=hl q hq;rw[J]at u;have u:(getK (mapK e l) q).isSome=aZ/\q∉ks:=by simpa using u.symm
   obtain⟨c,hc⟩:∃c,getK l q=lW c:=by
    have:=u.1;rw[CB,lS]at this;exact Option.isSome_iff_exists.1 this
   have aa:v=e c:=by
    have:=ae (.held undef);rw[Ef,CB,hc]at this;unfold Am1 at hv;cases hv;simpa using this.symm
   subst aa;have he:(fI ρ o).run dI w= .ok (.value (.tuple #[.bool aZ,.int .i64 q,e c])) w':=by
    simp[fI,ho,h1,A,eH]
   rw[he];refine⟨Bs hg |> λG=>⟨G.os,G.tape,G.output,G.size,λk hk hn=>G.block k hk λe=>hn (by cases e;exact .inr V)⟩,⟨lW (q,c),I,B,hq,hc,u.2⟩,rfl,⟨⟨h0,_,_,ac,λx hx=>?_,λx hx=>?_,?_⟩,X⟩,λk hk=>⟨.inl hk,?_⟩⟩
   ·rw[hl x hx,Aoq];by_cases N:x=q
    ·subst N;simp
    ·simp[N]
   ·rcases i9.1 hx with hx|hx
    ·exact O x hx
    ·rw[jG.1 hx];exact u.1
   ·rw[jJ];exact⟨I,by simp,λa ha b hb=>by
     rw[jG.1 hb];exact λe=>u.2 (e▸ha)⟩
   ·rcases(show k=m\/k=r from hk)with rfl|rfl <;> omega
 ·rintro⟨_|⟨q,c⟩,h1,h2,F⟩
  ·exact ah h1 F
  ·exact ag q c h1 h2 F.1 F.2.1 F.2.2
theorem NB(i:Nat){v:α}(A:o.op= .entry x)(hi:h[i]? =lW (.res (atT e l ks q v m r)))(hx:evA t x= .lit (.pointer (lW ⟨r,0,lV⟩))):
 AT dI C t h o (.tup [.lit (.int .i64 q),.lit (e v)]):=
 AL λS' ψ w ρ H u=>by
  have h1:=u x (by simp[A,cR]);rw[hx]at h1;unfold kD at h1;obtain⟨_,B⟩:=(show Aia w m r (mapK e l) ks/\Ayg w r q (e v)from(H.blk i _ hi).2)
  refine⟨.tuple #[.int .i64 q,e v],by simp[fI,A,h1,(show _=_ from B),eH],?_⟩;simp only[kD,Ae];exact⟨[_,_],rfl,_,_,rfl,rfl,_,_,rfl,rfl,rfl⟩
end
end Mu
namespace Mu
open Go Go.RowKit
variable{J:Type}{N:Nat}{Q:bL->St->Prop}{R RB:Res}{ι:Type}{Rs:ι->Res}{S:Nat->Prop}{α:Type}{T:Ty α}{W:eV}{c:bG}{ds:List Nat}{e:eP}{κ:Type}{fin:κ->Prop}{fn:bN}{g:cY}{gf:bO}{i:Nat}{k0:κ}{l:List cT}{lb:List eQ}{n:Nat}{ops:Array cT}{ps:Array Tmp}{s:St}{st:κ->List AV->κ->Prop}{tys:Array eP}{v:eQ}{w:eV}{x:cY}{xs:List AV}{ψ:Nat->eQ}
section
variable{P:cZ}{C:Ctx}{t:List AV}{h:List jZ}{o:cT}
def Ayh(P:cZ)(C:Ctx)(o:cT)(s:St)(K:St->Prop):Prop:=
 ∀(Q':bL->Act->eV->Prop),¬cC Q'->∀a w,s.rel C a w->o.wpIn (fnc C.rd) 4 P a w (λa' w'=>∃u,K u/\u.rel C a' w') Q'
theorem Ayh.op{K:St->Prop}(h:AOp P C o s K):Ayh P C o s K:=λQ' u a w H=>Si (h Q' a w H).1 u (h Q' a w H).2
def Il(P:cZ)(C:Ctx)(ops:Array cT)(K:St->Prop):List cT->St->Prop
 | [],s=>K s
 |o::rest,s=>∃b,gA ops s.t o=lW b/\(b=aZ->Ayh P C o s (Il P C ops K rest))/\(b=aS->Il P C ops K rest ⟨Bl s.t o.dst (.lit undef),s.h⟩)
theorem Dz{rd:Option Nat}(A:C.rd=rd){ops:Array cT}{K:St->Prop}{Q':bL->Act->eV->Prop}(u:¬cC Q')(E:∀s a w,K s->s.rel C a w->Q' .normal a w):∀(l:List cT) (s:St) (a:Act) (w:eV),Il P C ops K l s->s.rel C a w->gC (fnc rd) 4 P ops Q' l a w
 | [],s,a,w,h,H=>E s a w h H
 |o::rest,s,a,w,h,H=>by
  obtain⟨b,hg,ht,O⟩:=h;obtain⟨_,S,ψ,_,I⟩:=id H;have G:=DR hg I;unfold gC;rw[G];cases b with
  |true=>
   rw[if_pos V];subst A;have B:=ht V Q' u a w H;exact Oper.wpIn_mono (λa' w' ⟨F,h1,h2⟩=>Dz V u E rest F a' w' h1 h2) B
  |false=>
   rw[if_neg (by simp)];exact⟨λ_ _=>UB _ _,Dz A u E rest _ _ w (O V) (FQ H o.dst)⟩
theorem P1{id:Nat}(h:Il P C l.toArray (Q .normal) l s):Awp P C (.region id l.toArray aS) Q s:=λa w H=>
 wpIn_mono (wpIn_region_lit (Dz V (Q':=λe a' w'=>e= .normal/\∃u,Q e u/\u.rel C a' w') (λ⟨_,_,h⟩=>by cases h.1) (λs a w h H=>⟨rfl,s,h,H⟩) l s a w h H)) λ_ _ _ h=>h.2
theorem Ga{K:St->Prop}(h:K s):Il P C ops K [] s:=h
theorem Ik{K:St->Prop}{rest:List cT}(hg:gA ops s.t o=lW aZ)(hq:AOp P C o s (Il P C ops K rest)):Il P C ops K (o::rest) s:=⟨aZ,hg,λ_=>Ayh.op hq,λh=>by cases h⟩
theorem PM{K:St->Prop}{rest:List cT}(hg:gA ops s.t o=lW aZ)(hq:Ayh P C o s (Il P C ops K rest)):Il P C ops K (o::rest) s:=⟨aZ,hg,λ_=>hq,λh=>by cases h⟩
theorem Rm{K:St->Prop}{rest:List cT}(hg:gA ops t o=lW aS)(hk:Il P C ops K rest ⟨Bl t o.dst (.lit undef),h⟩):Il P C ops K (o::rest) ⟨t,h⟩:=⟨aS,hg,λh=>(by cases h),λ_=>hk⟩
theorem Di{K:St->Prop}{t t':List AV}{h h':List jZ}(ht:t=t')(hh:h=h')(hk:Il P C ops K l ⟨t',h'⟩):Il P C ops K l ⟨t,h⟩:=by subst ht hh;exact hk
def PN{ι:Type}(P:cZ)(l:Nat)(u:Nat->Prop)(A:Nat)(R:Res)(xs:List AV)(b:Bool)(Rs:ι->Res):Prop:=
 ∀(w:eV) (S:Nat->Prop) (vs:List eQ),(∀k,u k->S k)->(∀k,S k->u k\/A<=k)->(∀k,S k->k < w.heap.size/\¬R.F k)->(∀g,R.F g->g < w.heap.size)->R.R w S->Ae w S [] ψ0 xs vs->
  YieldAt bM 2 P l vs.toArray w λe w'=>e= .returned (.bool b)/\kV w S R.F Rs (λ_=>.bool b) (.bool b) w'
theorem K0{b:Bool}{l:Nat}{args:Array cY}{K:St->Prop}(F:C.rd=lV)(hi:h[i]? =lW (.res R))(hm:∀p,(Rs p).mrk=R.mrk)
 (ho:o.op= .call {callee:=.value x,args:=args,argTypes:=tys})(hx:evA t x= .lit (.func (.yield l) #[] #[]))(E:args.toList.map (evA t)=xs)(hc:Bh xs=aZ)
 (hY:PN P l C.S0 C.w0.heap.size R xs b Rs)(hK:∀p,K ⟨Bl t o.dst (.lit (.bool b)),h.set i (.res (Rs p))⟩):Ayh P C o ⟨t,h⟩ K:=by
 rintro Q' hQ a w ⟨hd,S,ψ,H,G⟩;have u:=H.blk i _ hi;have h1:=Bv G x;rw[hx]at h1;unfold kD at h1;have h2:Ae w S h ψ xs (args.toList.map a.eval):=by
  rw[<-E];exact Cd λx _=>Bv G x
 obtain⟨fn,tmps,assign,body,hy,hR⟩:=hY w S (args.toList.map a.eval) H.sub H.new (λk hk=>⟨H.lt k hk,λI=>(u.1 k I).2.1 hk⟩) (λg hg=>(u.1 g hg).2.2) u.2 (Bi _ _ hc h2);have O:∀c,o.op≠.defer c:=λc e=>by rw[ho]at e;cases e
 have A:(fI a.eval o).run P w= .ok (.round l fn tmps assign body) w:=by
  have e:(args.map a.eval)=(args.toList.map a.eval).toArray:=by rw[<-aN]
  simp only[fI,ho,fU,h1];simp[Deferred.ofValue,fQ];rw[e,hy]
 rw[F];refine⟨λ_ _=>UB _ _,?_⟩;rw[Oper.semAt_eq _ _ _ O,A];refine⟨λh=>(by cases h),?_⟩;have aa:RoundIn bM 3 P l fn tmps assign body w _:=⟨hR.1,λc cs _=>hR.2 c cs (room_wide _)⟩
 refine RoundIn.mono aa ?_;rintro e w' ⟨rfl,Y⟩;obtain⟨p,_,Z,hF⟩:=Y.some;have B:∀k,S k->w'.heap[k]? =w.heap[k]?:=λk hk=>Y.gr.block k (H.lt k hk) λI=>(u.1 k I).2.1 hk
 have X:Ext w S h ψ w' S (h.set i (.res (Rs p))) (Bo ψ i (ψ i)):=kH B hi (λc' hc=>by simp[j8]at hc) λh=>by simp[AZ]at h
 have ab:Hv C.N w' S (h.set i (.res (Rs p))) (Bo ψ i (ψ i)) (ψ i) (.res (Rs p)):=⟨λg hg=>by
  obtain⟨h1,h2⟩:=hF g hg;rcases h1 with h1|h1
  ·exact⟨(u.1 g h1).1,(u.1 g h1).2.1,h2⟩
  ·exact⟨λhn=>by have:=H.nlt g hn;have:=H.bel.size;omega,λhs=>by have:=H.lt g hs;omega,h2⟩,Z⟩
 exact⟨_,hK p,Iw (s:=⟨t,h⟩) hi hd G (H.set hi V Y.gr X ab λg hg=>(hF g hg).1) X (by unfold kD;rfl) (by show(Rs p).mrk.map Kb=R.mrk.map Kb;rw[hm p])⟩
def Ah7{ι:Type}(P:cZ)(l:Nat)(A:Nat->Prop)(u:Nat)(R:Res)(xs:List AV)(Rs:ι->Res):Prop:=PN P l A u R xs aZ Rs
theorem Ayh.yield{l:Nat}{args:Array cY}{K:St->Prop}(A:C.rd=lV)(hi:h[i]? =lW (.res R))(E:∀p,(Rs p).mrk=R.mrk)
 (B:o.op= .call {callee:=.value x,args:=args,argTypes:=tys})(hx:evA t x= .lit (.func (.yield l) #[] #[]))(u:args.toList.map (evA t)=xs)(hc:Bh xs=aZ)
 (F:Ah7 P l C.S0 C.w0.heap.size R xs Rs)(G:∀p,K ⟨Bl t o.dst (.lit (.bool aZ)),h.set i (.res (Rs p))⟩):Ayh P C o ⟨t,h⟩ K:=K0 A hi E B hx u hc F G
end
theorem FT{w:eV}{S:Nat->Prop}{h:List jZ}{ψ:Nat->eQ}:∀l:List eQ,Ae w S h ψ (l.map .lit) l
 | []=>by unfold Ae;rfl
 |v::l=>by
  simp only[i6];unfold Ae;exact⟨v,l,rfl,by unfold kD;rfl,FT l⟩
def Amj{κ:Type}(P:cZ)(gf:bO)(lb:List eQ)(RB:Res)(st:κ->List AV->κ->Prop)(k0:κ)(fin:κ->Prop):Prop:=
 Ca P gf=aZ/\∀(w:eV) (S:Nat->Prop) (ι:Type) (l:Nat) (u:κ->ι->Res),(∀k p,(u k p).mrk= [])->(∀k es k',st k es k'->∀p,Ah7 P l S w.heap.size (u k p) es (u k'))->
  ∀p,(∀k,S k->k < w.heap.size/\¬(u k0 p).F k/\¬RB.F k)->(∀g,(u k0 p).F g->g < w.heap.size/\¬RB.F g)->(∀g,RB.F g->g < w.heap.size)->(u k0 p).R w S->RB.R w S->
   bF bM 3 P gf (#[eR (.yield l) #[] #[]]++lb.toArray) w λe w'=>(∃v,e= .returned v)/\Gr (λg=>(u k0 p).F g\/RB.F g) w w'/\∃A q S',fin A/\(∀k,S k->S' k)/\(u A q).R w' S'/\(∀k,S' k->k < w'.heap.size/\¬(u A q).F k)/\(∀k,S' k->S k\/w.heap.size<=k)/\∀g,(u A q).F g->((u k0 p).F g\/RB.F g\/w.heap.size<=g)/\g < w'.heap.size
def Azn{κ ι:Type}(fin:κ->Prop)(A:κ->ι->Res):bL->St->Prop:=λe s=>(e= .normal\/e= .ret)/\∃u,fin u/\∃q,s.h[0]? =lW (.res (A u q))/\mkD s.h= []
theorem NE{P:cZ}(hf:P.funcs[gf]? =lW fn)(hb:fn.body=lW c)(hE:Ca P gf=aZ)(A:fn.results= #[])(G:fn.ntmps=n)(Z:RB.mrk= [])
 (h:∀(C:Ctx),C.rd=lV->∀(ι:Type) (l:Nat) (u:κ->ι->Res),(∀k p,(u k p).mrk= [])->(∀k es k',st k es k'->∀p,Ah7 P l C.S0 C.w0.heap.size (u k p) es (u k'))->∀p,
  Awp P C c (Azn fin u) ⟨(.lit (.func (.yield l) #[] #[])::lb.map .lit)++jP (n - (lb.length+1)) (.lit undef),[.res (u k0 p),.res RB]⟩):Amj P gf lb RB st k0 fin:=by
 refine⟨hE,λw S ι l u hm hY p hS hF hB hR ac=>fE hf hb trivial ?_⟩;rw[G];let N0:Nat->Prop:=λk=>k < w.heap.size/\¬(u k0 p).F k/\¬RB.F k
 have hH:kJ ⟨w,S,N0,lV⟩ [.res (u k0 p),.res RB] S ψ0 w:=by
  refine⟨Kp.refl _ _,λk hk=>hk.1,λk hk=>(hS k hk).1,λ_ h=>h,λ_ h=>.inl h,λi b hi=>?_,λi j I hi hj g h1 h2=>?_⟩
  ·rcases i with _|_|i
   ·have:b= .res (u k0 p):=by simpa using hi.symm
    subst this;exact⟨λg hg=>⟨λG=>G.2.1 hg,λX=>(hS g X).2.1 hg,(hF g hg).1⟩,hR⟩
   ·have:b= .res RB:=by simpa using hi.symm
    subst this;exact⟨λg hg=>⟨λG=>G.2.2 hg,λX=>(hS g X).2.2 hg,hB g hg⟩,ac⟩
   ·simp at hi
  ·rcases i with _|_|i
   ·rcases j with _|_|j
    ·exact I V
    ·exact(hF g h1).2 h2
    ·simp[j5]at hj
   ·rcases j with _|_|j
    ·exact(hF g h2).2 h1
    ·exact I V
    ·simp[j5]at hj
   ·simp[j5]at hi
 have O:kU ⟨w,S,N0,lV⟩ ⟨(.lit (.func (.yield l) #[] #[])::lb.map .lit)++jP (n - (lb.length+1)) (.lit undef),[.res (u k0 p),.res RB]⟩ {tmps:=(#[eR (.yield l) #[] #[]]++lb.toArray)++aL (n - (#[eR (.yield l) #[] #[]]++lb.toArray).size) undef,defers:=[]} w:=by
  refine⟨?_,S,ψ0,hH,?_⟩
  ·show []=mkD _;simp[mkD,j6,hm k0 p,Z]
  ·have e:((#[eR (.yield l) #[] #[]]++lb.toArray)++aL (n - (#[eR (.yield l) #[] #[]]++lb.toArray).size) undef).toList=(eR (.yield l) #[] #[]::lb)++jP (n - (lb.length+1)) undef:=by
    simp[kW 1 lb.length]
   rw[e,show(kC (.func (.yield l) #[] #[])::lb.map .lit)=((eR (.yield l) #[] #[]::lb).map kC)from V,show jP (n - (lb.length+1)) (kC undef)=(jP (n - (lb.length+1)) undef).map kC by simp];exact BK (FT _) (FT _)
 have hw:=h ⟨w,S,N0,lV⟩ V ι l u hm hY p _ w O;refine wpIn_mono (Alf (m:=3) hw) ?_;rintro e a' w' ⟨s,⟨he,E,ab,q,h0,Y⟩,hd,S1,ψ,H,hl⟩;rw[Y]at hd;have hq:=H.blk 0 _ h0;have B:(∃v,bK (.tuple #[])= .returned v)/\Gr (λg=>(u k0 p).F g\/RB.F g) w w'/\∃E q S',fin E/\(∀k,S k->S' k)/\(u E q).R w' S'/\(∀k,S' k->k < w'.heap.size/\¬(u E q).F k)/\(∀k,S' k->S k\/w.heap.size<=k)/\∀g,(u E q).F g->((u k0 p).F g\/RB.F g\/w.heap.size<=g)/\g < w'.heap.size:=by
  refine⟨⟨_,rfl⟩,⟨H.bel.os,H.bel.tape,H.bel.output,H.bel.size,λk hk F=>H.bel.block k ⟨hk,λh=>F (.inl h),λh=>F (.inr h)⟩⟩,E,q,S1,ab,H.sub,hq.2,λk hk=>⟨H.lt k hk,λhf=>(hq.1 k hf).2.1 hk⟩,H.new,λg hg=>⟨?_,(hq.1 g hg).2.2⟩⟩;have h1:=(hq.1 g hg).1;by_cases aa:g < w.heap.size
  ·by_cases h2:(u k0 p).F g
   ·exact .inl h2
   ·by_cases h3:RB.F g
    ·exact .inr (.inl h3)
    ·exact absurd ⟨aa,h2,h3⟩ h1
  ·exact .inr (.inr (by show w.heap.size<=g;omega))
 rcases he with rfl|rfl
 ·exact⟨hd,_,fV A _ _ _,B⟩
 ·exact⟨hd,_,fV A _ _ _,B⟩
def Aic(P:cZ)(gf:bO)(lb:List eQ)(RB:Res)(encs:Nat->List AV)(N:Nat):Prop:=Amj P gf lb RB (λk es k'=>k < N/\es=encs k/\k'=k+1) 0 (· =N)
def Arj{ι:Type}(Rs:ι->Res):bL->St->Prop:=λe s=>(e= .normal\/e= .ret)/\∃q,s.h[0]? =lW (.res (Rs q))/\mkD s.h= []
theorem ND{P:cZ}{encs:Nat->List AV}(G:P.funcs[gf]? =lW fn)(H:fn.body=lW c)(O:Ca P gf=aZ)(A:fn.results= #[])(E:fn.ntmps=n)(B:RB.mrk= [])
 (h:∀(C:Ctx),C.rd=lV->∀(ι:Type) (l:Nat) (u:Nat->ι->Res),(∀k p,(u k p).mrk= [])->(∀k p,k < N->Ah7 P l C.S0 C.w0.heap.size (u k p) (encs k) (u (k+1)))->∀p,
  Awp P C c (Arj (u N)) ⟨(.lit (.func (.yield l) #[] #[])::lb.map .lit)++jP (n - (lb.length+1)) (.lit undef),[.res (u 0 p),.res RB]⟩):Aic P gf lb RB encs N:=
 NE G H O A E B λC X ι l u F I p=>(h C X ι l u F (λk p hk=>I k _ _ ⟨hk,rfl,rfl⟩ p) p).mono λ_ _ ⟨h1,q⟩=>⟨h1,N,rfl,q⟩
theorem PY{P:cZ}{encs:Nat->List AV}(hE:Ca P gf=aZ)
 (X:∀w S,(∀k,S k->k < w.heap.size)->(∀k,R.F k->k < w.heap.size)->R.R w S->Arl P gf lb.toArray (λk=>S k\/R.F k) w (λk vs=>Ae w S [] ψ0 (encs k) vs) N):Aic P gf lb R encs N:=by
 refine⟨hE,λw S ι l G hm hY p E hF hB hR aa=>?_⟩;have I:∀{k q g} {W:eV},S g->(∀g,(G k q).F g->((G 0 p).F g\/w.heap.size<=g)/\g < W.heap.size)->¬(G k q).F g:=λhg ab H=>by
  rcases(ab _ H).1 with h|h
  ·exact(E _ hg).2.1 h
  ·have:=(E _ hg).1;omega
 refine(X w S (λk hk=>(E k hk).1) hB aa l (λk W=>Gr (G 0 p).F w W/\∃q,(G k q).R W S/\∀g,(G k q).F g->((G 0 p).F g\/w.heap.size<=g)/\g < W.heap.size) w .refl ?_ ⟨⟨rfl,rfl,rfl,lB _,λ_ _ _=>rfl⟩,p,hR,λg hg=>⟨.inl hg,(hF g hg).1⟩⟩).mono ?_
 ·rintro k vs W hk he ⟨u,q,hq,A⟩;have Z:∀g,S g->W.heap[g]? =w.heap[g]?:=λg hg=>u.block g (E g hg).1 (E g hg).2.1
  obtain⟨fn,tmps,assign,body,hy,hr⟩:=hY k _ _ ⟨hk,rfl,rfl⟩ q W S vs (λ_ h=>h) (λ_ h=>.inl h) (λg hg=>⟨lD (E g hg).1 u.size,I hg A⟩) (λg hg=>(A g hg).2) hq (Az (kF [] ψ0 Z λ_ h=>h) _ _ he);refine⟨fn,tmps,assign,body,hy,hr.mono ?_⟩;rintro e W' ⟨rfl,B,q',_,O,F⟩;have Y:∀g,g < w.heap.size->¬(G 0 p).F g->W'.heap[g]? =W.heap[g]?:=λg h1 h2=>B.block g (lD h1 u.size) λH=>by
   rcases(A g H).1 with h|h
   ·exact h2 h
   ·omega
  have hs:=u.size;refine⟨rfl,⟨⟨B.os.trans u.os,B.tape.trans u.tape,B.output.trans u.output,lC hs B.size,λg h1 h2=>(Y g h1 h2).trans (u.block g h1 h2)⟩,q',O,λg hg=>⟨?_,(F g hg).2⟩⟩,B.size,λg hg=>?_⟩
  ·rcases(F g hg).1 with h|h
   ·exact(A g h).1
   ·exact .inr (by omega)
  ·rcases hg with hg|hg
   ·exact Y g (E g hg).1 (E g hg).2.1
   ·exact Y g (hB g hg) λH=>(hF g H).2 hg
 ·rintro e W' ⟨hv,u,q,hq,A⟩;refine⟨hv,⟨u.os,u.tape,u.output,u.size,λg h1 h2=>u.block g h1 λh=>h2 (.inl h)⟩,N,q,S,rfl,λ_ h=>h,hq,λk hk=>⟨lD (E k hk).1 u.size,I hk A⟩,λ_ h=>.inl h,λg hg=>⟨?_,(A g hg).2⟩⟩;rcases(A g hg).1 with h|h
  ·exact .inl h
  ·exact .inr (.inr h)
theorem HRel.widen{C:Ctx}{h:List jZ}{S':Nat->Prop}(H:kJ C h S ψ W)(G:∀k,S k->S' k)(E:∀k,S' k->k < W.heap.size/\¬owns h ψ k)(B:Nat->Prop)(F:∀k,B k->k < W.heap.size/\¬owns h ψ k)(rd:Option Nat):kJ ⟨W,S',B,rd⟩ h S' ψ W:=by
 have I:=H.re (W':=W) (λ_ _=>rfl) (λ_ _=>rfl) B F rd;refine⟨Kp.refl _ _,λk hk=>(F k hk).1,λk hk=>(E k hk).1,λ_ h=>h,λ_ h=>.inl h,λi b hi=>?_,H.dis⟩;by_cases u:j5 (lW b)=aZ
 ·exact(I.blk i b hi).keep (kF h ψ (λ_ _=>rfl) G) λg hg=>⟨rfl,λ_ A=>(E g A).2 ⟨i,by rw[hi];exact u,by rw[hi];exact hg⟩⟩
 ·cases b <;> simp[j5]at u
  trivial
def Ad4{J:Type}(u:Option Nat)(h':J->List jZ):bL->St->Prop:=λe s=>e=(match u with|none=>.normal|some id=>.exit id)/\∃j,Drops s.h (h' j)
def GZ(P:cZ){J:Type}(body:bG)(u:Option Nat)(h':J->List jZ)(B:St):Prop:=∀A:Ctx,NF A->Awp P A body (Ad4 u h') B
structure BetY(d:Nat)(S own0:Nat->Prop)(w:World)(rec_:Loop)(hk:List ABlk)(Sk:Nat->Prop)(ψk:Nat->Value)(X:Nat->Prop)(W:World)(SI:Nat->Prop):Prop where
 loop:W.heap[w.heap.size+d]? =some (.loop rec_)
 dfr:∀i,i < d->W.heap[w.heap.size+i]? =some (.deferred (some []))
 size:w.heap.size+d < W.heap.size
 same:∀g,S g->W.heap[g]? =w.heap[g]?
 st:HRel ⟨W,Sk,λ_=>False,none⟩ hk Sk ψk W
 sub:∀g,S g->Sk g
 new:∀g,Sk g->S g\/w.heap.size+d < g
 old:∀g,owns hk ψk g->own0 g\/w.heap.size+d < g
 cover:∀g,Sk g->X g\/SI g
abbrev Ai1:=(Nat->Prop)×(Nat->eQ)×(Nat->Prop)
def Ax3(d:Nat)(w:eV)(hk:List jZ)(p:Ai1)(g:Nat):Prop:=(w.heap.size<=g/\g<=w.heap.size+d)\/owns hk p.2.1 g\/p.2.2 g
def Al6(d:Nat)(S A:Nat->Prop)(w:eV)(u:cH)(hk:List jZ)(p:Ai1):Res:=⟨[],Ax3 d w hk p,λW I=>BetY d S A w u hk p.1 p.2.1 p.2.2 W I,by
 intro W W' I X H F O B;have E:∀g,p.1 g->W'.heap[g]? =W.heap[g]?:=λg hg=>by
  rcases H.cover g hg with h1|h1
  ·exact F g (.inr (.inr h1))
  ·exact O g h1
 have G:=(F _ (.inl ⟨Nat.le_add_right _ _,lB _⟩)).trans H.loop;exact⟨G,λi hi=>(F _ (.inl ⟨by omega,by omega⟩)).trans (H.dfr i hi),(aD.1 G).1,λg hg=>(E g (H.sub g hg)).trans (H.same g hg),H.st.re E (λk hk=>F k (.inr (.inl hk))) _ (λ_ h=>h.elim) lV,H.sub,H.new,H.old,λg hg=>(H.cover g hg).imp id (B g)⟩⟩
theorem XP{d:Nat}{P:cZ}{G SI:Nat->Prop}{t es:List AV}{hk:List jZ}{Y:J->List jZ}{vs:List eQ}{tmps:Array eQ}{assign body:bG}{fn:bO}{F:LoopState->Option bG->cH}{p:Ai1}(E:Option Nat)
 (bx:∀x z y,({F x z with state:=y}:cH)=F y z)(bi:∀z,(F .ready z).state= .ready)(cd:∀x z y u,({F x z with state:=y,pending:=u}:cH)=F y u)
 (bz:∀g,G g->g < w.heap.size)(br:∀g,S g->g < w.heap.size)
 (ht:Bh t=aZ)(cc:Bh es=aZ)(bv:Ae w S [] ψ0 t tmps.toList)(cb:Ae W SI [] ψ0 es vs)(hm:mkD hk= [])
 (cm:∀g,S g->SI g)(bu:∀g,SI g->S g\/w.heap.size+d < g)(bt:∀g,SI g->g < W.heap.size/\¬Ax3 d w hk p g)
 (hB:BetY d S G w (F .ready lV) hk p.1 p.2.1 p.2.2 W SI)
 (hA:∀C':Ctx,NF C'->Awp P C' assign (Ke (GZ P body E Y) (λ_ _=>False)) ⟨Nd t ps.toList es,hk⟩):
 RoundIn bM 2 P (w.heap.size+d) fn ((ps.toList.zip vs).foldl (λt p=>t.setIfInBounds p.1 p.2) tmps) assign body W λe W'=>e= .returned (.bool E.isNone)/\kV W SI (Ax3 d w hk p) (λq:J×Ai1=>Al6 d S G w (F (if E.isNone then .ready else .done) (E.map bH)) (Y q.1) q.2) (λ_=>.bool E.isNone) (.bool E.isNone) W':=by
 obtain⟨Sk,I,X⟩:=p;obtain⟨hl,hD,bw,ag,H,al,bb,ah,aw⟩:=hB;dsimp only at H al bb ah aw;obtain⟨l,aj⟩:∃l,l=w.heap.size+d:=⟨_,rfl⟩
 rw[<-aj]at hl bw bb ah bu;rw[<-aj];have hF:∀g,Ax3 d w hk (Sk,I,X) g↔((w.heap.size<=g/\g<=w.heap.size+d)\/owns hk I g\/X g):=λg=>Iff.rfl
 have bh:∀{g},S g\/l < g->g≠l:=λh=>by
  rcases h with h|h
  ·have:=br _ h;omega
  ·omega
 have ba:∀{g},G g\/l < g->g≠l/\¬(w.heap.size<=g/\g<=l):=λh=>by
  rcases h with h|h
  ·have:=bz _ h;omega
  ·omega
 let S1:Nat->Prop:=λg=>Sk g\/SI g
 have bq:∀g,S1 g->g < W.heap.size/\¬owns hk I g:=λg hg=>by
  rcases hg with hg|hg
  ·exact⟨H.lt g hg,λho=>(H.own_lt ho).2.2 hg⟩
  ·exact⟨(bt g hg).1,λho=>(bt g hg).2 (.inr (.inl ho))⟩
 have az:∀g,S1 g->S g\/l < g:=λg hg=>hg.elim (bb g) (bu g)
 let N1:Nat->Prop:=λg=>g < W.heap.size/\¬owns hk I g
 have bn:∀g,w.heap.size<=g/\g<=l->N1 g:=λg hg=>⟨by omega,λho=>(ba (ah g ho)).2 hg⟩
 have an:=bn l ⟨by omega,lB _⟩;have H1:=H.widen (S':=S1) (λk hk=>.inl hk) bq N1 (λ_ h=>h) (lW l);refine roundIn_of_wpIn trivial ?_;have r1:kU ⟨W,S1,N1,lW l⟩ ⟨Nd t ps.toList es,hk⟩ {tmps:=(ps.toList.zip vs).foldl (λt p=>t.setIfInBounds p.1 p.2) tmps,defers:=[]} W:=by
  refine⟨hm.symm,S1,I,H1,QT _ _ _ _ _ ?_ ?_⟩
  ·exact Bi _ _ cc (Az (kF [] ψ0 (λ_ _=>rfl) λk hk=>.inr hk) _ _ cb)
  ·exact Bi _ _ ht (Az (kF [] ψ0 ag λk hk=>.inl (al k hk)) _ _ bv)
 refine wpIn_mono (Alf (hA ⟨W,S1,N1,lW l⟩ ⟨_,_,rfl,an,hl⟩ _ _ r1)) ?_;rintro e a1 Wa ⟨s1,q1,ce,Sa,ad,Ha,ca⟩;cases e with
 |normal=>
  have ab:=Ha.bel;have au:Wa.heap[l]? =lW (.loop (F .ready lV)):=(ab.block _ an).trans hl;have ax:∀g,Sa g->S1 g\/W.heap.size<=g:=Ha.new;have bc:∀g,owns s1.h ad g->owns hk I g\/W.heap.size<=g:=λg hg=>by
   by_cases be:g < W.heap.size
   ·exact .inl (Classical.not_not.1 λh2=>(Ha.own_lt hg).1 ⟨be,h2⟩)
   ·right;omega
  have far:∀{g} {A B:Prop},(A->B\/l < g)->A\/W.heap.size<=g->B\/l < g:=λh1 h2=>h2.elim h1 λh=>.inr (by omega)
  have aq:∀g,Sa g->g≠l:=λg hg=>bh (far (az g) (ax g hg))
  have bl:∀g,owns s1.h ad g->g≠l:=λg hg=>(ba (far (ah g) (bc g hg))).1
  refine⟨_,run_beginRound au (bi _),?_⟩;rw[bx];obtain⟨O,aa⟩:∃O,O=Wa.putObj l (.loop (F .busy lV)):=⟨_,rfl⟩
  rw[<-aa];have am:∀g,g≠l->O.heap[g]? =Wa.heap[g]?:=λg hg=>by rw[aa];exact fA hg
  have cf:O.heap.size=Wa.heap.size:=by rw[aa];simp
  let N2:Nat->Prop:=λg=>g < O.heap.size/\¬owns s1.h ad g
  have H2:=Ha.re (W':=O) (λk hk=>am k (aq k hk)) (λk hk=>am k (bl k hk)) N2 (λ_ h=>h) (lW l);have ar:O.heap[l]? =lW (.loop (F .busy lV)):=by rw[aa];exact fB (aD.1 au).1
  have ck:W.heap.size<=Wa.heap.size:=ab.size;have ak:∀g,N1 g->N2 g:=λg hg=>⟨by have:=hg.1;omega,λho=>(bc g ho).elim hg.2 λh1=>by have:=hg.1;omega⟩
  have r2:kU ⟨O,Sa,N2,lW l⟩ s1 a1 O:=⟨ce,Sa,ad,H2,Az (kF s1.h ad (λk hk=>am k (aq k hk)) λ_ h=>h) _ _ ca⟩
  refine wpIn_mono (Alf (q1 ⟨O,Sa,N2,lW l⟩ ⟨_,_,rfl,ak _ an,ar⟩ _ _ r2)) ?_;rintro e a3 W3 ⟨s2,⟨he,jj,bf⟩,cj,S3,ae,H3,ci⟩;have ac:=H3.bel;have av:W3.heap[l]? =lW (.loop (F .busy lV)):=(ac.block _ (ak _ an)).trans ar;have H4:=H3.cut bf.cut bf.bd;have cg:O.heap.size<=W3.heap.size:=ac.size;have bo:∀g,S3 g->S1 g\/W.heap.size<=g:=λg hg=>(H3.new g hg).elim (ax g) λh1=>.inr (by have:O.heap.size<=g:=h1;omega)
  have bj:∀g,owns (Y jj) ae g->owns hk I g\/W.heap.size<=g:=λg hg=>by
   by_cases be:g < O.heap.size
   ·exact bc g (Classical.not_not.1 λh2=>(H3.own_lt (Aj6 bf.cut hg)).1 ⟨be,h2⟩)
   ·right;omega
  have ay:∀g,S3 g->S g\/l < g:=λg hg=>far (az g) (bo g hg)
  have ap:∀g,owns (Y jj) ae g->G g\/l < g:=λg hg=>far (ah g) (bj g hg)
  have hr:=run_endRound (P:=P) (E.map bH) av;rw[cd,show(E.map bH).isNone=E.isNone by cases E <;> rfl]at hr;obtain⟨W4,Z⟩:∃W4,W4=W3.putObj l (.loop (F (if E.isNone then .ready else .done) (E.map bH))):=⟨_,rfl⟩
  rw[<-Z]at hr;have ai:∀g,g≠l->W4.heap[g]? =W3.heap[g]?:=λg hg=>by rw[Z];exact fA hg
  have ao:W4.heap.size=W3.heap.size:=by rw[Z];simp
  have bg:∀g,N1 g->g≠l->W4.heap[g]? =W.heap[g]?:=λg hg bm=>by
   rw[ai g bm,ac.block g (ak g hg)];exact(am g bm).trans (ab.block g hg)
  have fin:∃v W5,(Instr.endRound l (E.map bH)).run P W3= .ok v W5/\(bK v= .returned (.bool E.isNone)/\kV W SI (Ax3 d w hk (Sk,I,X)) (λq:J×Ai1=>Al6 d S G w (F (if E.isNone then .ready else .done) (E.map bH)) (Y q.1) q.2) (λ_=>.bool E.isNone) (.bool E.isNone) W5):=?fin
  ·cases E with
   |none=>subst he;exact fin
   |some id=>subst he;exact fin
  refine⟨_,_,hr,rfl,⟨?_,?_,?_,by omega,λg hg bk=>?_⟩,(jj,S3,ae,λg=>S3 g/\¬SI g),rfl,?_,λg hg=>?_⟩
  ·rw[Z];exact ac.os.trans (show O.os=W.os by rw[aa];exact ab.os)
  ·rw[Z];exact ac.tape.trans (show O.tape=W.tape by rw[aa];exact ab.tape)
  ·rw[Z];exact ac.output.trans (show O.output=W.output by rw[aa];exact ab.output)
  ·exact bg g ⟨hg,λho=>bk (.inr (.inl ho))⟩ λe=>bk (.inl ⟨by omega,by omega⟩)
  ·show BetY d S G w _ (Y jj) S3 ae (λg=>S3 g/\¬SI g) W4 SI;refine⟨by rw[Z,<-aj];exact fB (aD.1 av).1,λi hi=>(bg _ (bn _ ⟨by omega,by omega⟩) (by omega)).trans (hD i hi),by omega,λg hg=>?_,?_,λg hg=>H3.sub g (Ha.sub g (.inl (al g hg))),by rw[<-aj];exact ay,by rw[<-aj];exact ap,λg hg=>?_⟩
   ·have ch:=br g hg;exact(bg g ⟨by omega,λho=>(H.own_lt ho).2.2 (al g hg)⟩ (by omega)).trans (ag g hg)
   ·exact H4.re (λk hk=>ai k (bh (ay k hk))) (λk hk=>ai k (ba (ap k hk)).1) _ (λ_ h=>h.elim) lV
   ·by_cases h1:SI g
    ·exact .inr h1
    ·exact .inl ⟨hg,h1⟩
  ·have hg:(w.heap.size<=g/\g<=w.heap.size+d)\/owns (Y jj) ae g\/(S3 g/\¬SI g):=hg;rcases hg with hg|hg|hg
   ·exact⟨.inl (.inl hg),by omega⟩
   ·exact⟨(bj g hg).imp (λh1=>.inr (.inl h1)) id,by rw[ao];exact(H4.own_lt hg).2.1⟩
   ·refine⟨?_,by rw[ao];exact H4.lt g hg.1⟩;rcases bo g hg.1 with(h1|h1)|h1
    ·exact .inl (.inr (.inr ((aw g h1).resolve_right hg.2)))
    ·exact absurd h1 hg.2
    ·exact .inr h1
 |_=>exact q1.elim
section
variable{P:cZ}
theorem Hx{C:Ctx}{assign body:bG}{t:List AV}{h:List jZ}(i im:Nat)(σ:κ->J->List jZ)(j0:J)
 (hrd:C.rd=lV)(hg:evA t g= .lit (.func (.func gf) #[] lb.toArray))(hne:i≠im)(hi:h[i]? =lW (.res RB))(hmi:h[im]? =lW (.res (Bk ds)))(hmk:mkD h=ds.map Kb)
 (h0:Drops h (σ k0 j0))(h0i:(σ k0 j0)[i]? =lW .dead)(hσm:∀k j,(σ k j)[im]? =lW .dead)(hmσ:∀k j,mkD (σ k j)= [])(ht:Bh t=aZ)(hes:∀k es k',st k es k'->Bh es=aZ/\es.length=ps.size)
 (hit:Amj P gf lb RB st k0 fin)
 (hround:∀k j es k',st k es k'->∀C':Ctx,NF C'->Awp P C' assign (Ke (GZ P body lV (σ k')) (λ_ _=>False)) ⟨Nd t ps.toList es,σ k j⟩)
 (hdone:∀kN,fin kN->∀j D,Q .normal ⟨t,(σ kN j).set im (.res (Bk (D::ds)))⟩):Awp P C (.rangeFunc g ps assign body) Q ⟨t,h⟩:=λa w ⟨hd,S,ψ,H,hl⟩=>by
 rw[hrd];show(Code.rangeFunc g ps assign body).wpIn bM 4 P _ a w;have H0:=H.cut h0.cut h0.bd;have hBi:=H.blk i _ hi;have hBm:=H.blk im _ hmi;have hgv:=Bv hl g;rw[hg]at hgv;unfold kD at hgv;have hlit:Ae w S [] ψ0 t a.tmps.toList:=Bi _ _ ht hl;obtain⟨own0,hown0⟩:∃o,o=owns (σ k0 j0) ψ:=⟨_,rfl⟩
 have ho0:∀g,own0 g->g < w.heap.size:=λg hg=>by rw[hown0]at hg;exact(H0.own_lt hg).2.1
 have hdead:∀(j:Nat) (R':Res),h[j]? =lW (.res R')->(σ k0 j0)[j]? =lW .dead->∀g,R'.F g->¬own0 g:=λj R' hj hjd g hF ho=>by
  rw[hown0]at ho;obtain⟨j',h1,h2⟩:=ho;have hne:j'≠j:=λe=>by subst e;rw[hjd]at h1;cases h1
  rw[h0.cut.same h1]at h2;exact H.dis j' j hne (h0.cut.live h1) (by rw[hj];rfl) g h2 (by rw[hj];exact hF)
 have hSo:∀g,S g->¬own0 g:=λg hg ho=>by rw[hown0]at ho;exact(H0.own_lt ho).2.2 hg
 have hRlt:∀g,RB.F g->g < w.heap.size:=λg hg=>(hBi.1 g hg).2.2
 refine wpIn_rangeFunc λfn _=>?_
 obtain⟨rec_,hrec⟩:∃rec_:LoopState->Option bG->cH,rec_=λst pe=>{state:=st,pending:=pe,fn,tmps:=a.tmps,params:=ps,assign,body,defers:=w.heap.size}:=⟨_,rfl⟩
 have hst:∀x z y,({rec_ x z with state:=y}:cH)=rec_ y z:=λx z y=>by rw[hrec]
 have hrst:∀z,(rec_ .ready z).state= .ready:=λz=>by rw[hrec]
 have hen:∀x z y u,({rec_ x z with state:=y,pending:=u}:cH)=rec_ y u:=λx z y u=>by rw[hrec]
 obtain⟨W1,hW1⟩:∃W1,W1=(w.alloc (.deferred (lW []))).alloc (.loop (rec_ .ready lV)):=⟨_,rfl⟩
 have hW1s:W1.heap.size=w.heap.size+2:=by rw[hW1];simp
 have hL1:W1.heap[w.heap.size+1]? =lW (.loop (rec_ .ready lV)):=by
  rw[hW1];have:=fM (w.alloc (.deferred (lW []))) (.loop (rec_ .ready lV));rwa [fD]at this
 have hD1:W1.heap[w.heap.size]? =lW (.deferred (lW [])):=by
  rw[hW1];exact(eJ _ _ _ (by simp)).trans (fM w _)
 have hb1:Below w.heap.size w W1:=by rw[hW1];exact((eK _ w).alloc (lB _) _).alloc (by simp) _
 have hJ0:BetY 1 S own0 w (rec_ .ready lV) (σ k0 j0) S ψ (λ_=>False) W1 S:=by
  refine⟨hL1,λi hi=>Nat.lt_one_iff.1 hi▸hD1,by omega,λg hg=>hb1.block g (H.lt g hg),?_,λ_ h=>h,λ_ h=>.inl h,λg hg=>.inl (by rw[hown0];exact hg),λ_ h=>.inr h⟩;exact H0.re (λk hk=>hb1.block k (H.lt k hk)) (λk hk=>hb1.block k (H0.own_lt hk).2.1) _ (λ_ h=>h.elim) lV
 refine⟨w.heap.size+1,[Kb w.heap.size],W1,{target:=.fn (.func gf) lb.toArray,args:=#[.func (.yield (w.heap.size+1)) #[] #[]]},W1,gf,#[.func (.yield (w.heap.size+1)) #[] #[]]++lb.toArray,W1,?_,?_,λ_ _=>trivial,?_,λ_=>by omega,?_⟩
 ·rw[hW1,hrec];exact run_enterLoop_outer _ _ _ _ _
 ·simp only[fU,hgv];simp[go_sem]
 ·simp[fQ,go_sem,Ps hit.1]
 ·have key:=hit.2 W1 S (J×Ai1) (w.heap.size+1) (λk p=>Al6 1 S own0 w (rec_ .ready lV) (σ k p.1) p.2) (λ_ _=>rfl) ?_ (j0,S,ψ,λ_=>False) (λk hk=>⟨by have:=H.lt k hk;omega,?_,λhf=>(hBi.1 k hf).2.1 hk⟩) (λg hg=>?_) (λg hg=>by have:=hRlt g hg;omega) hJ0 (RB.keep hBi.2 (λk hk=>hb1.block k (hRlt k hk)) (λk hk=>hb1.block k (H.lt k hk)) λ_ h=>h)
  ·refine key.mono ?_;rintro e W' ⟨⟨v,rfl⟩,hgr,kN,q,S',hfN,hSS,hJ,hS'lt,hS'new,hFq⟩;have hJ:BetY 1 S own0 w (rec_ .ready lV) (σ kN q.1) q.2.1 q.2.2.1 q.2.2.2 W' S':=hJ;have hend:=run_endLoop (P:=P) hJ.loop (by rw[hrst];simp);rw[show(rec_ .ready lV).pending=lV by rw[hrec]]at hend;refine⟨lV,_,hend,⟨t,(σ kN q.1).set im (.res (Bk (w.heap.size::ds)))⟩,hdone kN hfN q.1 _,?_⟩;obtain⟨hlp,hdf0,hsz,hsame,Hk,hs1,hs2,hs3,_⟩:=hJ;have hdf:=hdf0 0 (by omega);suffices key:∀(W5:eV) (ob:Obj),W5=W'.putObj (w.heap.size+1) ob->kU C ⟨t,(σ kN q.1).set im (.res (Bk (w.heap.size::ds)))⟩ {a with defers:=[Kb w.heap.size]++a.defers} W5 from key _ _ V
   intro W5 ob hW5;have hot:∀g,g≠w.heap.size+1->W5.heap[g]? =W'.heap[g]?:=λg hg=>by rw[hW5];exact fA hg
   have hsz5:W5.heap.size=W'.heap.size:=by rw[hW5];simp
   have hSne:∀g,q.2.1 g->g≠w.heap.size+1:=λg hg=>by
    rcases hs2 g hg with h1|h1
    ·have:=H.lt g h1;omega
    ·omega
   have hOne:∀g,owns (σ kN q.1) q.2.2.1 g->g≠w.heap.size+1:=λg hg=>by
    rcases hs3 g hg with h1|h1
    ·have:=ho0 g h1;omega
    ·omega
   have hkeep:∀g,g < w.heap.size->¬own0 g->¬RB.F g->W5.heap[g]? =w.heap[g]?:=λg h1 h2 h3=>by
    rw[hot g (by omega),hgr.block g (by omega) ?_,hb1.block g h1];rintro(h4|h4)
    ·have h4:(w.heap.size<=g/\g<=w.heap.size+1)\/owns (σ k0 j0) ψ g\/False:=h4;rcases h4 with h4|h4|h4
     ·omega
     ·exact h2 (by rw[hown0];exact h4)
     ·exact h4
    ·exact h3 h4
   have hH5:=Hk.re (W':=W5) (λk hk=>hot k (hSne k hk)) (λk hk=>hot k (hOne k hk)) (λ_=>False) (λ_ h=>h.elim) lV;have hkp5:Kp C.N w W5:=⟨by rw[hW5];exact hgr.os.trans hb1.os,by rw[hW5];exact hgr.tape.trans hb1.tape,by rw[hW5];exact hgr.output.trans hb1.output,by omega,λk hk=>hkeep k (lD (H.nlt k hk) H.bel.size) (λho=>by rw[hown0]at ho;exact(H0.own_lt ho).1 hk) λhf=>(hBi.1 k hf).1 hk⟩
   have hH6:kJ C (σ kN q.1) q.2.1 q.2.2.1 W5:=hH5.to (H.bel.trans hkp5) H.nlt (λk hk=>hs1 k (H.sub k hk)) (λk hk=>by
    rcases hs2 k hk with h1|h1
    ·exact H.new k h1
    ·right;have:=H.bel.size;omega) λg hg hn=>by
     rcases hs3 g hg with h1|h1
     ·rw[hown0]at h1;exact(H0.own_lt h1).1 hn
     ·have:=H.nlt g hn;have:=H.bel.size;omega
   have hdP:∀g,g∈ds->¬own0 g:=λg hg=>hdead im _ hmi (hσm k0 j0) g hg
   have hdB:∀g,g∈ds->¬RB.F g:=λg hg hf=>H.dis i im hne (by rw[hi];rfl) (by rw[hmi];rfl) g (by rw[hi];exact hf) (by rw[hmi];exact hg)
   refine⟨?_,q.2.1,q.2.2.1,hH6.rise (hσm kN q.1) ⟨List.nodup_cons.2 ⟨λhm=>by have:=(hBm.1 _ hm).2.2;omega,hBm.2.1⟩,λd hd=>?_⟩ λg hg=>?_,?_⟩
   ·show [Kb w.heap.size]++a.defers=mkD ((σ kN q.1).set im _);rw[Akl (hσm kN q.1) (hmσ kN q.1),hd,hmk];rfl
   ·rcases jA.1 hd with rfl|hd
    ·exact(hot _ (by omega)).trans hdf
    ·exact(hkeep d (hBm.1 d hd).2.2 (hdP d hd) (hdB d hd)).trans (hBm.2.2 d hd)
   ·rcases jA.1 hg with rfl|hg
    ·refine⟨λhn=>by have:=H.nlt _ hn;have:=H.bel.size;omega,λhs=>?_,by omega,λho=>?_⟩
     ·rcases hs2 _ hs with h1|h1
      ·have:=H.lt _ h1;omega
      ·omega
     ·rcases hs3 _ ho with h1|h1
      ·have:=ho0 _ h1;omega
      ·omega
    ·have hlt:=(hBm.1 g hg).2.2;refine⟨(hBm.1 g hg).1,λhs=>?_,by omega,λho=>?_⟩
     ·rcases hs2 _ hs with h1|h1
      ·exact(hBm.1 g hg).2.1 h1
      ·omega
     ·rcases hs3 _ ho with h1|h1
      ·exact hdP g hg h1
      ·omega
   ·exact Bi _ _ ht (Az (kF [] ψ0 (λk hk=>(hot k (by have:=H.lt k hk;omega)).trans (hsame k hk)) hs1) _ _ hlit)
  ·intro k es k' hkN p W SI vs hI1 hI2 hI3 hFlt hB hev;have hB:BetY 1 S own0 w (rec_ .ready lV) (σ k p.1) p.2.1 p.2.2.1 p.2.2.2 W SI:=hB;have hvl:vs.length=ps.size:=by rw[Bw hev,(hes k es k' hkN).2]
   have hy:=run_yield (P:=P) (args:=vs.toArray) hB.loop (by rw[hrec];simpa using hvl);have hR:=XP (P:=P) (fn:=fn) (ps:=ps) (tmps:=a.tmps) (body:=body) (p:=p.2) lV hst hrst hen ho0 H.lt ht (hes k es k' hkN).1 hlit hev (hmσ k p.1) hI1 (λg hg=>by have:=hI2 g hg;rw[hW1s]at this;exact this) hI3 hB (hround k p.1 es k' hkN);have e1:((rec_ .ready lV).params.zip vs.toArray).foldl (λtmps (t,a)=>tmps.setIfInBounds t a) (rec_ .ready lV).tmps=(ps.toList.zip vs).foldl (λt p=>t.setIfInBounds p.1 p.2) a.tmps:=by
    rw[hrec,<-Array.foldl_toList,Array.toList_zip]
   rw[e1]at hy;rw[show(rec_ .ready lV).fn=fn by rw[hrec],show(rec_ .ready lV).assign=assign by rw[hrec],show(rec_ .ready lV).body=body by rw[hrec]]at hy;exact⟨fn,_,assign,body,hy,hR⟩
  ·intro hf;have hf:(w.heap.size<=k/\k<=w.heap.size+1)\/owns (σ k0 j0) ψ k\/False:=hf;have:=H.lt k hk;rcases hf with hf|hf|hf
   ·omega
   ·exact hSo k hk (by rw[hown0];exact hf)
   ·exact hf
  ·have hg:(w.heap.size<=g/\g<=w.heap.size+1)\/owns (σ k0 j0) ψ g\/False:=hg;rcases hg with hg|hg|hg
   ·exact⟨by omega,λhf=>by have:=hRlt g hf;omega⟩
   ·exact⟨by have:=(H0.own_lt hg).2.1;omega,λhf=>hdead i _ hi h0i g hf (by rw[hown0];exact hg)⟩
   ·exact hg.elim
theorem Hw{C:Ctx}{assign body:bG}{t:List AV}{h:List jZ}{encs:Nat->List AV}(i E:Nat)(A:Nat->List jZ)
 (I:C.rd=lV)(hg:evA t g= .lit (.func (.func gf) #[] lb.toArray))(X:i≠E)(hi:h[i]? =lW (.res RB))(Z:h[E]? =lW (.res (Bk ds)))(Y:mkD h=ds.map Kb)
 (h0:Drops h (A 0))(ad:(A 0)[i]? =lW .dead)(F:∀k,(A k)[E]? =lW .dead)(G:∀k,mkD (A k)= [])(ht:Bh t=aZ)(ab:∀k,Bh (encs k)=aZ)(O:∀k,(encs k).length=ps.size)
 (aa:Aic P gf lb RB encs N)
 (u:∀k,k < N->∀H:Ctx,H.rd.isSome=aZ->Awp P H assign (Ke (Ad5 P body (A (k+1))) (λ_ _=>False)) ⟨Nd t ps.toList (encs k),A k⟩)
 (B:∀D,Q .normal ⟨t,(A N).set E (.res (Bk (D::ds)))⟩):Awp P C (.rangeFunc g ps assign body) Q ⟨t,h⟩:=
 Hx (J:=Unit) i E (λk _=>A k) () I hg X hi Z Y h0 ad (λk _=>F k) (λk _=>G k) ht (λk _ _ ⟨_,h,_⟩=>by subst h;exact⟨ab k,O k⟩) aa
  (λk _ _ _ ⟨hk,h1,h2⟩ H ac=>by
   subst h1 h2;exact(u k hk H ac.some).mono λe s h=>by
    cases e with
    |normal=>exact λC2 h2=>(h C2 h2.some).mono λ_ _ q=>⟨q.1,(),q.2⟩
    |_=>exact h.elim)
  λkN h _ D=>by subst h;exact B D
end
section
variable{C:Ctx}{t:List AV}{h:List jZ}
theorem PO{R1 R2:Res}(hi:h[i]? =lW (.res R))(h0:R.mrk= [])(h1:R1.mrk= [])(h2:R2.mrk= [])(hF:∀g,R1.F g\/R2.F g->R.F g)
 (hR:∀w S,R.R w S->R1.R w S/\R2.R w S/\∀g,R1.F g->¬R2.F g):kS C ⟨t,h⟩ ⟨t,h.set i (.res R1)++[.res R2]⟩:=λa w ⟨hd,S,ψ,H,hl⟩=>by
 have hB:=H.blk i _ hi;have I:=(iJ.1 hi).1;obtain⟨r1,r2,F⟩:=hR w S hB.2;have E:∀k b,(h.set i (.res R1)++[.res R2])[k]? =lW b->(k=i/\b= .res R1)\/(k=h.length/\b= .res R2)\/(k≠i/\k≠h.length/\h[k]? =lW b):=λk b A=>by
  by_cases Y:k < h.length
  ·rw[iC (by simpa using Y)]at A;by_cases u:k=i
   ·subst u;rw[iO I]at A;cases A;exact .inl ⟨rfl,rfl⟩
   ·rw[iN (lO u)]at A;exact .inr (.inr ⟨u,by omega,A⟩)
  ·rw[iD (by simpa using Y)]at A;have:k - (h.set i (j7 R1)).length=0:=by
    rcases kZ (k - (h.set i (j7 R1)).length)with e|e
    ·exact e
    ·rw[iI (show 1<=_ from e)]at A;cases A
   rw[this]at A;cases A;simp only[iY]at this;exact .inr (.inl ⟨by omega,rfl⟩)
 have X:Ext w S h ψ w S (h.set i (.res R1)++[.res R2]) ψ:=by
  refine⟨λ_ _=>rfl,λ_ h=>h,by simp,λk c' hk B=>?_,λk hk B=>?_⟩
  ·rw[iC (by simpa using hk)]at B⊢;by_cases u:k=i
   ·subst u;rw[iO I]at B;simp[j8]at B
   ·rw[iN (lO u)]at B⊢;exact⟨c',B,lB _,λ_=>⟨rfl,rfl⟩⟩
  ·rw[iC (by simpa using hk)]at B;by_cases u:k=i
   ·subst u;rw[iO I]at B;simp[AZ]at B
   ·rw[iN (lO u)]at B;exact⟨B,rfl⟩
 refine⟨?_,S,ψ,⟨H.bel,H.nlt,H.lt,H.sub,H.new,λk b A=>?_,λk q G hk hq g g1 g2=>?_⟩,Az X _ _ hl⟩
 ·rw[hd];show mkD h=_;rw[H9,DO hi (by show R1.mrk.map Kb=R.mrk.map Kb;rw[h0,h1])];show _=R2.mrk.map Kb++_;rw[h2];rfl
 ·rcases E k b A with⟨rfl,rfl⟩|⟨rfl,rfl⟩|⟨_,_,A⟩
  ·exact⟨λg hg=>hB.1 g (hF g (.inl hg)),r1⟩
  ·exact⟨λg hg=>hB.1 g (hF g (.inr hg)),r2⟩
  ·exact(H.blk k b A).keep X λg _=>⟨rfl,λh=>h⟩
 ·have O:∀k,j5 (h.set i (.res R1)++[.res R2])[k]? =aZ->ftp (h.set i (.res R1)++[.res R2])[k]? (ψ k) g->(k=i/\R1.F g)\/(k=h.length/\R2.F g)\/(k≠i/\k≠h.length/\j5 h[k]? =aZ/\ftp h[k]? (ψ k) g):=λk k1 k2=>by
   obtain⟨b,A⟩:=DQ k1;rw[A]at k1 k2;rcases E k b A with⟨rfl,rfl⟩|⟨rfl,rfl⟩|⟨q1,q2,Z⟩
   ·exact .inl ⟨rfl,k2⟩
   ·exact .inr (.inl ⟨rfl,k2⟩)
   ·exact .inr (.inr ⟨q1,q2,by rw[Z];exact k1,by rw[Z];exact k2⟩)
  have no:∀k,k≠i->j5 h[k]? =aZ->ftp h[k]? (ψ k) g->(R1.F g\/R2.F g)->False:=λk q1 q3 q4 q5=>
   H.dis k i q1 q3 (by rw[hi];rfl) g q4 (by rw[hi];exact hF g q5)
  rcases O k hk g1 with⟨e1,f1⟩|⟨e1,f1⟩|⟨a1,a2,a3,a4⟩ <;> rcases O q hq g2 with⟨e2,f2⟩|⟨e2,f2⟩|⟨b1,b2,b3,b4⟩
  ·exact G (e1.trans e2.symm)
  ·exact F g f1 f2
  ·exact no q b1 b3 b4 (.inl f1)
  ·exact F g f2 f1
  ·exact G (e1.trans e2.symm)
  ·exact no q b1 b3 b4 (.inr f1)
  ·exact no k a1 a3 a4 (.inl f2)
  ·exact no k a1 a3 a4 (.inr f2)
  ·exact H.dis k q G a3 b3 g a4 b4
end
section
variable{P:cZ}{C:Ctx}{t:List AV}{h:List jZ}{o:cT}{K:St->Prop}
theorem P9{ty:eP}{y:cY}{bytes:Nat}{l l2:List α}(ho:o.op= .call {callee:=.builtin .append,args:=#[x,y],argTypes:=#[ty,ty]})(hT:NK P ty=lW (e,T.size,bytes))
 (hx:evA t x= .lit v)(hi:h[i]? =lW (.res (rowR v e T l)))(hy:evA t y= .bs T l2)(an:SK T)(ad:l.length+l2.length<=fR)(G:(l.length+l2.length) * bytes<=140737488355328)
 (hK:∀v',K ⟨Bl t o.dst (.lit v'),h.set i (.res (rowR v' e T (l++l2)))⟩):AOp P C o ⟨t,h⟩ K:=by
 refine j9 (ι:=eQ) (Rs:=λv'=>rowR v' e T (l++l2)) (val:=λv'=>v') hi (λ_=>rfl) (λS ψ w ρ H am ap Z=>?_) hK;have O:=Z x (by rw[ho];exact aI.2 (.inr (by simp)));have E:=Z y (by rw[ho];exact aI.2 (.inr (by simp)));rw[hx]at O;rw[hy]at E;unfold kD at O E;have Y:∀k,S k->¬(rowR v e T l).F k:=λk hk hf=>((H.blk i _ hi).1 k hf).2.1 hk
 obtain⟨cells,B,h0,hR⟩:=am;obtain⟨h1,ti,z,h2,h3,h4,h5,h6⟩:=C9 hT;obtain⟨A,c,aa⟩:=Ci E;rw[aa]at E;obtain⟨news,ao,ab,aj,ak⟩:=IU E λcs d al=>an _ _ _ _ al
 obtain⟨v',w',ac,u,X,ai⟩:=Ll (P:=P) (ty:=o.type) (t:=ty) (c:=c) h1 h2 h3 h4 h5 h6 h0 B (ab w λ_ _=>rfl) ak ad G (lM _);have he:(fI ρ o).run P w= .ok (.value v') w':=by
  unfold fI;simp only[ho,fU,fQ,builtin,i8,i6,i7,O,aa,ac,zam]
 rw[he];have ah:∀g,Bu v'=lW g->v'.ownBlock=lW g:=λg hg=>by
  rcases u.2 with⟨e1,_⟩|⟨g',cap,cur,e1,_⟩
  ·rw[e1]at hg;simp[Bu]at hg
  ·rw[e1]at hg⊢;simpa[Bu,eT]using hg
 have ag:v.ownBlock=Bu v:=by
  rcases B.2 with⟨e1,_⟩|⟨g',cap,cur,e1,_⟩ <;> rw[e1] <;> rfl
 rw[ag]at X ai;have I:∀k,S k->w'.heap[k]? =w.heap[k]?:=λk hk=>X.block k (H.lt k hk) λe=>Y k hk e.symm
 refine⟨Bs X,v',rfl,⟨cells++news,by rw[iS];exact u,h0,λj d hj=>?_⟩,λg hg=>⟨?_,(eZ u g (ah g hg)).2⟩⟩
 ·by_cases ae:j < l.length
  ·rw[iC ae]at hj;rw[Ul B.1 ae];exact T.keepS (hR j d hj) I λ_ h=>h
  ·rw[iD (by omega)]at hj;obtain⟨m,rfl⟩:∃m,j=l.length+m:=⟨j - l.length,by omega⟩
   rw[MH B.1];exact T.keepS (aj m d (by simpa using hj)) I λ_ h=>h
 ·have F:=ah g hg;rcases ai with e1|e1
  ·left;rw[e1]at F;exact F
  ·right;rw[e1]at F;cases F;exact lB _
theorem J1(e:eP)(T:Ty α)(h0:0 < T.size):kS C ⟨t,h⟩ ⟨t,h++[.res (rowR (.slice lV 0 0) e T [])]⟩:=λa w ⟨A,S,ψ,H,u⟩=>by
 have X:Ext w S h ψ w S (h++[.res (rowR (.slice lV 0 0) e T [])]) (Bo ψ h.length undef):=kG _ _ λ_ _=>rfl
 have B:Hv C.N w S (h++[.res (rowR (.slice lV 0 0) e T [])]) (Bo ψ h.length undef) undef (.res (rowR (.slice lV 0 0) e T [])):=
  ⟨λg hg=>by have hg:Bu (.slice lV 0 0)=lW g:=hg;simp[Bu]at hg,[],World.ownsRow_nil _ _ _ _,h0,λi d hi=>by simp at hi⟩
 exact⟨by rw[A];show mkD h=mkD (h++[_]);rw[H9];rfl,S,_,H.push (eK _ _) B (λg hg=>by have hg:Bu (.slice lV 0 0)=lW g:=hg;simp[Bu]at hg),Az X _ _ u⟩
end
theorem Me{h:List jZ}{l:List α}(hi:h[i]? =lW (.res (rowR v e T l))):One h (.lit v):=λC S ψ w u H B=>by
 unfold kD at B;subst B;obtain⟨cells,A,_⟩:=(H.blk i _ hi).2;rcases A.2 with⟨rfl,_⟩|⟨_,_,_,rfl,_⟩ <;> rfl
def Azp{ι:Type}(t:Tmp)(Rs:ι->Res)(val:ι->eQ):bL->St->Prop:=λe s=>(e= .normal\/e= .ret)/\∃ds j p,s.h[0]? =lW (.res (Bk ds))/\mkD s.h=ds.map Kb/\j≠0/\s.h[j]? =lW (.res (Rs p))/\evA s.t (.tmp t)= .lit (val p)
theorem SN{P:cZ}{f:bO}{args:List AV}{val:ι->eQ}{t:Tmp}(hf:P.funcs[f]? =lW fn)(hb:fn.body=lW c)(hE:Ca P f=aZ)(B:fn.results= #[.tmp t])(hn:fn.ntmps=n)
 (hS:∀p w S S',(Rs p).R w S->(Rs p).R w S')
 (h:∀C:Ctx,C.std->C.rd=lV->Awp P C c (Azp t Rs val) ⟨args++jP (n - args.length) (.lit undef),[.res (Bk [])]⟩):M3 P f args Rs val:=by
 refine⟨hE,λw S vs O hr=>(fG (n:=4)).1 (fF hf hb trivial ?_)⟩;rw[hn];have F:kU ⟨w,S,λk=>k < w.heap.size,lV⟩ ⟨args++jP (n - args.length) (.lit undef),[.res (Bk [])]⟩ {tmps:=vs.toArray++aL (n - vs.toArray.size) undef,defers:=[]} w:=by
  obtain⟨u,E,ψ,H,G⟩:=Dl (n:=n) O hr;have X:=kG (w:=w) (w':=w) (S:=E) (h:=[]) (ψ:=ψ) (.res (Bk [])) undef λ_ _=>rfl
  exact⟨rfl,E,_,H.push (b:=.res (Bk [])) (v:=undef) (eK _ _) (show Hv _ _ _ _ _ _ (.res (Bk []))from⟨λg hg=>(jL hg).elim,show([]:List Nat).Nodup/\∀d∈([]:List Nat),w.heap[d]? =lW (.deferred (lW []))from⟨jK,λd u=>(jL u).elim⟩⟩) (λg hg=>(jL hg).elim),Az X _ _ G⟩
 have hw:=h ⟨w,S,λk=>k < w.heap.size,lV⟩ (λ_ h=>h) V _ w F;refine wpIn_mono hw ?_;rintro e a' w' ⟨s,⟨he,ds,j,p,h0,hm,I,hj,hx⟩,u,E,ψ,H,G⟩;have hv:=Bv G (.tmp t);rw[hm]at u;have A:=N9 (P:=P) (C:=⟨w,S,λk=>k < w.heap.size,lV⟩) (fn:=fn) (tmps:=a'.tmps) (R:=λe w'=>∃v,e= .returned v/\kV w S (λ_=>False) Rs val v w') (n:=4) (x:=evA s.t (.tmp t)) (v:=a'.eval (.tmp t)) (λW=>fW B _ _ _) ds w' s.h E ψ (λW S2 Z h1 h2=>by
  rw[hx]at h2;unfold kD at h2;have Y:=h1.blk j (.res (Rs p)) (by rw[iN (lO I)];exact hj);refine⟨_,rfl,⟨h1.bel.os,h1.bel.tape,h1.bel.output,h1.bel.size,λk hk _=>h1.bel.block k hk⟩,p,h2,hS p _ _ _ Y.2,λk hk=>?_⟩;obtain⟨k1,k2,k3⟩:=Y.1 k hk;exact⟨.inr (lA k1),k3⟩) h0 H hv
 rcases he with rfl|rfl
 ·show cB bM 4 P fn a'.tmps _ a'.defers .returning w';rw[u];exact A
 ·show cB bM 4 P fn a'.tmps _ a'.defers .returning w';rw[u];exact A
open Go.Proofs
variable{S:Nat->Prop}{i:Nat}{w:eV}
def Azm{ι:Type}(t:Tmp)(R:Res)(Rs:ι->Res)(val:ι->eQ):bL->St->Prop:=λe s=>(e= .normal\/e= .ret)/\∃p,mkD s.h=R.mrk.map Kb/\s.h[0]? =lW (.res (Rs p))/\evA s.t (.tmp t)= .lit (val p)
theorem SM{P:cZ}{f:bO}{fn:bN}{c:bG}{args:List AV}{ι:Type}{R:Res}{Rs:ι->Res}{val:ι->eQ}{t:Tmp}{n:Nat}(hf:P.funcs[f]? =lW fn)(hb:fn.body=lW c)(hE:Ca P f=aZ)(F:fn.results= #[.tmp t])(O:fn.ntmps=n)
 (hm:R.mrk= [])(hS:∀p w S S',(Rs p).R w S->(Rs p).R w S')
 (h:∀C:Ctx,Awp P C c (Azm t R Rs val) ⟨args++jP (n - args.length) (.lit undef),[.res R]⟩):DK P f R args Rs val:=by
 refine⟨hE,λw S vs E hF hR I=>fH hf hb ?_⟩;rw[O];have G:kU ⟨w,S,λk=>k < w.heap.size/\¬R.F k,lV⟩ ⟨args++jP (n - args.length) (.lit undef),[.res R]⟩ {tmps:=vs.toArray++aL (n - vs.toArray.size) undef,defers:=[]} w:=by
  obtain⟨_,S1,ψ,_,hl⟩:=Dl (n:=n) (λk hk=>(E k hk).1) I;refine⟨by show []=mkD [.res R];simp[mkD,j6,hm],S,ψ0,⟨Kp.refl _ _,λk hk=>hk.1,λk hk=>(E k hk).1,λ_ h=>h,λ_ h=>.inl h,λi b hi=>?_,λi j aa hi hj=>?_⟩,?_⟩
  ·cases i with
   |zero=>
    simp only[iF,lY]at hi;subst hi;exact⟨λg hg=>⟨λhc=>hc.2 hg,λhs=>(E g hs).2 hg,hF g hg⟩,hR⟩
   |succ i=>simp at hi
  ·cases i with
   |zero=>cases j with
    |zero=>exact absurd V aa
    |succ j=>simp[j5]at hj
   |succ i=>simp[j5]at hi
  ·simp only[zao];have X:Ext w S [] ψ0 w S [.res R] ψ0:=⟨λ_ _=>rfl,λ_ h=>h,by simp,λi c' hi=>by simp at hi,λi hi=>by simp at hi⟩
   refine BK (Az X _ _ I) (DL (by simp[Bw I]) λi x v hx B=>?_);rw[iM]at hx B;split at hx <;> cases hx
   split at B <;> cases B
   unfold kD;rfl
 refine wp_mono ((h ⟨w,S,λk=>k < w.heap.size/\¬R.F k,lV⟩).wp V G) ?_;rintro x a' w' ⟨s,⟨hx,p,Y,hi,ab⟩,hd,S1,ψ,H,hl⟩;rw[Y,hm]at hd;have B:=Bv hl (.tmp t);rw[ab]at B;unfold kD at B;have hB:=H.blk 0 _ hi;have u:(results fn a'.tmps).run P w'= .ok (a'.eval (.tmp t)) w':=fW F _ _ _;have A:∃v,bK (a'.eval (.tmp t))= .returned v/\kV w S R.F Rs val v w':=
  ⟨_,rfl,⟨H.bel.os,H.bel.tape,H.bel.output,H.bel.size,λk hk O=>H.bel.block k ⟨hk,O⟩⟩,p,B,hS p _ _ _ hB.2,λk hk=>by
   obtain⟨k1,_,k3⟩:=hB.1 k hk;refine⟨?_,k3⟩;by_cases hc:R.F k
   ·exact .inl hc
   ·exact .inr (lA λZ=>k1 ⟨Z,hc⟩)⟩
 rcases hx with rfl|rfl
 ·exact⟨hd,_,u,A⟩
 ·exact⟨hd,_,u,A⟩
section
variable{P:cZ}{C:Ctx}{o:cT}{t:List AV}{h:List jZ}{ι:Type}{Rs:ι->Res}{val:ι->eQ}
theorem Iv{R:Res}{f:bO}{x:cY}{args:Array cY}{tys:Array eP}{l xs:List AV}{K:St->Prop}(hi:h[i]? =lW (.res R))
 (B:o.op= .call {callee:=.value x,args:=args,argTypes:=tys})(I:evA t x= .fn f l)(G:DK P f R xs Rs val)(O:∀p,(Rs p).mrk=R.mrk)(hx:args.toList.map (evA t)++l=xs)(hc:Bh xs=aZ)
 (Z:∀p,K ⟨Bl t o.dst (.lit (val p)),h.set i (.res (Rs p))⟩):AOp P C o ⟨t,h⟩ K:=by
 refine j9 hi O (λS ψ w ρ H Y E u=>?_) Z;have h1:=u x (by rw[B];exact aI.2 (.inl (by simp)));rw[I]at h1;unfold kD at h1;obtain⟨cs,e,F⟩:=h1;rw[OF B G.1 ρ w e];refine⟨rfl,?_⟩;have h2:Ae w S h ψ xs (args.toList.map ρ++cs):=by
  rw[<-hx];exact BK (Cd λx A=>u x (by rw[B];exact aI.2 (.inr (aK.1 A)))) F
 rw[show(args.map ρ++cs.toArray)=(args.toList.map ρ++cs).toArray from(by simp)];exact G.2 w S (args.toList.map ρ++cs) (λk hk=>⟨H.lt k hk,λX=>((H.blk i _ hi).1 k X).2.1 hk⟩) E Y (Bi _ _ hc h2)
end
section
variable{P:cZ}{f:bO}{fn:bN}{c:bG}{args:List AV}{ι:Type}{R:Res}{Rs:ι->Res}{val:ι->eQ}{t:Tmp}{n:Nat}
theorem Y9{vs:List eQ}(G:R.mrk= [])(u:∀k,S k->k < w.heap.size/\¬R.F k)(O:∀g,R.F g->g < w.heap.size)(I:R.R w S)(B:Ae w S [] ψ0 args vs):
 kU ⟨w,S,λk=>k < w.heap.size/\¬R.F k,lV⟩ ⟨args++jP (n - args.length) (.lit undef),[.res R]⟩ {tmps:=vs.toArray++aL (n - vs.toArray.size) undef,defers:=[]} w:=by
 obtain⟨_,S1,ψ,_,Y⟩:=Dl (n:=n) (λk hk=>(u k hk).1) B;refine⟨by show []=mkD [.res R];simp[mkD,j6,G],S,ψ0,⟨Kp.refl _ _,λk hk=>hk.1,λk hk=>(u k hk).1,λ_ h=>h,λ_ h=>.inl h,λi b hi=>?_,λi j E hi H=>?_⟩,?_⟩
 ·cases i with
  |zero=>
   simp only[iF,lY]at hi;subst hi;exact⟨λg hg=>⟨λhc=>hc.2 hg,λF=>(u g F).2 hg,O g hg⟩,I⟩
  |succ i=>simp at hi
 ·cases i with
  |zero=>cases j with
   |zero=>exact absurd V E
   |succ j=>simp[j5]at H
  |succ i=>simp[j5]at hi
 ·simp only[zao];have X:Ext w S [] ψ0 w S [.res R] ψ0:=⟨λ_ _=>rfl,λ_ h=>h,by simp,λi Z hi=>by simp at hi,λi hi=>by simp at hi⟩
  refine BK (Az X _ _ B) (DL (by simp[Bw B]) λi x v hx A=>?_);rw[iM]at hx A;split at hx <;> cases hx
  split at A <;> cases A
  unfold kD;rfl
theorem XD{p:ι}{h':List jZ}{I:Nat->Prop}{ψ:Nat->eQ}{w':eV}(G:∀p w S S',(Rs p).R w S->(Rs p).R w S')(H:kJ ⟨w,S,λk=>k < w.heap.size/\¬R.F k,lV⟩ h' I ψ w')(hi:h'[i]? =lW (.res (Rs p))):kV w S R.F Rs val (val p) w':=by
 have A:=H.blk i _ hi;refine⟨⟨H.bel.os,H.bel.tape,H.bel.output,H.bel.size,λk hk F=>H.bel.block k ⟨hk,F⟩⟩,p,rfl,G p _ _ _ A.2,λk hk=>?_⟩;obtain⟨E,_,B⟩:=A.1 k hk;refine⟨?_,B⟩;by_cases hc:R.F k
 ·exact .inl hc
 ·exact .inr (lA λu=>E ⟨u,hc⟩)
def Ayd(R:Res)(Rs:ι->Res):bL->St->Prop:=λe s=>(e= .normal\/e= .ret)/\∃p,mkD s.h=R.mrk.map Kb/\s.h[0]? =lW (.res (Rs p))
theorem DX(X:P.funcs[f]? =lW fn)(Y:fn.body=lW c)(hE:Ca P f=aZ)(u:fn.results= #[])(O:fn.ntmps=n)
 (G:R.mrk= [])(Z:∀p w S S',(Rs p).R w S->(Rs p).R w S')
 (h:∀C:Ctx,Awp P C c (Ayd R Rs) ⟨args++jP (n - args.length) (.lit undef),[.res R]⟩):DK P f R args Rs (λ_=>.tuple #[]):=by
 refine⟨hE,λw S vs F hF hR I=>fH X Y ?_⟩;rw[O];refine wp_mono ((h ⟨w,S,λk=>k < w.heap.size/\¬R.F k,lV⟩).wp V (Y9 G F hF hR I)) ?_;rintro x a' w' ⟨s,⟨hx,p,B,hi⟩,E,S1,ψ,H,hl⟩;rw[B,G]at E;have A:∃v,bK (.tuple #[])= .returned v/\kV w S R.F Rs (λ_=>.tuple #[]) v w':=⟨_,rfl,XD (val:=λ_=>.tuple #[]) Z H hi⟩
 rcases hx with rfl|rfl
 ·exact⟨E,_,fV u _ _ _,A⟩
 ·exact⟨E,_,fV u _ _ _,A⟩
def Ayc(t:Tmp)(Rs:ι->Res)(val:ι->eQ):bL->St->Prop:=λe s=>(e= .normal\/e= .ret)/\∃ds j p,s.h[0]? =lW (.res (Bk ds))/\mkD s.h=ds.map Kb/\j≠0/\s.h[j]? =lW (.res (Rs p))/\evA s.t (.tmp t)= .lit (val p)
theorem E1(hf:P.funcs[f]? =lW fn)(hb:fn.body=lW c)(hE:Ca P f=aZ)(E:fn.results= #[.tmp t])(hn:fn.ntmps=n)
 (hm:R.mrk= [])(hS:∀p w S S',(Rs p).R w S->(Rs p).R w S')
 (h:∀C:Ctx,C.rd=lV->Awp P C c (Ayc t Rs val) ⟨args++jP (n - args.length) (.lit undef),[.res (Bk []),.res R]⟩):DK P f R args Rs val:=by
 refine⟨hE,λw S vs u hF hR I=>(fG (n:=4)).1 (fF hf hb trivial ?_)⟩;rw[hn];have G:kU ⟨w,S,λk=>k < w.heap.size/\¬R.F k,lV⟩ ⟨args++jP (n - args.length) (.lit undef),[.res (Bk []),.res R]⟩ {tmps:=vs.toArray++aL (n - vs.toArray.size) undef,defers:=[]} w:=by
  obtain⟨_,S1,ψ,_,hl⟩:=Dl (n:=n) (λk hk=>(u k hk).1) I;refine⟨by show []=mkD [.res (Bk []),.res R];simp[mkD,j6,hm,Bk],S,ψ0,⟨Kp.refl _ _,λk hk=>hk.1,λk hk=>(u k hk).1,λ_ h=>h,λ_ h=>.inl h,λi b hi=>?_,λi j aa hi Z=>?_⟩,?_⟩
  ·rcases i with _|_|i
   ·simp only[iF,lY]at hi;subst hi;exact⟨λg hg=>(jL hg).elim,show([]:List Nat).Nodup/\∀d∈([]:List Nat),w.heap[d]? =lW (.deferred (lW []))from⟨jK,λd F=>(jL F).elim⟩⟩
   ·simp only[iE,iF,lY]at hi;subst hi;exact⟨λg hg=>⟨λhc=>hc.2 hg,λhs=>(u g hs).2 hg,hF g hg⟩,hR⟩
   ·simp at hi
  ·rcases i with _|_|i
   ·exact λg h1=>(jL h1).elim
   ·rcases j with _|_|j
    ·exact λg _ h2=>(jL h2).elim
    ·exact absurd V aa
    ·simp[j5]at Z
   ·simp[j5]at hi
  ·simp only[zao];have X:Ext w S [] ψ0 w S [.res (Bk []),.res R] ψ0:=⟨λ_ _=>rfl,λ_ h=>h,by simp,λi c' hi=>by simp at hi,λi hi=>by simp at hi⟩
   refine BK (Az X _ _ I) (DL (by simp[Bw I]) λi x v hx B=>?_);rw[iM]at hx B;split at hx <;> cases hx
   split at B <;> cases B
   unfold kD;rfl
 have hw:=h ⟨w,S,λk=>k < w.heap.size/\¬R.F k,lV⟩ V _ w G;refine wpIn_mono hw ?_;rintro e a' w' ⟨s,⟨he,ds,j,p,h0,O,Y,Z,hx⟩,F,S1,ψ,H,hl⟩;have B:=Bv hl (.tmp t);rw[O]at F;have A:=N9 (P:=P) (C:=⟨w,S,λk=>k < w.heap.size/\¬R.F k,lV⟩) (fn:=fn) (tmps:=a'.tmps) (R:=λe w'=>∃v,e= .returned v/\kV w S R.F Rs val v w') (n:=4) (x:=evA s.t (.tmp t)) (v:=a'.eval (.tmp t)) (λW=>fW E _ _ _) ds w' s.h S1 ψ (λW S2 ab h1 h2=>by
  rw[hx]at h2;unfold kD at h2;refine⟨_,rfl,?_⟩;rw[h2];exact XD (i:=j) hS h1 (by rw[iN (lO Y)];exact Z)) h0 H B
 rcases he with rfl|rfl
 ·show cB bM 4 P fn a'.tmps _ a'.defers .returning w';rw[F];exact A
 ·show cB bM 4 P fn a'.tmps _ a'.defers .returning w';rw[F];exact A
end
end Mu
namespace Mu
open Go Go.RowKit
variable{Q:bL->St->Prop}{s:St}
def Res.and(A B:Res):Res:=⟨[],λg=>A.F g\/B.F g,λw S=>A.R w S/\B.R w S/\∀g,A.F g->¬B.F g,λh hk E u=>⟨A.keep h.1 (λk e=>hk k (.inl e)) E u,B.keep h.2.1 (λk e=>hk k (.inr e)) E u,h.2.2⟩⟩
section
variable{C:Ctx}{t:List AV}{h:List jZ}{A B:Res}
theorem DH(i j:Nat)(u:i≠j)(hi:h[i]? =lW (.res A))(E:h[j]? =lW (.res B))(G:A.mrk= []:=by rfl)(F:B.mrk= []:=by rfl):kS C ⟨t,h⟩ ⟨t,(h.set j .dead).set i (.res (A.and B))⟩:=
 KQ u hi E G F V (λ_ e=>e) λ_ _ h1 h2 H=>⟨h1,h2,H⟩
theorem Fd(i j:Nat)(ae:i≠j)(hi:h[i]? =lW (.res (A.and B)))(hj:h[j]? =lW .dead)(h1:A.mrk= []:=by rfl)(h2:B.mrk= []:=by rfl):kS C ⟨t,h⟩ ⟨t,(h.set i (.res A)).set j (.res B)⟩:=λa w ⟨hd,S,ψ,H,hl⟩=>by
 have hB:=H.blk i _ hi;have ad:=(iJ.1 hi).1;have ac:=(iJ.1 hj).1;obtain⟨r1,r2,F⟩:=hB.2;have aa:(h.set i (.res A))[j]? =lW .dead:=by rw[iN ae];exact hj
 have E:∀k b,((h.set i (.res A)).set j (.res B))[k]? =lW b->(k=i/\b= .res A)\/(k=j/\b= .res B)\/(k≠i/\k≠j/\h[k]? =lW b):=λk b u=>by
  by_cases I:k=j
  ·subst I;rw[iO (by simpa using ac)]at u;cases u;exact .inr (.inl ⟨rfl,rfl⟩)
  ·rw[iN (lO I)]at u;by_cases O:k=i
   ·subst O;rw[iO ad]at u;cases u;exact .inl ⟨rfl,rfl⟩
   ·rw[iN (lO O)]at u;exact .inr (.inr ⟨O,I,u⟩)
 have X1:Ext w S h ψ w S (h.set i (.res A)) (Bo ψ i (ψ i)):=kH (λ_ _=>rfl) hi (λc' hc=>by simp[j8]at hc) λh=>by simp[AZ]at h
 have X2:Ext w S (h.set i (.res A)) (Bo ψ i (ψ i)) w S ((h.set i (.res A)).set j (.res B)) (Bo (Bo ψ i (ψ i)) j (Bo ψ i (ψ i) j)):=kH (λ_ _=>rfl) aa (λc' hc=>by simp[j8]at hc) λh=>by simp[AZ]at h
 have e:∀(φ:Nat->eQ) k,Bo φ k (φ k)=φ:=λφ k=>funext λq=>by unfold Bo;split <;> simp_all
 rw[e]at X1;rw[e,e]at X2;have X:Ext w S h ψ w S ((h.set i (.res A)).set j (.res B)) ψ:=⟨λ_ _=>rfl,λ_ h=>h,by simp,λk c' hk hv=>by
  obtain⟨c1,k1,Z,k3⟩:=X2.ver k c' (by simpa using hk) hv;obtain⟨c2,k4,k5,k6⟩:=X1.ver k c1 hk k1;exact⟨c2,k4,by omega,λe'=>⟨rfl,by rw[(k3 (by omega)).2,(k6 (by omega)).2]⟩⟩,λk hk hv=>⟨(X1.box k hk (X2.box k (by simpa using hk) hv).1).1,rfl⟩⟩
 refine⟨?_,S,ψ,⟨H.bel,H.nlt,H.lt,H.sub,H.new,λk b u=>?_,λk q G hk hq g g1 g2=>?_⟩,Az X _ _ hl⟩
 ·rw[hd];show mkD h=_;rw[DO aa (by show B.mrk.map Kb= [];rw[h2];rfl),DO hi (by show A.mrk.map Kb= [].map Kb;rw[h1])]
 ·rcases E k b u with⟨rfl,rfl⟩|⟨rfl,rfl⟩|⟨_,_,u⟩
  ·exact⟨λg hg=>hB.1 g (.inl hg),r1⟩
  ·exact⟨λg hg=>hB.1 g (.inr hg),r2⟩
  ·exact(H.blk k b u).keep X λg _=>⟨rfl,λh=>h⟩
 ·have Y:∀k,j5 ((h.set i (.res A)).set j (.res B))[k]? =aZ->ftp ((h.set i (.res A)).set j (.res B))[k]? (ψ k) g->(k=i/\A.F g)\/(k=j/\B.F g)\/(k≠i/\k≠j/\j5 h[k]? =aZ/\ftp h[k]? (ψ k) g):=λk k1 Z=>by
   obtain⟨b,u⟩:=DQ k1;rw[u]at k1 Z;rcases E k b u with⟨rfl,rfl⟩|⟨rfl,rfl⟩|⟨q1,q2,ab⟩
   ·exact .inl ⟨rfl,Z⟩
   ·exact .inr (.inl ⟨rfl,Z⟩)
   ·exact .inr (.inr ⟨q1,q2,by rw[ab];exact k1,by rw[ab];exact Z⟩)
  have no:∀k,k≠i->j5 h[k]? =aZ->ftp h[k]? (ψ k) g->(A.F g\/B.F g)->False:=λk q1 q3 q4 q5=>
   H.dis k i q1 q3 (by rw[hi];rfl) g q4 (by rw[hi];exact q5)
  rcases Y k hk g1 with⟨e1,f1⟩|⟨e1,f1⟩|⟨a1,a2,a3,a4⟩ <;> rcases Y q hq g2 with⟨e2,f2⟩|⟨e2,f2⟩|⟨b1,b2,b3,b4⟩
  ·exact G (e1.trans e2.symm)
  ·exact F g f1 f2
  ·exact no q b1 b3 b4 (.inl f1)
  ·exact F g f2 f1
  ·exact G (e1.trans e2.symm)
  ·exact no q b1 b3 b4 (.inr f1)
  ·exact no k a1 a3 a4 (.inl f2)
  ·exact no k a1 a3 a4 (.inr f2)
  ·exact H.dis k q G a3 b3 g a4 b4
theorem Awp.upto{P:cZ}{c:bG}(H:Awp P C c (λe s=>∃u,Q e u/\kS C s u) s):Awp P C c Q s:=λa w F=>wpIn_mono (H a w F) λ_ a' w' ⟨_,⟨E,h1,h2⟩,r⟩=>⟨E,h1,h2 a' w' r⟩
theorem upE{e:bL}{u:St}(h:kS C s u)(q:Q e u):∃u,Q e u/\kS C s u:=⟨u,q,h⟩
theorem EM(i:Nat)(hi:h[i]? =lW (.res (A.and B)))(h1:A.mrk= []:=by rfl)(h2:B.mrk= []:=by rfl):kS C ⟨t,h⟩ ⟨t,h.set i (.res A)++[.res B]⟩:=PO hi V h1 h2 (λ_ e=>e) λ_ _ e=>e
end
open Go.Proofs Go.Maps
theorem DY(w:eV):(gF 3).run dI w= .ok (.int .i64 0) w:=by kernel_rfl
section
variable{C:Ctx}{t:List AV}{h:List jZ}{o:cT}{K:St->Prop}{ty e:eP}{x y z:cY}{m:Nat}{ik:bV}{l:List (Int×Int)}{k:Int}
theorem PS(i:Nat)(G:o.op= .lookup ty x y aS)(u:dI.underlying ty=lW (.map 3 e))(E:∀w,(gF e).run dI w= .ok (.int ik 0) w)(hx:evA t x= .lit (.map (lW m)))(F:evA t y= .lit (.int .i64 k))(hk:wfB .i64 k=aZ)(hi:h[i]? =lW (.res (EG (eS ik) l m))):
 AT dI C t h o (.lit (.int ik ((getK l k).getD 0))):=by
 have h1:=KU (C:=C) i G u E hx F hk hi Amk.self;rw[CB]at h1;cases hg:getK l k with
 |none=>rw[hg]at h1;exact h1
 |some v=>rw[hg]at h1;exact h1
theorem Ip(i:Nat)(G:o.op= .lookup ty x y aZ)(u:dI.underlying ty=lW (.map 3 e))(E:∀w,(gF e).run dI w= .ok (.int ik 0) w)(hx:evA t x= .lit (.map (lW m)))(F:evA t y= .lit (.int .i64 k))(hk:wfB .i64 k=aZ)(hi:h[i]? =lW (.res (EG (eS ik) l m))):
 AT dI C t h o (.tup [.lit (.int ik ((getK l k).getD 0)),.lit (.bool (getK l k).isSome)]):=by
 have h1:=Iq (C:=C) i G u E hx F hk hi Amk.self;rw[CB]at h1;cases hg:getK l k with
 |none=>rw[hg]at h1;exact h1
 |some v=>rw[hg]at h1;exact h1
theorem Abs(i:Nat)(E:o.op= .call {callee:=.builtin .len,args:=#[x],argTypes:=#[ty]})(u:dI.underlying ty=lW (.map 3 e))(hx:evA t x= .lit (.map (lW m)))(hi:h[i]? =lW (.res (EG (eS ik) l m))):
 AT dI C t h o (.lit (.int .i64 (l.length:Int))):=by
 have h1:=Abt (C:=C) i E u hx hi Amk.self;rwa [show(mapK (eS ik) l).length=l.length by simp[mapK]]at h1
theorem J5(i:Nat){v:Int}(G:o.op= .mapUpdate ty x y z)(u:dI.underlying ty=lW (.map 3 e))(hx:evA t x= .lit (.map (lW m)))(F:evA t y= .lit (.int .i64 k))(E:evA t z= .lit (.int ik v))(hk:wfB .i64 k=aZ)(H:l.length < fR)(hi:h[i]? =lW (.res (EG (eS ik) l m)))
 (I:K ⟨Bl t o.dst (.lit undef),h.set i (.res (EG (eS ik) (B7 l k v) m))⟩):AOp dI C o ⟨t,h⟩ K:=
 Y2 (l:=mapK (eS ik) l) i G u hx F E hk (by simpa[mapK]using H) hi (by have:=SetM'.self (e:=eS ik) (l:=l) (l':=B7 l k v) (m:=m);rwa [Gs]at this) I
theorem Amr(i:Nat)(F:o.op= .call {callee:=.builtin .delete,args:=#[x,y],argTypes:=#[ty,3]})(u:dI.underlying ty=lW (.map 3 e))(hx:evA t x= .lit (.map (lW m)))(E:evA t y= .lit (.int .i64 k))(hk:wfB .i64 k=aZ)(hi:h[i]? =lW (.res (EG (eS ik) l m)))
 (G:K ⟨Bl t o.dst (.lit (.tuple #[])),h.set i (.res (EG (eS ik) (Qm l k) m))⟩):AOp dI C o ⟨t,h⟩ K:=
 Ams i F u hx E hk hi (by have:=SetM'.self (e:=eS ik) (l:=l) (l':=Qm l k) (m:=m);rwa [Akp]at this) G
end
end Mu
namespace Mu
open Go Go.RowKit Go.ChangeShapes Go.WideShapes
variable{ik:bV}{k n off:Nat}{ty:eP}{w:eV}
section
variable{P:cZ}{C:Ctx}{t:List AV}{h:List jZ}{o:cT}
def Vf(P:cZ)(ty:eP):Option (Nat×Nat):=
 match P.underlying ty with
 |some (.array n e)=>(P.info? e).map λi=>(n,i.size)
 |_=>lV
theorem OE{b sz:Nat}(u:Vf P ty=lW (n,sz))(hk:k < n):(bS ty (.pointer (lW ⟨b,off,lV⟩)) (.int ik (k:Int))).run P w= .ok (.pointer (lW ⟨b,off+k * sz,lV⟩)) w:=by
 unfold Vf at u;split at u <;> try(cases u;done)
 rename_i E e h1;cases h2:P.info? e with
 |none=>rw[h2]at u;cases u
 |some i=>
  rw[h2]at u;simp only[lU,lY,Prod.mk.injEq]at u;obtain⟨rfl,rfl⟩:=u;have F:(0:Int)<=(k:Int)/\(k:Int) < (E:Int):=by omega
  simp[bS,asIntOf,underlying,h1,bU,fZ,gB,h2,add_plain,hk]
theorem Ir{x y:cY}{i:Nat}{cells:List AV}(G:Vf P ty=lW (n,1))(E:o.op= .indexAddr ty x y)(hx:evA t x= .ptr i off)(hi:h[i]? =lW (.box cells))(F:evA t y= .lit (.int ik (k:Int)))(hk:k < n):AT P C t h o (.ptr i (off+k)):=
 AL λS ψ w ρ H u=>by
  have h1:=u x (by simp[E,cR]);have h2:=u y (by simp[E,cR]);rw[hx]at h1;rw[F]at h2;unfold kD at h1 h2;obtain⟨g,X,O⟩:=h1.2 (by rw[hi];rfl);have I:=OE (P:=P) (w:=w) (b:=g) (off:=off) (ik:=ik) G hk;refine⟨.pointer (lW ⟨g,off+k * 1,lV⟩),by simp[fI,E,O,h2,I],?_⟩;unfold kD;exact⟨h1.1,λ_=>⟨g,X,by rw[lI]⟩⟩
def Lw:List AV->List (Nat×AV)->Option (List AV)
 |cs,[]=>lW cs
 |cs,(j,x)::ps=>if j < cs.length then Lw (cs.set j x) ps else lV
theorem Yw{w:eV}{S:Nat->Prop}{h:List jZ}{ψ:Nat->eQ}:∀(ps:List (Nat×AV)) (cs rs:List AV) (vs:List (Nat×eQ)) (G:List eQ),Lw cs ps=lW rs->Ae w S h ψ cs G->
 vs.map (·.1)=ps.map (·.1)->(∀(j:Nat) (p:Nat×AV) (v:Nat×eQ),ps[j]? =lW p->vs[j]? =lW v->kD w S h ψ p.2 v.2/\v.2.oneCell'=aZ)->
 ∃u,bR (λi=>lW (i * 1,1)) G.toArray vs=lW u.toArray/\Ae w S h ψ rs u
 | [],cs,rs,vs,G,F,O,H,_=>by
  cases F;have:vs= []:=by simpa using H
  subst this;exact⟨G,rfl,O⟩
 |(j,x)::ps,cs,rs,vs,G,F,O,H,E=>by
  cases vs with
  |nil=>simp at H
  |cons v vs=>
   simp only[i6,List.cons.injEq]at H;obtain⟨I,X⟩:=H;unfold Lw at F;split at F <;> try(cases F;done)
   rename_i Y;obtain⟨h1,h2⟩:=E 0 _ _ V V;have aa:=Bw O;obtain⟨u,Z,h4⟩:=Yw ps (cs.set j x) rs vs (G.set j v.2) F (HV O j h1) X λj p v F H=>E (j+1) p v (by simpa using F) (by simpa using H)
   refine⟨u,?_,h4⟩;obtain⟨i,v⟩:=v;dsimp only at I h1 h2 Z;subst I;unfold bR;simp only[lI,Hl h2];have hc:¬((a7 ((#[v]:Array eQ).size≠1)||decide (i+(#[v]:Array eQ).size > G.toArray.size))=aZ):=by
    simp;omega
   rw[if_neg hc];simpa using Z
theorem Rq{u:Array (Nat×cY)}{zs:List eQ}{rs:List AV}(ho:o.op= .build ty u)(hz:Cx P ty=lW zs)(E:Vf P ty=lW (n,1))
 (hr:Lw (zs.map .lit) (u.toList.map λp=>(p.1,evA t p.2))=lW rs)(h1:(u.toList.all λp=>Wx (evA t p.2))=aZ):AT P C t h o (.agg rs):=
 AL λS ψ w ρ H X=>by
  unfold Cx at hz;obtain⟨z,Z,rfl⟩:=lT.1 hz;obtain⟨i,hi,Y⟩:=lP.1 Z;unfold Vf at E;split at E <;> try(cases E;done)
  rename_i n' e hu;cases h2:P.info? e with
  |none=>rw[h2]at E;cases E
  |some ie=>
   rw[h2]at E;simp only[lU,lY,Prod.mk.injEq]at E;obtain⟨rfl,aa⟩:=E;have F:∀p∈u.toList,kD w S h ψ (evA t p.2) (ρ p.2):=λp O=>X p.2 (by rw[ho];exact List.mem_toArray.2 (jC.2 ⟨p,O,rfl⟩))
   obtain⟨G,h3,h4⟩:=Yw (w:=w) (S:=S) (h:=h) (ψ:=ψ) _ _ rs (u.toList.map λp=>(p.1,ρ p.2)) z.cells.toList hr (I0 _) (by simp) λj p v O hv=>by
    rw[iK]at O hv;obtain⟨q,hq,rfl⟩:=lT.1 O;rw[hq]at hv;cases hv;have I:=jE hq;exact⟨F q I,Mf (gI.1 h1 q I) C S ψ w _ H (F q I)⟩
   refine⟨.agg G.toArray,?_,by unfold kD;exact⟨G,rfl,h4⟩⟩;have hf:bR (λi=>lW (i * 1,1)) z.cells (u.map λp=>(p.1,ρ p.2)).toList=lW G.toArray:=by simpa using h3
   simp only[fI,ho,Instr.build,gF,gB,underlying,fZ,hi,Y,hu,h2,aa,hf,zar]
end
end Mu
namespace Mu
open Go Go.RowKit Go.Proofs
variable{bs:List Bool}{e:eP}{off:Nat}{r:Bool}{v:eQ}{vs ws:List eQ}{xs:Array eQ}
def Rb(P:cZ):List Field->Nat->List Bool->Bool
 | [],_,[]=>aZ
 |f::fs,j,b::bs=>f.name != "_" &&f.offset ==j&&(match P.underlying f.type with|some (.int _)=>b|some .bool=>!b|_=>aS)&&Rb P fs (j+1) bs
 |_,_,_=>aS
def Acc:List Bool->List eQ->List eQ->Option Bool
 | [],[],[]=>lW aZ
 |true::bs,.int k a::vs,.int k' b::ws=>if k=k' then(Acc bs vs ws).map λr=>a ==b&&r else lV
 |false::bs,.bool a::vs,.bool b::ws=>(Acc bs vs ws).map λr=>a ==b&&r
 |_,_,_=>lV
def Aza(P:cZ)(ty:eP)(bs:List Bool):Bool:=
 (match P.underlying ty with
  |some (.struct u)=>Rb P u.toList 0 bs
  |_=>aS)&&!P.stoodInHeld ty&&!P.eqGuardType P.depth ty
section
variable{P:cZ}{w:eV}
theorem IW{k:bV}(u:P.underlying e=lW (.int k))(hx:xs[off]? =lW v):(part e xs off).run P w= .ok v w:=by
 simp[part,isAgg,fY u,hx]
theorem Nc(u:P.underlying e=lW .bool)(hx:xs[off]? =lW v):(part e xs off).run P w= .ok v w:=by
 simp[part,isAgg,fY u,hx]
theorem Adz{b:Bool}(h:Acc (b::bs) vs ws=lW r):
 (∃k a c F E G,b=aZ/\vs= .int k a::F/\ws= .int k c::E/\Acc bs F E=lW G/\r=(a ==c&&G))\/
 (∃a c F E G,b=aS/\vs= .bool a::F/\ws= .bool c::E/\Acc bs F E=lW G/\r=(a ==c&&G)):=by
 cases vs with
 |nil=>cases b <;> simp[Acc]at h
 |cons v vs=>
  cases ws with
  |nil=>cases b <;> cases v <;> simp[Acc]at h
  |cons u ws=>
   cases b <;> cases v <;> cases u <;> simp only[Acc,reduceCtorEq]at h
   ·obtain⟨G,H,rfl⟩:=lT.1 h;exact .inr ⟨_,_,_,_,G,rfl,rfl,rfl,H,rfl⟩
   ·split at h
    ·rename_i hk;subst hk;obtain⟨G,H,rfl⟩:=lT.1 h;exact .inl ⟨_,_,_,_,_,G,rfl,rfl,rfl,H,rfl⟩
    ·cases h
theorem RI{d:Nat}{xs ys:Array eQ}:∀(fs:List Field) (j:Nat) (bs:List Bool) (vs ws:List eQ) (r:Bool),Rb P fs j bs=aZ->Acc bs vs ws=lW r->(∀i,xs[j+i]? =vs[i]?)->(∀i,ys[j+i]? =ws[i]?)->(cP (d+1) xs ys fs).run P w= .ok r w
 | [],j,bs,vs,ws,r,h,hr,hx,hy=>by
  cases bs with
  |nil=>
   cases vs <;> cases ws <;> simp[Acc]at hr
   subst hr;rfl
  |cons b bs=>simp[Rb]at h
 |f::fs,j,bs,vs,ws,r,h,hr,hx,hy=>by
  cases bs with
  |nil=>simp[Rb]at h
  |cons b bs=>
   simp only[Rb,aR,bne_iff_ne,ne_eq,beq_iff_eq]at h;obtain⟨⟨⟨hn,ho⟩,ht⟩,G⟩:=h;have E:∀{zs:Array eQ} {u:eQ} {us:List eQ},(∀i,zs[j+i]? =(u::us)[i]?)->zs[f.offset]? =lW u/\∀i,zs[j+1+i]? =us[i]?:=λhz=>by
    refine⟨by rw[ho];simpa using hz 0,λi=>?_⟩;have:=hz (i+1);rw[iE]at this;rw[<-this];congr 1;omega
   rcases Adz hr with⟨k,a,c,I,H,r',rfl,rfl,rfl,aa,rfl⟩|⟨a,c,I,H,r',rfl,rfl,rfl,aa,rfl⟩
   ·obtain⟨Z,Y⟩:=E hx;obtain⟨X,O⟩:=E hy;have ih:=RI (d:=d) (xs:=xs) (ys:=ys) fs (j+1) bs I H r' G aa Y O;cases F:P.underlying f.type with
    |none=>rw[F]at ht;cases ht
    |some td=>
     rw[F]at ht;cases td <;> simp at ht
     rename_i ik;have q:(cQ (d+1) f.type (.int k a) (.int k c)).run P w= .ok (a ==c) w:=run_equalIn_int (P:=P) w d f.type k ik a c F;simp only[cP,hn,ne_eq,not_false_eq_true,if_true,eN];rw[IW F Z,eI,IW F X,eI,q,eI];cases(a ==c)
     ·rfl
     ·simpa using ih
   ·obtain⟨Z,Y⟩:=E hx;obtain⟨X,O⟩:=E hy;have ih:=RI (d:=d) (xs:=xs) (ys:=ys) fs (j+1) bs I H r' G aa Y O;cases F:P.underlying f.type with
    |none=>rw[F]at ht;cases ht
    |some td=>
     rw[F]at ht;cases td <;> simp at ht
     have q:(cQ (d+1) f.type (.bool a) (.bool c)).run P w= .ok (a ==c) w:=run_equalIn_bool' (P:=P) w d f.type a c F;simp only[cP,hn,ne_eq,not_false_eq_true,if_true,eN];rw[Nc F Z,eI,Nc F X,eI,q,eI];cases(a ==c)
     ·rfl
     ·simpa using ih
theorem Ad0{ty:eP}(h:Aza P ty bs=aZ)(G:Acc bs vs ws=lW r):(cQ 10000 ty (.agg vs.toArray) (.agg ws.toArray)).run P w= .ok r w/\P.eqGuardType P.depth ty=aS:=by
 unfold Aza at h;simp only[zas]at h;obtain⟨⟨h1,h2⟩,H⟩:=h;refine⟨?_,H⟩;split at h1
 ·rename_i F u;have E:P.fieldsOf ty=F:=by unfold Program.fieldsOf;rw[u]
  rw[show(10000:Nat)=9999+1 from V,run_equalIn_struct w 9999 ty _ _ (by rw[E];exact u) h2,E];exact RI (d:=9998) F.toList 0 bs vs ws r h1 G (λi=>by simp) (λi=>by simp)
 ·cases h1
end
theorem OJ{w:eV}{S:Nat->Prop}{h:List jZ}{ψ:Nat->eQ}:∀(vs:List eQ) {E:List eQ},Ae w S h ψ (vs.map .lit) E->E=vs
 | [],E,H=>by
  unfold Ae at H;exact H
 |v::vs,E,H=>by
  unfold List.map Ae at H;obtain⟨u,F,rfl,h1,h2⟩:=H;unfold kD at h1;rw[h1,OJ vs h2]
section
variable{P:cZ}{C:Ctx}{t:List AV}{h:List jZ}{o:cT}
end
open Go.ChangeShapes Go.WideShapes
section
variable{P:cZ}{C:Ctx}{t:List AV}{h:List jZ}{o:cT}
def Aym(k:bV)(ds:List Int):List AV:=ds.map λd=>.lit (.int k d)
theorem Tu{w:eV}{S:Nat->Prop}{h:List jZ}{ψ:Nat->eQ}{k:bV}:∀{ds:List Int} {cs:List eQ},Ae w S h ψ (Aym k ds) cs->cs=ds.map (eS k)
 | [],cs,H=>by unfold Aym at H;simp only[i7,Ae]at H;simpa using H
 |d::ds,cs,H=>by
  unfold Aym at H;simp only[i6,Ae,kD]at H;obtain⟨v,vs,rfl,rfl,h2⟩:=H;rw[i6,Tu (ds:=ds) h2]
def Az1(P:cZ)(ty:eP):Option bV:=
 match P.underlying ty with
 |some (.array _ e)=>match P.underlying e with|some (.int k)=>lW k|_=>lV
 |_=>lV
theorem Abu{ty:eP}{x y:cY}{k ik:bV}{ds:List Int}{z:Int}{n:Nat}(F:o.op= .index ty x y)(u:Vf P ty=lW (n,1))(hn:ds.length=n)(hk:Az1 P ty=lW k)(hx:evA t x= .agg (Aym k ds))(Z:evA t y= .lit (.int ik z))(X:Cm ds z=aZ):AT P C t h o (.lit (.int k (ixD ds z))):=
 AL λS ψ w ρ H E=>by
  have h1:=E x (by simp[F,cR]);have h2:=E y (by simp[F,cR]);rw[hx]at h1;rw[Z]at h2;unfold kD at h1 h2;obtain⟨cs,e1,hl⟩:=h1;have O:=Tu hl;subst O;subst hn;obtain⟨h0,aa⟩:=BL.1 X;have hg:=BS X;unfold Vf at u;split at u <;> try(cases u;done)
  rename_i n' e Y;cases hi:P.info? e with
  |none=>rw[hi]at u;cases u
  |some i=>
   rw[hi]at u;simp only[lU,lY,Prod.mk.injEq]at u;obtain⟨rfl,I⟩:=u;have hb:(0:Int)<=z/\z < (ds.length:Int):=by omega
   refine⟨.int k (ixD ds z),?_,by unfold kD;rfl⟩;have G:P.underlying e=lW (.int k):=by
    unfold Az1 at hk;rw[Y]at hk;simp only at hk;split at hk
    ·rename_i q he;cases hk;exact he
    ·cases hk
   have hp:=IW (P:=P) (w:=w) (e:=e) (k:=k) (xs:=(ds.map (eS k)).toArray) (off:=z.toNat) (v:=.int k (ixD ds z)) G (by simp[hg]);simp[fI,F,e1,h2,Instr.index,asIntOf,underlying,Y,hb,fZ,gB,hi,I,hp]
theorem Oj{α:Type}{T:Ty α}{enc:α->List AV}{x:α}(E:∀w S cs ψ,Ae w S h ψ (enc x) cs->T.RS w S cs x):Fit h T (.agg (enc x)) x:=λC S ψ w v H u=>by
 unfold kD at u;obtain⟨cs,rfl,F⟩:=u;exact E w S cs ψ F
theorem Xp{E G:eP}{x y:cY}{bs:List Bool}{vs ws:List eQ}{r:Bool}(X:Aza P E bs=aZ)(F:o.op= .binOp .neq E x y G)(hx:evA t x= .agg (vs.map .lit))(I:evA t y= .agg (ws.map .lit))(O:Acc bs vs ws=lW r):AT P C t h o (.lit (.bool (!r))):=
 AL λS ψ w ρ _ u=>by
  have h1:=u x (by simp[F,cR]);have h2:=u y (by simp[F,cR]);rw[hx]at h1;rw[I]at h2;unfold kD at h1 h2;obtain⟨us,h1,Z⟩:=h1;obtain⟨H,h2,Y⟩:=h2;rw[OJ _ Z]at h1;rw[OJ _ Y]at h2;obtain⟨e1,e2⟩:=Ad0 (w:=w) X O;refine⟨_,?_,by unfold kD;rfl⟩;simp only[fI,F,h1,h2,eN];rw[run_eqGuard_agg w .neq E x y _ _ e2,eI,run_neq_struct,e1,eI];rfl
end
end Mu
namespace Mu
open Go Go.RowKit
variable{F:(Nat->Bool)->St}{b:Nat->Bool}{c:Bool}{i j k:Nat}{o:cT}{ops:Array cT}{p:Nat}{x y:AV}
section
variable{P:cZ}{C:Ctx}
def upd(b:Nat->Bool)(i:Nat):Nat->Bool:=λj=>if j=i then aZ else b j
def Abk(b:Nat->Bool)(o:cT):Prop:=∀(k:Nat) (e:bJ),o.after[k]? =lW e->eC .any e=aZ->b e.on=aZ
def Ahj(ops:Array cT)(b:Nat->Bool):Prop:=∀(j:Nat) (o:cT),ops[j]? =lW o->b j=aZ->Abk b o
def gS(P:cZ)(C:Ctx)(F:(Nat->Bool)->St)(ops:Array cT):Nat->List cT->Prop
 |_,[]=>True
 |k,o::rest=>(∀b,b k=aS->Abk b o->Ahj ops b->AOp P C o (F b) λs=>kS C s (F (upd b k)))/\gS P C F ops (k+1) rest
theorem An1{F:(Nat->Bool)->St}{ops:Array cT}:∀{l:List cT} {k j:Nat} {o:cT},gS P C F ops k l->l[j]? =lW o->∀b,b (k+j)=aS->Abk b o->Ahj ops b->AOp P C o (F b) λs=>kS C s (F (upd b (k+j)))
 | [],_,_,_,_,u=>by simp at u
 |o'::l,k,0,o,h,u=>by
  simp at u;subst u;exact h.1
 |o'::l,k,j+1,o,h,u=>by
  have:=An1 (l:=l) (k:=k+1) (j:=j) h.2 (by simpa using u);rwa [show k+1+j=k+(j+1)by omega]at this
def Axw(ops:Array cT):Bool:=(List.range ops.size).all λi=>match ops[i]? with
 |none=>aZ
 |some o=>o.guard.isNone&&o.after.all λe=>!Region.binds .any e||decide (e.on < i)
theorem Sf(E:Axw ops=aZ)(u:ops[i]? =lW o):o.guard=lV/\∀e∈o.after,eC .any e=aZ->e.on < i:=by
 have h1:=gI.1 E i (List.mem_range.2 (aD.1 u).1);simp only[u,aR]at h1;refine⟨by simpa using h1.1,λe G H=>?_⟩;have h2:=Array.all_eq_true_iff_forall_mem.1 h1.2 e G;rw[H]at h2;simpa using h2
theorem Mc(h:Abk b o):Abk (upd b i) o:=λk e u E=>by
 unfold upd;split
 ·rfl
 ·exact h k e u E
theorem An0{listed:Array Bool}(h:listed.getD j aS=aZ):listed.getD j aZ=aZ:=by
 rcases lE j listed.size with h'|h'
 ·simp[h']at h⊢;exact h
 ·simp[aC h']at h
theorem RD{listed:Array Bool}(hi:i < listed.size):(λj=>(listed.setIfInBounds i aZ).getD j aZ)=upd (λj=>listed.getD j aZ) i:=by
 funext j;unfold upd;by_cases h:j=i
 ·subst h;rw[if_pos V];simp[aA,hi]
 ·rw[if_neg h,getD_set_ne aZ (lO h)]
theorem Y6{Q':bL->Act->eV->Prop}(hf:Axw ops=aZ)
 (hs:∀(j:Nat) (o:cT),ops[j]? =lW o->∀b,b j=aS->Abk b o->Ahj ops b->AOp P C o (F b) λs=>kS C s (F (upd b j)))
 (hQ:∀a w,(F λ_=>aZ).rel C a w->Q' .normal a w):
 ∀(f:Nat) (listed:Array Bool) (a:Act) (w:eV),listed.size=ops.size->listed.toList.count aS=f->Ahj ops (λj=>listed.getD j aZ)->(F λj=>listed.getD j aZ).rel C a w->wpAny P .any ops Q' f listed a w:=by
 intro f;induction f with
 |zero=>
  intro listed a w Y hc Z H;have u:∀j,listed.getD j aZ=aZ:=λj=>by
   rcases lE j listed.size with h'|h'
   ·have hm:=gO.1 hc;simp only[aA,aB h',lR];rcases hx:listed[j]with _|_
    ·exact absurd (by rw[<-hx];simp) hm
    ·rfl
   ·simp[aA,aC h']
  refine⟨gV.2 λi hi=>?_,hQ a w ?_⟩
  ·have:=(fS.1 hi).1;rw[u i]at this;cases this
  ·have e:(λj=>listed.getD j aZ)=λ_=>aZ:=funext u
   rwa [e]at H
 |succ f ih=>
  intro listed a w Y hc Z H;refine⟨λh0=>?_,λi hi=>?_⟩
  ·exfalso;have aj:∃j,listed.getD j aZ=aS:=by
    have hm:aS∈listed.toList:=gP.1 (by omega);obtain⟨j,G,he⟩:=iP hm;exact⟨j,by simp only[aH]at G;simp only[aG]at he;simp[aA,G,he]⟩
   obtain⟨j,G,ab⟩:=Gt aj;have ac:j < ops.size:=by
    rcases lE j listed.size with h'|h'
    ·omega
    ·simp[aC h']at G
   have O:j∈eE .any ops listed:=fS.2 ⟨G,_,aB ac,λe he hb=>by
    have ak:=(Sf hf (aB ac)).2 e he hb;cases hx:listed.getD e.on aS with
    |true=>rfl
    |false=>
     have ai:e.on < listed.size:=by omega
     have:=ab e.on (getD_in ai hx);omega⟩
   rw[h0]at O;cases O
  ·obtain⟨aa,o,ho,u⟩:=fS.1 hi;have E:i < listed.size:=by rw[Y];exact(aD.1 ho).1
   obtain⟨hg,al⟩:=Sf hf ho;have X:Abk (λj=>listed.getD j aZ) o:=λk e he hb=>An0 (u e (aJ he) hb)
   have ae:(listed.setIfInBounds i aZ).toList.count aS=f:=by
    have I:listed.toList[i]'(by simpa using E)=aS:=by
     have:=aa;simp[aA,E]at this;simpa using this
    rw[aO,gQ (by simpa using E),I,hc];simp
   unfold wpOp;simp only[ho];have hw:eG o (yielded ops a.tmps)=aZ:=by unfold eG;rw[hg]
   rw[hw,if_pos V];refine .inl (cX (λa' w' ⟨s',ah,hr⟩=>?_) (hs i o ho _ aa X Z Q' a w H).2);refine ih _ a' w' (by simpa using Y) ae ?_ ?_
   ·rw[RD E];intro j o' G ag;by_cases ad:j=i
    ·subst ad;rw[ho]at G;cases G;exact Mc X
    ·exact Mc (Z j o' G (by unfold upd at ag;rwa [if_neg ad]at ag))
   ·rw[RD E];exact ah a' w' hr
theorem P2{id n:Nat}{l:List cT}{Q:bL->St->Prop}(F:(Nat->Bool)->St)(hn:l.length=n)(hm:P.follows .mixedOrders=aZ)(Y:(eD l.toArray&&KI l.toArray&&Axw l.toArray)=aZ)
 (Z:gS P C F l.toArray 0 l)(hQ:Q .normal (F λ_=>aZ)):Awp P C (.region id l.toArray aZ) Q (F λj=>decide (n<=j)):=λa w H=>by
 simp only[aR]at Y;obtain⟨⟨X,G⟩,hf⟩:=Y;refine FI hm G ?_;have e0:(λj=>(aL l.toArray.size aS).getD j aZ)=λj=>decide (n<=j):=by
  funext j;simp only[aA,aF,jQ,hn];by_cases h:j < n
  ·rw[if_pos h,decide_eq_false (by omega)];rfl
  ·rw[if_neg h,decide_eq_true (by omega)];rfl
 refine Y6 (Q':=λe a' w'=>e= .normal/\∃O,Q e O/\O.rel C a' w') hf (λj o E b h1 h2 h3=>?_) (λa' w' h=>⟨rfl,_,hQ,h⟩) _ _ a _ (by simp) (by simp) ?_ ?_
 ·have:=An1 (l:=l) (k:=0) (j:=j) Z (by simpa using E) b (by rwa [lL]) h2 h3;rwa [lL]at this
 ·intro j o E I;have hj:j < l.toArray.size:=(aD.1 E).1;have:(aL l.toArray.size aS).getD j aZ=aZ:=I;rw[aA,aF,if_pos hj]at this;cases this
 ·rw[e0];obtain⟨hd,S,ψ,u,hl⟩:=H;have I:Below w.heap.size w {w with drawn:=w.drawn+1}:=⟨rfl,rfl,rfl,lB _,λ_ _=>rfl⟩
  exact⟨hd,S,ψ,u.grow I (λ_ h=>h) (λ_ h=>.inl h) u.lt,Az (show Ext w S _ ψ {w with drawn:=w.drawn+1} S _ ψ from kF _ ψ (λk hk=>rfl) λ_ h=>h) _ _ hl⟩
theorem Afb:Dw p []=aZ:=rfl
theorem Fv{l:List AV}(hx:Ge p x=aZ)(u:Dw p l=aZ):Dw p (x::l)=aZ:=by unfold Dw;rw[hx,u];rfl
theorem Azx(hx:Ge p x=aZ)(u:Ge p y=aZ):Ge p (bif c then x else y)=aZ:=by cases c;exact u;exact hx
theorem At5(hc:c=aS)(u:Ge p y=aZ):Ge p (bif c then x else y)=aZ:=by subst hc;exact u
theorem Afc:List.all [] (nrB p)=aZ:=rfl
theorem Gq{x:jZ}{l:List jZ}(hx:nrB p x=aZ)(u:l.all (nrB p)=aZ):(x::l).all (nrB p)=aZ:=by rw[List.all_cons,hx,u];rfl
theorem NL{x y:jZ}(hx:nrB p x=aZ)(u:nrB p y=aZ):nrB p (bif c then x else y)=aZ:=by cases c;exact u;exact hx
theorem KT{t:List AV}{h h':List jZ}(k:Nat)(e:h++jP k .dead=h'):kS C ⟨t,h⟩ ⟨t,h'⟩:=by
 subst e;induction k with
 |zero=>simpa using kT
 |succ k u=>
  refine u.trans ?_;have:=Ro (C:=C) (t:=t) (h:=h++jP k .dead);rwa [List.append_assoc,<-List.replicate_succ']at this
theorem Sp{b:Bool}(h:b=aZ)(x y:jZ):(bif b then x else y)=x:=by subst h;rfl
theorem CT{b:Bool}(h:b=aS)(x y:jZ):(bif b then x else y)=y:=by subst h;rfl
theorem BP{rest:List cT}(h1:∀b,b k=aS->Abk b o->Ahj ops b->AOp P C o (F b) λs=>kS C s (F (upd b k)))(h2:gS P C F ops (k+1) rest):gS P C F ops k (o::rest):=⟨h1,h2⟩
theorem Agl:gS P C F ops k []:=trivial
theorem AW(hc:Ahj ops b){e:bJ}(u:ops[j]? =lW o)(hk:o.after[k]? =lW e)(G:eC .any e=aZ)(E:e.on=i)(hi:b i=aS):b j=aS:=by
 cases h:b j with
 |false=>rfl
 |true=>
  have:=hc j o u h k e hk G;rw[E,hi]at this;cases this
end
open Go.Proofs
section
variable{P:cZ}{C:Ctx}
variable{t:List AV}{h:List jZ}{o:cT}
theorem EP{x:cY}{g off:Nat}(E:o.op= .nilCheck x)(hx:evA t x= .lit (.pointer (lW ⟨g,off,lV⟩))):AT P C t h o (.lit (.pointer (lW ⟨g,off,lV⟩))):=
 AL λS ψ w ρ _ u=>by
  have h1:=u x (by simp[E,cR]);rw[hx]at h1;unfold kD at h1;exact⟨.pointer (lW ⟨g,off,lV⟩),by simp[fI,E,h1],by unfold kD;rfl⟩
end
section
variable{P:cZ}{C:Ctx}{t:List AV}{h:List jZ}{o:cT}
end
theorem qVia{Q:bL->St->Prop}{s:St}(u:St)(e:s=u)(h:Q .normal u):Q .normal s:=by rw[e];exact h
theorem Pb{x y:AV}{l l':List AV}(h1:x=y)(h2:l=l'):x::l=y::l':=by rw[h1,h2]
theorem Fit.of_eq{h:List jZ}{α:Type}{T:Ty α}{x y:AV}{d:α}(e:x=y)(u:Fit h T y d):Fit h T x d:=by rw[e];exact u
section
variable{G:eV->Prop}{P:cZ}{f:bO}{fn:bN}{c:bG}{args:List AV}{ι:Type}{R:Res}{Rs:ι->Res}{val:ι->eQ}{t:Tmp}{n:Nat}
end
section
variable{G:eV->Prop}{P:cZ}{C:Ctx}{o:cT}{t:List AV}{h:List jZ}{ι:Type}{Rs:ι->Res}{val:ι->eQ}
end
open Go.ChangeShapes Go.WideShapes
variable{α:Type}{T:Ty α}{cap:Nat}{e:eP}{f:bO}{g:Nat}{hi:Option cY}{i:Nat}{l:List α}{l':List AV}{m n off sz:Nat}{ty:eP}{tys:Array eP}{u:eQ}{ver:Nat}{x:cY}{xs:List AV}
def Hz(cells:List eQ)(off:Nat)(news:List eQ):List eQ:=cells.take off++news++cells.drop (off+news.length)
def Ajc(g sz cap l m:Nat):eQ:=.slice (if cap=l then lW ⟨g,0,lV⟩else lW ⟨g,l * sz,lV⟩) (m - l) (cap - l)
theorem Gk{cells:List eQ}{news:List eQ}(h:off+news.length<=cells.length):(Hz cells off news).length=cells.length:=by
 unfold Hz;simp;omega
theorem E3(P:cZ){w:eV}{cells news:List eQ}(hg:w.heap[g]? =lW (.cells cells.toArray e (0,0)))(E:off+news.length<=cells.length)(h1:∀u∈news,u.oneCell'=aZ):
 w.setCells g off news=w.setRow g (Hz cells off news).toArray:=by
 have a:=run_storeCells_cells (P:=P) g off news 0 w (λj H=>by simp[eW,hg];omega) (λj H=>by simp[eX,hg]) h1;have b:=fX (P:=P) g off e news 0 cells.toArray w hg (by simpa using E) h1;rw[a]at b;simpa[Hz]using b
section
variable{P:cZ}{C:Ctx}{t:List AV}{h:List jZ}{o:cT}{K:St->Prop}
theorem PR{lo:Option cY}{l:Nat}[ES P ty sz](O:o.op= .slice ty x lo hi lV)(hx:evA t x= .lit (.slice (lW ⟨g,0,lV⟩) n cap))(hl:Aog t 0 lo l)(hm:Aog t n hi m)(h1:l<=m)(h2:m<=cap):
 AT P C t h o (.lit (Ajc g sz cap l m)):=
 AL λS ψ w ρ H E=>by
  have I:=E x (by rw[O];simp[cR]);have Y:=hl.val (h:=h) (w:=w) (S:=S) (ψ:=ψ) (ρ:=ρ) λy X=>E y (by rw[O,X];simp[cR])
  have Z:=hm.val (h:=h) (w:=w) (S:=S) (ψ:=ψ) (ρ:=ρ) λy X=>E y (by rw[O,X];simp[cR])
  rw[hx]at I;unfold kD at I;have hr:=To (P:=P) (w:=w) (a:=lW ⟨g,0,lV⟩) (len:=n) (cap:=cap) (ES.eq (P:=P) (ty:=ty) (n:=sz)) Y Z h1 h2;have e:(eU (if cap=l then lW ⟨g,0,lV⟩else(lW (⟨g,0,lV⟩:a8)).map (·.add (l * sz))) (m - l) (cap - l))=Ajc g sz cap l m:=by
   unfold Ajc;split <;> simp[add_plain]
  rw[e]at hr;refine⟨Ajc g sz cap l m,by simp[fI,O,I,hr],?_⟩;unfold kD;rfl
theorem Xo[ES P ty sz](E:o.op= .slice ty x lV hi lV)(hx:evA t x= .lit (.slice (lW ⟨g,0,lV⟩) n cap))(H:Aog t n hi m)(h2:m<=cap):
 AT P C t h o (.lit (.slice (lW ⟨g,0,lV⟩) m cap)):=by
 have e:Ajc g sz cap 0 m= .slice (lW ⟨g,0,lV⟩) m cap:=by
  unfold Ajc;split <;> simp
 rw[<-e];exact PR E hx V H (lM _) h2
theorem Ajx{S:Nat->Prop}{w:eV}{cells news:List eQ}(hg:w.heap[g]? =lW (.cells cells.toArray e (0,0))){v:eQ}:
 kV w S (λk=>k=g) (λ_:Unit=>Am0 g (Hz cells off news) e) (λ_=>v) v (w.setRow g (Hz cells off news).toArray):=by
 have E:=Cc w g (Hz cells off news).toArray;refine⟨⟨E.os,E.tape,E.output,E.size,λk hk H=>E.block k hk λe=>H (by injection e)⟩,(),rfl,setRow_heap w g _ _ e _ hg,λk hk=>?_⟩;have hk:k=g:=hk;subst hk;exact⟨.inl V,lD (aD.1 hg).1 E.size⟩
theorem Acj(z:eQ)(n:Nat):(bC z.cells n).toList.length=n * z.cells.size:=by
 simp[bC]
def Y4(P:cZ)(e:eP)(n:Nat):List eQ:=(bC (((P.info? e).bind (·.zero)).getD undef).cells n).toList
theorem Xx{E:TypeInfo}{z:eQ}(h1:P.info? e=lW E)(h2:E.zero=lW z)(n:Nat):Y4 P e n=(bC z.cells n).toList:=by
 unfold Y4;rw[h1];simp only[lQ,h2,lR]
theorem Ack{bytes:Nat}[RT P ty e sz bytes](n:Nat):(Y4 P e n).length=n * sz:=by
 obtain⟨Z,O,z,I,H,Y,X,E⟩:=C9 (RT.eq (P:=P) (ty:=ty) (e:=e) (n:=sz) (bytes:=bytes));rw[Xx I H,Acj,E]
theorem Aca{l bytes:Nat}{cells:List eQ}{zs:List eQ}[RT P ty e sz bytes][ZC P e zs](ai:zs.all (·.oneCell')=aZ)(ho:o.op= .call {callee:=.builtin .clear,args:=#[x],argTypes:=#[ty]})
 (hx:evA t x= .lit (Ajc g sz cap l m))(hi:h[i]? =lW (.res (Am0 g cells e)))(hc:cells.length=cap * sz)(hm:m<=cap)
 (hK:K ⟨Bl t o.dst (.lit (.tuple #[])),h.set i (.res (Am0 g (Hz cells (l * sz) (Y4 P e (m - l))) e))⟩):AOp P C o ⟨t,h⟩ K:=by
 obtain⟨q1,ti,z,q2,Z,q4,q5,q6⟩:=C9 (RT.eq (P:=P) (ty:=ty) (e:=e) (n:=sz) (bytes:=bytes));rw[Xx q2 Z]at hK;have ab:z.cells.toList=zs:=by
  have:=ZC.eq (P:=P) (ty:=e) (zs:=zs);unfold Cx at this;rw[q2]at this;simp only[lQ,Z,lU,lY]at this;exact this
 have O:(bC z.cells (m - l)).toList.length=(m - l) * sz:=by rw[Acj,q6]
 have ad:∀u∈(bC z.cells (m - l)).toList,u.oneCell'=aZ:=λu hu=>by
  have X:u∈bC z.cells (m - l):=by simpa using hu
  unfold bC at X;obtain⟨j,hj,rfl⟩:=Array.mem_map.1 X;have hj:=Array.mem_range.1 hj;have ah:j % z.cells.size < z.cells.size:=lG _ (by
   rcases kZ z.cells.size with h|h
   ·rw[h,Nat.mul_zero]at hj;omega
   ·exact h)
  rw[getElem!_pos z.cells (j % z.cells.size) ah];exact gI.1 ai _ (by rw[<-ab];simp)
 refine j9 (ι:=Unit) (Rs:=λ_=>Am0 g (Hz cells (l * sz) (bC z.cells (m - l)).toList) e) (val:=λ_=>.tuple #[]) hi (λ_=>rfl) (λS ψ w ρ H hR aj aa=>?_) λ_=>hK
 have E:=aa x (by simp[ho,cR,bD]);rw[hx]at E;unfold kD at E;have hg:w.heap[g]? =lW (.cells cells.toArray e (0,0)):=hR;have Y:(fI ρ o).run P w= .ok (.value (.tuple #[])) (w.setRow g (Hz cells (l * sz) (bC z.cells (m - l)).toList).toArray):=by
  by_cases ak:m<=l
  ·have e0:m - l=0:=by omega
   have e1:(bC z.cells (m - l)).toList= []:=gW (by rw[O,e0,Nat.zero_mul]);have e2:Hz cells (l * sz) []=cells:=by unfold Hz;simp
   rw[e1,e2,setRow_self w g cells.toArray e (0,0) hg];unfold Ajc at E;rw[e0]at E;simp only[fI,ho,fU,fQ,builtin];split at E <;> simp[E,bB,fY q1]
  ·have ae:¬cap=l:=by omega
   unfold Ajc at E;rw[if_neg ae]at E;have ag:l * sz+(m - l) * sz<=cells.length:=by
    rw[hc,<-kX];exact lH _ (by omega)
   have I:=fX (P:=P) g (l * sz) e (bC z.cells (m - l)).toList 0 cells.toArray w hg (by rw[O];simpa using ag) ad;obtain⟨q,hq⟩:∃q,m - l=q+1:=⟨m - l - 1,by omega⟩
   have ac:(gF e).run P w= .ok z w:=by simp[gF,gB,q2,Z]
   rw[hq]at E I⊢;simp only[kY]at I;simp[fI,ho,fU,fQ,builtin,E,bB,fY q1,ac,I,Hz]
 rw[Y];exact Ajx hg
def Amh{α:Type}(T:Ty α)(cells:List eQ)(l:List α):Prop:=∀w S j d,l[j]? =lW d->T.RS w S ((cells.drop (j * T.size)).take T.size) d
end
section
variable{P:cZ}{C:Ctx}{t:List AV}{h:List jZ}{c:bG}{Q:bL->St->Prop}
theorem VD(i:Nat)(hi:h[i]? =lW (.row ver e T l))(hn:ZS i h=aZ)(aa:l≠[])(ad:∀w w' S S' cs d,T.RS w S cs d->T.RS w' S' cs d)(ag:SK T)(t':eQ->List AV)(ht:∀v,Opn i ver v t (t' v))
 (hK:∀g cap cells,cells.length=cap * T.size->l.length<=cap->cap<=fR->Amh T cells l->(∀u∈cells.take (l.length * T.size),u.oneCell'=aZ)->Awp P C c Q ⟨t' (.slice (lW ⟨g,0,lV⟩) l.length cap),h.set i (.res (Am0 g cells e))⟩):Awp P C c Q ⟨t,h⟩:=λa w ⟨hd,S,ψ,H,hl⟩=>by
 have hB:=H.blk i _ hi;have ab:=hB.lt V;obtain⟨cells,h1,h0,h2,h3⟩:=id hB;rcases h1.2 with⟨_,e0⟩|⟨g,cap,cur,e1,e2,e3,e4,e5,e6,e7⟩
 ·exact absurd (gW e0) aa
 ·have X:=ab g (by rw[e1];rfl);have H':=H.desc (b':=.res (Am0 g cur.toList e)) (v':=ψ i) hi V (LH hn) ⟨λk hk=>by
   have hk:k=g:=hk;subst hk;obtain⟨a1,a2,a3⟩:=X;exact⟨a1,a3,a2⟩,by show w.heap[g]? =_;rw[e3]⟩ λk hk=>by
    have hk:k=g:=hk;subst hk;rw[e1];rfl
  rw[NR]at H';have ah:l.length * T.size<=cur.toList.length:=by
   have e8:cur.toList.length=cap * T.size:=by simpa using e6
   rw[e8];exact lH _ e4
  have E:∀j d,l[j]? =lW d->(cells.drop (j * T.size)).take T.size=(cur.toList.drop (j * T.size)).take T.size:=λj d I=>by
   have Y:=(iJ.1 I).1;have ac:(j+1) * T.size<=l.length * T.size:=lH _ (by omega);rw[kX,lJ]at ac;rw[<-e7,gT,jX,lF (by omega)]
  have O:∀u∈cells,u.oneCell'=aZ:=λu Z=>by
   obtain⟨j,I,rfl⟩:=List.mem_iff_getElem.1 Z;have Y:j < l.length * T.size:=by rw[<-h1.1];exact I
   have hq:j / T.size < l.length:=(Nat.div_lt_iff_lt_mul h0).2 Y;have hR:=h2 (j / T.size) _ (iH hq);refine ag _ _ _ _ hR _ (List.mem_iff_getElem?.2 ⟨j % T.size,?_⟩);rw[List.getElem?_take_of_lt (lG _ h0),iG,Nat.mul_comm,Nat.div_add_mod,iH I]
  have ae:=hK g cap cur.toList (by rw[aH,e6]) e4 e5 (λw' S' j d I=>by
   rw[<-E j d I];exact ad _ _ _ _ _ _ (h2 j d I)) (by rw[e7];exact O)
  refine ae a w ⟨by rw[hd];exact(DO (b':=.res (Am0 g cur.toList e)) hi V).symm,S,ψ,H',?_⟩;rw[<-e1];refine(ht (ψ i)).rel (λu Z=>?_) hl;unfold kD at Z;exact(Z.2 _ (by rw[hi];rfl)).2 V
theorem Qz(i:Nat){cells:List eQ}{t':List AV}(hi:h[i]? =lW (.res (Am0 g cells e)))(Z:ZS i h=aZ)(hc:cells.length=cap * T.size)(E:l.length<=cap)(hm:cap<=fR)(h0:0 < T.size)(hR:Amh T cells l)
 (ht:Cls i ver (.slice (lW ⟨g,0,lV⟩) l.length cap) t t'):kS C ⟨t,h⟩ ⟨t',h.set i (.row ver e T l)⟩:=λa w ⟨hd,S,ψ,H,hl⟩=>by
 have Y:=H.blk i _ hi;have hg:w.heap[g]? =lW (.cells cells.toArray e (0,0)):=Y.2;have O:l.length * T.size<=cells.length:=by rw[hc];exact lH _ E
 have I:w.ownsRow 0 e T.size (.slice (lW ⟨g,0,lV⟩) l.length cap) l.length (cells.take (l.length * T.size)):=
  ⟨by rw[iZ];omega,.inr ⟨g,cap,cells.toArray,rfl,lM _,hg,E,hm,by rw[jQ,hc],rfl⟩⟩
 have H':=H.desc (b':=.row ver e T l) (v':=.slice (lW ⟨g,0,lV⟩) l.length cap) hi V (LH Z) ⟨_,I,h0,λj d X=>by
  have aa:=(iJ.1 X).1;have E:(j+1) * T.size<=l.length * T.size:=lH _ (by omega);rw[kX,lJ]at E;rw[gT,jX,lF (by omega)];exact hR w S j d X,λk hk=>by
  obtain⟨a1,a2,_⟩:=Y.1 k (show k=g by simpa[eT]using hk.symm);exact⟨a1,a2⟩⟩ λk hk=>by
   have:g=k:=by simpa[ftp,Bu]using hk
   exact this.symm
 exact⟨by rw[hd];exact(DO (b':=.row ver e T l) hi V).symm,S,_,H',ht.rel (iJ.1 hi).1 V hl⟩
end
section
variable{C:Ctx}{h:List jZ}{S:Nat->Prop}{ψ:Nat->eQ}{w:eV}{t t':List AV}
end
section
variable{α0:Type}{P:cZ}{C:Ctx}{t:List AV}{h:List jZ}{o:cT}{K:St->Prop}
def M2(h:List jZ)(x E:AV):Prop:=∀(C:Ctx) (S:Nat->Prop) (ψ:Nat->eQ) (w:eV) (v:eQ),kJ C h S ψ w->kD w S h ψ x v->kD w (λk=>k < w.heap.size) [] ψ0 E v
inductive LendWs(h:List ABlk):List AV->List AV->Prop
 |nil:LendWs h [] []
 |cons {x x':AV} {l l':List AV} (hx:M2 h x x') (hl:LendWs h l l'):LendWs h (x::l) (x'::l')
theorem LendWs.rel{w:eV}{S:Nat->Prop}{ψ:Nat->eQ}(H:kJ C h S ψ w){l:List AV}(X:LendWs h l l'):∀{vs:List eQ},Ae w S h ψ l vs->Ae w (λk=>k < w.heap.size) [] ψ0 l' vs:=by
 induction X with
 |nil=>intro vs E;unfold Ae at E⊢;exact E
 |cons hx _ O=>
  intro vs E;unfold Ae at E⊢;obtain⟨v,I,e,h1,h2⟩:=E;exact⟨v,I,e,hx C S ψ w v H h1,O h2⟩
theorem M2.of{x E:AV}(O:LendV h x E):M2 h x E:=λ_ _ _ _ _ H I=>LendV.rel H O I
theorem M2.cl{x:AV}(hx:kB x=aZ):M2 h x x:=.of (.cl hx)
theorem M2.own{d:List α}(hi:h[i]? =lW (.row ver e T d)):M2 h (.own i ver) (.bs T d):=.of (.own hi)
theorem M2.fn{l:List AV}(O:LendWs h l l'):M2 h (.fn f l) (.fn f l'):=λC S ψ w v H I=>by
 unfold kD at I⊢;obtain⟨cs,e,E⟩:=I;exact⟨cs,e,O.rel H E⟩
theorem CJ{args:Array cY}
 (O:o.op= .call {callee:=.value (.func f),args:=args,argTypes:=tys})(Z:Fn P f xs (.lit u))(hx:LendWs h (args.toList.map (evA t)) xs):AT P C t h o (.lit u):=by
 intro S ψ w ρ H E;have h1:ρ (.func f)= .func (.func f) #[] #[]:=by
  have:=E (.func f) (by rw[O];exact aI.2 (.inl (by simp)));simpa[evA,kD]using this
 rw[Cv O Z.1 ρ w h1];refine⟨rfl,?_⟩;have h2:Ae w S h ψ (args.toList.map (evA t)) (args.toList.map ρ):=Cd λx I=>E x (by rw[O];exact aI.2 (.inr (aK.1 I)))
 have h3:=Z.2 w _ (args.toList.map ρ) (λ_ h=>h) (hx.rel H h2);rw[show(args.map ρ)=(args.toList.map ρ).toArray from(by rw[<-aN])];refine h3.mono ?_;rintro e w' ⟨v,he,Y,S',k1,k2,k3,X⟩;refine⟨v,he,Y,S,λ_ h=>h,λ_ h=>.inl h,λk hk=>lD (H.lt k hk) Y.size,?_⟩;unfold kD at X⊢;exact X
theorem Vw{args:Array cY}
 (E:o.op= .call {callee:=.value (.func f),args:=args,argTypes:=tys})(H:Fn P f xs (.lit u))(hx:LendWs h (args.toList.map (evA t)) xs):AT P C t h o (.lit u):=CJ E H hx
theorem VK{args:Array cY}
 (Z:o.op= .call {callee:=.value (.func f),args:=args,argTypes:=tys})(hF:JA P f xs e T l)(h0:0 < T.size)(O:∀w S S' cs d,T.RS w S cs d->T.RS w S' cs d)(hx:LendWs h (args.toList.map (evA t)) xs)
 (hK:K ⟨Bl t o.dst (.own h.length 0),h++[.row 0 e T l]⟩):AOp P C o ⟨t,h⟩ K:=by
 rintro Q' a w ⟨Y,S,ψ,H,hl⟩;refine⟨λc e=>(by rw[Z]at e;cases e),?_⟩;have h2:Ae w S h ψ (args.toList.map (evA t)) (args.toList.map a.eval):=Cd λx _=>Bv hl x
 unfold cW;rw[Cv Z hF.1 a.eval w V];simp only[cV];rw[show(args.map a.eval)=(args.toList.map a.eval).toArray from(by rw[<-aN])];refine(hF.2 w _ (args.toList.map a.eval) (λ_ h=>h) (hx.rel H h2)).mono ?_;rintro r w' ⟨v,cells,rfl,hb,E,hR⟩;have X:Ext w S h ψ w' S (h++[.row 0 e T l]) (Bo ψ h.length v):=kG _ _ λk hk=>hb.block k (H.lt k hk)
 have hB:Hv C.N w' S (h++[.row 0 e T l]) (Bo ψ h.length v) v (.row 0 e T l):=
  ⟨cells,E.mono (lM _),h0,λi d Y=>O _ _ _ _ _ (hR i d Y),λg hg=>by
   have aa:=E.lt g hg;exact⟨λhN=>by have:=H.nlt _ hN;have:=H.bel.size;omega,λhS=>by have:=H.lt _ hS;omega⟩⟩
 refine⟨_,hK,Ow (s:=⟨t,h⟩) Y hl (H.push hb hB (WH E)) X ?_⟩;unfold kD;refine⟨by simp,λc' I=>?_⟩;rw[iD (lB _)]at I;simp[j8]at I;exact⟨by omega,λ_=>Bj.symm⟩
theorem Dy{args:Array cY}(i:Nat)(hi:h.length=i)
 (H:o.op= .call {callee:=.value (.func f),args:=args,argTypes:=tys})(O:JA P f xs e T l)(h0:0 < T.size)(E:∀w S S' cs d,T.RS w S cs d->T.RS w S' cs d)(hx:LendWs h (args.toList.map (evA t)) xs)
 (I:K ⟨Bl t o.dst (.own i 0),h++[.row 0 e T l]⟩):AOp P C o ⟨t,h⟩ K:=by
 subst hi;exact VK H O h0 E hx I
end
end Mu
namespace Mu
open Go Go.RowKit Go.Proofs Go.Maps Go.Shelf
variable{S:Nat->Prop}{i:Nat}{l:List (Int×Int)}{m:Nat}{w:eV}
section
variable{α:Type}
def Aof(T:Ty α)(w:eV)(S:Nat->Prop)(vs:List (Int×eQ))(d:List (Int×α)):Prop:=
 (∀k,(getK vs k).isSome=(getK d k).isSome)/\∀k v x,getK vs k=lW v->getK d k=lW x->T.RS w S [v] x
def Ac5(T:Ty α):Ty (List (Int×α)) where
 size:=1
 bulk:=λl=>DU (λp=>T.bulk p.2) l+1
 RS:=λw S cs d=>okK d/\((cs= [.map lV]/\d= [])\/∃b vs,cs= [.map (lW b)]/\S b/\M1 w b vs/\Aof T w S vs d)
 len:=by rintro _ _ _ _ ⟨_,⟨rfl,_⟩|⟨_,_,rfl,_⟩⟩ <;> rfl
 keepS:=by
  rintro w w' S S' cs d ⟨h0,⟨rfl,X⟩|⟨b,vs,rfl,I,O,hk⟩⟩ H E
  ·exact⟨h0,.inl ⟨rfl,X⟩⟩
  ·exact⟨h0,.inr ⟨b,vs,rfl,E b I,O.keep (H b I),hk.1,λk v x h1 h2=>T.keepS (hk.2 k v x h1 h2) H E⟩⟩
def Az8:Ty Int where
 size:=1
 bulk:=λ_=>1
 RS:=λ_ _ cs d=>cs= [.int .i64 d]
 len:=by rintro _ _ _ _ rfl;rfl
 keepS:=λh _ _=>h
abbrev tMapI:Ty (List (Int×Int)):=Ac5 Az8
abbrev Kw:Ty (List (Int×List Int)):=Ac5 tInt.slice
theorem Ai8(T:Ty α)(w:eV)(S:Nat->Prop):(Ac5 T).RS w S [.map lV] []:=⟨okK.nil,.inl ⟨rfl,rfl⟩⟩
theorem S7{T:Ty α}{v:eQ}{d:List (Int×α)}{ty e:eP}{z:eQ}{k:Int}(h:(Ac5 T).RS w S [v] d)(E:dI.underlying ty=lW (.map 3 e))(O:(gF e).run dI w= .ok z w)(hk:Ch k)(c:Bool):
 ∃u,(bT ty v (.int .i64 k) c).run dI w= .ok (if c then .tuple #[u,.bool (getK d k).isSome]else u) w/\((getK d k=lV/\u=z)\/∃x,getK d k=lW x/\T.RS w S [u] x):=by
 obtain⟨h0,⟨X,rfl⟩|⟨b,vs,X,Z,Y,h1,h2⟩⟩:=h
 ·cases X;exact⟨z,look_nil c Qj E O (keyOf_int_mk dT hk),.inl ⟨rfl,rfl⟩⟩
 ·cases X;refine⟨(getK vs k).getD z,?_,?_⟩
  ·cases c
   ·exact Y.look E O hk
   ·rw[<-h1 k];exact Y.look_ok E O hk
  ·have H:=h1 k;cases hg:getK vs k with
   |none=>
    rw[hg]at H;cases I:getK d k with
    |none=>exact .inl ⟨rfl,rfl⟩
    |some x=>rw[I]at H;cases H
   |some u=>
    rw[hg]at H;cases I:getK d k with
    |none=>rw[I]at H;cases H
    |some x=>exact .inr ⟨x,rfl,h2 k u x hg I⟩
end
section
variable{C:Ctx}{t:List AV}{h:List jZ}{o:cT}{K:St->Prop}{ty e:eP}{x y:cY}{k:Int}
theorem PU{α:Type}{T:Ty α}{d:List (Int×α)}(f:α->AV)(Y:AV)(zv:eQ)(X:o.op= .lookup ty x y aS)(O:dI.underlying ty=lW (.map 3 e))(Z:∀w,(gF e).run dI w= .ok zv w)(hx:evA t x= .tv (Ac5 T) d)(hy:evA t y= .lit (.int .i64 k))(hk:wfB .i64 k=aZ)
 (hf:∀w S h ψ v a,T.RS w S [v] a->kD w S h ψ (f a) v)(h0:∀w S h ψ,kD w S h ψ Y zv):AT dI C t h o (((getK d k).map f).getD Y):=
 AL λS ψ w ρ H E=>by
  have h1:=E x (by simp[X,cR]);have h2:=E y (by simp[X,cR]);rw[hx]at h1;rw[hy]at h2;unfold kD at h1 h2;obtain⟨u,I,hu⟩:=S7 h1 O (Z w) hk aS;refine⟨u,by simp[fI,X,h2,I,eH],?_⟩;rcases hu with⟨hg,rfl⟩|⟨a,hg,hr⟩
  ·rw[hg];exact h0 w S h ψ
  ·rw[hg];exact hf w S h ψ u a hr
theorem SF{α:Type}{T:Ty α}{d:List (Int×α)}(f:α->AV)(O:AV)(zv:eQ)(Z:o.op= .lookup ty x y aZ)(X:dI.underlying ty=lW (.map 3 e))(hz:∀w,(gF e).run dI w= .ok zv w)(hx:evA t x= .tv (Ac5 T) d)(hy:evA t y= .lit (.int .i64 k))(hk:wfB .i64 k=aZ)
 (hf:∀w S h ψ v a,T.RS w S [v] a->kD w S h ψ (f a) v)(h0:∀w S h ψ,kD w S h ψ O zv):AT dI C t h o (.tup [((getK d k).map f).getD O,.lit (.bool (getK d k).isSome)]):=
 AL λS ψ w ρ H E=>by
  have h1:=E x (by simp[Z,cR]);have h2:=E y (by simp[Z,cR]);rw[hx]at h1;rw[hy]at h2;unfold kD at h1 h2;obtain⟨u,I,hu⟩:=S7 h1 X (hz w) hk aZ;refine⟨.tuple #[u,.bool (getK d k).isSome],by simp[fI,Z,h2,I,eH],?_⟩;have Y:kD w S h ψ (((getK d k).map f).getD O) u:=by
   rcases hu with⟨hg,rfl⟩|⟨a,hg,Y⟩
   ·rw[hg];exact h0 w S h ψ
   ·rw[hg];exact hf w S h ψ u a Y
  simp only[kD,Ae];exact⟨[_,_],rfl,_,_,rfl,Y,_,_,rfl,rfl,rfl⟩
theorem Ol(w:eV):(gF 27).run dI w= .ok (.slice lV 0 0) w:=by kernel_rfl
theorem Vr{d:List (Int×Int)}(O:o.op= .lookup ty x y aS)(E:dI.underlying ty=lW (.map 3 3))(hx:evA t x= .tv tMapI d)(H:evA t y= .lit (.int .i64 k))(hk:wfB .i64 k=aZ):AT dI C t h o (.lit (.int .i64 ((getK d k).getD 0))):=by
 have h1:=PU (C:=C) (h:=h) (λa=>.lit (.int .i64 a)) (.lit (.int .i64 0)) _ O E DY hx H hk (λw S h ψ v a I=>by unfold kD;exact iR I) λw S h ψ=>by unfold kD;rfl
 cases hg:getK d k with
 |none=>rw[hg]at h1;exact h1
 |some v=>rw[hg]at h1;exact h1
theorem Kn{d:List (Int×Int)}(O:o.op= .lookup ty x y aZ)(E:dI.underlying ty=lW (.map 3 3))(hx:evA t x= .tv tMapI d)(H:evA t y= .lit (.int .i64 k))(hk:wfB .i64 k=aZ):AT dI C t h o (.tup [.lit (.int .i64 ((getK d k).getD 0)),.lit (.bool (getK d k).isSome)]):=by
 have h1:=SF (C:=C) (h:=h) (λa=>.lit (.int .i64 a)) (.lit (.int .i64 0)) _ O E DY hx H hk (λw S h ψ v a I=>by unfold kD;exact iR I) λw S h ψ=>by unfold kD;rfl
 cases hg:getK d k with
 |none=>rw[hg]at h1;exact h1
 |some v=>rw[hg]at h1;exact h1
theorem Cn{d:List (Int×List Int)}(O:o.op= .lookup ty x y aS)(E:dI.underlying ty=lW (.map 3 27))(hx:evA t x= .tv Kw d)(H:evA t y= .lit (.int .i64 k))(hk:wfB .i64 k=aZ):AT dI C t h o (.bs tInt ((getK d k).getD [])):=by
 have h1:=PU (C:=C) (h:=h) (λa=>.bs tInt a) (.bs tInt []) _ O E Ol hx H hk (λw S h ψ v a I=>by unfold kD;exact I) λw S h ψ=>by unfold kD;exact Ty.slice_nilS _ _ _
 cases hg:getK d k with
 |none=>rw[hg]at h1;exact h1
 |some v=>rw[hg]at h1;exact h1
theorem Q4(E:M1 w m (mapK (eS .i64) l))(I:S m):tMapI.RS w S [.map (lW m)] l:=by
 have hg:=E.1;refine⟨⟨(jN (f:=λp:Int×Int=>(p.1,eS .i64 p.2)) (R:=λp q=>p.1 < q.1)).1 hg.1,λp H=>hg.2 (p.1,.int .i64 p.2) (jC.2 ⟨p,H,rfl⟩)⟩,.inr ⟨m,_,rfl,I,E,λk=>by rw[CB,lS],λk v x h1 h2=>?_⟩⟩;rw[CB,h2]at h1;cases h1;exact V
theorem M2.map(hi:h[i]? =lW (.res (EG (eS .i64) l m))):M2 h (.lit (.map (lW m))) (.tv tMapI l):=λC S ψ w v H E=>by
 unfold kD at E⊢;subst E;have I:=H.blk i _ hi;exact Q4 I.2 (I.1 m V).2.2
theorem NC:M2 h (.lit (.map lV)) (.tv tMapI []):=λC S ψ w v H E=>by
 unfold kD at E⊢;subst E;exact Ai8 _ _ _
theorem Ru{cells:List AV}{x:AV}{α:Type}{T:Ty α}{d:α}(hi:h[i]? =lW (.box cells))(hx:cells[0]? =lW x)(hl:M2 h x (.tv T d)):M2 h (.ptr i 0) (.bp T d 0):=λC S ψ w v H hr=>by
 unfold kD at hr⊢;obtain⟨g,hg,hv⟩:=hr.2 (by rw[hi];rfl);obtain⟨g',cs,e',O,_,_,hw,aa⟩:=H.blk _ _ hi;rw[hg]at O;cases O;obtain⟨u,Y,X⟩:=BY aa hx;have Z:g < w.heap.size:=(aD.1 hw).1;have I:=hl C S ψ w u H X;unfold kD at I;refine⟨g,0,hv,Z,[u],I,λj' u' E=>?_⟩;cases j' with
 |zero=>
  simp only[iF,lY]at E;subst E;unfold eW;simp[hw,Y]
 |succ j'=>simp at E
theorem M2.tv{α:Type}{T:Ty α}{d:α}:M2 h (.tv T d) (.tv T d):=.cl V
end
end Mu
namespace Mu
open Go Go.RowKit
section
variable{P:cZ}{C:Ctx}{ops:Array cT}{md:Region.Mode}{h:List jZ}
theorem RA{i:Nat}{t:List AV}{a:Act}{w:eV}{K:List AV->Prop}{K':Act->eV->Prop}{Q':bL->Act->eV->Prop}(Y:¬cC Q')(H:kU C ⟨t,h⟩ a w)(Z:∀t a w,K t->kU C ⟨t,h⟩ a w->K' a w)
 (hh:aOp P C ops h i K t):gE (fnc C.rd) 4 P ops Q' i K' a w:=by
 unfold aOp at hh;unfold gE;split
 ·rename_i X;simp only[X]at hh;exact Z _ _ _ hh H
 ·rename_i o X;simp only[X]at hh;obtain⟨r,hy,hk⟩:=hh;obtain⟨hd,S,ψ,E,I⟩:=id H;rcases hy with⟨hg,hq⟩|⟨hg,rfl⟩
  ·have O:=DR hg I;rw[O,if_pos V];exact Si (Lu (hq S ψ w a.eval E λx _=>Bv I x)) Y (Lc (s:=⟨t,h⟩) hd E I (hq S ψ w a.eval E λx _=>Bv I x) λa' w' h=>Z _ _ _ hk h)
  ·have O:=DR hg I;rw[O,if_neg (by simp)];exact⟨λ_ _=>UB _ _,Z _ _ _ hk (FQ H o.dst)⟩
theorem M6{n g:Nat}{L:Array Bool->List AV->Prop}{Q':bL->Act->eV->Prop}(E:¬cC Q')(I:∀listed t a w,L listed t->kU C ⟨t,h⟩ a w->wpAnyIn (fnc C.rd) 4 P md ops Q' g listed a w):
 ∀(f:Nat) (listed:Array Bool) (t:List AV) (a:Act) (w:eV),Ai0 P C md ops h n L f listed t->kU C ⟨t,h⟩ a w->wpAnyIn (fnc C.rd) 4 P md ops Q' (f+g) listed a w
 |0,listed,t,a,w,hh,H=>by rw[lL];exact I _ _ _ _ hh H
 |f+1,listed,t,a,w,hh,H=>by
  rw[show f+1+g=(f+g)+1 by omega];exact⟨λh0=>absurd h0 hh.1,λi hi=>RA E H (λt' a' w' h' O=>M6 E I f _ t' a' w' h' O) (hh.2 i hi).2⟩
theorem Kf{F:Fence}{m:Nat}{Q':bL->Act->eV->Prop}:∀(l:List cT) (k:Nat) (listed:Array Bool) (a:Act) (w:eV),(∀j,l[j]? =ops[k+j]?)->
 eF md ops l.length k listed=aZ->gC F m P ops Q' l a w->wpAnyIn F m P md ops Q' l.length listed a w
 | [],_,_,_,_,_,E,h=>⟨by simpa[eF]using E,h⟩
 |o::l,k,listed,a,w,I,E,h=>by
  have h0:ops[k]? =lW o:=by simpa using(I 0).symm
  simp only[iT,eF,zaf]at E;refine⟨λh1=>(by rw[E.1]at h1;cases h1),λi hi=>?_⟩;rw[E.1]at hi;have H:i=k:=by simpa using hi
  subst H;have O:gE F m P ops Q' i (gC F m P ops Q' l) a w:=by unfold gE;simp only[h0];exact h
  exact wpOpIn_mono (λa' w' h'=>Kf l (i+1) _ a' w' (λj=>by have:=I (j+1);simpa[Nat.add_assoc,kW 1 j]using this) E.2 h') O
theorem Mh{id:Nat}{l:List cT}{Q:bL->St->Prop}{s:St}(n:Nat)(hm:P.follows .mixedOrders=aZ)(hB:Acd l.toArray n=aZ)
 (hh:aQ P C l.toArray s.h (λt=>Il P C l.toArray (Q .normal) (l.drop n) ⟨t,s.h⟩) (l.take n) s.t):Awp P C (.region id l.toArray aZ) Q s:=λa w H=>by
 simp only[Acd,aR,decide_eq_true_eq,aY,beq_iff_eq]at hB;obtain⟨⟨⟨⟨ah,ai⟩,hn⟩,hs⟩,Z⟩:=hB;have aj:n<=l.length:=by simpa using hn
 have I:(l.take n).length=n:=by simp;omega
 have ab:(l.drop n).length=l.toArray.size - n:=by simp
 have X:HeadInv .any l.toArray n (aL l.toArray.size aS):=
  ⟨by simp,λj oj _ hl=>(by rw[fJ]at hl;cases hl),λt _ ht=>getD_in (by simpa using ht) (fJ _ _)⟩
 have O:∀(listed:Array Bool) (i:Nat),HeadInv .any l.toArray n listed->i < n->listed.getD i aZ=aS->∀t,n<=t->t∉eE .any l.toArray listed:=by
  intro listed i ac hi ad t ht;rcases hs with hs|⟨hs,hc⟩
  ·intro hr;obtain⟨_,o,ho,_⟩:=fS.1 hr;have:=(aD.1 ho).1;omega
  ·by_cases ae:n < l.toArray.size
   ·exact tail_waits hs hc ae ac _ i V hi ad t ht
   ·intro hr;obtain⟨_,o,ho,_⟩:=fS.1 hr;have:=(aD.1 ho).1;omega
 have HH:=SD (md:=.any) (g:=l.toArray.size - n) O (l.take n) 0 _ s.t (λj hj=>by
  have ag:j < n:=by rw[I]at hj;exact hj
  simp[ag]) (by simpa using I) X (by rw[I];exact Z) hh
 have Y:¬cC (λe a' w'=>e=Exit.normal/\∃E,Q e E/\E.rel C a' w'):=λ⟨_,_,h⟩=>by cases h.1
 refine wpIn_mono (wpIn_region_any (Q:=λe a' w'=>e= .normal/\∃E,Q e E/\E.rel C a' w') hm ?_) λ_ _ _ h=>h.2
 have H':kU C ⟨s.t,s.h⟩ a {w with drawn:=w.drawn+1}:=by
  obtain⟨hd,S,ψ,aa,hl⟩:=H;have hb:Below w.heap.size w {w with drawn:=w.drawn+1}:=⟨rfl,rfl,rfl,lB _,λ_ _=>rfl⟩
  exact⟨hd,S,ψ,aa.grow hb (λ_ h=>h) (λ_ h=>.inl h) aa.lt,Az (show Ext w S s.h ψ {w with drawn:=w.drawn+1} S s.h ψ from kF s.h ψ (λk hk=>rfl) λ_ h=>h) _ _ hl⟩
 have:=M6 (Q':=λe a' w'=>e= .normal/\∃E,Q e E/\E.rel C a' w') Y (g:=l.toArray.size - n) (λlisted t a' w' hL H'=>by
  have:=Kf (md:=.any) (l.drop n) n listed a' w' (λj=>by simp[iG]) (by rw[ab];exact hL.1) (Dz V (Q':=λe a' w'=>e= .normal/\∃E,Q e E/\E.rel C a' w') Y (λs a w h H=>⟨rfl,s,h,H⟩) _ _ _ _ hL.2 H');rwa [ab]at this) _ _ _ _ _ HH H'
 rw[I,show n+(l.toArray.size - n)=l.toArray.size by omega]at this;exact this
end
end Mu
namespace Mu
open Go
variable{N:Int->Bool}{R:List Int}{S:Int->Bool}
def rdB(r:Int):List Ins->Bool
 | []=>aS
 |x::ds=>(readsC x).contains r||(!(Bd x&&x.d ==r)&&rdB r ds)
def Ais(r:Int):List Ins->Bool
 | []=>aZ
 |x::ds=>!(Bd x&&x.d ==r)&&Ais r ds
def inS(ds:List Ins)(S:Int->Bool):Int->Bool:=ds.foldr MY S
theorem YP(x:Ins)(S:Int->Bool)(r:Int):MY x S r=((readsC x).contains r||(!(Bd x&&x.d ==r)&&S r)):=by
 unfold MY addL Ag8;cases E:Bd x
 ·simp[aW]
 ·have e:(r ==x.d)=(x.d ==r):=by
   by_cases h:r=x.d
   ·subst h;simp
   ·rw[beq_eq_false_iff_ne.2 h,beq_eq_false_iff_ne.2 (lO h)]
  simp[bne,e,aW,Bool.and_comm]
theorem Uo(ds:List Ins)(S:Int->Bool)(r:Int):inS ds S r=(rdB r ds||(Ais r ds&&S r)):=by
 induction ds with
 |nil=>simp[inS,rdB,Ais]
 |cons x ds E=>
  have h:inS (x::ds) S r=MY x (inS ds S) r:=rfl;rw[h,YP,E,rdB,Ais];cases(readsC x).contains r <;> cases(Bd x&&x.d ==r) <;> simp
def Cl(f:kI)(b:Nat):List Ins:=match f.blocks[b]? with|some E=>E.ins|none=>[]
def Edge(f:kI)(k b:Nat):Prop:=∃x∈G6 f (k:Int),x.1=b
inductive LOut(f:Func):Nat->Int->Prop
 |read {k b:Nat} {r:Int} (he:Edge f k b) (h:rdB r (Cl f b)=true):LOut f k r
 |pass {k b:Nat} {r:Int} (he:Edge f k b) (h:Ais r (Cl f b)=true) (hl:LOut f b r):LOut f k r
theorem Abw{f:kI}{k b:Nat}{r:Int}(E:Edge f k b)(H:S r=aZ->LOut f b r)(h:inS (Cl f b) S r=aZ):LOut f k r:=by
 rw[Uo]at h;simp only[zay]at h;rcases h with h|⟨h1,h2⟩
 ·exact .read E h
 ·exact .pass E h1 (H h2)
def Sub(R:List Int)(S:Int->Bool):Prop:=∀x,S x=aZ->x∈R
theorem Sub.inR(h:Sub R S):InR R S:=⟨λx _ E=>h x E⟩
theorem Sub.back{x:Ins}(h:Sub R S)(hx:∀r∈readsC x,r∈R):Sub R (MY x S):=λr E=>by
 rw[YP]at E;simp only[gN,zay]at E;rcases E with E|⟨_,E⟩
 ·exact hx r E
 ·exact h r E
theorem Sub.inS{ds:List Ins}(h:Sub R S)(hx:∀x∈ds,∀r∈readsC x,r∈R):Sub R (Mu.inS ds S):=by
 induction ds with
 |nil=>exact h
 |cons x ds E=>exact(E λy H=>hx y (by simp[H])).back (hx x (by simp))
def uni(S N:Int->Bool):Int->Bool:=λx=>S x||N x
theorem Als:(R.filter S).length<=(R.filter (uni S N)).length:=by
 induction R with
 |nil=>simp
 |cons x l E=>
  have e:(uni S N) x=(S x||N x):=rfl;simp only[gZ,e];cases H:S x <;> cases I:N x <;> simp <;> omega
theorem Aa3(h:(R.filter (uni S N)).length<=(R.filter S).length):∀x∈R,N x=aZ->S x=aZ:=by
 induction R with
 |nil=>simp
 |cons y l O=>
  have hc:(l.filter S).length<=(l.filter (uni S N)).length:=Als;have e:(uni S N) y=(S y||N y):=rfl;simp only[gZ,e]at h;intro x hx E;cases H:S y
  ·cases I:N y
   ·simp only[H,I,Bool.or_false,aT,if_false]at h;rcases jA.1 hx with rfl|hx
    ·rw[I]at E;cases E
    ·exact O h x hx E
   ·simp only[H,I,Bool.or_true,aT,if_true,if_false,iT]at h;omega
  ·simp only[H,Bool.true_or,zaz]at h;rcases jA.1 hx with rfl|hx
   ·exact H
   ·exact O (by omega) x hx E
theorem XB(I:Sub R N)(h:(R.filter (uni S N)).length<=(R.filter S).length):uni S N=S:=by
 funext x;unfold uni;cases H:S x
 ·cases E:N x
  ·rfl
  ·have:=Aa3 h x (I x E) E;rw[H]at this;cases this
 ·rfl
open Go.RowKit Go.Proofs Go.Maps
variable{L:List Int}{S:Int->Bool}{Ss:List (Int->Bool)}{i k m:Nat}{ms:List Nat}{ty:eP}
def mapsR(ms:List Nat)(Ss:List (Int->Bool)):Res:=⟨[],λg=>g∈ms,λw _=>ms.length=Ss.length/\ms.Nodup/\∀(i m:Nat) (S:Int->Bool),ms[i]? =lW m->Ss[i]? =lW S->IH w m S,
 λh hk _ _=>⟨h.1,h.2.1,λi m S E H=>(h.2.2 i m S E H).keep (hk m (jE E))⟩⟩
theorem Ag2(w:eV):IH (w.alloc (.map #[] 0)) w.heap.size (λ_=>aS):=
 ⟨.map [],LC (eY w dI 3 (fT dI 3)),λx _=>by simp[cL]⟩
theorem Ja(E:ms[k]? =lW m)(H:Ss[k]? =lW S):∀w T,(mapsR ms Ss).R w T->IH w m S:=λ_ _ h=>h.2.2 k m S E H
section
variable{C:Ctx}{t:List AV}{h:List jZ}{o:cT}{K:St->Prop}
theorem P5(O:o.op= .makeMap ty lV)(Y:∀m,K ⟨Bl t o.dst (.lit (.map (lW m))),h++[.res (IF (λ_=>aS) m)]⟩):AOp dI C o ⟨t,h⟩ K:=by
 refine CX (ι:=Nat) (Rs:=IF λ_=>aS) (val:=λm=>.map (lW m)) (λ_=>rfl) (λS ψ w ρ H I=>?_) Y;have X:(fI ρ o).run dI w= .ok (.value (.map (lW w.heap.size))) (w.alloc (.map #[] 0)):=by simp[fI,O,run_makeMap]
 rw[X];have E:=(eK w.heap.size w).alloc (lB _) (.map #[] 0);refine⟨⟨E.os,E.tape,E.output,E.size,λk hk _=>E.block k hk⟩,w.heap.size,rfl,Ag2 w,λk hk=>?_⟩;have hk:k=w.heap.size:=hk;subst hk;exact⟨.inr (lB _),by simp⟩
theorem Abo{j:Nat}(I:i≠j)(hi:h[i]? =lW (.res (mapsR ms Ss)))(hj:h[j]? =lW (.res (IF S m))):
 kS C ⟨t,h⟩ ⟨t,(h.set j .dead).set i (.res (mapsR (ms++[m]) (Ss++[S])))⟩:=
 KQ I hi hj V V V (λg hg=>by
  have hg:g∈ms++[m]:=hg;rcases i9.1 hg with h1|h1
  ·exact .inl h1
  ·exact .inr (show g=m by simpa using h1)) λw T h1 h2 hd=>by
   obtain⟨X,k2,Z⟩:=h1;refine⟨by simp[X],?_,λi Y S' E H=>?_⟩
   ·rw[jJ];refine⟨k2,by simp,λa ha b O e=>?_⟩;have O:b=m:=by simpa using O
    subst O;subst e;exact hd a ha V
   ·by_cases hi:i < ms.length
    ·rw[iC hi]at E;rw[iC (by omega)]at H;exact Z i Y S' E H
    ·rw[iD (by omega)]at E H;have e0:i - ms.length=0:=by
      have:=(iJ.1 E).1;simp at this;omega
     rw[e0]at E;rw[<-X,e0]at H;cases E;cases H;exact h2
theorem Hs{x:cY}{R:Res}(ho:o.op= .call {callee:=.builtin .len,args:=#[x],argTypes:=#[ty]})(O:dI.underlying ty=lW (.map 3 3))(hx:evA t x= .lit (.map (lW m)))(hi:h[i]? =lW (.res R))(Z:∀w T,R.R w T->IH w m S)
 (hR:RegsR L)(Y:InR L S):AT dI C t h o (.lit (.int .i64 (((L.filter S).length:Nat):Int))):=
 AL λT ψ w ρ H I=>by
  have h1:=I x (by simp[ho,cR,bD]);rw[hx]at h1;unfold kD at h1;obtain⟨D,E,hS⟩:=Z w T (H.blk i _ hi).2;have X:=(GV E hS hR Y).1;have hl:=E.len (e:=3) O o.type;rw[X]at hl;refine⟨_,by simp[fI,ho,fU,fQ,builtin,h1,hl];rfl,?_⟩;unfold kD;rfl
end
theorem Aa6(E:ms[k]? =lW m)(H:Ss[k]? =lW S):
 Aie dI 150 (mapsR ms Ss) [.lit (.map (lW m))] (IF S) (λp=>.map (lW p)):=Ahk _ S m (Ja E H)
theorem Aa4{mn:Nat}{N:Int->Bool}(Z:ms[k]? =lW m)(hS:Ss[k]? =lW S)(hR:RegsR L)(hi:InR L S)(hj:InR L N):
 Aid dI 155 (mapsR ms Ss) (IF N mn) [.lit (.map (lW m)),.lit (.map (lW mn))] (λ_:Unit=>mapsR ms (Ss.set k (uni S N))) (λ_=>.tuple #[]):=by
 refine⟨by kernel_rfl,λw T vs hT hF Y aa hd hr=>?_⟩;obtain⟨us,rfl,h1⟩:=Ek hr;obtain⟨us,rfl,h2⟩:=Ek h1;unfold Ae at h2;subst h2;have I:=jE Z;have ac:k < ms.length:=(iJ.1 Z).1;refine(Alt w (Ja Z hS w T Y) aa (λe=>hd m I e) hR hi hj).mono ?_;rintro e w' ⟨rfl,h1,h2,X⟩;refine⟨_,rfl,⟨X.os,X.tape,X.output,X.size,λq hq hn=>X.block q hq λe=>hn (by cases e;exact I)⟩,(),rfl,⟨by simp[Y.1],Y.2.1,λi m' S' E H=>?_⟩,λq hq=>?_⟩
 ·by_cases O:i=k
  ·subst O;rw[Z]at E;cases E;rw[iO (by rw[<-Y.1];exact ac)]at H;cases H;exact h1
  ·rw[iN (lO O)]at H;have ab:m'≠m:=λe=>O (by
    subst e;exact(List.getElem?_inj (iJ.1 E).1 Y.2.1).1 (E.trans Z.symm))
   have hk:=Y.2.2 i m' S' E H;exact hk.keep (X.block m' hk.lt λe=>ab (by cases e;rfl))
 ·have:=hF q hq;exact⟨.inl hq,lD this X.size⟩
end Mu
namespace Mu
open Go Go.RowKit Go.Proofs
variable{b:jZ}{α:Type}
class FB(h:List ABlk)(g:Nat)(i:outParam Nat)(cells:outParam (List AV)):Prop where
 e:h[i]? =some (.res (Be g cells))
instance Aup{b:jZ}{h:List jZ}{g i:Nat}{cells:List AV}[FB h g i cells]:FB (b::h) g (i+1) cells:=⟨by rw[iE];exact FB.e⟩
instance Auo{h:List jZ}{g:Nat}{cells:List AV}:FB (.res (Be g cells)::h) g 0 cells:=⟨rfl⟩
class CA(x:AV):Prop where
 e:AV.cl x=true
instance Aun{v:eQ}:CA (.lit v):=⟨rfl⟩
instance Aum{α:Type}{T:Ty α}{l:List α}:CA (.bs T l):=⟨rfl⟩
instance Aul{h:List jZ}{m:Option Nat}:OneI h (.lit (.map m)):=⟨One.lit V⟩
section
variable{P:cZ}{C:Ctx}{t t':List AV}{h h':List jZ}{g:Bool}
instance Auk{ty:eP}{x:cY}{n i b off:Nat}{cells:List AV}{r:AV}[AG P ty aS n][GA t x (.lit (.pointer (lW ⟨b,off,lV⟩)))][FB h b i cells][LD cells off r][CA r]:QI P C t h (.load ty x) r:=⟨λ_ _ _ _=>AY V GA.e (FB.e (i:=i)) (by rw[<-LD.e (l:=cells) (k:=off) (x:=r),iG,kY]) CA.e⟩
instance Auj{st:eP}{x:cY}{j n b off m:Nat}[FO P st j n][GA t x (.lit (.pointer (lW ⟨b,off,lV⟩)))][AD off n m]:QI P C t h (.fieldAddr st x j) (.lit (.pointer (lW ⟨b,m,lV⟩))):=⟨λ_ _ _ _=>by rw[<-AD.e (a:=off) (b:=n) (c:=m)];exact Du V GA.e⟩
instance Aui{ty:eP}{x:cY}{n i b off:Nat}{cells:List AV}{r:AV}[AG P ty aS n][GX g t x (.lit (.pointer (lW ⟨b,off,lV⟩)))][FB h b i cells][LD cells off r][CA r]:QG P C t h (.load ty x) g r:=⟨λ_ _ _ _ _ hg=>AY V (GX.e hg) (FB.e (i:=i)) (by rw[<-LD.e (l:=cells) (k:=off) (x:=r),iG,kY]) CA.e⟩
instance Auh{st:eP}{x:cY}{j n b off m:Nat}[FO P st j n][GX g t x (.lit (.pointer (lW ⟨b,off,lV⟩)))][AD off n m]:QG P C t h (.fieldAddr st x j) g (.lit (.pointer (lW ⟨b,m,lV⟩))):=⟨λ_ _ _ _ _ hg=>by rw[<-AD.e (a:=off) (b:=n) (c:=m)];exact Du V (GX.e hg)⟩
variable{ops:Array cT}{rest l l1 l2:List cT}{d:Option Nat}{ty:eP}{ps:String}{af:Array bJ}{K:St->Prop}{y:bG}{Q:bL->St->Prop}{id j:Nat}{o:cT}{s:St}
theorem AAb{st:eP}{x z:cY}{ik:bV}{m:Int}{n:Nat}[Inhabited α]{T:Ty α}{l:List α}(hg:gA ops t ⟨d,.indexAddr st x z,ty,ps,af,lW (j,aS)⟩=lW (g ==aS))(E:(!!g||Cm l m)=aZ)[GX (!g) t x (.bs T l)][GX (!g) t z (.lit (.int ik m))][ES P st n][PA t d (cond (!g) (.bp T (ixD l m) 0) (.lit undef)) t'](hk:CU P C ops K rest ⟨t',h⟩)(H:T.size=n:=by exact V):CU P C ops K (⟨d,.indexAddr st x z,ty,ps,af,lW (j,aS)⟩::rest) ⟨t,h⟩:=sG (hg:=Ak8 hg) (hq:=λhg=>Fe V (GX.e hg) (GX.e hg) H (Uq E hg)) (ht:=PA.e) (hk:=hk)
theorem yS(hx:CU P C ops (λs=>Il P C ops K rest s) [o] s):Il P C ops K (o::rest) s:=by
 obtain⟨b,h1,h2,E⟩:=hx;exact⟨b,h1,λe=>Ayh.op (h2 e),E⟩
theorem Ay6:∀{l1:List cT} {s:St},CU P C ops (λs=>Il P C ops K l2 s) l1 s->Il P C ops K (l1++l2) s
 | [],_,h=>h
 |_::_,_,⟨b,h1,h2,E⟩=>⟨b,h1,λe=>Ayh.op ((h2 e).weak λ_ h=>Ay6 h),λe=>Ay6 (E e)⟩
theorem wY(n:Nat)(hx:∀K:St->Prop,(∀E,Awp P C y Q E->K E)->CU P C l.toArray (λs=>Il P C l.toArray K l2 s) l1 s)
 (h1:l.take n=l1:=by(simp only[List.take_succ_cons,List.take_zero];exact V))(h2:l.drop n=l2:=by(simp only[List.drop_succ_cons,List.drop_zero];exact V)):Awp P C (.seq (.region id l.toArray aS) y) Q s:=by
 subst h1 h2;refine Ab λ_ H=>P1 ?_
 have:=Ay6 (hx _ H);rwa [jT]at this
end
theorem Atx{l:List α}{j:Nat}{v:α}(E:l[j]? =lW v):l.set j v=l:=by
 refine gX λq=>?_
 rw[List.getElem?_set];split
 ·rename_i hq;subst hq;rw[if_pos (iJ.1 E).1,E]
 ·rfl
theorem Hp{C:Ctx}{t:List AV}{h:List jZ}(i j:Nat){x y:AV}(hi:h[i]? =lW b)(hm:b.mrk= [])(hv:j5 (lW b)=aZ)(hj:t[j]? =lW x)
 (hn:∀S ψ w,kJ C h S ψ w->∀k,ftp (lW b) (ψ i) k->C.w0.heap.size<=k)
 (hx:∀S ψ w v,kJ C h S ψ w->kD w S h ψ x v->kD w (λk=>S k\/ftp (lW b) (ψ i) k) (h.set i .dead) ψ y v):kS C ⟨t,h⟩ ⟨t.set j y,h.set i .dead⟩:=λa w ⟨hd,S,ψ,H,hl⟩=>by
 have ad:=(iJ.1 hi).1;obtain⟨B,Y⟩:∃B:Nat->Prop,B=ftp (lW b) (ψ i):=⟨_,rfl⟩
 have hB:∀k,B k->¬C.N k/\k < w.heap.size/\¬S k:=by rw[Y];exact(H.blk i _ hi).lt hv
 have hS:∀k,S k->(S k\/B k):=λk hk=>.inl hk
 have X1:Ext w S h ψ w S (h.set i .dead) (Bo ψ i (ψ i)):=kH (λ_ _=>rfl) hi (λc' hc=>by simp[j8]at hc) λh=>by simp[AZ]at h
 rw[NR]at X1;have X2:Ext w S (h.set i .dead) ψ w (λk=>S k\/B k) (h.set i .dead) ψ:=kF _ _ (λ_ _=>rfl) hS;have ag:=Az X2 _ _ (Az X1 _ _ hl);have O:∀j,j5 (h.set i .dead)[j]? =aZ->j≠i/\(h.set i .dead)[j]? =h[j]?:=λj hj=>by
  by_cases e:j=i
  ·subst e;rw[iO ad]at hj;simp[j5]at hj
  ·exact⟨e,iN (lO e)⟩
 refine⟨hd.trans (DO (b':=.dead) hi (by rw[show j6 .dead= []from V,hm])).symm,λk=>S k\/B k,ψ,⟨H.bel,H.nlt,λk hk=>?_,λk hk=>.inl (H.sub k hk),λk hk=>?_,λj c I=>?_,λj k ah hj hk g h1 h2=>?_⟩,?_⟩
 ·rcases hk with hk|hk
  ·exact H.lt k hk
  ·exact(hB k hk).2.1
 ·rcases hk with hk|hk
  ·exact H.new k hk
  ·exact .inr (hn S ψ w H k (by rw[<-Y];exact hk))
 ·by_cases aa:j=i
  ·subst aa;rw[iO ad]at I;cases I;trivial
  ·rw[iN (lO aa)]at I;have ab:=H.blk j c I;have X:j5 (lW c)=aZ->∀q,ftp (lW c) (ψ j) q->¬B q:=λae q hq hF=>H.dis j i aa (by rw[I];exact ae) (by rw[hi];exact hv) q (by rw[I];exact hq) (by rw[hi,<-Y];exact hF)
   cases c with
   |dead=>trivial
   |box E=>
    obtain⟨g',ai,e',Z,k2,k3,k4,k5⟩:=ab;exact⟨g',ai,e',Z,k2,λhk=>hk.elim k3 (X V g' (by rw[Z];rfl)),k4,Az X2 _ _ (Az X1 _ _ k5)⟩
   |row v' e' T' l'=>
    obtain⟨E,Z,k2,k3,k4⟩:=ab;exact⟨E,Z,k2,λi d hd=>T'.keepS (k3 i d hd) (λ_ _=>rfl) hS,λq hq=>⟨(k4 q hq).1,λhk=>hk.elim (k4 q hq).2 (X V q (AU hq))⟩⟩
   |res R=>
    obtain⟨Z,k2⟩:=ab;exact⟨λq hq=>⟨(Z q hq).1,λhk=>hk.elim (Z q hq).2.1 (X V q hq),(Z q hq).2.2⟩,R.keep k2 (λ_ _=>rfl) (λ_ _=>rfl) hS⟩
 ·obtain⟨_,e1⟩:=O j hj;obtain⟨_,e2⟩:=O k hk;rw[e1]at hj h1;rw[e2]at hk h2;exact H.dis j k ah hj hk g h1 h2
 ·obtain⟨v,hv,hr⟩:=BY hl hj;have e:a.tmps.toList.set j v=a.tmps.toList:=Atx hv;have ac:=HV ag j (x:=y) (v:=v) (by rw[Y];exact hx S ψ w v H hr);rw[e]at ac;exact ac
theorem Ux{C:Ctx}(O:C.std){h:List jZ}{i:Nat}(hi:h[i]? =lW b)(I:j5 (lW b)=aZ)(S:Nat->Prop)(ψ:Nat->eQ)(w:eV)(H:kJ C h S ψ w)(k:Nat)(hk:ftp (lW b) (ψ i) k):C.w0.heap.size<=k:=lA λE=>((H.blk i _ hi).lt I k hk).1 (O k E)
end Mu
namespace Mu
open Go Go.RowKit
variable{Q:bL->St->Prop}{id:Nat}{l:List cT}{s:St}
section
variable{P:cZ}{C:Ctx}
theorem wRK{y:bG}(hx:∀K:St->Prop,(∀E,Awp P C y Q E->K E)->CU P C l.toArray K l s):Awp P C (.seq (.region id l.toArray aS) y) Q s:=Ab λ_ H=>kE (hx _ H)
theorem Azt(hx:∀K:St->Prop,(∀E,Q .normal E->K E)->CU P C l.toArray K l s):Awp P C (.region id l.toArray aS) Q s:=kE (hx _ λ_ h=>h)
end
open Go.Proofs
variable{O:Nat}{cv:List eQ}{e:eP}{i k:Nat}{ls:List (List Int)}{n:Nat}{ty:eP}{v:eQ}{vs:List eQ}{w:eV}{x y:cY}{z:Int}
theorem Gf.keepB{w':eV}{base:Nat}{l:List Int}(h:Gf w base v l)(hk:∀g,v.ownBlock=lW g->w'.heap[g]? =w.heap[g]?):Gf w' base v l:=by
 obtain⟨h1,h2⟩:=h;refine⟨h1,?_⟩;rcases h2 with h2|⟨g,cap,cur,E,hg,hh,r⟩
 ·exact .inl h2
 ·exact .inr ⟨g,cap,cur,E,hg,(hk g (by rw[E];rfl)).trans hh,r⟩
structure RowsH(e:TypeId)(O n:Nat)(cv vs:List Value)(ls:List (List Int))(w:World):Prop where
 blk:w.heap[O]? =some (.cells cv.toArray e (0,0))
 lc:cv.length=ls.length
 ln:ls.length=n
 lm:n<=maxLen
 lv:vs.length=ls.length
 row:∀(k:Nat) (v:Value) (l:List Int),vs[k]? =some v->ls[k]? =some l->Gf w 0 v l/\Bg l
 dis:∀(j k:Nat) (v v':Value) (g:Nat),j≠k->vs[j]? =some v->vs[k]? =some v'->v.ownBlock=some g->v'.ownBlock≠some g
 out:∀(k:Nat) (v:Value),vs[k]? =some v->v.ownBlock≠some O
theorem RowsH.cell(H:RowsH e O n cv vs ls w)(hk:cv[k]? =lW v):w.cell? ⟨O,k,lV⟩=lW v:=by
 simp[eW,H.blk,hk]
def Gh(e:eP)(O n:Nat)(cv vs:List eQ)(ls:List (List Int)):Res where
 mrk:=[]
 F:=λg=>g=O\/∃v∈vs,v.ownBlock=lW g
 R:=λw _=>RowsH e O n cv vs ls w
 keep:=λH hk _ _=>⟨(hk O (.inl V)).trans H.blk,H.lc,H.ln,H.lm,H.lv,λk v l h1 h2=>⟨(H.row k v l h1 h2).1.keepB λg hg=>hk g (.inr ⟨v,jE h1,hg⟩),(H.row k v l h1 h2).2⟩,H.dis,H.out⟩
theorem Sd{α:Type}{l:List α}{d:α}(h:k < l.length):l[k]? =lW (l.getD k d):=by rw[iB,iH h];rfl
section
variable{P:cZ}{C:Ctx}{o:cT}{t:List AV}{h:List jZ}{K:St->Prop}
def inZ(n:Nat)(z:Int):Bool:=a7 (0<=z)&&a7 (z.toNat < n)
theorem NA{ik:bV}{g c:Nat}[ES P ty 1](I:o.op= .indexAddr ty x y)(hx:evA t x= .lit (.slice (lW ⟨g,0,lV⟩) n c))(H:evA t y= .lit (.int ik z))(E:inZ n z=aZ):
 AT P C t h o (.lit (.pointer (lW ⟨g,z.toNat,lV⟩))):=by
 unfold inZ at E;simp only[zaf]at E;have e:z=(z.toNat:Int):=by omega
 have:=Vs (P:=P) (n:=1) (C:=C) (h:=h) (k:=z.toNat) I hx (by rw[H,<-e]) E.2;rwa [show 0+z.toNat * 1=z.toNat by omega]at this
theorem Xv{k k':bV}{bytes:Nat}(ho:o.op= .makeSlice ty x y)(hz:GB P ty=lW (e,.slice lV 0 0,bytes))
 (hx:evA t x= .lit (.int k z))(hy:evA t y= .lit (.int k' z))(hb:VN z bytes=aZ)
 (hK:∀O:Nat,K ⟨Bl t o.dst (.lit (.slice (lW ⟨O,0,lV⟩) z.toNat z.toNat)),h++[.res (Gh e O z.toNat (jP z.toNat (.slice lV 0 0)) (jP z.toNat (.slice lV 0 0)) (jP z.toNat []))]⟩):AOp P C o ⟨t,h⟩ K:=by
 refine CX (ι:=Nat) (Rs:=λO=>Gh e O z.toNat (jP z.toNat (.slice lV 0 0)) (jP z.toNat (.slice lV 0 0)) (jP z.toNat [])) (val:=λO=>.slice (lW ⟨O,0,lV⟩) z.toNat z.toNat) (λ_=>rfl) (λS ψ w ρ H ab=>?_) hK;unfold VN at hb;simp only[zaf]at hb;obtain⟨⟨h0,h1⟩,h2⟩:=hb;have aa:=ab x (by simp[ho,cR]);have Z:=ab y (by simp[ho,cR]);rw[hx]at aa;rw[hy]at Z;unfold kD at aa Z;unfold GB at hz;split at hz <;> try(cases hz;done)
 rename_i e' hu;obtain⟨i,hi,ad⟩:=lP.1 hz;obtain⟨z',ae,Y⟩:=lP.1 ad;split at Y <;> try(cases Y;done)
 rename_i h4;cases Y;have ac:z=((z.toNat:Nat):Int):=by omega
 have X:=run_make_row' (P:=P) ty e (.slice lV 0 0) i.bytes hu (by rw[hi];simp[ae,h4.1]) V k k' z.toNat h2 (by unfold fR at h1;omega) w;rw[<-ac,Pc]at X;have ag:(fI ρ o).run P w= .ok (.value (.slice (lW ⟨w.heap.size,0,lV⟩) z.toNat z.toNat)) (w.alloc (.cells (jP z.toNat (eU lV 0 0)).toArray e)):=by
  simp[fI,ho,aa,Z,X]
 rw[ag];have E:∀(k:Nat) (v:eQ),(jP z.toNat (eU lV 0 0))[k]? =lW v->v= .slice lV 0 0:=λk v I=>(jF.1 (jE I)).2
 refine⟨⟨rfl,rfl,rfl,by simp,λk hk _=>fN w _ hk⟩,w.heap.size,rfl,⟨fM w _,by simp,by simp,h1,by simp,λk v l I hl=>?_,λj k v v' g _ I _ hg=>?_,λk v I=>?_⟩,λg hg=>?_⟩
 ·rw[E k v I,(jF.1 (jE hl)).2];exact⟨Gf.nil _ _,λx hx=>by cases hx⟩
 ·rw[E j v I]at hg;cases hg
 ·rw[E k v I];exact λe=>by cases e
 ·rcases hg with hg|⟨v,I,hg⟩
  ·subst hg;exact⟨.inr (lB _),by simp⟩
  ·rw[(jF.1 I).2]at hg;cases hg
theorem SJ[AG P ty aS 1](I:o.op= .load ty x)(hx:evA t x= .lit (.pointer (lW ⟨O,z.toNat,lV⟩)))(hi:h[i]? =lW (.res (Gh e O n cv vs ls)))(E:Cm ls z=aZ):AT P C t h o (.lit (cv.getD z.toNat undef)):=
 Nz I hx hi V λw S X=>by
  have H:RowsH e O n cv vs ls w:=X;have hk:=(BL.1 E).2;rw[<-H.lc]at hk;exact⟨cv.getD z.toNat undef,H.cell (Sd hk),by unfold kD;rfl⟩
theorem VL{bytes:Nat}{l2:List Int}(ho:o.op= .call {callee:=.builtin .append,args:=#[x,y],argTypes:=#[ty,ty]})(hT:NK P ty=lW (3,1,bytes))
 (hx:evA t x= .lit (vs.getD z.toNat undef))(hi:h[i]? =lW (.res (Gh e O n vs vs ls)))(hy:evA t y= .bs tInt l2)(hz:Cm ls z=aZ)(hb:Fj ((ixD ls z).length+l2.length) bytes=aZ)
 (hK:∀v':eQ,K ⟨Bl t o.dst (.lit v'),h.set i (.res (Gh e O n vs (vs.set z.toNat v') (ls.set z.toNat (ixD ls z++l2))))⟩):AOp P C o ⟨t,h⟩ K:=by
 refine j9 (ι:=eQ) (Rs:=λv'=>Gh e O n vs (vs.set z.toNat v') (ls.set z.toNat (ixD ls z++l2))) (val:=λv'=>v') hi (λ_=>rfl) (λS ψ w ρ H hR au al=>?_) hK;have Z:RowsH e O n vs vs ls w:=hR;have ai:=al x (by rw[ho];exact aI.2 (.inr (by simp)));have ab:=al y (by rw[ho];exact aI.2 (.inr (by simp)));rw[hx]at ai;rw[hy]at ab;unfold kD at ai ab;have am:=(BL.1 hz).2;have hk:z.toNat < vs.length:=by rw[Z.lv];exact am
 have hv:=Sd (d:=undef) hk;have hl:=BS hz;obtain⟨aq,bb⟩:=Z.row _ _ _ hv hl;obtain⟨h1,ti,zz,h2,h3,h4,h5,h6⟩:=C9 hT;obtain⟨A,c,an⟩:=Ci ab;rw[an]at ab;obtain⟨news,bc,ao,be,bf⟩:=IU ab λcs d bj=>JP _ _ _ _ bj
 have ad:news=l2.map (eS .i64)/\Bg l2:=by
  have av:news.length=l2.length:=by rw[bc];exact lI _
  have hg:∀j d,l2[j]? =lW d->news[j]? =lW (eS .i64 d)/\wfI .i64 d:=λj d hd=>by
   have:=be j d hd;rw[show tInt.size=1 from V,lI,jV,iQ]at this;have bg:j < news.length:=by rw[av];exact(iJ.1 hd).1
   rw[iH bg]at this⊢;obtain⟨h7,h8⟩:=DJ.1 this;exact⟨by simpa using h7,h8⟩
  refine⟨gX λj=>?_,λr hr=>?_⟩
  ·rw[iK];cases hd:l2[j]? with
   |none=>rw[iI (by rw[av];exact List.getElem?_eq_none_iff.1 hd)];rfl
   |some d=>exact(hg j d hd).1
  ·obtain⟨j,hj⟩:=iL hr;exact(hg j r hj).2
 have ae:=hb;unfold Fj at ae;simp only[zaf]at ae;obtain⟨v',w',ap,aj,aa,bk⟩:=Ll (P:=P) (ty:=o.type) (c:=c) (base:=0) h1 h2 h3 h4 h5 h6 (lN) aq (ao w λ_ _=>rfl) bf ae.1 ae.2 (lM _);have bi:(fI ρ o).run P w= .ok (.value v') w':=by
  unfold fI;simp only[ho,fU,fQ,builtin,i8,i6,i7,ai,an,ap,zam]
 rw[bi];have ac:Gf w' 0 v' (ixD ls z++l2):=Gf.of (n:=(ixD ls z).length+l2.length) aj (by simp) (by rw[List.map_append,ad.1]);have az:∀g,(vs.getD z.toNat undef).ownBlock=lW g->g=O\/∃v∈vs,v.ownBlock=lW g:=λg hg=>.inr ⟨_,jE hv,hg⟩
 have bl:O < w.heap.size:=au O (.inl V);have Y:∀g,v'.ownBlock=lW g->(vs.getD z.toNat undef).ownBlock=lW g\/g=w.heap.size:=λg hg=>by
  rcases bk with e1|e1
  ·exact .inl (e1▸hg)
  ·rw[e1]at hg;cases hg;exact .inr V
 have X:∀(k:Nat) (v:eQ),(vs.set z.toNat v')[k]? =lW v->(k=z.toNat/\v=v')\/(k≠z.toNat/\vs[k]? =lW v):=λk v E=>by
  by_cases e:k=z.toNat
  ·subst e;rw[iO hk]at E;exact .inl ⟨rfl,(lX E).symm⟩
  ·rw[iN (lO e)]at E;exact .inr ⟨e,E⟩
 refine⟨⟨aa.os,aa.tape,aa.output,aa.size,λk hk hn=>aa.block k hk λe=>hn (az k e.symm)⟩,v',rfl,⟨?_,?_,by rw[iY];exact Z.ln,Z.lm,?_,λk v l E ag=>?_,λj k v v2 g ax hj I hg=>?_,λk v E=>?_⟩,λg hg=>?_⟩
 ·exact(aa.block O bl λe=>Z.out _ _ hv e.symm).trans Z.blk
 ·rw[iY];exact Z.lc
 ·rw[iY,iY];exact Z.lv
 ·rcases X k v E with⟨rfl,rfl⟩|⟨ar,E⟩
  ·rw[iO am]at ag;cases ag;exact⟨ac,λr hr=>(i9.1 hr).elim (bb r) (ad.2 r)⟩
  ·rw[iN (lO ar)]at ag;obtain⟨h7,h8⟩:=Z.row k v l E ag;exact⟨h7.keepB λg hg=>aa.block g (h7.lt g hg).2 λe=>Z.dis k z.toNat v _ g ar E hv hg e.symm,h8⟩
 ·rcases X j v hj with⟨rfl,rfl⟩|⟨bh,ah⟩
  ·rcases X k v2 I with⟨rfl,_⟩|⟨aw,I⟩
   ·exact absurd V ax
   ·rcases Y g hg with e1|e1
    ·exact Z.dis _ _ _ _ g (lO aw) hv I e1
    ·intro e2;obtain⟨l',ak⟩:∃l',ls[k]? =lW l':=⟨_,iH (by rw[<-Z.lv];exact(iJ.1 I).1)⟩
     have:=((Z.row k v2 l' I ak).1.lt g e2).2;omega
  ·rcases X k v2 I with⟨rfl,rfl⟩|⟨aw,I⟩
   ·intro e2;rcases Y g e2 with e1|e1
    ·exact Z.dis _ _ _ _ g bh ah hv hg e1
    ·obtain⟨l',ak⟩:∃l',ls[j]? =lW l':=⟨_,iH (by rw[<-Z.lv];exact(iJ.1 ah).1)⟩
     have:=((Z.row j v l' ah ak).1.lt g hg).2;omega
   ·exact Z.dis j k v v2 g ax ah I hg
 ·rcases X k v E with⟨rfl,rfl⟩|⟨_,E⟩
  ·intro e2;rcases Y O e2 with e1|e1
   ·exact Z.out _ _ hv e1
   ·omega
  ·exact Z.out k v E
 ·have bm:w.heap.size<=w'.heap.size:=aa.size;rcases hg with hg|⟨v,ba,hg⟩
  ·subst hg;exact⟨.inl (.inl V),by omega⟩
  ·obtain⟨k,I⟩:=iL ba;rcases X k v I with⟨rfl,rfl⟩|⟨_,I⟩
   ·have ay:=(ac.lt g hg).2;rcases Y g hg with e1|e1
    ·exact⟨.inl (az g e1),ay⟩
    ·exact⟨.inr (by omega),ay⟩
   ·exact⟨.inl (.inr ⟨v,jE I,hg⟩),by have:=au g (.inr ⟨v,jE I,hg⟩);omega⟩
theorem Xu{I:List eQ}{v':eQ}[SZ P ty 1](ho:o.op= .store ty x y)(hx:evA t x= .lit (.pointer (lW ⟨O,z.toNat,lV⟩)))(hy:evA t y= .lit v')(hi:h[i]? =lW (.res (Gh e O n cv (I.set z.toNat v') ls)))(hz:Cm ls z=aZ)
 (hK:K ⟨Bl t o.dst (.lit undef),h.set i (.res (Gh e O n (cv.set z.toNat v') (I.set z.toNat v') ls))⟩):AOp P C o ⟨t,h⟩ K:=by
 refine j9 (ι:=Unit) (Rs:=λ_=>Gh e O n (cv.set z.toNat v') (I.set z.toNat v') ls) (val:=λ_=>undef) hi (λ_=>rfl) (λS ψ w ρ H hR aj Z=>?_) (λ_=>hK);have h1:=Z x (by simp[ho,cR]);have h2:=Z y (by simp[ho,cR]);rw[hx]at h1;rw[hy]at h2;unfold kD at h1 h2;have E:RowsH e O n cv (I.set z.toNat v') ls w:=hR;have aa:=(BL.1 hz).2;have hk:z.toNat < cv.length:=by rw[E.lc];exact aa
 have hv:(I.set z.toNat v')[z.toNat]? =lW v':=iO (by have:=E.lv;rw[iY]at this;omega);obtain⟨l,hl⟩:∃l,ls[z.toNat]? =lW l:=⟨_,iH aa⟩
 have ac:=(E.row _ _ _ hv hl).1;have ae:v'.cells= #[v']/\v'.oneCell'=aZ:=by
  rcases ac.2 with⟨rfl,_⟩|⟨g,cap,cur,rfl,_⟩
  ·exact⟨rfl,rfl⟩
  ·exact⟨rfl,rfl⟩
 have Y:w.cell? ⟨O,z.toNat,lV⟩=lW (cv.getD z.toNat undef):=E.cell (Sd hk);have am:w.frozen? ⟨O,z.toNat,lV⟩=aS:=by
  simp only[eX,E.blk];simp
 have ag:(P.info? ty).map (·.size)=lW 1:=SZ.eq (P:=P) (ty:=ty) (n:=1);obtain⟨an,al,ai⟩:=lT.1 ag;have ah:(store ⟨O,z.toNat,lV⟩ v' .plain).run P w= .ok () (w.setCell ⟨O,z.toNat,lV⟩ v'):=by
  rw[run_store P w _ _ _ ae.2,Y];simp[am]
 have ab:(fI ρ o).run P w= .ok .skip (w.setCell ⟨O,z.toNat,lV⟩ v'):=by
  simp[fI,ho,h1,h2,Instr.storeAt,bU,storeVar,fZ,gB,al,ai,storeCells,ae.1,Addr.add];rw[ah];rfl
 rw[ab];have X:∀k,k≠O->(w.setCell ⟨O,z.toNat,lV⟩ v').heap[k]? =w.heap[k]?:=λk hk=>by simp[fC,aE,lO hk]
 refine⟨⟨rfl,rfl,rfl,by simp[fC],λk hk hn=>X k λe=>hn (.inl e)⟩,(),rfl,⟨?_,by rw[iY];exact E.lc,E.ln,E.lm,E.lv,λk v l ad ak=>?_,E.dis,E.out⟩,λg hg=>?_⟩
 ·simp[fC,aE,E.blk]
 ·obtain⟨h7,h8⟩:=E.row k v l ad ak;exact⟨h7.keepB λg hg=>X g λe=>E.out k v ad (by rw[<-e];exact hg),h8⟩
 ·exact⟨.inl hg,by have:=aj g hg;simpa[fC]using this⟩
end
theorem Zs{S:Nat->Prop}(H:RowsH e O n vs vs ls w)(hO:S O)(hS:∀v∈vs,∀g,v.ownBlock=lW g->S g):tInt.slice.slice.RS w S [.slice (lW ⟨O,0,lV⟩) n n] ls:=by
 have hm:=H.lm;have Z:=H.ln;subst Z;refine⟨lW ⟨O,0,lV⟩,ls.length,rfl,lB _,⟨hm,λe=>by cases e⟩,λk l X=>⟨O,0,rfl,hO,?_⟩⟩;have hk:k < vs.length:=by rw[H.lv];exact(iJ.1 X).1
 have E:=Sd (d:=undef) hk;obtain⟨h1,h2⟩:=H.row k _ l E X;refine⟨[vs.getD k undef],C5 (T:=tInt) h1 (λj d Y=>?_) λg hg=>hS _ (jE E) g hg,λj u I=>?_⟩
 ·show tInt.RS w S (((l.map (eS .i64)).drop (j * 1)).take 1) d;have hi:(l.map (eS .i64))[j]? =lW (.int .i64 d):=by rw[iK,Y];rfl
  rw[lI,jV,iQ,hi];exact DJ.2 ⟨rfl,h2 d (jE Y)⟩
 ·cases j with
  |zero=>
   simp only[iF,lY]at I;subst I;have e:0+k * tInt.slice.size+0=k:=by show 0+k * 1+0=k;omega
   rw[e];exact H.cell E
  |succ j=>simp at I
theorem Xn{C:Ctx}(Y:C.std){t:List AV}{h:List jZ}(i j:Nat)(hi:h[i]? =lW (.res (Gh e O n vs vs ls)))(X:t[j]? =lW (.lit (.slice (lW ⟨O,0,lV⟩) n n))):kS C ⟨t,h⟩ ⟨t.set j (.bs tInt.slice ls),h.set i .dead⟩:=
 Hp i j hi V V X (Ux Y hi V) λS ψ w v H E=>by
  unfold kD at E⊢;subst E;exact Zs (H.blk i _ hi).2 (.inr (.inl V)) λv I g hg=>.inr (.inr ⟨v,I,hg⟩)
end Mu
namespace Mu
open Go
variable{b:Nat}{f:kI}{n:Nat}
def Aci{f:kI}(b:Nat)(ls:List (List Int))(x:Blk f):List (List Int):=ls.set x.1 (ls.getD x.1 []++[(b:Int)])
def KP{f:kI}(b:Nat)(E:List (Blk f))(ls:List (List Int)):List (List Int):=E.foldl (Aci b) ls
def GM(f:kI):Nat->List (List Int)
 |0=>jP f.blocks.length []
 |b+1=>KP b (G6 f b) (GM f b)
theorem Abl(b:Nat)(E:List (Blk f))(x:Blk f)(ls:List (List Int)):KP b (E++[x]) ls=Aci b (KP b E ls) x:=by simp[KP]
theorem Nx(b:Nat)(E:List (Blk f))(ls:List (List Int)):(KP b E ls).length=ls.length:=by
 induction E generalizing ls with
 |nil=>rfl
 |cons x l H=>
  show(KP b l (Aci b ls x)).length=_;rw[H];simp[Aci]
theorem F8(f:kI)(b:Nat):(GM f b).length=f.blocks.length:=by
 induction b with
 |zero=>simp[GM]
 |succ b E=>rw[GM,Nx,E]
theorem Are{ls:List (List Int)}{x:Blk f}(h:∀l∈ls,l.length<=n):∀l∈Aci b ls x,l.length<=n+1:=λl E=>by
 rcases List.mem_or_eq_of_mem_set E with E|rfl
 ·have:=h l E;omega
 ·rw[iS];have:(ls.getD x.1 []).length<=n:=by
   rw[iB];cases hx:ls[x.1]? with
   |none=>simp
   |some l=>exact h l (jE hx)
  simp;exact this
theorem SC{f:kI}{b:Nat}{n:Nat}:∀(E:List (Blk f)) {ls:List (List Int)} (_:∀l∈ls,l.length<=n),∀l∈KP b E ls,l.length<=n+E.length
 | [],ls,h=>by simpa[KP]using h
 |x::E,ls,h=>λl H=>by
  have:=SC (n:=n+1) E (Are (x:=x) (b:=b) h) l H;simp;omega
theorem Sv(f:kI)(b:Nat):∀l∈GM f b,l.length<=2 * b:=by
 induction b with
 |zero=>intro l E;obtain rfl:=List.eq_of_mem_replicate E;simp
 |succ b H=>
  intro l E;have:=SC (G6 f b) H l E;have:=LI f b;omega
open Go.RowKit
variable{ι:Type}{F:ι->(Nat->Bool)->St}{k:Nat}{ops:Array cT}
section
variable{P:cZ}{C:Ctx}
def gM(P:cZ)(C:Ctx){ι:Type}(F:ι->(Nat->Bool)->St)(ops:Array cT):Nat->List cT->Prop
 |_,[]=>True
 |k,o::rest=>(∀i b,b k=aS->Abk b o->Ahj ops b->AOp P C o (F i b) λs=>∃E,kS C s (F E (upd b k)))/\gM P C F ops (k+1) rest
theorem An2{ι:Type}{F:ι->(Nat->Bool)->St}{ops:Array cT}:∀{l:List cT} {k j:Nat} {o:cT},gM P C F ops k l->l[j]? =lW o->∀i b,b (k+j)=aS->Abk b o->Ahj ops b->AOp P C o (F i b) λs=>∃H,kS C s (F H (upd b (k+j)))
 | [],_,_,_,_,E=>by simp at E
 |o'::l,k,0,o,h,E=>by
  simp at E;subst E;exact h.1
 |o'::l,k,j+1,o,h,E=>by
  have:=An2 (l:=l) (k:=k+1) (j:=j) h.2 (by simpa using E);rwa [show k+1+j=k+(j+1)by omega]at this
theorem AK{o:cT}{rest:List cT}(h1:∀i b,b k=aS->Abk b o->Ahj ops b->AOp P C o (F i b) λs=>∃E,kS C s (F E (upd b k)))(h2:gM P C F ops (k+1) rest):gM P C F ops k (o::rest):=⟨h1,h2⟩
theorem No:gM P C F ops k []:=trivial
theorem Y5{Q':bL->Act->eV->Prop}(hf:Axw ops=aZ)
 (hs:∀(j:Nat) (o:cT),ops[j]? =lW o->∀(i:ι) b,b j=aS->Abk b o->Ahj ops b->AOp P C o (F i b) λs=>∃i',kS C s (F i' (upd b j)))
 (hQ:∀i a w,(F i λ_=>aZ).rel C a w->Q' .normal a w):
 ∀(f:Nat) (listed:Array Bool) (a:Act) (w:eV),listed.size=ops.size->listed.toList.count aS=f->Ahj ops (λj=>listed.getD j aZ)->∀i,(F i λj=>listed.getD j aZ).rel C a w->wpAny P .any ops Q' f listed a w:=by
 intro f;induction f with
 |zero=>
  intro listed a w ab hc ac ix H;have E:∀j,listed.getD j aZ=aZ:=λj=>by
   rcases lE j listed.size with h'|h'
   ·have hm:=gO.1 hc;simp only[aA,aB h',lR];rcases hx:listed[j]with _|_
    ·exact absurd (by rw[<-hx];simp) hm
    ·rfl
   ·simp[aA,aC h']
  refine⟨gV.2 λi hi=>?_,hQ ix a w ?_⟩
  ·have:=(fS.1 hi).1;rw[E i]at this;cases this
  ·have e:(λj=>listed.getD j aZ)=λ_=>aZ:=funext E
   rwa [e]at H
 |succ f ih=>
  intro listed a w ab hc ac ix H;refine⟨λh0=>?_,λi hi=>?_⟩
  ·exfalso;have am:∃j,listed.getD j aZ=aS:=by
    have hm:aS∈listed.toList:=gP.1 (by omega);obtain⟨j,X,he⟩:=iP hm;exact⟨j,by simp only[aH]at X;simp only[aG]at he;simp[aA,X,he]⟩
   obtain⟨j,X,ae⟩:=Gt am;have ag:j < ops.size:=by
    rcases lE j listed.size with h'|h'
    ·omega
    ·simp[aC h']at X
   have Z:j∈eE .any ops listed:=fS.2 ⟨X,_,aB ag,λe he hb=>by
    have an:=(Sf hf (aB ag)).2 e he hb;cases hx:listed.getD e.on aS with
    |true=>rfl
    |false=>
     have al:e.on < listed.size:=by omega
     have:=ae e.on (getD_in al hx);omega⟩
   rw[h0]at Z;cases Z
  ·obtain⟨ad,o,ho,E⟩:=fS.1 hi;have I:i < listed.size:=by rw[ab];exact(aD.1 ho).1
   obtain⟨hg,ao⟩:=Sf hf ho;have aa:Abk (λj=>listed.getD j aZ) o:=λk e he hb=>An0 (E e (aJ he) hb)
   have ai:(listed.setIfInBounds i aZ).toList.count aS=f:=by
    have Y:listed.toList[i]'(by simpa using I)=aS:=by
     have:=ad;simp[aA,I]at this;simpa using this
    rw[aO,gQ (by simpa using I),Y,hc];simp
   unfold wpOp;simp only[ho];have hw:eG o (yielded ops a.tmps)=aZ:=by unfold eG;rw[hg]
   rw[hw,if_pos V];refine .inl (cX (λa' w' ⟨s',⟨iy,ak⟩,hr⟩=>?_) (hs i o ho ix _ ad aa ac Q' a w H).2);refine ih _ a' w' (by simpa using ab) ai ?_ iy ?_
   ·rw[RD I];intro j o' X aj;by_cases ah:j=i
    ·subst ah;rw[ho]at X;cases X;exact Mc aa
    ·exact Mc (ac j o' X (by unfold upd at aj;rwa [if_neg ah]at aj))
   ·rw[RD I];exact ak a' w' hr
theorem Ff{id n:Nat}{l:List cT}{Q:bL->St->Prop}(i0:ι)(F:ι->(Nat->Bool)->St)(hn:l.length=n)(hm:P.follows .mixedOrders=aZ)(hB:(eD l.toArray&&KI l.toArray&&Axw l.toArray)=aZ)
 (hs:gM P C F l.toArray 0 l)(hQ:∀i,Q .normal (F i λ_=>aZ)):Awp P C (.region id l.toArray aZ) Q (F i0 λj=>decide (n<=j)):=λa w H=>by
 simp only[aR]at hB;obtain⟨⟨aa,X⟩,hf⟩:=hB;refine FI hm X ?_;have e0:(λj=>(aL l.toArray.size aS).getD j aZ)=λj=>decide (n<=j):=by
  funext j;simp only[aA,aF,jQ,hn];by_cases h:j < n
  ·rw[if_pos h,decide_eq_false (by omega)];rfl
  ·rw[if_neg h,decide_eq_true (by omega)];rfl
 refine Y5 (Q':=λe a' w'=>e= .normal/\∃Z,Q e Z/\Z.rel C a' w') hf (λj o I i b h1 h2 h3=>?_) (λi a' w' h=>⟨rfl,_,hQ i,h⟩) _ _ a _ (by simp) (by simp) ?_ i0 ?_
 ·have:=An2 (l:=l) (k:=0) (j:=j) hs (by simpa using I) i b (by rwa [lL]) h2 h3;rwa [lL]at this
 ·intro j o I Y;have hj:j < l.toArray.size:=(aD.1 I).1;have:(aL l.toArray.size aS).getD j aZ=aZ:=Y;rw[aA,aF,if_pos hj]at this;cases this
 ·rw[e0];obtain⟨hd,S,ψ,E,hl⟩:=H;have Y:Below w.heap.size w {w with drawn:=w.drawn+1}:=⟨rfl,rfl,rfl,lB _,λ_ _=>rfl⟩
  exact⟨hd,S,ψ,E.grow Y (λ_ h=>h) (λ_ h=>.inl h) E.lt,Az (show Ext w S _ ψ {w with drawn:=w.drawn+1} S _ ψ from kF _ ψ (λk hk=>rfl) λ_ h=>h) _ _ hl⟩
end
open Go.Proofs
def Aen(op:Int):M ByteArray:=kL (a7 (0<=op/\op<=255)) (kM ⟨(HC op).toArray⟩)
theorem Aem{op:Int}{r:ByteArray}(H:(Aen op).to r):Fn dI 79 [.lit (.int .u8 op)] (.lit (.string r)):=by
 obtain⟨c,H⟩:=Ah.1 H;obtain rfl:=Ad.1 H;have c:=of_decide_eq_true c;exact JB (by kernel_rfl) λw vs I=>by
  obtain⟨v,rfl,E⟩:=Ach I;obtain rfl:=OI E;exact Aed op w c.1 c.2
def TE(s:ByteArray)(c:Int):M Bool:=kL (a7 (s.size<=65536)&&a7 (((mA c.toNat).toNat:Int)=c)) (kM (Axt s (mA c.toNat)))
theorem RO{s:ByteArray}{c:Int}{r:Bool}(H:(TE s c).to r):Fn dI 80 [.lit (.string s),.lit (.int .u8 c)] (.lit (.bool r)):=by
 obtain⟨k,H⟩:=Ah.1 H;obtain rfl:=Ad.1 H;rw[aR,decide_eq_true_eq,decide_eq_true_eq]at k;have:=k.2;generalize mA c.toNat=d at this⊢;subst this;exact JB (by kernel_rfl) λw vs X=>by
  obtain⟨v,u,rfl,E,I⟩:=Ay3 X;obtain rfl:=OI E;obtain rfl:=OI I;exact(XT s d w k.1).mono λe w' ⟨h1,h2⟩=>⟨h1,by rw[<-h2];exact eK _ _⟩
def JJ(x:Ins):M (List Int):=kK (Aen x.op) λr1=>kK (kK (TE r1 97) λZ=>M.cnd Z (kL (wfB .i64 x.a) (kL (Fj (([]:List Int).length+ [x.a].length) 8) (kM (([]:List Int)++[x.a])))) (kM ([]:List Int))) λX=>kK (kK (TE r1 98) λI=>M.cnd I (kL (wfB .i64 x.b) (kL (Fj (X.length+ [x.b].length) 8) (kM (X++[x.b])))) (kM X)) λE=>kK (kK (TE r1 120) λH=>M.cnd H (kL (Fj (E.length+x.args.length) 8) (kM (E++x.args))) (kM E)) λY=>kM Y
theorem TG{x:Ins}{r:List Int}(H:(JJ x).to r):Fn dI 43 [.agg (BV x)] (.bs tInt r):=by
 delta JJ at H;try dsimp only at H
 refine AQ Tryz.func43 V (by kernel_rfl) V Tryz.ntmps43 λC hC=>?_
 simp only[Nat.reduceAdd,Nat.reduceSub,zaa];refine wS (sB (sT (wN ?_)));refine wS (sT (wN ?_));obtain⟨r1,k1,H⟩:=Aq.1 H;have k1:=Aem k1;refine wS (sT (sT (sC k1 (sT (wN ?_)))));refine AE _ (EB 3 3 tInt V (by decide)) ?_;obtain⟨z4,au,ar⟩:=Aq.1 H;refine Bn (β:=((List Int))×(Nat)) (λq4=>z4=q4.1) (λq4=>⟨.any::.ptr 0 0::.any::.own 1 q4.2::.lit (.string r1)::A20 (A4 []),[.box (BV x),.row q4.2 3 tInt q4.1]⟩) ?_ ?_
 ·have H:=au;obtain⟨r5,k5,H⟩:=Aq.1 H;have k5:=RO k5;refine wS (sT (sC k5 (wN ?_)));refine Ag V (λad=>?_) (λad=>?_)
  ·have H:=AN ad H;obtain⟨c7,H⟩:=Ah.1 H;obtain⟨c8,H⟩:=Ah.1 H;refine wSE (sT (sT (sT ?_)));refine sA ?_ (AT.lt (xs:=[.tmp 12]) (T:=tInt) (ds:=[x.a]) V V V (by rfl) (by decide) (.cons (Fit.int c7) .nil)) (Ap GY);refine sP c8 (sT (wN ?_));have e4:=Ad.1 H;repeat(first|refine abN ?_|refine asN ?_)
   refine An ⟨(_,0+1),e4.symm,?_⟩;try dsimp only
   exact AS
  ·have H:=AO ad H;refine Al ?_;have e4:=Ad.1 H;repeat(first|refine abN ?_|refine asN ?_)
   refine An ⟨(_,0),e4.symm,?_⟩;try dsimp only
   exact AS
 ·rintro⟨l3,v2⟩ ah;try dsimp only at ah
  have H:=ar;rw[ah]at H;try dsimp only
  obtain⟨an,al,aj⟩:=Aq.1 H;refine Bn (β:=((List Int))×(Nat)) (λI=>an=I.1) (λI=>⟨.any::.ptr 0 0::.any::.own 1 I.2::.lit (.string r1)::A20 (A4 []),[.box (BV x),.row I.2 3 tInt I.1]⟩) ?_ ?_
  ·have H:=al;obtain⟨ax,ac,H⟩:=Aq.1 H;have ac:=RO ac;refine wS (sT (sC ac (wN ?_)));refine Ag V (λY=>?_) (λY=>?_)
   ·have H:=AN Y H;obtain⟨aq,H⟩:=Ah.1 H;obtain⟨ap,H⟩:=Ah.1 H;refine wSE (sT (sT (sT ?_)));refine sA ?_ (AT.lt (xs:=[.tmp 19]) (T:=tInt) (ds:=[x.b]) V V V (by rfl) (by decide) (.cons (Fit.int aq) .nil)) (Ap (Ap Ka));refine sP ap (sT (wN ?_));have ag:=Ad.1 H;repeat(first|refine abN ?_|refine asN ?_)
    refine An ⟨(_,v2+1),ag.symm,?_⟩;try dsimp only
    exact AS
   ·have H:=AO Y H;refine Al ?_;have ag:=Ad.1 H;repeat(first|refine abN ?_|refine asN ?_)
    refine An ⟨(_,v2),ag.symm,?_⟩;try dsimp only
    exact AS
  ·rintro⟨az,v9⟩ aa;try dsimp only at aa
   have H:=aj;rw[aa]at H;try dsimp only
   obtain⟨am,ak,ai⟩:=Aq.1 H;refine Bn (β:=((List Int))×(Nat)) (λE=>am=E.1) (λE=>⟨A3 (.own 1 E.2::A20 (A5 [])),[.dead,.row E.2 3 tInt E.1]⟩) ?_ ?_
   ·have H:=ak;obtain⟨aw,ab,H⟩:=Aq.1 H;have ab:=RO ab;refine wS (sT (sC ab (wN ?_)));refine Ag V (λX=>?_) (λX=>?_)
    ·have H:=AN X H;obtain⟨ao,H⟩:=Ah.1 H;refine wSE (sT (sT (sT (sP ao (sT (wN ?_))))));have ae:=Ad.1 H;repeat(first|refine abN ?_|refine asN ?_)
     refine An ⟨(_,v9+1),ae.symm,?_⟩;try dsimp only
     exact leC (Cut.dead (Cut.cons (Cut.nil _)))
    ·have H:=AO X H;refine Al ?_;have ae:=Ad.1 H;repeat(first|refine abN ?_|refine asN ?_)
     refine An ⟨(_,v9),ae.symm,?_⟩;try dsimp only
     exact leC (Cut.dead (Cut.cons (Cut.nil _)))
   ·rintro⟨ay,av⟩ Z;try dsimp only at Z
    have H:=ai;rw[Z]at H;try dsimp only
    refine wS (sT (sT (wN ?_)));obtain rfl:=Ad.1 H;exact Aw ⟨.inr V,Fin.own V⟩
theorem WE(op:Int)(c:Nat)(hc:c < 256):(TE ⟨(HC op).toArray⟩ (c:Int)).to ((HC op).contains (mA c)):=by
 have h:=Uu op;refine Af ?_ (Ad.2 ?_)
 ·rw[aR,decide_eq_true_eq,decide_eq_true_eq];refine⟨h,?_⟩;rw[gH,UInt8.toNat_ofNat',Nat.mod_eq_of_lt (by omega)]
 ·rw[gH];rfl
theorem Ajw{x:Ins}(I:okIns x)(hl:x.args.length<=2097152):(JJ x).to (readsC x):=by
 have H:=I.op;have h0:0<=x.op/\x.op<=255:=by simpa[wfI,cG,bZ,bY,b9,bW]using H
 have E:∀n,n<=2097200->Fj n 8=aZ:=λn hn=>by
  unfold Fj fR;rw[aR,decide_eq_true_eq,decide_eq_true_eq];omega
 obtain⟨l1,Y⟩:∃l,l=(if(HC x.op).contains 97 then [x.a]else []):=⟨_,rfl⟩
 obtain⟨l2,X⟩:∃l,l=l1++(if(HC x.op).contains 98 then [x.b]else []):=⟨_,rfl⟩
 have n1:l1.length<=1:=by rw[Y];split <;> simp
 have n2:l2.length<=2:=by rw[X,iS];split <;> simp <;> omega
 have e3:readsC x=l2++(if(HC x.op).contains 120 then x.args else []):=by rw[X,Y];rfl
 unfold JJ;refine Am (Af (decide_eq_true h0) (Aj _)) (Am (a:=l1) (Am (WE x.op 97 (by decide)) ?_) (Am (a:=l2) (Am (WE x.op 98 (by decide)) ?_) (Am (a:=readsC x) (Am (WE x.op 120 (by decide)) ?_) (Aj _))))
 ·rw[Y];cases Z:(HC x.op).contains (mA 97)with
  |true=>
   rw[if_pos V];exact AI V (Af I.a (Af V (Aj _)))
  |false=>
   rw[if_neg (by simp)];exact AJ V (Aj _)
 ·rw[X];cases Z:(HC x.op).contains (mA 98)with
  |true=>
   rw[if_pos V];exact AI V (Af I.b (Af (E _ (by simp;omega)) (Aj _)))
  |false=>
   rw[if_neg (by simp),gK];exact AJ V (Aj _)
 ·rw[e3];cases Z:(HC x.op).contains (mA 120)with
  |true=>
   rw[if_pos V];exact AI V (Af (E _ (by omega)) (Aj _))
  |false=>
   rw[if_neg (by simp),gK];exact AJ V (Aj _)
theorem Gj(x:Ins)(E:okIns x)(H:x.args.length<=2097152):Fn dI 43 [.agg (BV x)] (.bs tInt (readsC x)):=TG (Ajw E H)
def CM(r:Int):List Ins->Bool×Bool
 | []=>(aS,aS)
 |x::ds=>if(readsC x).contains r then(aZ,aS)else if Bd x&&x.d ==r then(aS,aZ)else CM r ds
theorem V7(r:Int)(x:Ins)(ds:List Ins):CM r (x::ds)=if(readsC x).contains r then(aZ,aS)else if Bd x&&x.d ==r then(aS,aZ)else CM r ds:=rfl
theorem Aef(r:Int)(ds:List Ins):(CM r ds).1=rdB r ds/\((CM r ds).1=aS->(!(CM r ds).2)=Ais r ds):=by
 induction ds with
 |nil=>simp[CM,rdB,Ais]
 |cons x ds E=>
  unfold CM rdB Ais;cases h1:(readsC x).contains r
  ·cases h2:(Bd x&&x.d ==r)
   ·simpa using E
   ·simp
  ·simp
theorem Tz(r:Int)(ds:List Ins)(S:Int->Bool):((CM r ds).1||(!(CM r ds).2&&S r))=inS ds S r:=by
 rw[Uo];obtain⟨h1,h2⟩:=Aef r ds;rw[<-h1];cases h:(CM r ds).1
 ·rw[<-h2 h]
 ·simp
structure smallB(b:Block):Prop where
 ins:b.ins.length<=2097152
 all:∀x∈b.ins,x.args.length+8<=2097152
structure smallF(f:Func):Prop where
 blocks:f.blocks.length<=2097152
 all:∀b∈f.blocks,smallB b
theorem KC(x:Ins):(readsC x).length<=x.args.length+2:=by
 unfold readsC;simp only[iS];split <;> split <;> split <;> simp <;> omega
theorem Mv(b:Block)(i:Nat)(r:Int)(ho:okBlock b)(hs:smallB b)(hi:i<=b.ins.length):Fn dI 102 [.agg (D1 b),.lit (.int .i64 (i:Int)),.lit (.int .i64 r)]
 (.tup [.lit (.bool (CM r (b.ins.drop i)).1),.lit (.bool (CM r (b.ins.drop i)).2)]):=by
 have ag:=hs.ins;refine Abz Tryz.func102 V (by kernel_rfl) V Tryz.ntmps102 λC hC=>?_
 refine nS ?_;refine rRS ?_;refine Ab λK2 h2=>?_
 refine rRS ?_;refine Ac ?_;refine AB (λk:Nat=>⟨(A2 (.lit (.int .i64 r)::.ptr 0 0::A4 (.lit (.int .i64 (k:Int))::A20 (A10 (A3 []))))),[.box (D1 b)]⟩) (λk=>k<=b.ins.length/\CM r (b.ins.drop k)=CM r (b.ins.drop i)) (λk=>b.ins.length - k) i ⟨hi,rfl⟩ (BU) ?_;rintro k ⟨hk,H⟩;refine Ab λK5 h5=>?_
 refine rRS ?_;refine Ag V (λY=>?_) (λY=>?_)
 ·refine Al ?_;refine h5 _ ?_;refine nT ?_;have X:k < b.ins.length:=by simpa using Y
  obtain⟨x,hx⟩:∃x,b.ins[k]? =lW x:=⟨_,iH X⟩
  have Z:=ho.ins x (jE hx);have ae:=hs.all x (jE hx);have ab:b.ins.drop k=x::b.ins.drop (k+1):=by
   rw[List.drop_eq_getElem_cons X];congr 1;rw[iH X]at hx;injection hx
  rw[ab,V7]at H;refine Ab λK8 h8=>?_
  refine Ac ?_;refine Ab λK9 h9=>?_
  refine Ab λaj ad=>?_
  (refine kE ?_;(repeat(first|refine sQ ?_ (AT.call V (Gj x Z (by omega)) V V V)|refine sQ ?_ (AT.call V (WD (readsC x) r (by have:=KC x;omega)) V V V)|refine sQ ?_|refine AM ?_|refine Bp ?_));refine Au ?_)
  refine ad _ ?_;refine nT ?_;refine Ag V (λI=>?_) (λI=>?_)
  ·refine rRS ?_;refine Aw ?_;rw[I,if_pos V]at H;exact⟨.inr V,_,_,Fin.cl V,by rw[<-H];rfl,by rw[<-H];rfl⟩
  ·refine Al ?_;refine h9 _ ?_;refine nT ?_;rw[I,if_neg (by simp)]at H;refine Ab λai ac=>?_
   (refine kE ?_;(repeat(first|refine sQ ?_ (AT.call V (Fu x Z) V V V)|refine sQ ?_|refine AM ?_|refine Bp ?_));refine Au ?_)
   refine ac _ ?_;refine nT ?_;refine Ab λah aa=>?_
   rcases hw:Bd x with _|_
   ·rw[hw]at H;refine rR ?_;refine aa _ ?_;refine nT ?_;refine Ag V (λE=>by cases E) (λE=>?_);refine Al ?_;refine h8 _ ?_;refine nT ?_;refine rR ?_;refine An ⟨k+1,⟨by omega,by simpa using H⟩,by omega,BU⟩
   ·rw[hw]at H;refine rR ?_;refine aa _ ?_;refine nT ?_;refine Ag V (λE=>?_) (λE=>?_)
    ·refine rRS ?_;refine Aw ?_;rw[a6,if_pos (by simpa using E)]at H;exact⟨.inr V,_,_,Fin.cl V,by rw[<-H];rfl,by rw[<-H];rfl⟩
    ·refine Al ?_;refine h8 _ ?_;refine nT ?_;refine rR ?_;refine An ⟨k+1,⟨by omega,by rw[a6,if_neg (by simpa using E)]at H;exact H⟩,by omega,BU⟩
 ·refine Ay ?_;refine h2 _ ?_;refine nT ?_;have:k=b.ins.length:=by
   have:¬k < b.ins.length:=by simpa using Y
   omega
  subst this;rw[List.drop_length]at H;refine rRS ?_;refine Aw ?_;exact⟨.inr V,_,_,Fin.cl V,by rw[<-H];rfl,by rw[<-H];rfl⟩
open Go.Shelf
variable{b:Int}{f:kI}
attribute [local go_sem] cU
instance Atg:AG dI 199 aZ 2:=⟨by kernel_rfl⟩
instance Atf:SZ dI 199 2:=⟨by kernel_rfl⟩
instance Ate:AG dI 66 aS 1:=⟨by kernel_rfl⟩
instance Atd:SZ dI 66 1:=⟨by kernel_rfl⟩
instance Atc:ES dI 66 1:=⟨by kernel_rfl⟩
instance Atb:AG dI 27 aS 1:=⟨by kernel_rfl⟩
instance Ata:SZ dI 27 1:=⟨by kernel_rfl⟩
instance Ap9:RT dI 27 3 1 8:=⟨by kernel_rfl⟩
instance Ap8:AG dI 3 aS 1:=⟨by kernel_rfl⟩
instance Ap7:SZ dI 3 1:=⟨by kernel_rfl⟩
instance Ap6:ZC dI 199 [.int .i64 0,.int .i64 0]:=⟨by kernel_rfl⟩
instance Ap5:ZC dI 27 [.slice lV 0 0]:=⟨by kernel_rfl⟩
instance Ap4:ZC dI 66 [.slice lV 0 0]:=⟨by kernel_rfl⟩
instance Ap3:ZC dI 3 [.int .i64 0]:=⟨by kernel_rfl⟩
def goF(p:Nat×Nat):eQ:=.func (.func 182) #[] #[.pointer (lW ⟨p.2,0,lV⟩),.pointer (lW ⟨p.1,0,lV⟩)]
def goR(f:kI)(b:Int)(p:Nat×Nat):Res:=(Be p.1 (Ak f)).and (Be p.2 [.lit (.int .i64 b)])
def goE(f:kI)(b:Int)(k:Nat):List AV:=[.lit (.int .i64 ((nextL f b).getD k 0))]
theorem Yp(f:kI)(b:Int):M3 dI 167 [.agg (Ak f),.lit (.int .i64 b)] (goR f b) goF:=by
 refine⟨by kernel_rfl,λw S vs hS hr=>?_⟩;obtain⟨v,u,rfl,hv,hu⟩:=Ay3 hr;obtain rfl:=OI hu;obtain⟨cs,rfl,hc⟩:=IZ hv;refine(fG (n:=4)).1 (fE Tryz.func167 V trivial ?_ V);match cs,Bw hc with
 | [a0,a1,a2,a3],_=>
 simp only[Tryz.ntmps167,Nat.reduceAdd,Nat.reduceSub,zae]
 gi_wp2
 go_ret
 have hb:Below w.heap.size w ((w.alloc (.cells #[a0,a1,a2,a3] 24)).alloc (.cells #[.int .i64 b] 3)):=((eK _ w).alloc (lB _) _).alloc (by simp) _;have h2:=fM (w.alloc (.cells #[a0,a1,a2,a3] 24)) (.cells #[.int .i64 b] 3);rw[fD]at h2;refine⟨_,rfl,⟨hb.os,hb.tape,hb.output,hb.size,λk hk _=>hb.block k hk⟩,(w.heap.size,w.heap.size+1),rfl,⟨⟨[a0,a1,a2,a3],24,(eJ _ _ _ (by simp)).trans (fM w _),Az (kF [] ψ0 (λk hk=>hb.block k (hS k hk)) λ_ h=>h) _ _ hc⟩,⟨[.int .i64 b],3,h2,by unfold Ae Ae kD;exact⟨_,_,rfl,rfl,rfl⟩⟩,λg e1 e2=>?_⟩,λk hk=>?_⟩
 ·have e1:g=w.heap.size:=e1;have e2:g=w.heap.size+1:=e2;omega
 ·have hk:k=w.heap.size\/k=w.heap.size+1:=hk;simp only[fD];exact⟨.inr (by omega),by omega⟩
theorem ZU(h:((a7 (b < 0)||decide (b≥(f.blocks.length:Int)))||(((ixD f.blocks b).ins.length:Int) ==0))=aZ):nextL f b= []:=by
 by_cases E:0<=b/\b < f.blocks.length
 ·obtain⟨k,rfl⟩:=gG E.1;have hk:=BS (BL.2 ⟨E.1,(by omega:((k:Int)).toNat < f.blocks.length)⟩);rw[gH]at hk;rw[RX hk];refine T9 (gW ?_);simp only[beq_iff_eq,zat]at h;omega
 ·exact T7 E
theorem ZT(E:Cm f.blocks b=aZ)(hi:Cm (ixD f.blocks b).ins (((ixD f.blocks b).ins.length:Int) - 1)=aZ):nextL f b=(HW (ixD (ixD f.blocks b).ins (((ixD f.blocks b).ins.length:Int) - 1))).filter (inB f):=by
 obtain⟨h0,h1⟩:=BL.1 E;obtain⟨k,rfl⟩:=gG h0;have hk:=BS E;rw[gH]at hk;rw[RX hk];unfold RY;have:=BS hi;rw[List.getLast?_eq_getElem?,show(ixD f.blocks (k:Int)).ins.length - 1=(((ixD f.blocks (k:Int)).ins.length:Int) - 1).toNat by omega,this];exact UK f _
def Aa5(f:kI)(W:List Int)(k:Nat):Nat:=((W.take k).filter (inB f)).length
theorem Ahh{W:List Int}{k:Nat}{v:Int}(h:W[k]? =lW v):Aa5 f W (k+1)=Aa5 f W k+(if inB f v then 1 else 0)/\(inB f v=aZ->(W.filter (inB f))[Aa5 f W k]? =lW v):=by
 have e:W=W.take k++v::W.drop (k+1):=by
  obtain⟨h2,H⟩:=iJ.1 h;rw[<-H,List.getElem_cons_drop,jT]
 refine⟨?_,λE=>?_⟩
 ·unfold Aa5;rw[jS,h,gY,iS,lZ,gZ];split <;> rfl
 ·unfold Aa5
  conv=>lhs;rw[e]
  rw[gY,gZ,if_pos E,iD (by rw[<-e];exact lB _),<-e,lK];rfl
theorem Uw(f:kI)(b:Int)(hl:f.blocks.length<=2097152)(hi:∀b∈f.blocks,b.ins.length<=2097152)(p:Nat×Nat):
 Aic dI 182 [.pointer (lW ⟨p.2,0,lV⟩),.pointer (lW ⟨p.1,0,lV⟩)] (goR f b p) (goE f b) (nextL f b).length:=by
 refine ND Tryz.func182 V (by kernel_rfl) V Tryz.ntmps182 V λC ao ι l Jr hm hY q0=>?_
 simp only[i6,i7,Nat.reduceAdd,Nat.reduceSub,zaa];refine AE _ (EM 1 V) ?_;refine nT ?_;have ag:∀(k:Nat) (q:ι) (l:List jZ),mkD l= []->mkD (.res (Jr k q)::l)= []:=λk q l h=>by
  unfold mkD;rw[h];show(Jr k q).mrk.map Kb= [];rw[hm];rfl
 have ac:nextL f b= []->∀(q:ι) (t:List AV) (l:List jZ),mkD l= []->Arj (Jr (nextL f b).length) .ret ⟨t,.res (Jr 0 q)::l⟩:=λh q t l hl=>by
  rw[h];exact⟨.inr V,q,rfl,ag _ _ _ hl⟩
 have c2:(!(!(a7 (b < 0)||decide (b≥(f.blocks.length:Int))))||Cm f.blocks b)=aZ:=by
  unfold Cm;simp;omega
 refine Ab λK1 h1=>?_
 refine wS (sT (sT (sT ?_)));refine sGf V ?_;refine sGf V ?_;refine sGf V ?_;refine sGf V ?_;refine sGf V (sT (sT ?_));refine sGf V ?_;refine sGf V ?_;refine sGf V ?_;refine AAb V (by rw[Bool.not_not];simpa using c2) ?_;refine sGf V ?_;refine sGf V ?_;refine sGf V ?_;refine sGf V (sT (wN ?_));refine Ag V (λab=>?_) (λab=>?_)
 ·exact Aw (ac (ZU ab) q0 _ _ V)
 refine Al (h1 _ ?_);have ad:Cm f.blocks b=aZ:=by
  unfold Cm;simp only[aX,decide_eq_false_iff_not]at ab;simp only[zaf];omega
 have ar:=hi _ (jE (BS ad));have au:1<=(ixD f.blocks b).ins.length:=by
  simp only[aX,beq_eq_false_iff_ne]at ab;omega
 have am:bX.wrap (((ixD f.blocks b).ins.length:Int) - 1)=((ixD f.blocks b).ins.length:Int) - 1:=cA _ (by omega);have c5:Cm (ixD f.blocks b).ins (((ixD f.blocks b).ins.length:Int) - 1)=aZ:=BL.2 ⟨by omega,by omega⟩;have X:=ZT ad c5;refine wS (sT (sT (sT (sX ad (sT (sT (sT (wN ?_))))))));refine wS (sT (sT (sT (sT ?_))));rw[am];refine sX c5 (sT (sA0 (sW (wN ?_))));obtain⟨x,hx⟩:∃x,x=ixD (ixD f.blocks b).ins (((ixD f.blocks b).ins.length:Int) - 1):=⟨_,rfl⟩
 rw[<-hx]at X⊢;refine wS (sT (sT ?_));refine sA ?_ (Rq (rs:=[.lit (.int .i64 x.l1),.lit (.int .i64 (-1))]) V V V V V);refine sA0 (sW (wN ?_));refine Bn (β:=Int) (λH=>HW x= [x.l1,H]) (λH=>⟨(.lit (.func (.yield l) #[] #[])::.any::.lit (.pointer (lW ⟨p.1,0,lV⟩))::A3 (.ptr 4 0::A40 (A20 (A10 (A9 []))))),[.res (Jr 0 q0),.res (Be p.1 (Ak f)),.res (Be p.2 [.lit (.int .i64 b)]),.box (BV x),.box [.lit (.int .i64 x.l1),.lit (.int .i64 H)]]⟩) ?_ ?_
 ·refine Ac ?_;refine wS (sT (sT (sT (sT ?_))));refine sGt V ?_;refine sGt V ?_;refine sGt V ?_;refine sGt V ?_;refine sGt V (sT (sT (wN ?_)));refine Ag V (λI=>?_) (λI=>?_)
  ·refine wSE (sT (sT ?_));refine sA ?_ (Ir (k:=1) V V V V V (by decide));refine sW (wN ?_);repeat(first|refine abN ?_|refine asN ?_)
   refine An ⟨x.l2,?_,AS⟩;simp only[aR,beq_iff_eq,bne_iff_ne]at I;unfold HW;rw[if_pos I.1,if_neg I.2]
  ·refine wS (sT (sT (sT (sT ?_))));refine sGt V ?_;refine sGt V ?_;refine sGt V (sT (sT (wN ?_)));have hw:x.op=9/\x.l2=x.l1\/x.op≠9:=by
    simp only[aP,beq_eq_false_iff_ne,bne_eq_false_iff_eq]at I;omega
   refine Ag V (λE=>?_) (λE=>?_)
   ·refine Aw (ac ?_ q0 _ _ V);simp only[aR,bne_iff_ne]at E;rw[X];unfold HW;rw[if_neg E.1,if_neg E.2];rfl
   ·refine Al ?_;repeat(first|refine abN ?_|refine asN ?_)
    refine An ⟨-1,?_,AS⟩;simp only[aP,bne_eq_false_iff_eq]at E;unfold HW;rcases hw with hw|hw
    ·rw[if_pos hw.1,if_pos hw.2]
    ·rw[if_neg hw,if_pos (E.resolve_left hw)]
 intro H hw;try dsimp only
 rw[hw]at X;refine wS (sT (sT (wN ?_)));refine Ac ?_;refine AB (λr:Nat×ι=>⟨(.lit (.func (.yield l) #[] #[])::.any::.lit (.pointer (lW ⟨p.1,0,lV⟩))::A40 (A20 (A3 (.agg [.lit (.int .i64 x.l1),.lit (.int .i64 H)]::.lit (.int .i64 (r.1:Int))::A10 (A8 []))))),[.res (Jr (Aa5 f [x.l1,H] r.1) r.2),.res (Be p.1 (Ak f)),.res (Be p.2 [.lit (.int .i64 b)])]⟩) (λr=>r.1<=2) (λr=>2 - r.1) (0,q0) (lM _) (Ki (.cons (.cons (.cons (Cut.nil _))))) ?_;rintro⟨k,q⟩ hk;have hk:k<=2:=hk;try dsimp only
 refine wS (sT (wN ?_));refine Ab λax aq=>?_
 refine Ag V (λY=>?_) (λY=>?_)
 ·have Z:k < 2:=by have:=of_decide_eq_true Y;omega
  obtain⟨v,hv⟩:∃v,[x.l1,H][k]? =lW v:=⟨_,iH Z⟩
  obtain⟨ai,ah⟩:=Ahh (f:=f) hv;have hz:Cm [x.l1,H] (k:Int)=aZ:=BL.2 ⟨by omega,by rw[gH];exact Z⟩;have an:ixD [x.l1,H] (k:Int)=v:=by
   have:=BS hz;rw[gH,hv]at this;exact(lX this).symm
  have ae:bX.wrap ((k:Int)+1)=((k+1:Nat):Int):=by rw[cA _ (by omega)];rfl
  refine Al (aq _ ?_);refine Ab λaw al=>?_
  refine Ac ?_;refine wS ?_;refine sA ?_ (Abu (ds:=[x.l1,H]) (k:=.i64) V V V V V V hz);rw[an];refine sT (wN ?_);refine wY 10 λav ak=>?_
  refine sT (sT (sT ?_));refine sGt V ?_;refine sGt V ?_;refine sGt V ?_;refine sGt V ?_;refine sGt V (sT (sT (wN ?_)));rw[show(a7 (v≥0)&&a7 (v < (f.blocks.length:Int)))=inB f v from V];cases aa:inB f v with
  |false=>
   have hc:Aa5 f [x.l1,H] (k+1)=Aa5 f [x.l1,H] k:=by rw[ai,aa];rfl
   refine yS (AM (hk:=wN ?_));refine yS (AM (hk:=wN ?_));refine yS (AM (hk:=wN ?_));refine yS (AM (hk:=wN ?_));refine yS (sA (hq:=AT.pick V V V) (hk:=wN ?_));refine Ga (ak _ ?_);refine Ag V (λhb=>by cases hb) (λ_=>?_);refine Al (al _ ?_);refine wSE (sT ?_);rw[ae];refine sT (wN ?_);refine An ⟨(k+1,q),Z,by show 2 - (k+1) < 2 - k;omega,?_⟩;dsimp only;rw[hc];exact AS
  |true=>
   have hc:Aa5 f [x.l1,H] (k+1)=Aa5 f [x.l1,H] k+1:=by rw[ai,aa];rfl
   have aj:=hY (Aa5 f [x.l1,H] k) q (by rw[X];exact(iJ.1 (ah aa)).1);have ap:goE f b (Aa5 f [x.l1,H] k)= [.lit (.int .i64 v)]:=by
    unfold goE;rw[X,iB,ah aa];rfl
   rw[ap]at aj;refine yS (sA (hq:=AT.move V V) (hk:=wN ?_));refine yS (sA (hq:=AT.move V V) (hk:=wN ?_));refine PM V (Ayh.yield (i:=0) ao V (λp=>by rw[hm,hm]) V V V V aj λq'=>?_);refine Di (by(try simp only[Bl,zac]);exact V) (by(try simp only[Nat.reduceAdd,zab]);exact V) ?_;refine yS (sA (hq:=Co V V) (hk:=wN ?_));refine yS (sA (hq:=AT.pick V V V) (hk:=wN ?_));refine Ga (ak _ ?_);refine Ag V (λhb=>by cases hb) (λ_=>?_);refine Al (al _ ?_);refine wSE (sT ?_);rw[ae];refine sT (wN ?_);refine An ⟨(k+1,q'),Z,by show 2 - (k+1) < 2 - k;omega,?_⟩;dsimp only;rw[hc];exact AS
 ·obtain rfl:k=2:=by have:=of_decide_eq_false Y;omega
  refine Ay ?_;rw[show(nextL f b).length=Aa5 f [x.l1,H] 2 by rw[X];rfl];exact⟨.inl V,q,rfl,ag _ _ _ V⟩
theorem Aki(E:f.blocks.length<=2097152)(b:Int):Bg (nextL f b):=by
 intro x hx;unfold nextL at hx;obtain⟨y,_,rfl⟩:=jC.1 hx;have:=y.2;simp[wfI,cG,bZ,bY,b9,bW,Fm];omega
theorem T8(f:kI)(b:Int):(nextL f b).length<=2:=by
 unfold nextL;rw[iV];exact LI f b
theorem UD(f:kI)(b:Int)(ho:okFunc f)(Z:f.blocks.length<=2097152)(hi:∀b∈f.blocks,b.ins.length<=2097152):Fn dI 190 [.agg (Ak f),.lit (.int .i64 b)] (.bs tInt (nextL f b)):=by
 refine FM Tryz.func190 V (by kernel_rfl) V Tryz.ntmps190 λC hC I=>?_
 refine nS ?_;refine wS (sB (sT (wN ?_)));refine wS (sA0 (wN ?_));refine Ab λK3 h3=>?_
 refine wRK λK4 h4=>sT (sT ?_)
 refine AC V (Cr V (Yp f b) (λ_=>rfl) V V λp=>?_);refine sNt (hk:=Au (h4 _ ?_));refine Bt 2 V V V (λg=>(A5 (.lit (.pointer (lW ⟨g,0,lV⟩))::A3 (.lit (goF p)::A6 [])))) (λg=>(by(repeat(first|exact kQ|refine kR ?_|refine kO ?_|refine kP V ?_)))) λg=>?_
 refine AE _ (J1 3 tInt (by decide)) ?_;refine nT ?_;refine Ac ?_;refine Hx (J:=eQ) 3 0 (λk v=>[.dead,.dead,.res (Be g [.lit v]),.dead,.res (rowR v 3 tInt ((nextL f b).take k))]) (.slice lV 0 0) I V (by decide) V V V ?_ V (λ_ _=>rfl) (λ_ _=>rfl) V (λk _ _ ⟨_,h,_⟩=>h▸⟨rfl,rfl⟩) (Uw f b Z hi p) ?_ ?_
 ·exact⟨.dead (.dead (.cons (.dead (.cons (.nil _))))),λb hb=>gI.1 (show bdH [.dead,.dead,.res (Be g [.lit (.slice lV 0 0)]),.dead,.res (rowR (.slice lV 0 0) 3 tInt [])]=aZ from V) b hb⟩
 ·rintro k v _ _ ⟨hk,rfl,rfl⟩ C' aa;obtain⟨x,hx⟩:∃x,(nextL f b)[k]? =lW x:=⟨_,iH hk⟩
  have E:wfI .i64 x:=Aki Z b x (jE hx);have X:goE f b k= [.lit (.int .i64 x)]:=by
   unfold goE;rw[iB,hx];rfl
  have H:(nextL f b).take (k+1)=(nextL f b).take k++[x]:=by rw[jS,hx];rfl
  have Y:((nextL f b).take k).length<=2:=lC (by rw[iZ];omega) (T8 f b);rw[X,H];refine C3 (t':=(A5 (.lit (.pointer (lW ⟨g,0,lV⟩))::A3 (.lit (goF p)::.lit (.int .i64 x)::A5 [])))) (h':=[.dead,.dead,.res (Be g [.lit v]),.dead,.res (rowR v 3 tInt ((nextL f b).take k))]) V V ?_;refine wSE (sT (wN ?_));refine An λC2 ab=>?_
  refine Ac ?_;refine Azt λK hK=>sT (sT ?_)
  refine sA ?_ (Cg (T:=tInt) V V V (by rfl) (by decide) (Fit.int E));refine AC V (P9 (i:=4) V (by kernel_rfl) V V V JP (by show _+1<=_;unfold fR;omega) (by show(_+1) * 8<=_;omega) λv'=>?_);refine sNt ?_;refine AC V (It (i:=2) (new:=[.lit v']) V V V (PW.one (Me (i:=4) V)) V V (Nat.le_of_ble_eq_true V) ?_);refine sNt (hk:=Au (hK _ ?_));exact⟨rfl,v',⟨.cons (.cons (.cons (.cons (.cons (.nil _))))),λc hc=>gI.1 (show bdH [.dead,.dead,.res (Be g [.lit v']),.dead,.res (rowR v' 3 tInt ((nextL f b).take k++[x]))]=aZ from V) c hc⟩⟩
 ·rintro kN rfl v D;rw[jU];refine h3 _ ?_;refine C3 (t':=(A5 (.lit (.pointer (lW ⟨g,0,lV⟩))::A3 (.lit (goF p)::A6 [])))) (h':=[.res (Bk [D]),.dead,.res (Be g [.lit v]),.dead,.res (rowR v 3 tInt (nextL f b))]) V V ?_;refine wS (sT (sT (wN ?_)));refine AE _ (Im 4 (ver:=0) (t':=(A4 (.own 4 0::A10 [.any]))) V V (by(try simp only[Bl,zac]);(repeat(first|exact Cls.nil|refine Cls.own ?_|refine Cls.any ?_|refine Cls.keep V ?_)))) ?_;exact Aw ⟨.inr V,[D],rfl,rfl,Fin.own V⟩
theorem Cu(f:kI)(ho:okFunc f)(hs:smallF f):Fn dI 154 [.agg (Ak f)] (.bs tInt.slice (GM f f.blocks.length)):=by
 have hl:=hs.blocks;have hi:∀b∈f.blocks,b.ins.length<=2097152:=λb I=>(hs.all b I).ins
 refine FM Tryz.func154 V (by kernel_rfl) V Tryz.ntmps154 λC hC aj=>?_
 refine nS ?_;refine wS (sB (sT (wN ?_)));refine Bt 1 V V V (λH=>(.any::.lit (.pointer (lW ⟨H,0,lV⟩))::.lit (.slice lV 0 0)::A20 (A9 []))) (λg=>(by(repeat(first|exact kQ|refine kR ?_|refine kO ?_|refine kP V ?_)))) λH=>?_
 refine nT ?_;refine wRK λK2 h2=>sT (sT (sT ?_))
 refine AC V (Xv (e:=27) (bytes:=24) V (by kernel_rfl) V V (by unfold VN fR;simp;omega) λO=>?_);refine sNt ?_;refine sA0 (sW (wN (h2 _ ?_)));refine Bt 3 V V V (λE=>(.any::.lit (.pointer (lW ⟨H,0,lV⟩))::.any::.lit (.pointer (lW ⟨E,0,lV⟩))::A20 (A8 []))) (λg=>(by(repeat(first|exact kQ|refine kR ?_|refine kO ?_|refine kP V ?_)))) λE=>?_
 refine nT ?_;refine Ab λK3 h3=>?_
 refine wS (sT (sT (sT (sT (wN ?_)))));refine Ac ?_;refine AB (λr:Nat×List Nat×List eQ=>⟨(.any::.lit (.pointer (lW ⟨H,0,lV⟩))::.any::.lit (.pointer (lW ⟨E,0,lV⟩))::A8 (.lit (.int .i64 (f.blocks.length:Int))::.lit (.int .i64 (r.1:Int))::A10 (A8 []))),[.res (Bk r.2.1),.res (Be H (Ak f)),.res (Gh 27 O f.blocks.length r.2.2 r.2.2 (GM f r.1)),.res (Be E [.lit (.slice (lW ⟨O,0,lV⟩) f.blocks.length f.blocks.length)])]⟩) (λr=>r.1<=f.blocks.length) (λr=>f.blocks.length - r.1) (0,[],jP f.blocks.length (.slice lV 0 0)) (lM _) AS ?_;rintro⟨n,ds,vs⟩ I;have I:n<=f.blocks.length:=I;try dsimp only
 refine wS (sT (wN ?_));refine Ab λK7 h7=>?_
 refine Ag V (λac=>?_) (λac=>?_)
 ·have ak:n < f.blocks.length:=by have:=of_decide_eq_true ac;omega
  have an:wfI .i64 (n:Int):=by
   simp[wfI,cG,bZ,bY,b9,bW];omega
  have ah:bX.wrap ((n:Int)+1)=((n+1:Nat):Int):=by rw[cA _ (by omega)];rfl
  refine Al (h7 _ ?_);refine Ab λK9 h9=>?_
  refine Ac ?_;refine wS (sT (sA0 (sW (wN ?_))));refine Bt 4 V V V (λY=>(.any::.lit (.pointer (lW ⟨H,0,lV⟩))::.any::.lit (.pointer (lW ⟨E,0,lV⟩))::.lit (.pointer (lW ⟨Y,0,lV⟩))::A7 (.lit (.int .i64 (f.blocks.length:Int))::.lit (.int .i64 (n:Int))::A10 (A8 [])))) (λg=>(by(repeat(first|exact kQ|refine kR ?_|refine kO ?_|refine kP V ?_)))) λY=>?_
  refine nT ?_;refine wRK λav ap=>?_
  refine sA (hq:=BX (i:=1) V V V V V) (hk:=sT ?_);refine AC V (Cr V (Yp f n) (λ_=>rfl) V V λp=>?_);refine sNt (hk:=Au (ap _ ?_));refine Ac ?_;refine AE ⟨(.any::.lit (.pointer (lW ⟨H,0,lV⟩))::.any::.lit (.pointer (lW ⟨E,0,lV⟩))::.lit (.pointer (lW ⟨Y,0,lV⟩))::A7 (.lit (.int .i64 (f.blocks.length:Int))::.lit (.int .i64 (n:Int))::A4 (.lit (goF p)::A10 (A3 [])))),[.res (Bk ds),.res (Be H (Ak f)),.res (Gh 27 O f.blocks.length vs vs (GM f n)),.res (Be E [.lit (.slice (lW ⟨O,0,lV⟩) f.blocks.length f.blocks.length)]),.res (Be Y [.lit (.int .i64 (n:Int))]),.res (goR f n p)]⟩ AS ?_;refine Hx (J:=List eQ) 5 0 (λk vs=>[.dead,.res (Be H (Ak f)),.res (Gh 27 O f.blocks.length vs vs (KP n ((G6 f n).take k) (GM f n))),.res (Be E [.lit (.slice (lW ⟨O,0,lV⟩) f.blocks.length f.blocks.length)]),.res (Be Y [.lit (.int .i64 (n:Int))]),.dead]) vs aj V (by decide) V V V ?_ V (λ_ _=>rfl) (λ_ _=>rfl) V (λk _ _ ⟨_,h,_⟩=>h▸⟨rfl,rfl⟩) (Uw f n hl hi p) ?_ ?_
  ·exact⟨.dead (.cons (.cons (.cons (.cons (.dead (.nil _)))))),λb' ad=>gI.1 (show bdH [.dead,.res (Be H (Ak f)),.res (Gh 27 O f.blocks.length vs vs (GM f n)),.res (Be E [.lit (.slice (lW ⟨O,0,lV⟩) f.blocks.length f.blocks.length)]),.res (Be Y [.lit (.int .i64 (n:Int))]),.dead]=aZ from V) b' ad⟩
  ·rintro k vs _ _ ⟨hk,rfl,rfl⟩ C' ar;obtain⟨x,hx⟩:∃x,(G6 f n)[k]? =lW x:=⟨_,iH (by unfold nextL at hk;rwa [iV]at hk)⟩
   have am:goE f n k= [.lit (.int .i64 (Fm x))]:=by
    unfold goE nextL;rw[iB,iK,hx];rfl
   have ai:KP n ((G6 f n).take (k+1)) (GM f n)=Aci n (KP n ((G6 f n).take k) (GM f n)) x:=by rw[jS,hx];exact Abl _ _ _ _
   rw[am,ai];obtain⟨ls,ab⟩:∃ls,ls=KP n ((G6 f n).take k) (GM f n):=⟨_,rfl⟩
   have al:ls.length=f.blocks.length:=by rw[ab,Nx,F8]
   have aq:=x.2;have hz:inZ f.blocks.length (Fm x)=aZ:=by
    unfold inZ Fm;simp;exact x.2
   have Z:Cm ls (Fm x)=aZ:=BL.2 ⟨by unfold Fm;omega,by rw[al];unfold Fm;omega⟩;have ao:Fj ((ixD ls (Fm x)).length+ [(n:Int)].length) 8=aZ:=by
    have h1:=SC ((G6 f n).take k) (Sv f n) _ (by rw[<-ab];exact jE (BS Z));have h2:((G6 f n).take k).length<=2:=lC (by rw[iZ];omega) (LI f n);unfold Fj fR;simp only[zaf,zai];omega
   rw[<-ab];refine C3 (t':=(.any::.lit (.pointer (lW ⟨H,0,lV⟩))::.any::.lit (.pointer (lW ⟨E,0,lV⟩))::.lit (.pointer (lW ⟨Y,0,lV⟩))::A7 (.lit (.int .i64 (f.blocks.length:Int))::.lit (.int .i64 (n:Int))::A4 (.lit (goF p)::.lit (.int .i64 (Fm x))::A10 (A2 []))))) (h':=[.dead,.res (Be H (Ak f)),.res (Gh 27 O f.blocks.length vs vs ls),.res (Be E [.lit (.slice (lW ⟨O,0,lV⟩) f.blocks.length f.blocks.length)]),.res (Be Y [.lit (.int .i64 (n:Int))]),.dead]) V V ?_;refine wSE (sT (wN ?_));refine An λC2 au=>?_
   refine Ac ?_;have ag:Cm (ls.set (Fm x).toNat (ixD ls (Fm x)++[(n:Int)])) (Fm x)=aZ:=BL.2 ⟨(BL.1 Z).1,by rw[iY];exact(BL.1 Z).2⟩;refine AE ⟨[.any,.lit (.pointer (lW ⟨H,0,lV⟩)),.any,.lit (.pointer (lW ⟨E,0,lV⟩)),.lit (.pointer (lW ⟨Y,0,lV⟩)),.lit (.int .i64 (Fm x)),.any,.any,.any,.any,.any,.any,.lit (.int .i64 (f.blocks.length:Int)),.lit (.int .i64 (n:Int)),.any,.any,.any,.any,.lit (goF p),.lit (.int .i64 (Fm x)),.any,.any,.any,.any,.any,.any,.any,.any,.any,.any,.any,.any],[.dead,.res (Be H (Ak f)),.res (Gh 27 O f.blocks.length vs vs ls),.res (Be E [.lit (.slice (lW ⟨O,0,lV⟩) f.blocks.length f.blocks.length)]),.res (Be Y [.lit (.int .i64 (n:Int))]),.dead]⟩ AS ?_;refine Ff (n:=11) undef (λ(i:eQ) (b:Nat->Bool)=>⟨[.any,.lit (.pointer (lW ⟨H,0,lV⟩)),.any,.lit (.pointer (lW ⟨E,0,lV⟩)),.lit (.pointer (lW ⟨Y,0,lV⟩)),.lit (.int .i64 (Fm x)),.any,.any,.any,.any,.any,.any,.lit (.int .i64 (f.blocks.length:Int)),.lit (.int .i64 (n:Int)),.any,.any,.any,.any,.lit (goF p),.lit (.int .i64 (Fm x)),(bif b 0 then .lit (.slice (lW ⟨O,0,lV⟩) f.blocks.length f.blocks.length)else .any),(bif b 1 then .lit (.int .i64 (Fm x))else .any),(bif b 2 then .lit (.slice (lW ⟨O,0,lV⟩) f.blocks.length f.blocks.length)else .any),(bif b 3 then .lit (.int .i64 (Fm x))else .any),(bif b 4 then .lit (.pointer (lW ⟨O,(Fm x).toNat,lV⟩))else .any),(bif b 5 then .lit (vs.getD (Fm x).toNat undef)else .any),(bif b 6 then .lit (.int .i64 (n:Int))else .any),(bif b 7 then .bs tInt [(n:Int)]else .any),(bif b 8 then .lit i else .any),(bif b 9 then .lit (.pointer (lW ⟨O,(Fm x).toNat,lV⟩))else .any),.any,.any],[.dead,.res (Be H (Ak f)),(bif b 10 then(j7 (Gh 27 O f.blocks.length (vs.set (Fm x).toNat i) (vs.set (Fm x).toNat i) (ls.set (Fm x).toNat (ixD ls (Fm x)++[(n:Int)]))))else(bif b 8 then(j7 (Gh 27 O f.blocks.length vs (vs.set (Fm x).toNat i) (ls.set (Fm x).toNat (ixD ls (Fm x)++[(n:Int)]))))else .res (Gh 27 O f.blocks.length vs vs ls))),.res (Be E [.lit (.slice (lW ⟨O,0,lV⟩) f.blocks.length f.blocks.length)]),.res (Be Y [.lit (.int .i64 (n:Int))]),.dead]⟩) ?_ ?_ ?_ ?_ ?_
   ·rfl
   ·kernel_rfl
   ·kernel_rfl
   ·refine AK (λi b I X hc=>?_) ?_
    ·try dsimp only
     refine AX (AY (i:=3) (g:=E) V FF V V V) ?_;exact⟨i,kT⟩
    refine AK (λi b I X hc=>?_) ?_
    ·try dsimp only
     refine AX (AT.move V Fq) ?_;exact⟨i,kT⟩
    refine AK (λi b I X hc=>?_) ?_
    ·try dsimp only
     refine AX (AY (i:=3) (g:=E) V FF V V V) ?_;exact⟨i,kT⟩
    refine AK (λi b I X hc=>?_) ?_
    ·try dsimp only
     refine AX (AT.move V Fq) ?_;exact⟨i,kT⟩
    refine AK (λi b I X hc=>?_) ?_
    ·have h2:b 2=aZ:=X 0 _ V V;have h3:b 3=aZ:=X 1 _ V V;try dsimp only
     refine AX (NA V ((Ao (Ao Iy)).trans (BJ h2 _ _)) ((Ao (Ao Hd)).trans (BJ h3 _ _)) hz) ?_;exact⟨i,kT⟩
    refine AK (λi b I X hc=>?_) ?_
    ·have h4:b 4=aZ:=X 0 _ V V;have aa:b 10=aS:=AW hc (i:=5) (j:=10) (k:=8) V V V V I;have h8:b 8=aS:=AW hc (i:=5) (j:=8) (k:=0) V V V V I;try dsimp only
     refine AX (SJ (i:=2) V ((Ao (Ao (Ao IG))).trans (BJ h4 _ _)) (congrArg lW ((CT aa _ _).trans (CT h8 _ _))) Z) ?_;exact⟨i,kT⟩
    refine AK (λi b I X hc=>?_) ?_
    ·try dsimp only
     refine AX (AY (i:=4) (g:=Y) V GO V V V) ?_;exact⟨i,kT⟩
    refine AK (λi b I X hc=>?_) ?_
    ·have h6:b 6=aZ:=X 0 _ V V;try dsimp only
     refine AX (Cg (T:=tInt) V V V (by rfl) (by decide) (Fit.of_eq ((Ao (Ao (Ao FG))).trans (BJ h6 _ _)) (Fit.int an))) ?_;exact⟨i,kT⟩
    refine AK (λi b I X hc=>?_) ?_
    ·have h5:b 5=aZ:=X 0 _ V V;have h7:b 7=aZ:=X 1 _ V V;have aa:b 10=aS:=AW hc (i:=8) (j:=10) (k:=1) V V V V I;have ae:upd b 8 10=aS:=aa;try dsimp only
     refine VL (i:=2) V RT.eq ((Ao (Ao (Ao GP))).trans (BJ h5 _ _)) (congrArg lW ((CT aa _ _).trans (CT I _ _))) ((Ao (Ao (Ao FF))).trans (BJ h7 _ _)) Z ao λv=>?_
     refine⟨v,?_⟩;simp only[aa,ae,cond_false];exact kT
    refine AK (λi b I X hc=>?_) ?_
    ·have h0:b 0=aZ:=X 0 _ V V;have h1:b 1=aZ:=X 1 _ V V;try dsimp only
     refine AX (NA V ((Ao (Ao GO)).trans (BJ h0 _ _)) ((Ao (Ao Fq)).trans (BJ h1 _ _)) hz) ?_;exact⟨i,kT⟩
    refine AK (λi b I X hc=>?_) ?_
    ·have h8:b 8=aZ:=X 1 _ V V;have h9:b 9=aZ:=X 0 _ V V;try dsimp only
     refine Xu (i:=2) V ((Ao (Ao (Ao Fq))).trans (BJ h9 _ _)) ((Ao (Ao (Ao GO))).trans (BJ h8 _ _)) (congrArg lW ((CT I _ _).trans (Sp h8 _ _))) ag ?_;refine⟨i,?_⟩;exact kT
    exact No
   intro i;refine qVia ⟨[.any,.lit (.pointer (lW ⟨H,0,lV⟩)),.any,.lit (.pointer (lW ⟨E,0,lV⟩)),.lit (.pointer (lW ⟨Y,0,lV⟩)),.lit (.int .i64 (Fm x)),.any,.any,.any,.any,.any,.any,.lit (.int .i64 (f.blocks.length:Int)),.lit (.int .i64 (n:Int)),.any,.any,.any,.any,.lit (goF p),.lit (.int .i64 (Fm x)),.lit (.slice (lW ⟨O,0,lV⟩) f.blocks.length f.blocks.length),.lit (.int .i64 (Fm x)),.lit (.slice (lW ⟨O,0,lV⟩) f.blocks.length f.blocks.length),.lit (.int .i64 (Fm x)),.lit (.pointer (lW ⟨O,(Fm x).toNat,lV⟩)),.lit (vs.getD (Fm x).toNat undef),.lit (.int .i64 (n:Int)),.bs tInt [(n:Int)],.lit i,.lit (.pointer (lW ⟨O,(Fm x).toNat,lV⟩)),.any,.any],[.dead,.res (Be H (Ak f)),.res (Gh 27 O f.blocks.length (vs.set (Fm x).toNat i) (vs.set (Fm x).toNat i) (ls.set (Fm x).toNat (ixD ls (Fm x)++[(n:Int)]))),.res (Be E [.lit (.slice (lW ⟨O,0,lV⟩) f.blocks.length f.blocks.length)]),.res (Be Y [.lit (.int .i64 (n:Int))]),.dead]⟩ V ?_;exact⟨rfl,vs.set (Fm x).toNat i,⟨.cons (.cons (.cons (.cons (.cons (.cons (.nil _)))))),λb' ad=>gI.1 (show bdH [.dead,.res (Be H (Ak f)),.res (Gh 27 O f.blocks.length (vs.set (Fm x).toNat i) (vs.set (Fm x).toNat i) (Aci n ls x)),.res (Be E [.lit (.slice (lW ⟨O,0,lV⟩) f.blocks.length f.blocks.length)]),.res (Be Y [.lit (.int .i64 (n:Int))]),.dead]=aZ from V) b' ad⟩⟩
  ·rintro kN rfl vs D;rw[show(G6 f n).take (nextL f n).length=G6 f n by unfold nextL;rw[iV,jU]];refine h9 _ ?_;refine C3 (t':=(.any::.lit (.pointer (lW ⟨H,0,lV⟩))::.any::.lit (.pointer (lW ⟨E,0,lV⟩))::.lit (.pointer (lW ⟨Y,0,lV⟩))::A7 (.lit (.int .i64 (f.blocks.length:Int))::.lit (.int .i64 (n:Int))::A4 (.lit (goF p)::A10 (A3 []))))) (h':=[.res (Bk (D::ds)),.res (Be H (Ak f)),.res (Gh 27 O f.blocks.length vs vs (GM f (n+1))),.res (Be E [.lit (.slice (lW ⟨O,0,lV⟩) f.blocks.length f.blocks.length)]),.res (Be Y [.lit (.int .i64 (n:Int))]),.dead]) V V ?_;refine wSE (sT ?_);rw[ah];refine sT (wN ?_);exact An ⟨(n+1,D::ds,vs),ak,by show f.blocks.length - (n+1) < f.blocks.length - n;omega,Ki (.cons (.cons (.cons (.cons (Cut.nil _)))))⟩
 ·obtain rfl:n=f.blocks.length:=by have:=of_decide_eq_false ac;omega
  refine Ay (h3 _ ?_);refine wS (sT (sT (wN ?_)));refine AE _ (Xn hC 2 2 V V) ?_;exact Aw ⟨.inr V,ds,rfl,rfl,Fin.cl V⟩
end Mu
