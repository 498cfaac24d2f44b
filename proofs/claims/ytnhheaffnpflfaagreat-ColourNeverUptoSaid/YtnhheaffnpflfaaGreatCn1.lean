/-
  Lemmas for N, part 1.
  Conditions: as each lemma says.
-/
import Derived.Lib.Hide
import Derived.ProofKit
import Derived.Test.YtnhheaffnpflfaaGreatRows
import Derived.StillTail
import Derived.Deep.AppendLies
import Derived.Deep.OwnRows
import Derived.Shelf.Small.Bits
import Derived.Shelf.Small.Wraps
import Derived.Shelf.Sort.Plain
import Derived.Shelf.Slices.Turned
import Derived.Shelf.Slices.Clone
import Derived.Shelf.Slices.SearchI
import Derived.Shelf.Slices.Cells
import Derived.Shelf.Slices.In.SortNone
import Derived.Sort.OwnSortedInts
import Derived.Deep.RegionHeld3
import Derived.Laws.AppendOwnNone
import Derived.WalkSpells
import Derived.RangeFuncNested
import Derived.RangeFuncBound
import Derived.Deep.Upon
set_option maxRecDepth 100000
set_option maxHeartbeats 2000000
set_option linter.unusedSimpArgs false
set_option linter.unusedVariables false
open Array renaming getD_eq_getD_getElem?->aA,getElem?_eq_getElem->aB,getElem?_eq_some_iff->aC,mem_append->aD,mem_toList_iff->aE,replicate->aF,setIfInBounds_comm->aG,toList_append->aH,toList_map->aI,toList_replicate->aJ,toList_setIfInBounds->aK
open Bool renaming and_eq_true->aL,false->aM,false_eq_true->aN,or_eq_true->aO,true->aP,true_eq_false->aR
open Classical renaming choose->aS,choose_spec->aT
open Decidable renaming decide->aU
open Go renaming Addr->aV,Calls->a8,Code->bA,Deferred->bB,Exit->bC,Func->bE,FuncId->bF,HeadInv->bG,IntKind->bR,LeavesInM->bS,LetsOut->bT,Oper->bZ,Operand->cF,Program->cG,Result->dV,TypeId->eA,TypeInfo->eB,Value->eC,World->eG,callFunc->eO,callsIn_wide->eP,calls_of_wp->eQ,execOp->eR,getD_both->eS,getD_in->eT,getD_replicate_false->eU,getD_set_ne->eV,getD_set_true->eW,grownBy_sortedI->eX,heap_alloc_new->eY,invoke->eZ,madeCells->fA,maxLen->fB,mem_ready->fC,ownsRow_sortedI->fD,ready_mono->fE,resolve->fF,results_tmp->fG,run_underlying->fH,setRow_heap->fI,setRow_other->fJ,sizeOf->fK,sliced->fL,typeInfo->fM,wpList->fN,zeroValue->fO
open Go.Addr renaming add->aW
open Go.Builtin renaming append_->aX,firstCells->aY,lenOf->aZ,len_->a6
open Go.Call renaming operands->a7
open Go.Fence renaming wide->bD
open Go.Instr renaming alloc->bH,buildSlice->bI,fieldAt->bJ,fill->bK,indexAt->bL,loadAt->bM,sliceAt->bN,storeAt->bO,sureAddr->bP
open Go.Lib renaming compact->bU,compactUpTo->bV,hid->bW,keeps->bX
open Go.Op renaming operands->bY
open Go.Oper renaming apart_spec->b9,semAt_eq->cA,upon->cB,uponIn->cC,wp->cD,wp_mono->cE
open Go.Proofs.Tryz renaming func44->cH,func60->cI,func61->cJ,func79->cL,isAgg0->cM,isAgg27->cN,isAgg3->cO,isAgg4->cP,ntmps44->cQ,ntmps60->cR,ntmps61->cT,ntmps79->cU,prog->cV,sizeOf0->cW,sizeOf27->cX,sizeOf3->cY,sizeOf4->cZ,underlying0->dA,underlying27->dB,underlying3->dC,underlying4->dD,underlying45->dE,underlying5->dF,underlying9->dG,zeroValue0->dH,zeroValue27->dI,zeroValue3->dJ,zeroValue4->dK
open Go.Region renaming Mode->dL,binds->dM,free->dN,free_spec->dO,lexHead->dP,noSelect->dQ,ready->dR,seqB->dT,wanted->dU
open Go.RowKit.Below renaming refl->dW
open Go.Sem renaming run_bind->dX,run_pure->dY
open Go.Shelf renaming Ren->dZ
open Go.Value renaming int->eD,oneCell'->eE,ownBlock->eF
open Go.World renaming cell?->eH,cell?_of_block->eI,ownsRow_nil->eM,putObj_heap_other->eN
open Go.World.grownBy renaming refl->eJ
open Go.World.ownsRow renaming cells->eK,lt->eL
open List renaming all_eq_true->fP,append_nil->fQ,cons_append->fS,drop_append_of_le_length->fT,drop_eq_nil_of_le->fU,drop_zero->fV,eq_nil_of_length_eq_zero->fW,eq_of_mem_replicate->fX,ext_getElem?->fY,filterMap_cons->fZ,getD->gB,getElem?_append_left->gC,getElem?_append_right->gD,getElem?_concat_length->gE,getElem?_cons_zero->gF,getElem?_drop->gG,getElem?_eq_getElem->gH,getElem?_eq_none->gI,getElem?_eq_some_iff->gJ,getElem?_map->gK,getElem?_replicate->gL,getElem?_set_ne->gN,getElem?_set_self->gO,getElem?_take->gP,getElem?_take_of_lt->gQ,getElem_mem->gR,length_append->gT,length_cons->gU,length_map->gV,length_nil->gW,length_take->gX,map_cons->gY,map_nil->gZ,mem_append->g8,mem_cons->g9,mem_cons_of_mem->hZ,mem_filter->iA,mem_iff_getElem?->iB,mem_map->iC,mem_of_getElem?->iD,mem_range->iE,mem_toArray->iF,nil_append->iG,not_mem_nil->iH,range->iI,replicate->iJ,set_cons_succ->iK,set_cons_zero->iL,size_toArray->iM,take_add_one->iN,take_append_drop->iO,take_append_of_le_length->iP,take_length->iQ,take_of_length_le->iR,take_succ_eq_append_getElem->iS,take_take->iT,take_zero->iU,toArray->iV,zipIdx_cons->iW
open List.cons renaming injEq->fR
open Nat renaming add_assoc->iX,add_comm->iY,add_mul->iZ,eq_zero_or_pos->i6,le_max_left->i7,le_max_right->i8,le_of_not_lt->i9,le_refl->jA,le_trans->jB,lt_of_lt_of_le->jC,lt_or_ge->jD,min_eq_left->jE,mul_le_mul_left->jF,mul_le_mul_right->jG,mul_one->jH,mul_pos->jI,one_mul->jJ,strongRecOn->jK,succ_mul->jL,zero_add->jM,zero_le->jN
open Ne renaming symm->jO
open Option renaming bind_eq_some_iff->jP,map_eq_some_iff->jQ,map_some->jR,none->jS,some->jT
open Option.some renaming inj->jU,injEq->jV
abbrev Mu.zax:=And.intro @Go.Value.slice.injEq (@and_true)
abbrev Mu.zas:=And.intro @aL (@Bool.not_eq_true')
abbrev Mu.zao.{u}:=And.intro @aH.{u} (And.intro @aJ.{u} (@iM.{u}))
abbrev Mu.zaa.{u}:=And.intro @gU.{u} (And.intro @gW.{u} (And.intro @List.replicate_succ.{u} (And.intro @List.replicate_zero.{u} (And.intro @fS.{u} (@iG.{u})))))
abbrev Mu.zan:=And.intro @Go.Sem.run_bind (And.intro @Go.Sem.run_pure (@Go.Result.andThen_ok))
abbrev Mu.zaw:=And.intro @Go.Sem.run_bind (And.intro @Go.Result.andThen_ok (@Go.Sem.run_pure))
abbrev Mu.zar:=And.intro @Go.Sem.run_bind (And.intro @Go.run_program (And.intro @Go.Result.andThen_ok (@Go.Sem.run_pure)))
abbrev Mu.zak.{u}:=And.intro @g9.{u} (@iH.{u})
abbrev Mu.zag:=And.intro @aL (@decide_eq_true_eq)
abbrev Mu.zau:=And.intro @aO (@decide_eq_true_eq)
abbrev Mu.zac.{u}:=And.intro @iL.{u} (@iK.{u})
abbrev Mu.zab.{u}:=And.intro @iG.{u} (And.intro @fS.{u} (And.intro @iL.{u} (And.intro @iK.{u} (And.intro @gW.{u} (@gU.{u})))))
abbrev Mu.zad.{u}:=And.intro @List.take_succ_cons.{u} (And.intro @iU.{u} (And.intro @List.drop_succ_cons.{u} (And.intro @fV.{u} (And.intro @List.take_nil.{u} (@List.drop_nil.{u})))))
abbrev Mu.zaq.{u}:=And.intro @List.getElem?_toArray.{u} (@List.getElem?_cons_succ.{u})
abbrev Mu.zaj.{u}:=And.intro @cond_true.{u} (@beq_self_eq_true.{u})
theorem Mu.V.{u}{α:Sort u}{a:α}:a=a:=rfl
namespace Mu
variable{c:Bool}{n:Nat}{p:Bool}
structure M(α:Type) where
 run:Nat->Option α
 mono:∀n a,run n=some a->run (n+1)=some a
namespace M
variable{α β σ ρ:Type}
def to(x:M α)(a:α):Prop:=∃n,x.run n=jT a
theorem le(x:M α){m:Nat}{a:α}(h:n<=m)(hx:x.run n=jT a):x.run m=jT a:=by
 induction h with
 |refl=>exact hx
 |step _ b=>exact x.mono _ _ b
theorem to_inj{x:M α}{a b:α}(h:x.to a)(k:x.to b):a=b:=by
 obtain⟨n,d⟩:=h;obtain⟨m,e⟩:=k;have h1:=x.le (i7 n m) d;have h2:=x.le (i8 n m) e;rw[h1]at h2;exact jU h2
def ok(a:α):M α:=⟨λ_=>jT a,λ_ _ h=>h⟩
def no:M α:=⟨λ_=>jS,λ_ _ h=>h⟩
def bnd(x:M α)(f:α->M β):M β:=⟨λn=>(x.run n).bind λa=>(f a).run n,λn b h=>by
 cases hx:x.run n with
 |none=>rw[hx]at h;cases h
 |some a=>
  rw[hx]at h;rw[x.mono _ _ hx];exact(f a).mono _ _ h⟩
def chk(p:Bool)(x:M α):M α:=bif p then x else no
def cnd(c:Bool)(x y:M α):M α:=bif c then x else y
def whn(c:Bool)(d:α)(x:M α):M α:=bif c then x else ok d
def els(x:M (α⊕β))(f:α->M β):M β:=bnd x fun| .inl a=>f a| .inr b=>ok b
def loopR(step:σ->M (σ⊕ρ))(n:Nat):Nat->σ->Option ρ
 |0,_=>jS
 |k+1,s=>((step s).run n).bind fun| .inl s'=>loopR step n k s'| .inr r=>jT r
theorem loopR_mono{step:σ->M (σ⊕ρ)}{n:Nat}{r:ρ}:∀{k:Nat} {s:σ},loopR step n k s=jT r->loopR step (n+1) (k+1) s=jT r
 |0,_,h=>by cases h
 |k+1,s,h=>by
  unfold loopR at h⊢;cases hx:(step s).run n with
  |none=>rw[hx]at h;cases h
  |some x=>
   rw[hx]at h;rw[(step s).mono _ _ hx];cases x with
   |inl s'=>exact loopR_mono (k:=k) h
   |inr a=>exact h
def loop(step:σ->M (σ⊕ρ))(s:σ):M ρ:=⟨λn=>loopR step n n s,λ_ _ h=>loopR_mono h⟩
theorem to_ok{a b:α}:(ok a).to b↔a=b:=⟨λ⟨_,h⟩=>jU h,λh=>⟨0,congrArg jT h⟩⟩
theorem ok_to(a:α):(ok a).to a:=to_ok.2 V
theorem to_no{a:α}:¬(no:M α).to a:=λ⟨_,h⟩=>by cases h
theorem to_bnd{x:M α}{f:α->M β}{b:β}:(bnd x f).to b↔∃a,x.to a/\(f a).to b:=by
 constructor
 ·rintro⟨n,h⟩;have h:(x.run n).bind (λa=>(f a).run n)=jT b:=h;cases hx:x.run n with
  |none=>rw[hx]at h;cases h
  |some a=>
   rw[hx]at h;exact⟨a,⟨n,hx⟩,⟨n,h⟩⟩
 ·rintro⟨a,⟨n,d⟩,⟨m,e⟩⟩;refine⟨max n m,?_⟩;show(x.run (max n m)).bind _=_;rw[x.le (i7 n m) d];exact(f a).le (i8 n m) e
theorem bnd_to{x:M α}{f:α->M β}{a:α}{b:β}(h:x.to a)(k:(f a).to b):(bnd x f).to b:=to_bnd.2 ⟨a,h,k⟩
theorem to_chk{x:M α}{a:α}:(chk p x).to a↔p=aP/\x.to a:=by
 cases p
 ·exact⟨λh=>(to_no h).elim,λh=>by cases h.1⟩
 ·exact⟨λh=>⟨rfl,h⟩,λh=>h.2⟩
theorem chk_to{x:M α}{a:α}(h:p=aP)(k:x.to a):(chk p x).to a:=to_chk.2 ⟨h,k⟩
theorem to_t{x y:M α}{a:α}(hc:c=aP)(h:(cnd c x y).to a):x.to a:=by subst hc;exact h
theorem to_f{x y:M α}{a:α}(hc:c=aM)(h:(cnd c x y).to a):y.to a:=by subst hc;exact h
theorem t_to{x y:M α}{a:α}(hc:c=aP)(h:x.to a):(cnd c x y).to a:=by subst hc;exact h
theorem f_to{x y:M α}{a:α}(hc:c=aM)(h:y.to a):(cnd c x y).to a:=by subst hc;exact h
theorem to_whn{d:α}{x:M α}{a:α}(h:(whn c d x).to a)(hc:c=aP):x.to a:=by subst hc;exact h
theorem whn_t{d:α}{x:M α}{a:α}(hc:c=aP)(h:x.to a):(whn c d x).to a:=by subst hc;exact h
theorem whn_f{d:α}{x:M α}(hc:c=aM):(whn c d x).to d:=by subst hc;exact ok_to d
theorem to_els{x:M (α⊕β)}{f:α->M β}{b:β}(h:(els x f).to b):∃z,x.to z/\(∀a,z= .inl a->(f a).to b)/\∀b',z= .inr b'->b'=b:=by
 obtain⟨z,h1,h2⟩:=to_bnd.1 h;refine⟨z,h1,λa e=>?_,λb' e=>?_⟩
 ·subst e;exact h2
 ·subst e;exact to_ok.1 h2
theorem els_l{x:M (α⊕β)}{f:α->M β}{a:α}{b:β}(h:x.to (.inl a))(k:(f a).to b):(els x f).to b:=to_bnd.2 ⟨.inl a,h,k⟩
theorem els_r{x:M (α⊕β)}{f:α->M β}{b:β}(h:x.to (.inr b)):(els x f).to b:=to_bnd.2 ⟨.inr b,h,ok_to b⟩
inductive Rounds(step:σ->M (σ⊕ρ)):Nat->σ->ρ->Prop
 |out {k:Nat} {s:σ} {r:ρ}:(step s).to (.inr r)->Rounds step k s r
 |on {k:Nat} {s s':σ} {r:ρ}:(step s).to (.inl s')->Rounds step k s' r->Rounds step (k+1) s r
theorem rounds_of{step:σ->M (σ⊕ρ)}{n:Nat}{r:ρ}:∀{k:Nat} {s:σ},loopR step n k s=jT r->Rounds step k s r
 |0,_,h=>by cases h
 |k+1,s,h=>by
  unfold loopR at h;cases hx:(step s).run n with
  |none=>rw[hx]at h;cases h
  |some x=>
   rw[hx]at h;cases x with
   |inl s'=>exact .on ⟨n,hx⟩ (rounds_of (k:=k) h)
   |inr a=>cases h;exact .out ⟨n,hx⟩
theorem loop_unf{step:σ->M (σ⊕ρ)}{s:σ}{r:ρ}{x:σ⊕ρ}(h:(step s).to x)(i:∀s',x= .inl s'->(loop step s').to r)(g:∀a,x= .inr a->a=r):(loop step s).to r:=by
 obtain⟨n,hx⟩:=h;cases x with
 |inr a=>
  refine⟨n+1,?_⟩;show loopR step (n+1) (n+1) s=jT r;unfold loopR;rw[(step s).mono _ _ hx,<-g a V];rfl
 |inl s'=>
  obtain⟨m,e⟩:=i s' V;have e:loopR step m m s'=jT r:=e;have up:∀d,loopR step (m+d) (m+d) s'=jT r:=λd=>by
   induction d with
   |zero=>exact e
   |succ d b=>exact loopR_mono b
  refine⟨m+n+1,?_⟩;show loopR step (m+n+1) (m+n+1) s=jT r;unfold loopR;rw[(step s).le (by omega) hx];have f:∀{k q:Nat} {s:σ},loopR step q k s=jT r->loopR step (q+1) k s=jT r:=by
   intro k;induction k with
   |zero=>intro q s h;cases h
   |succ k b=>
    intro q s h;unfold loopR at h⊢;cases hx:(step s).run q with
    |none=>rw[hx]at h;cases h
    |some x=>
     rw[hx]at h;rw[(step s).mono _ _ hx];cases x with
     |inl s'=>exact b h
     |inr a=>exact h
  exact f (up n)
theorem loop_in{step:σ->M (σ⊕ρ)}{s s':σ}{r:ρ}(h:(step s).to (.inl s'))(k:(loop step s').to r):(loop step s).to r:=loop_unf h (λa e=>by cases e;exact k) λa e=>by cases e
theorem loop_out{step:σ->M (σ⊕ρ)}{s:σ}{r:ρ}(h:(step s).to (.inr r)):(loop step s).to r:=loop_unf h (λa e=>by cases e) λa e=>by cases e;rfl
theorem to_loop{step:σ->M (σ⊕ρ)}{s:σ}{r:ρ}:(loop step s).to r↔∃k,Rounds step k s r:=by
 constructor
 ·rintro⟨n,h⟩;exact⟨n,rounds_of h⟩
 ·rintro⟨k,h⟩;induction h with
  |out h=>exact loop_out h
  |on h _ a=>exact loop_in h a
theorem loop_for{step:σ->M (σ⊕ρ)}(F:Nat->σ)(n:Nat){r:ρ}(a:∀k,k < n->(step (F k)).to (.inl (F (k+1))))(b:(step (F n)).to (.inr r)):∀{j:Nat},j<=n->(loop step (F j)).to r:=by
 intro j g;obtain⟨d,rfl⟩:∃d,n=j+d:=⟨n - j,by omega⟩
 induction d generalizing j with
 |zero=>exact loop_out b
 |succ d f=>
  refine loop_in (a j (by omega)) (f (j:=j+1) ?_ ?_ ?_)
  ·intro k hk;exact a k (by omega)
  ·have e:j+1+d=j+(d+1):=by omega
   rw[e];exact b
  ·omega
theorem loop_inv{step:σ->M (σ⊕ρ)}(I:σ->Prop)(a:σ->Nat)(Q:ρ->Prop)(h:∀s,I s->∃x,(step s).to x/\(∀s',x= .inl s'->I s'/\a s' < a s)/\∀r,x= .inr r->Q r):∀s,I s->∃r,(loop step s).to r/\Q r:=by
 intro s;generalize k:a s=n;induction n using jK generalizing s with
 |_ n d=>
  intro e;obtain⟨x,h1,h2,i⟩:=h s e;cases x with
  |inr r=>exact⟨r,loop_out h1,i r V⟩
  |inl s'=>
   obtain⟨b,j⟩:=h2 s' V;obtain⟨r,g,f⟩:=d (a s') (by omega) s' V b;exact⟨r,loop_in h1 g,f⟩
end M
abbrev Aj:=@M.to_chk
abbrev Af:=@M.to_ok
abbrev Al:=@M.ok_to
abbrev Ag:=@M.chk_to
abbrev Ap:=@M.bnd_to
abbrev Ar:=@M.to_bnd
abbrev AM:=@M.t_to
abbrev AF:=@M.f_to
abbrev AK:=@M.to_t
abbrev AL:=@M.to_f
abbrev BX:=@M.whn_t
abbrev NL:=@M.to_loop
abbrev BZ:=@M.loop_for
abbrev XA:=@M.to_inj
abbrev CF:=@M.to_els
end Mu
namespace Mu
open Go Go.RowKit Go.ChangeShapes Go.WideShapes
variable{B:Nat}{P:cG}{S:Nat->Prop}{b:Nat}{cs:List eC}{fs:List Field}{o off:Nat}{t:eA}{w w':eG}
def Nl(w:eG)(b o:Nat)(cs:List eC):Prop:=∀j u,cs[j]? =jT u->w.cell? ⟨b,o+j,jS⟩=jT u
theorem Nl.keep(h:Nl w b o cs)(e:w'.heap[b]? =w.heap[b]?):Nl w' b o cs:=
 λj u d=>(eI (w:=w) (a:=⟨b,o+j,jS⟩) e).trans (h j u d)
structure Ty(α:Type) where
 size:Nat
 bulk:α->Nat
 RS:World->(Nat->Prop)->List Value->α->Prop
 len:∀{w S cs d},RS w S cs d->cs.length=size
 keepS:∀{w w':World} {S S':Nat->Prop} {cs d},RS w S cs d->(∀k,S k->w'.heap[k]? =w.heap[k]?)->(∀k,S k->S' k)->RS w' S' cs d
variable{α β:Type}
def Ty.R(T:Ty α)(w:eG)(B:Nat)(cs:List eC)(d:α):Prop:=T.RS w (λk=>k < B) cs d
theorem Ty.keep{T:Ty α}{a:Nat}{cs d}(h:T.R w B cs d)(e:∀k,k < B->w'.heap[k]? =w.heap[k]?)(f:B<=a):T.R w' a cs d:=
 T.keepS h e (λ_ hk=>jC hk f)
theorem Ay2{T:Ty α}{cs d}(h:T.RS w S cs d)(a:∀k,S k->k < B):T.R w B cs d:=T.keepS h (λ_ _=>rfl) a
theorem Ty.below{T:Ty α}{cs d}(h:T.R w B cs d)(a:Below B w w')(e:B<=w'.heap.size):T.R w' w'.heap.size cs d:=
 T.keep h a.block e
def Ty.AtS(T:Ty α)(w:eG)(S:Nat->Prop)(b o:Nat)(d:α):Prop:=S b/\∃cs,T.RS w S cs d/\Nl w b o cs
def Ty.At(T:Ty α)(w:eG)(B b o:Nat)(d:α):Prop:=T.AtS w (λk=>k < B) b o d
theorem Ty.AtS.keep{T:Ty α}{S':Nat->Prop}{d:α}(h:T.AtS w S b o d)(a:∀k,S k->w'.heap[k]? =w.heap[k]?)(e:∀k,S k->S' k):T.AtS w' S' b o d:=
 let ⟨h1,cs,h2,f⟩:=h
 ⟨e b h1,cs,T.keepS h2 a e,f.keep (a b h1)⟩
def Ty.int(k:bR):Ty Int where
 size:=1
 bulk:=λ_=>1
 RS:=λ_ _ cs d=>cs= [.int k d]/\(Lit.int k d).wf=aP
 len:=by rintro _ _ _ _ ⟨rfl,_⟩;rfl
 keepS:=λh _ _=>h
def Ty.bool:Ty Bool where
 size:=1
 bulk:=λ_=>1
 RS:=λ_ _ cs d=>cs= [.bool d]
 len:=by rintro _ _ _ _ rfl;rfl
 keepS:=λh _ _=>h
def VB:Ty ByteArray where
 size:=1
 bulk:=λs=>s.size+1
 RS:=λ_ _ cs d=>cs= [.string d]/\d.size<=fB
 len:=by rintro _ _ _ _ ⟨rfl,_⟩;rfl
 keepS:=λh _ _=>h
def D5(f:α->Nat):List α->Nat
 | []=>0
 |x::l=>f x+D5 f l
theorem Vj(f:α->Nat)(l m:List α):D5 f (l++m)=D5 f l+D5 f m:=by
 induction l with
 |nil=>simp[D5]
 |cons x l a=>simp only[fS,D5,a];omega
theorem Vi{f:α->Nat}{l:List α}{x:α}(h:x∈l):f x<=D5 f l:=by
 induction l with
 |nil=>cases h
 |cons y l a=>
  unfold D5;cases h with
  |head=>omega
  |tail _ h=>have:=a h;omega
theorem Eq{f:α->Nat}(a:∀x,1<=f x)(l:List α):l.length<=D5 f l:=by
 induction l with
 |nil=>simp[D5]
 |cons y l d=>unfold D5;have:=a y;simp only[gU];omega
def Ty.slice(T:Ty α):Ty (List α) where
 size:=1
 bulk:=λds=>D5 T.bulk ds+1
 RS:=λw S cs ds=>∃A c,cs= [.slice A ds.length c]/\ds.length<=c/\(c<=fB/\(A=jS->c=0))/\∀i d,ds[i]? =jT d->∃b o,A=jT ⟨b,o,jS⟩/\T.AtS w S b (o+i * T.size) d
 len:=by rintro _ _ _ _ ⟨A,c,rfl,_⟩;rfl
 keepS:=by
  rintro w w' S S' cs ds ⟨A,c,rfl,a,hc,hi⟩ f g;refine⟨A,c,rfl,a,hc,λi d e=>?_⟩;obtain⟨b,o,rfl,h⟩:=hi i d e;exact⟨b,o,rfl,h.keep f g⟩
theorem Ty.slice_nilS(T:Ty α)(w:eG)(S:Nat->Prop):T.slice.RS w S [.slice jS 0 0] []:=⟨jS,0,rfl,jA _,⟨jN _,λ_=>rfl⟩,by simp⟩
theorem Ty.slice_nil(T:Ty α)(w:eG)(B:Nat):T.slice.R w B [.slice jS 0 0] []:=T.slice_nilS w _
def Dt:Ty Unit where
 size:=0
 bulk:=λ_=>0
 RS:=λ_ _ cs _=>cs= []
 len:=by rintro _ _ _ _ rfl;rfl
 keepS:=λh _ _=>h
def Ty.cons(T:Ty α)(U:Ty β):Ty (α×β) where
 size:=T.size+U.size
 bulk:=λd=>T.bulk d.1+U.bulk d.2
 RS:=λw S cs d=>∃e a,cs=e++a/\T.RS w S e d.1/\U.RS w S a d.2
 len:=by
  rintro _ _ _ _ ⟨e,a,rfl,h1,h2⟩;rw[gT,T.len h1,U.len h2]
 keepS:=by
  rintro w w' S S' cs d ⟨e,a,rfl,h1,h2⟩ f g;exact⟨e,a,rfl,T.keepS h1 f g,U.keepS h2 f g⟩
def Ty.via(U:Ty β)(f:β->α)(g:α->β):Ty α where
 size:=U.size
 bulk:=λd=>U.bulk (g d)+1
 RS:=λw S cs d=>U.RS w S cs (g d)/\f (g d)=d
 len:=λh=>U.len h.1
 keepS:=λh a e=>⟨U.keepS h.1 a e,h.2⟩
def Gh{H:Type}:DataW H->Nat
 | .lit (.string bytes)=>bytes.length+1
 | .slice e a=>go e+go a+1
 | .agg d=>go d+1
 |_=>1
where go:List (DataW H)->Nat
 | []=>0
 |d::r=>Gh d+go r
theorem PU{H:Type}(l m:List (DataW H)):Gh.go (l++m)=Gh.go l+Gh.go m:=by
 induction l with
 |nil=>simp[Gh.go]
 |cons x l a=>simp only[fS,Gh.go,a];omega
structure Opens(P:Program)(t:TypeId)(T:Ty α):Prop where
 go:∀(H:Type) (enc:TypeId×Value->H) (w:World) (base:Nat) (spare:Nat->Bool) (held:Bool) (n:Nat) (cs:List Value) (x:DataW H×List MemPlace) (B:Nat),
  DataW.trod enc P w base spare held n t cs=some x->(∀p∈x.2,p.block < B)->∃d,T.R w B cs d/\T.bulk d<=Gh x.1
theorem Ph{k:bR}(ht:P.underlying t=jT (.int k)):Opens P t (Ty.int k):=by
 refine⟨λH enc=>?_⟩;intro w base a d n cs x B h _;obtain⟨m,rfl,rfl,e⟩:=DataW.trod_int ht h;exact⟨m,⟨rfl,e⟩,by simp[Ty.int,Gh]⟩
theorem Ui(ht:P.underlying t=jT .string):Opens P t VB:=by
 refine⟨λH enc=>?_⟩;intro w base a d n cs x B h _;obtain⟨s,rfl,rfl,e⟩:=DataW.trod_string ht h;refine⟨s,⟨rfl,e⟩,?_⟩;have:s.data.toList.length=s.size:=by rw[Array.length_toList];rfl
 show s.size+1<=s.data.toList.length+1;omega
theorem M9{base n:Nat}{a:aV}(h:w.cells? base a n=jT cs)(m:0 < n):a.spot=jS/\Nl w a.block a.off cs:=by
 obtain⟨v,r,d⟩:=World.cells?_some h;have g:a.spot=jS:=by
  have h0:=d 0 m;rw[show a.add 0=a from by simp[aW]]at h0;have l:cs[0]? =jT (cs[0]'(by omega)):=gH (by omega);rw[l]at h0;unfold eH at h0;split at h0
  ·split at h0
   ·cases h0
   ·rename_i f;cases e:a.spot with
    |none=>rfl
    |some z=>simp[e]at f
  ·cases h0
 refine⟨g,λj u i=>?_⟩;have q:j < n:=by
  have:=(gJ.1 i).1;omega
 have:=d j q;rw[i]at this;rw[<-this];congr 1;obtain⟨b,o,s⟩:=a;simp only at g;subst g;unfold aW;by_cases k:j=0 <;> simp[k]
theorem KY{e:eA}{T:Ty α}(ht:P.underlying t=jT (.slice e))(hC:P.cellsOf e=T.size)(J:0 < T.size)(he:Opens P e T):Opens P t T.slice:=by
 refine⟨λH enc=>?_⟩;intro w base q C n cs x B h hB;rcases DataW.trod_slice ht h with⟨rfl,rfl⟩|⟨a,len,cap,f,u,m,_,rfl,rfl,hb,hl,hm,Z,W,aa,ab⟩
 ·exact⟨[],T.slice_nil w B,by simp[Ty.slice,D5,Gh]⟩
 ·have z:∀i,i < len->∃d,(a.add (i * T.size)).spot=jS/\T.At w B (a.add (i * T.size)).block (a.add (i * T.size)).off d/\∃y,f[i]? =jT y/\T.bulk d<=Gh y.1:=by
   intro i hi;have A:=W i hi;have I:f[i]? =jT (f[i]'(by omega)):=gH (by omega);rw[I,hC]at A;obtain⟨G,h1,h2⟩:=jP.1 A;obtain⟨Q,r⟩:=M9 h1 J;obtain⟨d,K,F⟩:=he.go H enc w base q C m G _ B h2 (λp J=>hB p (by
    simp only[g8,List.mem_flatMap];exact .inr ⟨f[i]'(by omega),.inl (gR _),J⟩))
   refine⟨d,Q,⟨?_,G,K,r⟩,_,I,F⟩;have E:(a.add (i * T.size)).block=a.block:=by unfold aW;split <;> rfl
   rw[E];refine hB (.cell a.block a.off) ?_;simp only[g8];left;rw[hC];have v:0 < (f.length+u.length) * T.size:=jI (by omega) J;exact iC.2 ⟨0,by simpa using v,by simp⟩
  have L:∀k,k<=len->∃ds:List α,ds.length=k/\D5 T.bulk ds<=Gh.go ((f.take k).map (·.1))/\∀i d,ds[i]? =jT d->(a.add (i * T.size)).spot=jS/\T.At w B (a.add (i * T.size)).block (a.add (i * T.size)).off d:=by
   intro k;induction k with
   |zero=>exact λ_=>⟨[],rfl,by simp[D5],by simp⟩
   |succ k ih=>
    intro hk;obtain⟨ds,g,D,l⟩:=ih (by omega);obtain⟨d,Q,r,y,I,F⟩:=z k (by omega);refine⟨ds++[d],by simp[g],?_,?_⟩
    ·rw[iN,I,Vj];simp only[Option.toList_some,List.map_append,PU,gY,gZ,D5,Gh.go];omega
    ·intro i d' j;by_cases hi:i < k
     ·exact l i d' (by rwa [gC (by omega)]at j)
     ·have U:i=k:=by
       have:=(gJ.1 j).1;simp[g]at this;omega
      subst U;rw[gD (by omega),g]at j;simp at j;subst j;exact⟨Q,r⟩
  obtain⟨ds,g,D,l⟩:=L len (jA _);refine⟨ds,⟨jT a,cap,by rw[g],by omega,⟨hm,λe=>by cases e⟩,λi d K=>?_⟩,?_⟩
  ·have h0:∃Y,ds[0]? =jT Y:=by
    have:=(gJ.1 K).1;exact⟨ds[0]'(by omega),gH (by omega)⟩
   obtain⟨Y,X⟩:=h0;have O:=(l 0 Y X).1;obtain⟨b,o,s⟩:=a;have:s=jS:=by simpa[aW]using O
   subst this;refine⟨b,o,rfl,?_⟩;have:=(l i d K).2;rwa [add_plain]at this
  ·have N:f.take len=f:=iR (by omega);rw[N]at D;simp only[Ty.slice,Gh];omega
structure OpensF(P:Program)(fs:List Field)(off:Nat)(U:Ty β):Prop where
 go:∀(H:Type) (enc:TypeId×Value->H) (w:World) (base:Nat) (spare:Nat->Bool) (held:Bool) (n:Nat) (cs:List Value) (ys:List (DataW H×List MemPlace)) (B:Nat),
  cs.length=off+U.size->ys.length=fs.length->
  (∀(j:Nat) (f:Field),fs[j]? =some f->DataW.trod enc P w base spare held n f.type ((cs.drop f.offset).take (P.cellsOf f.type))=ys[j]?)->
  (∀p∈ys.flatMap (·.2),p.block < B)->∃d,U.R w B (cs.drop off) d/\U.bulk d<=Gh.go (ys.map (·.1))
theorem MQ:OpensF P [] off Dt:=by
 refine⟨λH enc=>?_⟩;intro w base a e n cs ys B d f _ _;refine⟨(),?_,jN _⟩;have:cs.length<=off:=by simp[Dt]at d;omega
 exact fU this
theorem B5{f:Field}{T:Ty α}{U:Ty β}(r:f.offset=off)(C:P.cellsOf f.type=T.size)(A:Opens P f.type T)(z:OpensF P fs (off+T.size) U):
 OpensF P (f::fs) off (T.cons U):=by
 refine⟨λH enc=>?_⟩;intro w base a h n cs ys B l i m q;match ys,i with
 |y::ys,i=>
  have h0:=m 0 f V;rw[r,C]at h0;simp only[gF]at h0;obtain⟨d,u,x⟩:=A.go H enc w base a h n _ y B h0 (λp k=>q p (by simp;exact .inl k));obtain⟨e,s,v⟩:=z.go H enc w base a h n cs ys B (by simp[Ty.cons]at l;omega) (by simpa using i)
   (λj g hg=>by have:=m (j+1) g (by simpa using hg);simpa using this) (λp k=>q p (by simp only[List.flatMap_cons,g8];exact .inr k))
  refine⟨(d,e),⟨_,_,?_,u,s⟩,?_⟩
  ·rw[<-List.drop_drop];exact(iO T.size (cs.drop off)).symm
  ·simp only[Ty.cons,gY,Gh.go];omega
theorem Jn{U:Ty β}{f:β->α}{g:α->β}(ht:P.underlying t=jT (.struct fs.toArray))(y:P.cellsOf t=U.size)(u:OpensF P fs 0 U)(e:∀b,g (f b)=b):
 Opens P t (U.via f g):=by
 refine⟨λH enc=>?_⟩;intro w base a i n cs x B h v;obtain⟨ys,m,_,rfl,l,k,r⟩:=DataW.trod_struct ht h;obtain⟨d,q,s⟩:=u.go H enc w base a i m cs ys B (by omega) (by simpa using k) (λj g hg=>r j g (by simpa using hg)) v;refine⟨f d,⟨?_,by rw[e]⟩,?_⟩
 ·rw[e];rw[fV]at q;exact q
 ·simp only[Ty.via,e,Gh];omega
end Mu
namespace Mu
open Go Go.RowKit
variable{A:Option aV}{B:Nat}{K K':Act->eG->Prop}{N:Nat->Prop}{Q':bC->Act->eG->Prop}{R:eC->eG->Prop}{α:Type}{T:Ty α}{a:Act}{c:bA}{cs:List eC}{ds:List α}{dst:Option Tmp}{e:eA}{f:bF}{g i id k:Nat}{o oi:bZ}{rd:Option Nat}{row:String}{tys:Array eA}{v:eC}{y:bA}{ρ:cF->eC}
structure Ins where
 op:Int
 d:Int
 a:Int
 b:Int
 n:Int
 f:Int
 args:List Int
 l1:Int
 l2:Int
structure Block where
 name:ByteArray
 ins:List Ins
structure Func where
 name:ByteArray
 args:Int
 regs:Int
 blocks:List Block
def tInt:Ty Int:=Ty.int .i64
def Et:Ty Ins:=
 ((Ty.int .u8).cons (tInt.cons (tInt.cons (tInt.cons ((Ty.int .u32).cons (tInt.cons (tInt.slice.cons (tInt.cons (tInt.cons Dt))))))))).via
  (λx=>⟨x.1,x.2.1,x.2.2.1,x.2.2.2.1,x.2.2.2.2.1,x.2.2.2.2.2.1,x.2.2.2.2.2.2.1,x.2.2.2.2.2.2.2.1,x.2.2.2.2.2.2.2.2.1⟩)
  (λi=>(i.op,i.d,i.a,i.b,i.n,i.f,i.args,i.l1,i.l2,()))
def Ct:Ty Block:=(VB.cons (Et.slice.cons Dt)).via (λx=>⟨x.1,x.2.1⟩) (λb=>(b.name,b.ins,()))
def Dg:Ty Func:=(VB.cons (tInt.cons (tInt.cons (Ct.slice.cons Dt)))).via (λx=>⟨x.1,x.2.1,x.2.2.1,x.2.2.2.1⟩) (λf=>(f.name,f.args,f.regs,f.blocks,()))
theorem Adt:Et.size=9:=rfl
theorem V8:Ct.size=2:=rfl
def wfI(k:bR)(n:Int):Prop:=(Lit.int k n).wf=aP
theorem Add{n:Int}(h:wfI .u8 n):0<=n/\n<=255:=by simpa[wfI,Lit.wf,IntKind.min,IntKind.max,IntKind.signed,IntKind.bits]using h
theorem DR{w:eG}{S:Nat->Prop}{d:Int}:tInt.RS w S cs d↔cs= [.int .i64 d]/\wfI .i64 d:=Iff.rfl
structure InsCells(w:World)(S:Nat->Prop)(cs:List Value)(x:Ins)(A:Option Addr)(c:Nat):Prop where
 cs:cs= [.int .u8 x.op,.int .i64 x.d,.int .i64 x.a,.int .i64 x.b,.int .u32 x.n,.int .i64 x.f,.slice A x.args.length c,.int .i64 x.l1,.int .i64 x.l2]
 op:wfI .u8 x.op
 d:wfI .i64 x.d
 a:wfI .i64 x.a
 b:wfI .i64 x.b
 n:wfI .u32 x.n
 f:wfI .i64 x.f
 l1:wfI .i64 x.l1
 l2:wfI .i64 x.l2
 args:tInt.slice.RS w S [.slice A x.args.length c] x.args
theorem IY{w:eG}{S:Nat->Prop}{x:Ins}:Et.RS w S cs x↔∃A c,InsCells w S cs x A c:=by
 constructor
 ·rintro⟨⟨_,_,rfl,⟨rfl,h0⟩,_,_,rfl,⟨rfl,h1⟩,_,_,rfl,⟨rfl,h2⟩,_,_,rfl,⟨rfl,s⟩,_,_,rfl,⟨rfl,r⟩,_,_,rfl,⟨rfl,q⟩,_,_,rfl,d,_,_,rfl,⟨rfl,m⟩,_,_,rfl,⟨rfl,l⟩,rfl⟩,_⟩;have j:=d;obtain⟨A,c,rfl,_⟩:=d;exact⟨A,c,rfl,h0,h1,h2,s,r,q,m,l,j⟩
 ·rintro⟨A,c,h⟩;obtain⟨rfl,h0,h1,h2,s,r,q,m,l,d⟩:=h;exact⟨⟨[_],_,rfl,⟨rfl,h0⟩,[_],_,rfl,⟨rfl,h1⟩,[_],_,rfl,⟨rfl,h2⟩,[_],_,rfl,⟨rfl,s⟩,[_],_,rfl,⟨rfl,r⟩,[_],_,rfl,⟨rfl,q⟩,[_],_,rfl,d,[_],_,rfl,⟨rfl,m⟩,[_],_,rfl,⟨rfl,l⟩,rfl⟩,rfl⟩
theorem Ob{w:eG}{S:Nat->Prop}{x:Block}:Ct.RS w S cs x↔∃A c,cs= [.string x.name,.slice A x.ins.length c]/\x.name.size<=fB/\Et.slice.RS w S [.slice A x.ins.length c] x.ins:=by
 constructor
 ·rintro⟨⟨_,_,rfl,⟨rfl,h0⟩,_,_,rfl,d,rfl⟩,_⟩;have h:=d;obtain⟨A,c,rfl,_⟩:=d;exact⟨A,c,rfl,h0,h⟩
 ·rintro⟨A,c,rfl,h0,d⟩;exact⟨⟨[_],_,rfl,⟨rfl,h0⟩,[_],_,rfl,d,rfl⟩,rfl⟩
theorem OI{w:eG}{S:Nat->Prop}{x:Func}:Dg.RS w S cs x↔∃A c,cs= [.string x.name,.int .i64 x.args,.int .i64 x.regs,.slice A x.blocks.length c]/\x.name.size<=fB/\wfI .i64 x.args/\wfI .i64 x.regs/\Ct.slice.RS w S [.slice A x.blocks.length c] x.blocks:=by
 constructor
 ·rintro⟨⟨_,_,rfl,⟨rfl,h0⟩,_,_,rfl,⟨rfl,h1⟩,_,_,rfl,⟨rfl,h2⟩,_,_,rfl,d,rfl⟩,_⟩;have h:=d;obtain⟨A,c,rfl,_⟩:=d;exact⟨A,c,rfl,h0,h1,h2,h⟩
 ·rintro⟨A,c,rfl,h0,h1,h2,d⟩;exact⟨⟨[_],_,rfl,⟨rfl,h0⟩,[_],_,rfl,⟨rfl,h1⟩,[_],_,rfl,⟨rfl,h2⟩,[_],_,rfl,d,rfl⟩,rfl⟩
open Go.Proofs
theorem DJ:Opens cV 3 tInt:=Ph dC
theorem Z5:Opens cV 27 tInt.slice:=KY dB (by kernel_rfl) (by decide) DJ
theorem Z4:Opens cV 47 Et:=
 Jn Tryz.underlying47 (by kernel_rfl)
  (B5 V (by kernel_rfl) (Ph dF) (B5 V (by kernel_rfl) DJ (B5 V (by kernel_rfl) DJ (B5 V (by kernel_rfl) DJ
   (B5 V (by kernel_rfl) (Ph dE) (B5 V (by kernel_rfl) DJ (B5 V (by kernel_rfl) Z5 (B5 V (by kernel_rfl) DJ
    (B5 V (by kernel_rfl) DJ MQ))))))))) (λ_=>rfl)
theorem Uh:Opens cV 63 Ct:=
 Jn Tryz.underlying63 (by kernel_rfl)
  (B5 V (by kernel_rfl) (Ui dG) (B5 V (by kernel_rfl) (KY Tryz.underlying48 (by kernel_rfl) (by decide) Z4) MQ)) (λ_=>rfl)
theorem WF:Opens cV 24 Dg:=
 Jn Tryz.underlying24 (by kernel_rfl)
  (B5 V (by kernel_rfl) (Ui dG) (B5 V (by kernel_rfl) DJ (B5 V (by kernel_rfl) DJ
   (B5 V (by kernel_rfl) (KY Tryz.underlying22 (by kernel_rfl) (by decide) Uh) MQ)))) (λ_=>rfl)
theorem LB{w:eG}{S:Nat->Prop}{n c:Nat}{x:α}(h:T.slice.RS w S [.slice A n c] ds)(hk:ds[k]? =jT x):
 ∃b o,A=jT ⟨b,o,jS⟩/\T.AtS w S b (o+k * T.size) x:=by
 obtain⟨j,d,e,_,_,hi⟩:=h;simp only[fR,zax]at e;obtain⟨rfl,_,_⟩:=e;exact hi k x hk
theorem TG{w:eG}{S:Nat->Prop}{n c:Nat}(h:T.slice.RS w S [.slice A n c] ds):n=ds.length/\n<=c/\c<=fB:=by
 obtain⟨j,d,e,h1,h2,_⟩:=h;simp only[fR,zax]at e;obtain⟨_,rfl,rfl⟩:=e;exact⟨rfl,h1,h2.1⟩
theorem Cn{w:eG}{S:Nat->Prop}(h:T.slice.RS w S [v] ds):∃A c,v= .slice A ds.length c:=by
 obtain⟨j,d,e,h1,h2,_⟩:=h;simp only[fR,and_true]at e;exact⟨j,d,e⟩
theorem TF{w:eG}{S:Nat->Prop}{n c:Nat}(h:T.slice.RS w S [.slice jS n c] ds):ds= []/\n=0/\c=0:=by
 obtain⟨j,d,e,h1,h2,_⟩:=h;simp only[fR,zax]at e;obtain⟨rfl,rfl,rfl⟩:=e;have:=h2.2 V;exact⟨fW (by omega),by omega,this⟩
theorem PS{w:eG}{b o:Nat}{l:List eC}(h:Nl w b o (v::l)):w.cell? ⟨b,o,jS⟩=jT v:=h 0 v V
theorem EI{w:eG}{b o:Nat}(h:Nl w b o cs)(j:Nat)(d:cs[j]? =jT v):w.cell? ⟨b,o+j,jS⟩=jT v:=h j v d
theorem L8{w:eG}{S:Nat->Prop}{n c:Nat}{ds:List Int}{x:Int}{d:bR}(h:(Ty.int d).slice.RS w S [.slice A n c] ds)(hk:ds[k]? =jT x):
 ∃b o,A=jT ⟨b,o,jS⟩/\S b/\w.cell? ⟨b,o+k,jS⟩=jT (.int d x)/\wfI d x:=by
 obtain⟨b,o,rfl,l,cs,⟨rfl,j⟩,hc⟩:=LB h hk;refine⟨b,o,rfl,l,?_,j⟩;have:=PS hc;rwa [show(Ty.int d).size=1 from V,jH]at this
structure InsAt(w:World)(S:Nat->Prop)(b o:Nat)(x:Ins)(A:Option Addr)(c:Nat):Prop where
 c0:w.cell? ⟨b,o,none⟩=some (.int .u8 x.op)
 c1:w.cell? ⟨b,o+1,none⟩=some (.int .i64 x.d)
 c2:w.cell? ⟨b,o+2,none⟩=some (.int .i64 x.a)
 c3:w.cell? ⟨b,o+3,none⟩=some (.int .i64 x.b)
 c4:w.cell? ⟨b,o+4,none⟩=some (.int .u32 x.n)
 c5:w.cell? ⟨b,o+5,none⟩=some (.int .i64 x.f)
 c6:w.cell? ⟨b,o+6,none⟩=some (.slice A x.args.length c)
 c7:w.cell? ⟨b,o+7,none⟩=some (.int .i64 x.l1)
 c8:w.cell? ⟨b,o+8,none⟩=some (.int .i64 x.l2)
 raw:InsCells w S [.int .u8 x.op,.int .i64 x.d,.int .i64 x.a,.int .i64 x.b,.int .u32 x.n,.int .i64 x.f,.slice A x.args.length c,.int .i64 x.l1,.int .i64 x.l2] x A c
theorem Agt{w:eG}{S:Nat->Prop}{n c:Nat}{ds:List Ins}{x:Ins}(h:Et.slice.RS w S [.slice A n c] ds)(hk:ds[k]? =jT x):
 ∃b o j d,A=jT ⟨b,o,jS⟩/\S b/\InsAt w S b (o+k * 9) x j d:=by
 obtain⟨b,o,rfl,m,cs,q,hc⟩:=LB h hk;obtain⟨j,d,l⟩:=IY.1 q;have e:=l.cs;subst e;rw[Adt]at hc;exact⟨b,o,j,d,rfl,m,PS hc,EI hc 1 V,EI hc 2 V,EI hc 3 V,EI hc 4 V,EI hc 5 V,EI hc 6 V,EI hc 7 V,EI hc 8 V,l⟩
theorem Y6{w:eG}{S:Nat->Prop}{n c:Nat}{ds:List Block}{x:Block}(h:Ct.slice.RS w S [.slice A n c] ds)(hk:ds[k]? =jT x):
 ∃b o j d,A=jT ⟨b,o,jS⟩/\S b/\w.cell? ⟨b,o+k * 2,jS⟩=jT (.string x.name)/\w.cell? ⟨b,o+k * 2+1,jS⟩=jT (.slice j x.ins.length d)/\x.name.size<=fB/\
  Et.slice.RS w S [.slice j x.ins.length d] x.ins:=by
 obtain⟨b,o,rfl,l,cs,m,hc⟩:=LB h hk;obtain⟨j,d,rfl,h1,h2⟩:=Ob.1 m;rw[V8]at hc;exact⟨b,o,j,d,rfl,l,PS hc,EI hc 1 V,h1,h2⟩
theorem Dh{w:eG}{base:Nat}{cells:List eC}{S:Nat->Prop}(h:w.ownsRow base e T.size v ds.length cells)
 (hc:∀i d,ds[i]? =jT d->T.RS w S ((cells.drop (i * T.size)).take T.size) d)(z:∀g,v.ownBlock=jT g->S g):T.slice.RS w S [v] ds:=by
 rcases h.2 with⟨rfl,r⟩|⟨g,cap,cur,rfl,hg,hh,h1,h2,E,D⟩
 ·have:ds= []:=fW r;subst this;exact Ty.slice_nilS _ _ _
 ·refine⟨jT ⟨g,0,jS⟩,cap,rfl,h1,⟨h2,λe=>by cases e⟩,λi d x=>⟨g,0,rfl,z g V,_,hc i d x,?_⟩⟩;intro j u m;have s:j < T.size:=by
   have:=(gJ.1 m).1;rw[gX]at this;omega
  rw[gQ s,gG]at m;have l:=h.cells (g:=g) V (i * T.size+j) u m;have C:(⟨g,0,jS⟩:aV).add (i * T.size+j)=⟨g,0+i * T.size+j,jS⟩:=by
   unfold aW;by_cases q:i * T.size+j=0
   ·rw[if_pos q,show 0+i * T.size+j=0 from by omega]
   ·rw[if_neg q,show 0+i * T.size+j=0+(i * T.size+j)from by omega]
  rw[C]at l;exact l
theorem LQ{w:eG}{base:Nat}{k:bR}{xs:List Int}(h:w.ownsRow base e 1 v xs.length (xs.map (eD k)))(l:∀x∈xs,wfI k x):
 (Ty.int k).slice.RS w (λb=>v.ownBlock=jT b) [v] xs:=by
 refine Dh (T:=Ty.int k) h (λi d j=>?_) (λg hg=>hg);have hi:i < xs.length:=(gJ.1 j).1;refine⟨?_,l d (iD j)⟩;show((xs.map (eD k)).drop (i * 1)).take 1=_;rw[jH,List.drop_eq_getElem_cons (by simpa using hi)];have:xs[i]=d:=by
  rw[gH hi]at j;injection j
 simp[this]
variable{P:cG}{Q:bC->Act->eG->Prop}{ops:Array bZ}{l n:Nat}
theorem TL{args:Array eC}{w:eG}(h:Rows P row args w R):RowsIn (bD.inRound l) n P row args w R:=
 λc cs _=>let ⟨v,w',r,s⟩:=h c cs;⟨v,w',r,stepsIn_wide.2 s⟩
theorem RD{args:Array eC}{w:eG}{R:Ending->eG->Prop}(h:a8 P f args w R):CallsIn (bD.inRound l) n P f args w R:=
 CallsIn.inRound l (eP.2 h)
theorem Ada{w:eG}(s:∀(o:bZ),ops[i]? =jT o->∀c,o.op≠.defer c)(u:¬bT Q)(d:∀a w,K a w->K' a w)(h:wpOp P ops Q i K a w):
 wpOpIn (bD.inRound l) n P ops Q i K' a w:=by
 unfold wpOpIn;unfold wpOp at h;cases hi:ops[i]? with
 |none=>rw[hi]at h;exact d _ _ h
 |some o=>
  simp only[hi]at h⊢;split
  ·rename_i m;rw[if_pos m]at h;rcases h with h|h
   ·refine⟨λ_ _=>trivial,?_⟩;rw[cA _ _ _ (s o hi)];unfold cD at h;generalize (eR a.eval o).run P w=r at *;cases r with
    |ok x w'=>
     cases x <;> simp only[cC,cB]at h⊢
     case value=>exact d _ _ h
     case skip=>exact d _ _ h
     case defer=>exact d _ _ h
     case enter=>exact⟨λh=>(by cases h),(RD h).mono λe q j=>by cases e <;> first|exact d _ _ j|exact j⟩
     case row=>exact⟨λh=>(by cases h),(TL h).mono λ_ _ j=>d _ _ j⟩
    |halt x w'=>cases x <;> simp only[cC,cB]at h⊢<;> exact h
   ·exact absurd h.2 u
  ·rename_i m;rw[if_neg m]at h;exact⟨λ_ _=>trivial,d _ _ h⟩
theorem QV{md:dL}(d:∀(i:Nat) (o:bZ),ops[i]? =jT o->∀c,o.op≠.defer c)(j:¬bT Q):∀(fuel:Nat) (listed:Array Bool) (a:Act) (w:eG),
 wpAny P md ops Q fuel listed a w->wpAnyIn (bD.inRound l) n P md ops Q fuel listed a w
 |0,_,_,_,h=>h
 |fuel+1,_,_,_,h=>⟨h.1,λi hi=>Ada (d i) j (λa w h=>QV d j fuel _ a w h) (h.2 i hi)⟩
def KZ(ops:Array bZ):Bool:=ops.all λo=>match o.op with| .defer _=>aM|_=>aP
theorem Uo(h:KZ ops=aP):∀(i:Nat) (o:bZ),ops[i]? =jT o->∀c,o.op≠.defer c:=by
 intro i o hi c e;have:=Array.all_eq_true'.1 h o (Array.mem_of_getElem? hi);rw[e]at this;cases this
def Kr(D:Nat):bB:={target:=.collected D,args:=#[]}
inductive AV:Type 1
 |any
 |lit (v:Value)
 |bs {α:Type} (T:Ty α) (l:List α)
 |tv {α:Type} (T:Ty α) (d:α)
 |own (i ver:Nat)
 |ptr (i off:Nat)
 |rp (i ver k off:Nat)
 |bp {α:Type} (T:Ty α) (d:α) (off:Nat)
 |agg (l:List AV)
 |tup (l:List AV)
 |fn (f:FuncId) (l:List AV)
structure Res where
 mrk:List Nat
 F:Nat->Prop
 R:World->(Nat->Prop)->Prop
 keep:∀{w w':World} {S S':Nat->Prop},R w S->(∀k,F k->w'.heap[k]? =w.heap[k]?)->(∀k,S k->w'.heap[k]? =w.heap[k]?)->(∀k,S k->S' k)->R w' S'
inductive ABlk:Type 1
 |dead
 |box (cells:List AV)
 |row (ver:Nat) (e:TypeId) {α:Type} (T:Ty α) (l:List α)
 |res (R:Res)
def ABlk.mrk:ABlk->List bB
 | .res R=>R.mrk.map Kr
 |_=>[]
def mkD:List ABlk->List bB
 | []=>[]
 |b::h=>mkD h++b.mrk
theorem Ip(h:List ABlk)(b:ABlk):mkD (h++[b])=b.mrk++mkD h:=by
 induction h with
 |nil=>simp[mkD]
 |cons c h d=>simp[mkD,d]
theorem DY{h:List ABlk}{b b':ABlk}(hi:h[i]? =jT b)(e:b'.mrk=b.mrk):mkD (h.set i b')=mkD h:=by
 induction h generalizing i with
 |nil=>simp at hi
 |cons c h d=>
  cases i with
  |zero=>
   simp at hi;subst hi;simp[mkD,e]
  |succ i=>
   simp only[iK,mkD];rw[d (by simpa using hi)]
def ABlk.ver:Option ABlk->Option Nat
 |some (.row ver _ _ _)=>jT ver
 |_=>jS
def Fz:Option ABlk->Nat
 |some (.row _ _ T _)=>T.size
 |_=>0
def Bd:Option ABlk->Bool
 |some (.box _)=>aP
 |_=>aM
def ABlk.live:Option ABlk->Bool
 |some (.box _)=>aP
 |some (.row _ _ _ _)=>aP
 |some (.res _)=>aP
 |_=>aM
def Bz:eC->Option Nat
 | .pointer (jT a)=>jT a.block
 | .slice (jT a) _ _=>jT a.block
 |_=>jS
def ftp:Option ABlk->eC->Nat->Prop
 |some (.res R),_,g=>R.F g
 |_,v,g=>Bz v=jT g
mutual
def AV.rel(w:eG)(S:Nat->Prop)(h:List ABlk)(ψ:Nat->eC):AV->eC->Prop
 | .any,_=>True
 | .lit u,v=>v=u
 | .bs T l,v=>T.slice.RS w S [v] l
 | .tv T d,v=>T.RS w S [v] d
 | .own i ver,v=>i < h.length/\∀c,ABlk.ver h[i]? =jT c->ver<=c/\(ver=c->v=ψ i)
 | .ptr i off,v=>i < h.length/\(Bd h[i]? =aP->∃g,ψ i= .pointer (jT ⟨g,0,jS⟩)/\v= .pointer (jT ⟨g,off,jS⟩))
 | .rp i ver k off,v=>i < h.length/\∀c,ABlk.ver h[i]? =jT c->ver<=c/\(ver=c->∃g n c,ψ i= .slice (jT ⟨g,0,jS⟩) n c/\v= .pointer (jT ⟨g,k * Fz h[i]?+off,jS⟩))
 | .bp T d off,v=>∃b o,v= .pointer (jT ⟨b,o+off,jS⟩)/\T.AtS w S b o d
 | .agg l,v=>∃cs:List eC,v= .agg cs.toArray/\Ak w S h ψ l cs
 | .tup l,v=>∃cs:List eC,v= .tuple cs.toArray/\Ak w S h ψ l cs
 | .fn f l,v=>∃cs:List eC,v= .func (.func f) #[] cs.toArray/\Ak w S h ψ l cs
def Ak(w:eG)(S:Nat->Prop)(h:List ABlk)(ψ:Nat->eC):List AV->List eC->Prop
 | [],cs=>cs= []
 |x::l,cs=>∃v vs,cs=v::vs/\AV.rel w S h ψ x v/\Ak w S h ψ l vs
end
structure Ext(w:World)(S:Nat->Prop)(h:List ABlk)(ψ:Nat->Value)(w':World)(S':Nat->Prop)(h':List ABlk)(ψ':Nat->Value):Prop where
 blk:∀k,S k->w'.heap[k]? =w.heap[k]?
 sub:∀k,S k->S' k
 len:h.length<=h'.length
 ver:∀i c',i < h.length->ABlk.ver h'[i]? =some c'->∃c,ABlk.ver h[i]? =some c/\c<=c'/\(c=c'->ψ' i=ψ i/\Fz h'[i]? =Fz h[i]?)
 box:∀i,i < h.length->Bd h'[i]? =true->Bd h[i]? =true/\ψ' i=ψ i
section
variable{w:eG}{S:Nat->Prop}{h:List ABlk}{ψ:Nat->eC}{w':eG}{S':Nat->Prop}{h':List ABlk}{ψ':Nat->eC}
mutual
theorem FY(X:Ext w S h ψ w' S' h' ψ'):∀(x:AV) (v:eC),AV.rel w S h ψ x v->AV.rel w' S' h' ψ' x v
 | .any,_,_=>by unfold AV.rel;trivial
 | .lit u,v,H=>by unfold AV.rel at H⊢;exact H
 | .bs T l,v,H=>by unfold AV.rel at H⊢;exact T.slice.keepS H X.blk X.sub
 | .tv T d,v,H=>by unfold AV.rel at H⊢;exact T.keepS H X.blk X.sub
 | .own i ver,v,H=>by
  unfold AV.rel at H⊢;refine⟨jC H.1 X.len,λc' hv=>?_⟩;obtain⟨c,h1,h2,h3⟩:=X.ver i c' H.1 hv;obtain⟨k1,k2⟩:=H.2 c h1;refine⟨jB k1 h2,λe=>?_⟩;have e1:c=c':=by omega
  rw[(h3 e1).1];exact k2 (by omega)
 | .ptr i off,v,H=>by
  unfold AV.rel at H⊢;refine⟨jC H.1 X.len,λhv=>?_⟩;obtain⟨h1,h2⟩:=X.box i H.1 hv;rw[h2];exact H.2 h1
 | .rp i ver k off,v,H=>by
  unfold AV.rel at H⊢;refine⟨jC H.1 X.len,λc' hv=>?_⟩;obtain⟨c,h1,h2,h3⟩:=X.ver i c' H.1 hv;obtain⟨k1,k2⟩:=H.2 c h1;refine⟨jB k1 h2,λe=>?_⟩;have e1:c=c':=by omega
  rw[(h3 e1).1,(h3 e1).2];exact k2 (by omega)
 | .bp T d off,v,H=>by
  unfold AV.rel at H⊢;obtain⟨b,o,e,hat⟩:=H;exact⟨b,o,e,hat.keep X.blk X.sub⟩
 | .agg l,v,H=>by
  unfold AV.rel at H⊢;obtain⟨cs,e,hl⟩:=H;exact⟨cs,e,AE X l cs hl⟩
 | .tup l,v,H=>by
  unfold AV.rel at H⊢;obtain⟨cs,e,hl⟩:=H;exact⟨cs,e,AE X l cs hl⟩
 | .fn f l,v,H=>by
  unfold AV.rel at H⊢;obtain⟨cs,e,hl⟩:=H;exact⟨cs,e,AE X l cs hl⟩
theorem AE(X:Ext w S h ψ w' S' h' ψ'):∀(l:List AV) (cs:List eC),Ak w S h ψ l cs->Ak w' S' h' ψ' l cs
 | [],cs,H=>by unfold Ak at H⊢;exact H
 |x::l,cs,H=>by
  unfold Ak at H⊢;obtain⟨v,vs,e,h1,h2⟩:=H;exact⟨v,vs,e,FY X x v h1,AE X l vs h2⟩
end
theorem BB:∀{l:List AV} {cs:List eC},Ak w S h ψ l cs->cs.length=l.length
 | [],cs,H=>by unfold Ak at H;subst H;rfl
 |x::l,cs,H=>by
  unfold Ak at H;obtain⟨v,vs,rfl,_,h2⟩:=H;simp[BB h2]
theorem Cb:∀{l:List AV} {cs:List eC},Ak w S h ψ l cs->∀{i:Nat} {x:AV},l[i]? =jT x->∃v,cs[i]? =jT v/\AV.rel w S h ψ x v
 | [],cs,_,i,x,hx=>by simp at hx
 |y::l,cs,H,i,x,hx=>by
  unfold Ak at H;obtain⟨v,vs,rfl,h1,h2⟩:=H;cases i with
  |zero=>simp at hx;subst hx;exact⟨v,by simp,h1⟩
  |succ i=>simpa using Cb h2 (i:=i) (by simpa using hx)
theorem DV:∀{l:List AV} {cs:List eC},cs.length=l.length->(∀(i:Nat) (x:AV) (v:eC),l[i]? =jT x->cs[i]? =jT v->AV.rel w S h ψ x v)->Ak w S h ψ l cs
 | [],cs,d,_=>by unfold Ak;exact fW d
 |y::l,v::vs,d,H=>by
  unfold Ak;exact⟨v,vs,rfl,H 0 y v V V,DV (by simpa using d) λi x u hx j=>H (i+1) x u (by simpa using hx) (by simpa using j)⟩
theorem Ij{l:List AV}(H:Ak w S h ψ l cs)(i:Nat){x:AV}(r:AV.rel w S h ψ x v):Ak w S h ψ (l.set i x) (cs.set i v):=by
 refine DV (by simp[BB H]) λj y u d m=>?_
 by_cases q:i=j
 ·subst q;have h1:i < l.length:=by
   rcases jD i l.length with h|h
   ·exact h
   ·simp[gI,h]at d
  rw[gO h1]at d;rw[gO (by rw[BB H];exact h1)]at m;cases d;cases m;exact r
 ·rw[gN q]at d m;obtain⟨s,h1,h2⟩:=Cb H d;rw[h1]at m;cases m;exact h2
theorem BP{l m:List AV}{ds:List eC}(H:Ak w S h ψ l cs)(G:Ak w S h ψ m ds):Ak w S h ψ (l++m) (cs++ds):=by
 refine DV (by simp[BB H,BB G]) λj y u q d=>?_
 by_cases r:j < l.length
 ·rw[gC r]at q;rw[gC (by rw[BB H];exact r)]at d;obtain⟨s,h1,h2⟩:=Cb H q;rw[h1]at d;cases d;exact h2
 ·rw[gD (by omega)]at q;rw[gD (by rw[BB H];omega),BB H]at d;obtain⟨s,h1,h2⟩:=Cb G q;rw[h1]at d;cases d;exact h2
theorem LG{l:List AV}(H:Ak w S h ψ l cs)(n:Nat):Ak w S h ψ (l.drop n) (cs.drop n):=by
 refine DV (by simp[BB H]) λj y u m d=>?_
 rw[gG]at m d;obtain⟨q,h1,h2⟩:=Cb H m;rw[h1]at d;cases d;exact h2
theorem LF{l:List AV}(H:Ak w S h ψ l cs)(n:Nat):Ak w S h ψ (l.take n) (cs.take n):=by
 refine DV (by simp[BB H]) λj y u d m=>?_
 rw[gP]at d m;split at d
 ·rename_i q;rw[if_pos q]at m;obtain⟨r,h1,h2⟩:=Cb H d;rw[h1]at m;cases m;exact h2
 ·cases d
end
def H8(N:Nat->Prop)(w:eG)(S:Nat->Prop)(h:List ABlk)(ψ:Nat->eC)(v:eC):ABlk->Prop
 | .dead=>True
 | .box cells=>∃g cs e,v= .pointer (jT ⟨g,0,jS⟩)/\¬N g/\¬S g/\w.heap[g]? =jT (.cells (iV cs) e (0,0))/\Ak w S h ψ cells cs
 | .row _ e T l=>∃cells,w.ownsRow 0 e T.size v l.length cells/\0 < T.size/\(∀i d,l[i]? =jT d->T.RS w S ((cells.drop (i * T.size)).take T.size) d)/\∀g,v.ownBlock=jT g->¬N g/\¬S g
 | .res R=>(∀g,R.F g->¬N g/\¬S g/\g < w.heap.size)/\R.R w S
structure Ctx where
 w0:World
 S0:Nat->Prop
 N:Nat->Prop
 rd:Option Nat
def Ctx.std(C:Ctx):Prop:=∀k,k < C.w0.heap.size->C.N k
structure Kp(N:Nat->Prop)(w w':World):Prop where
 os:w'.os=w.os
 tape:w'.tape=w.tape
 output:w'.output=w.output
 size:w.heap.size<=w'.heap.size
 block:∀k,N k->w'.heap[k]? =w.heap[k]?
theorem Kp.refl(N:Nat->Prop)(w:eG):Kp N w w:=⟨rfl,rfl,rfl,jA _,λ_ _=>rfl⟩
theorem Kp.trans{a b c:eG}(h:Kp N a b)(k:Kp N b c):Kp N a c:=
 ⟨k.os.trans h.os,k.tape.trans h.tape,k.output.trans h.output,jB h.size k.size,λi hi=>(k.block i hi).trans (h.block i hi)⟩
theorem Qe{a b:eG}(h:Below B a b)(d:∀k,N k->k < B):Kp N a b:=⟨h.os,h.tape,h.output,h.size,λk hk=>h.block k (d k hk)⟩
theorem Kp.below{a b:eG}(h:Kp N a b)(d:∀k,k < B->N k):Below B a b:=⟨h.os,h.tape,h.output,h.size,λk hk=>h.block k (d k hk)⟩
structure HRel(C:Ctx)(h:List ABlk)(S:Nat->Prop)(ψ:Nat->Value)(w:World):Prop where
 bel:Kp C.N C.w0 w
 nlt:∀k,C.N k->k < C.w0.heap.size
 lt:∀k,S k->k < w.heap.size
 sub:∀k,C.S0 k->S k
 new:∀k,S k->C.S0 k\/C.w0.heap.size<=k
 blk:∀i b,h[i]? =some b->H8 C.N w S h ψ (ψ i) b
 dis:∀i j,i≠j->ABlk.live h[i]? =true->ABlk.live h[j]? =true->∀g,ftp h[i]? (ψ i) g->¬ftp h[j]? (ψ j) g
theorem AY(h:v.ownBlock=jT g):Bz v=jT g:=by
 cases v <;> simp[eF,Bz]at h⊢
 rename_i a _ _;cases a <;> simp[eF,Bz]at h⊢
 exact h
theorem Nw{w w':eG}{base:Nat}{size:Nat}{n:Nat}{xs:List eC}(h:w.ownsRow base e size v n xs)(d:∀g,Bz v=jT g->w'.heap[g]? =w.heap[g]?):w'.ownsRow base e size v n xs:=by
 obtain⟨h1,h2⟩:=h;refine⟨h1,?_⟩;rcases h2 with h2|⟨g,cap,cur,rfl,hg,hh,r⟩
 ·exact .inl h2
 ·exact .inr ⟨g,cap,cur,rfl,hg,(d g V).trans hh,r⟩
theorem H8.keep{w w':eG}{S S':Nat->Prop}{h h':List ABlk}{ψ ψ':Nat->eC}{b:ABlk}(H:H8 N w S h ψ v b)(X:Ext w S h ψ w' S' h' ψ')
 (j:∀g,ftp (jT b) v g->w'.heap[g]? =w.heap[g]?/\(¬S g->¬S' g)):H8 N w' S' h' ψ' v b:=by
 cases b with
 |dead=>trivial
 |box cells=>
  obtain⟨g,cs,e,rfl,h1,h2,m,C⟩:=H;obtain⟨r,q⟩:=j g V;exact⟨g,cs,e,rfl,h1,q h2,r.trans m,AE X _ _ C⟩
 |row ver e T l=>
  obtain⟨cells,h1,h0,h2,m⟩:=H;refine⟨cells,Nw h1 λg hg=>(j g hg).1,h0,λi d z=>T.keepS (h2 i d z) X.blk X.sub,λg hg=>⟨(m g hg).1,(j g (AY hg)).2 (m g hg).2⟩⟩
 |res R=>
  obtain⟨h1,h2⟩:=H;refine⟨λg hg=>?_,R.keep h2 (λk hk=>(j k hk).1) X.blk X.sub⟩;obtain⟨r,q,x⟩:=h1 g hg;obtain⟨s,u⟩:=j g hg;refine⟨r,u q,?_⟩;rw[aB x]at s;exact(aC.1 s).1
theorem H8.lt{w:eG}{S:Nat->Prop}{h:List ABlk}{ψ:Nat->eC}{b:ABlk}(H:H8 N w S h ψ v b)(s:ABlk.live (jT b)=aP):∀g,ftp (jT b) v g->¬N g/\g < w.heap.size/\¬S g:=by
 cases b with
 |dead=>simp[ABlk.live]at s
 |box cells=>
  obtain⟨g,cs,e,rfl,h1,h2,j,x⟩:=H;intro u hg;simp[ftp,Bz]at hg;subst hg;exact⟨h1,(aC.1 j).1,h2⟩
 |row ver e T l=>
  obtain⟨cells,h1,h0,h2,j⟩:=H;intro g hg;have d:v.ownBlock=jT g:=by
   rcases h1.2 with⟨rfl,_⟩|⟨u,cap,cur,rfl,_⟩
   ·simp[ftp,Bz]at hg
   ·simpa[ftp,Bz,eF]using hg
  obtain⟨q,m⟩:=eL h1 g d;exact⟨(j g d).1,m,(j g d).2⟩
 |res R=>
  intro g hg;obtain⟨q,m,r⟩:=H.1 g hg;exact⟨q,r,m⟩
theorem Ext.grow{w w':eG}{S S':Nat->Prop}(h:List ABlk)(ψ:Nat->eC)(m:∀k,S k->w'.heap[k]? =w.heap[k]?)(j:∀k,S k->S' k):Ext w S h ψ w' S' h ψ:=
 ⟨m,j,jA _,λ_ q _ d=>⟨q,d,jA _,λ_=>⟨rfl,rfl⟩⟩,λ_ _ d=>⟨d,rfl⟩⟩
theorem HRel.grow{C:Ctx}{h:List ABlk}{S S':Nat->Prop}{ψ:Nat->eC}{w w':eG}(H:HRel C h S ψ w)(m:Below w.heap.size w w')(q:∀k,S k->S' k)(r:∀k,S' k->S k\/w.heap.size<=k)(x:∀k,S' k->k < w'.heap.size):
 HRel C h S' ψ w':=by
 refine⟨H.bel.trans (Qe m λk hk=>jC (H.nlt k hk) H.bel.size),H.nlt,x,λk hk=>q k (H.sub k hk),λk hk=>?_,λi b hi=>?_,H.dis⟩
 ·rcases r k hk with h1|h1
  ·exact H.new k h1
  ·exact .inr (jB H.bel.size h1)
 ·by_cases d:ABlk.live (jT b)=aP
  ·refine(H.blk i b hi).keep (Ext.grow h ψ (λk hk=>m.block k (H.lt k hk)) q) λg hg=>?_
   obtain⟨z,u,s⟩:=(H.blk i b hi).lt d g hg;refine⟨m.block g u,λ_ j=>?_⟩;rcases r g j with h1|h1
   ·exact s h1
   ·omega
  ·cases b <;> simp[ABlk.live]at d
   trivial
structure St where
 t:List AV
 h:List ABlk
def St.rel(C:Ctx)(s:St)(a:Act)(w:eG):Prop:=a.defers=mkD s.h/\∃S ψ,HRel C s.h S ψ w/\Ak w S s.h ψ s.t a.tmps.toList
def evA(t:List AV):cF->AV
 | .tmp i=>(t[i]?).getD (.lit undef)
 | .const v=>.lit v
 | .global g=>.lit (.pointer (jT ⟨g,0,jS⟩))
 | .func f=>.lit (.func (.func f) #[] #[])
def Br(t:List AV)(dst:Option Tmp)(r:AV):List AV:=
 match dst with
 |some d=>t.set d r
 |none=>t
theorem BA{w:eG}{S:Nat->Prop}{h:List ABlk}{ψ:Nat->eC}{t:List AV}(H:Ak w S h ψ t a.tmps.toList)(x:cF):AV.rel w S h ψ (evA t x) (a.eval x):=by
 cases x with
 |tmp i=>
  show AV.rel w S h ψ ((t[i]?).getD (.lit undef)) (a.tmps.getD i undef);rw[aA];cases hi:t[i]? with
  |none=>
   have:a.tmps[i]? =jS:=by
    rw[List.getElem?_eq_none_iff]at hi;have:=BB H;simp at this;rw[Array.getElem?_eq_none_iff];omega
   rw[this];simp[AV.rel]
  |some x=>
   obtain⟨v,h1,h2⟩:=Cb H hi;have:a.tmps[i]? =jT v:=by simpa using h1
   rw[this];exact h2
 |const v=>simp[evA,Act.eval,AV.rel]
 |global g=>simp[evA,Act.eval,AV.rel]
 |func f=>simp[evA,Act.eval,AV.rel]
theorem KU{w:eG}{S:Nat->Prop}{h:List ABlk}{ψ:Nat->eC}{t:List AV}(H:Ak w S h ψ t a.tmps.toList)(d:Option Tmp){r:AV}(j:AV.rel w S h ψ r v):Ak w S h ψ (Br t d r) (a.put d v).tmps.toList:=by
 cases d with
 |none=>exact H
 |some d=>
  unfold Br Act.put;simp only[aK];exact Ij H d j
theorem put_defers(a:Act)(d:Option Tmp)(v:eC):(a.put d v).defers=a.defers:=by cases d <;> rfl
abbrev A2(l:List AV):List AV:=.any::.any::l
abbrev A3(l:List AV):List AV:=.any::.any::.any::l
abbrev A4(l:List AV):List AV:=.any::.any::.any::.any::l
abbrev A5(l:List AV):List AV:=.any::A4 l
abbrev A6(l:List AV):List AV:=.any::A5 l
abbrev A7(l:List AV):List AV:=.any::A6 l
abbrev A8(l:List AV):List AV:=A4 (A4 l)
abbrev A9(l:List AV):List AV:=.any::A8 l
abbrev A10(l:List AV):List AV:=.any::A9 l
abbrev A20(l:List AV):List AV:=A10 (A10 l)
abbrev A40(l:List AV):List AV:=A20 (A20 l)
abbrev A80(l:List AV):List AV:=A40 (A40 l)
section
variable{P:cG}{C:Ctx}
def fnc:Option Nat->Fence
 |none=>bD
 |some l=>bD.inRound l
theorem UR(rd:Option Nat)(f:bF):(fnc rd).fn f:=by cases rd <;> trivial
theorem Alz(rd:Option Nat)(n:Nat):(fnc rd).room n:=by cases rd <;> exact λ_ h=>by simp[fnc,bD,Fence.inRound]at h
theorem US(rd:Option Nat):(fnc rd).depth=jS:=by cases rd <;> rfl
theorem Al0{n m:Nat}{Q:bC->Act->eG->Prop}{w:eG}(h:c.wpIn (fnc rd) n P Q a w):c.wpIn (fnc rd) m P Q a w:=λb k cs h1 h2 _=>h b k cs h1 h2 (Alz _ _)
theorem Ahe{n:Nat}{args:Array eC}{w:eG}{R:Ending->eG->Prop}(h:a8 P f args w R):CallsIn (fnc rd) n P f args w R:=by
 cases rd with
 |none=>exact eP.2 h
 |some l=>exact RD h
theorem Aly{n:Nat}{args:Array eC}{w:eG}(h:Rows P row args w R):RowsIn (fnc rd) n P row args w R:=by
 cases rd with
 |none=>exact λc cs _=>let ⟨v,w',r,s⟩:=h c cs;⟨v,w',r,stepsIn_wide.2 s⟩
 |some l=>exact TL h
theorem SE{n:Nat}{w:eG}{Q:bC->Act->eG->Prop}(m:∀c,o.op≠.defer c)(q:¬bT Q)(h:o.wp P a w K Q):o.wpIn (fnc rd) n P a w K Q:=by
 refine⟨λ_ _=>UR _ _,?_⟩;rw[cA _ _ _ m];unfold cD at h;generalize (eR a.eval o).run P w=r at *;cases r with
 |ok x w'=>
  cases x <;> simp only[cC,cB]at h⊢
  case value=>exact h
  case skip=>exact h
  case defer=>exact h
  case enter=>exact⟨λh=>(by rw[US]at h;cases h),(Ahe h).mono λe j d=>by cases e <;> exact d⟩
  case row=>exact⟨λh=>(by rw[US]at h;cases h),(Aly h).mono λ_ _ d=>d⟩
 |halt x w'=>cases x <;> simp only[cC,cB]at h⊢<;> exact h
theorem FT{n:Nat}{ops:Array bZ}{Q:bC->Act->eG->Prop}{w:eG}(d:P.follows .mixedOrders=aP)(j:KZ ops=aP)
 (h:wpAny P .any ops (λe a w=>e= .normal/\Q e a w) ops.size (aF ops.size aM) a w.drew):(Code.region id ops aP).wpIn (fnc rd) n P Q a w:=by
 cases rd with
 |none=>exact wpIn_wide.2 (wp_mono (wp_region_any d h) λe a w h=>h.2)
 |some l=>exact wpIn_mono (wpIn_region_any d (QV (Uo j) (λ⟨_,_,h⟩=>by cases h.1) _ _ _ _ h)) λe a w h=>h.2
def Awp(P:cG)(C:Ctx)(c:bA)(Q:bC->St->Prop)(s:St):Prop:=
 ∀a w,s.rel C a w->c.wpIn (fnc C.rd) 4 P (λe a' w'=>∃s',Q e s'/\s'.rel C a' w') a w
theorem Awp.wp{Q:bC->St->Prop}{s:St}(d:C.rd=jS)(h:Awp P C c Q s){w:eG}(H:s.rel C a w):c.wp P (λe a' w'=>∃s',Q e s'/\s'.rel C a' w') a w:=by
 have:=h a w H;rw[d]at this;exact wpIn_wide.1 this
def Ku(K:St->Prop)(Q:bC->St->Prop):bC->St->Prop
 | .normal,s=>K s
 |e,s=>Q e s
def JL(id:Nat)(Q:bC->St->Prop):bC->St->Prop
 | .exit i,s=>if i=id then Q .normal s else Q (.exit i) s
 |e,s=>Q e s
def Ayy(Q:bC->St->Prop):bC->St->Prop
 | .goto _,_=>False
 |e,s=>Q e s
def St.le(C:Ctx)(s s':St):Prop:=∀a w,s.rel C a w->s'.rel C a w
theorem Awp.mono{Q Q':bC->St->Prop}{s:St}(h:Awp P C c Q s)(hq:∀e s,Q e s->Q' e s):Awp P C c Q' s:=
 λa w H=>wpIn_mono (h a w H) λe _ _ ⟨s',q,r⟩=>⟨s',hq e s' q,r⟩
theorem Awp.le{Q:bC->St->Prop}{s s':St}(d:St.le C s s')(h:Awp P C c Q s'):Awp P C c Q s:=λa w H=>h a w (d a w H)
theorem Ao{Q:bC->St->Prop}{s:St}(h:Q .normal s):Awp P C .skip Q s:=λ_ _ H=>wpIn_skip ⟨s,h,H⟩
theorem Awp.label{l:Nat}{Q:bC->St->Prop}{s:St}(h:Q .normal s):Awp P C (.label l) Q s:=λ_ _ H=>wpIn_label ⟨s,h,H⟩
theorem AA{Q:bC->St->Prop}{s:St}(h:Q (.exit id) s):Awp P C (.exit id) Q s:=λ_ _ H=>wpIn_exit ⟨s,h,H⟩
theorem Az{Q:bC->St->Prop}{s:St}(h:Q .ret s):Awp P C .ret Q s:=λ_ _ H=>wpIn_ret ⟨s,h,H⟩
theorem Ae{x:bA}{Q:bC->St->Prop}{s:St}(h:∀K:St->Prop,(∀s,Awp P C y Q s->K s)->Awp P C x (Ku K Q) s):Awp P C (.seq x y) Q s:=λa w H=>
 wpIn_seq (wpIn_mono (h _ (λ_ h=>h) a w H) λe a' w' ⟨s',q,r⟩=>by
  cases e with
  |normal=>exact q a' w' r
  |_=>exact⟨s',q,r⟩)
theorem Am{k:cF}{x:bA}{b:Bool}{Q:bC->St->Prop}{s:St}(hc:evA s.t k= .lit (.bool b))(ht:b=aP->Awp P C x Q s)(j:b=aM->Awp P C y Q s):Awp P C (.cond k x y) Q s:=λa w H=>by
 obtain⟨_,S,ψ,_,d⟩:=id H;have:=BA d k;rw[hc]at this;unfold AV.rel at this;exact wpIn_cond_split this (λe=>ht e a w H) (λe=>j e a w H)
theorem Ah{Q:bC->St->Prop}{s:St}(h:Awp P C c (JL id Q) s):Awp P C (.block id c) Q s:=λa w H=>
 wpIn_block (wpIn_mono (h a w H) λe a' w' ⟨s',q,r⟩=>by
  cases e with
  |exit i=>
   by_cases hi:i=id
   ·simp only[JL,Exit.inBlock,hi,if_true]at q⊢;exact⟨s',q,r⟩
   ·simp only[JL,Exit.inBlock,hi,if_false]at q⊢;exact⟨s',q,r⟩
  |_=>exact⟨s',q,r⟩)
theorem KI{F:Fence}{n:Nat}{Q:bC->Act->eG->Prop}{w:eG}(h:c.wpIn F n P (Exit.noGoto Q) a w):(Code.scope c).wpIn F n P Q a w:=by
 intro b k cs s z x;obtain⟨e,j,d,hq,m⟩:=h b (.inScope c::k) cs s z x;have h0:(lone (b.atR a (.code (.scope c)::k)) cs w).fenced P F:=fenced_calm z x V;have q:step P (lone (b.atR a (.code (.scope c)::k)) cs w)= .next (lone (b.atR a (.code c::.inScope c::k)) cs w):=step_lone_go (by simp[stepG,stepG.exec,Frame.atR]);have D:step P (lone (b.atR j (.inScope c::k)) cs d)= .next (lone (b.atR j k) cs d):=step_lone_go (by simp[stepG,stepG.exec,Frame.atR]);have h1:(lone (b.atR j (.inScope c::k)) cs d).fenced P F:=fenced_calm z x V;cases e with
 |normal=>exact⟨.normal,j,d,hq,.head h0 q (StepsIn.trans m (.one h1 D))⟩
 |exit id=>
  refine⟨.exit id,j,d,hq,λE hk=>.head h0 q (m.1 E (by simp[exitTo,hk])),λu hk=>?_⟩;obtain⟨r,h2,G⟩:=m.2 u (by simp[exitTo,hk]);exact⟨r,h2,.head h0 q G⟩
 |goto l=>exact hq.elim
 |ret=>exact⟨_,j,d,hq,.of_steps (.one h0 q) m⟩
 |panic ch=>exact⟨_,j,d,hq,.of_steps (.one h0 q) m⟩
 |outgrown=>exact⟨_,j,d,hq,.of_steps (.one h0 q) m⟩
theorem Awp.scope{Q:bC->St->Prop}{s:St}(h:Awp P C c (Ayy Q) s):Awp P C (.scope c) Q s:=λa w H=>
 KI (wpIn_mono (h a w H) λe a' w' ⟨s',q,r⟩=>by
  cases e with
  |goto l=>exact q.elim
  |_=>exact⟨s',q,r⟩)
theorem GE{p:Nat->Prop}(h:∃m,p m):∃m,p m/\∀k,p k->m<=k:=by
 obtain⟨m,s⟩:=h;induction m using jK with
 |_ m r=>
  by_cases hk:∃k,k < m/\p k
  ·obtain⟨k,q,d⟩:=hk;exact r k q d
  ·exact⟨m,s,λk d=>i9 λj=>hk ⟨k,j,d⟩⟩
theorem Awp.loop{Q:bC->St->Prop}{s:St}(J:Nat->St->Prop)(m:Nat)(h0:∃s',St.le C s s'/\J m s')
 (W:∀m s,J m s->Awp P C c (Ku (λs'=>∃z,z < m/\∃u,St.le C s' u/\J z u) Q) s):Awp P C (.loop c) Q s:=λa w H=>by
 classical
 let L:Act->eG->Prop:=λa w=>∃m,∃s,J m s/\s.rel C a w
 let D:Act->eG->Nat:=λa w=>if h:∃m,∃s,J m s/\s.rel C a w then aS (GE h)else 0
 obtain⟨s',F,Z⟩:=h0;refine wpIn_loop L D ⟨m,s',Z,F a w H⟩ λa w G=>?_
 have Y:=(aT (GE G)).1;obtain⟨U,h1,h2⟩:=Y;have E:D a w=aS (GE G):=dif_pos G;refine wpIn_mono (W _ U h1 a w h2) λe a' w' ⟨O,q,r⟩=>?_
 cases e with
 |normal=>
  obtain⟨z,X,I,j,x⟩:=q;have d:L a' w':=⟨z,I,x,j a' w' r⟩
  refine⟨d,?_⟩;have:D a' w'=aS (GE d):=dif_pos d;rw[this,E];exact Nat.lt_of_le_of_lt ((aT (GE d)).2 _ ⟨I,x,j a' w' r⟩) X
 |_=>exact⟨O,q,r⟩
def AOp(P:cG)(C:Ctx)(o:bZ)(s:St)(K:St->Prop):Prop:=
 ∀(Q':bC->Act->eG->Prop) a w,s.rel C a w->(∀c,o.op≠.defer c)/\o.wp P a w (λa' w'=>∃s',K s'/\s'.rel C a' w') Q'
def gA(ops:Array bZ)(t:List AV)(o:bZ):Option Bool:=
 match o.guard with
 |none=>jT aP
 |some (j,d)=>
  match((ops[j]?).bind (·.dst)).bind (t[·]?)with
  |some (.lit (.bool b))=>jT (b ==d)
  |some (.lit (.tuple _))=>jT aM
  |_=>jS
theorem D2{ops:Array bZ}{t:List AV}{b:Bool}{w:eG}{S:Nat->Prop}{h:List ABlk}{ψ:Nat->eC}(hg:gA ops t o=jT b)(z:Ak w S h ψ t a.tmps.toList):
 dU o (yielded ops a.tmps)=b:=by
 unfold gA at hg;unfold dU;cases s:o.guard with
 |none=>simpa[s]using hg
 |some p=>
  obtain⟨j,r⟩:=p;rw[s]at hg;simp only at hg⊢;unfold yielded;cases u:(ops[j]?).bind (·.dst)with
  |none=>rw[u]at hg;simp at hg
  |some d=>
   rw[u]at hg;simp only[Option.bind_some]at hg⊢;cases hx:t[d]? with
   |none=>rw[hx]at hg;simp at hg
   |some x=>
    rw[hx]at hg;obtain⟨v,h1,h2⟩:=Cb z hx;have q:a.tmps[d]? =jT v:=by simpa using h1
    rw[q];split at hg
    ·rename_i b' m;cases m;unfold AV.rel at h2;subst h2;simpa using hg
    ·rename_i vs m;cases m;unfold AV.rel at h2;subst h2;simpa using hg
    ·cases hg
def C4(P:cG)(C:Ctx)(ops:Array bZ)(K:St->Prop):List bZ->St->Prop
 | [],s=>K s
 |o::d,s=>∃b,gA ops s.t o=jT b/\(b=aP->AOp P C o s (C4 P C ops K d))/\(b=aM->C4 P C ops K d ⟨Br s.t o.dst (.lit undef),s.h⟩)
theorem F1{s:St}{w:eG}(H:s.rel C a w)(d:Option Tmp):St.rel C ⟨Br s.t d (.lit undef),s.h⟩ (a.put d undef) w:=by
 obtain⟨m,S,ψ,hh,j⟩:=H;exact⟨by rw[put_defers];exact m,S,ψ,hh,KU j d (by unfold AV.rel;rfl)⟩
theorem E5{ops:Array bZ}{K:St->Prop}{Q':bC->Act->eG->Prop}(j:∀s a w,K s->s.rel C a w->Q' .normal a w):∀(l:List bZ) (s:St) (a:Act) (w:eG),C4 P C ops K l s->s.rel C a w->fN P ops Q' l a w
 | [],s,a,w,h,H=>j s a w h H
 |o::d,s,a,w,h,H=>by
  obtain⟨b,hg,ht,r⟩:=h;obtain⟨_,S,ψ,_,q⟩:=id H;have m:=D2 hg q;unfold fN;rw[m];cases b with
  |true=>
   rw[if_pos V];exact .inl (cE (λa' w' ⟨s',h1,h2⟩=>E5 j d s' a' w' h1 h2) (ht V Q' a w H).2)
  |false=>
   rw[if_neg (by simp)];exact E5 j d _ _ w (r V) (F1 H o.dst)
theorem Fv{rd:Option Nat}{ops:Array bZ}{K:St->Prop}{Q':bC->Act->eG->Prop}(j:¬bT Q')(m:∀s a w,K s->s.rel C a w->Q' .normal a w):∀(l:List bZ) (s:St) (a:Act) (w:eG),C4 P C ops K l s->s.rel C a w->wpListIn (fnc rd) 4 P ops Q' l a w
 | [],s,a,w,h,H=>m s a w h H
 |o::d,s,a,w,h,H=>by
  obtain⟨b,hg,ht,u⟩:=h;obtain⟨_,S,ψ,_,r⟩:=id H;have q:=D2 hg r;unfold wpListIn;rw[q];cases b with
  |true=>
   rw[if_pos V];exact SE (ht V Q' a w H).1 j (cE (λa' w' ⟨s',h1,h2⟩=>Fv j m d s' a' w' h1 h2) (ht V Q' a w H).2)
  |false=>
   rw[if_neg (by simp)];exact⟨λ_ _=>UR _ _,Fv j m d _ _ w (u V) (F1 H o.dst)⟩
theorem Awp.region{l:List bZ}{Q:bC->St->Prop}{s:St}(h:C4 P C l.toArray (Q .normal) l s):Awp P C (.region id l.toArray aM) Q s:=λa w H=>
 wpIn_mono (wpIn_region_lit (Fv (Q':=λe a' w'=>e= .normal/\∃s',Q e s'/\s'.rel C a' w') (λ⟨_,_,h⟩=>by cases h.1) (λs a w h H=>⟨rfl,s,h,H⟩) l s a w h H)) λ_ _ _ h=>h.2
def Zi(w:eG)(S:Nat->Prop)(h:List ABlk)(ψ:Nat->eC)(r:AV)(v:eC)(w':eG):Prop:=
 Below w.heap.size w w'/\∃S':Nat->Prop,(∀k,S k->S' k)/\(∀k,S' k->S k\/w.heap.size<=k)/\(∀k,S' k->k < w'.heap.size)/\AV.rel w' S' h ψ r v
def Wv(P:cG)(w:eG)(S:Nat->Prop)(h:List ABlk)(ψ:Nat->eC)(r:AV):dV Next->Prop
 | .ok (.value v) w'=>Zi w S h ψ r v w'
 | .ok .skip w'=>Zi w S h ψ r undef w'
 | .ok (.enter f args) d=>d=w/\a8 P f args w λe w'=>∃v,e= .returned v/\Zi w S h ψ r v w'
 |_=>False
def AX(P:cG)(C:Ctx)(t:List AV)(h:List ABlk)(o:bZ)(r:AV):Prop:=
 ∀S ψ w (ρ:cF->eC),HRel C h S ψ w->(∀x∈o.op.operands,AV.rel w S h ψ (evA t x) (ρ x))->Wv P w S h ψ r ((eR ρ o).run P w)
theorem Zi.same{w:eG}{S:Nat->Prop}{h:List ABlk}{ψ:Nat->eC}{r:AV}(j:∀k,S k->k < w.heap.size)(d:AV.rel w S h ψ r v):Zi w S h ψ r v w:=
 ⟨dW _ _,S,λ_ h=>h,λ_ h=>.inl h,j,d⟩
theorem Lt{s:St}{r:AV}{w:eG}{S:Nat->Prop}{ψ:Nat->eC}{res:dV Next}(z:a.defers=mkD s.h)(H:HRel C s.h S ψ w)(q:Ak w S s.h ψ s.t a.tmps.toList)
 (hq:Wv P w S s.h ψ r res)(D:∀a' w',St.rel C ⟨Br s.t o.dst r,s.h⟩ a' w'->K a' w'):o.upon P a K Q' res:=by
 have d:∀v w',Zi w S s.h ψ r v w'->K (a.put o.dst v) w':=by
  rintro v w' ⟨m,S',h1,h2,F,E⟩;have X:Ext w S s.h ψ w' S' s.h ψ:=Ext.grow s.h ψ (λk hk=>m.block k (H.lt k hk)) h1;exact D _ _ ⟨by rw[put_defers];exact z,S',ψ,H.grow m h1 h2 F,KU (AE X _ _ q) o.dst E⟩
 cases res with
 |ok n w'=>
  cases n <;> simp only[Wv]at hq <;> simp only[cB]
  case value v=>exact d v w' hq
  case skip=>exact d undef w' hq
  case enter f args=>
   obtain⟨rfl,hc⟩:=hq;exact hc.mono λe j ⟨v,u,hg⟩=>by subst u;exact d v j hg
 |halt x w'=>simp only[Wv]at hq
theorem LL{r:AV}{h:List ABlk}{w:eG}{S:Nat->Prop}{ψ:Nat->eC}(hq:Wv P w S h ψ r ((eR ρ o).run P w)):∀c,o.op≠.defer c:=λc e=>by
 simp only[eR,e,dX]at hq;generalize (fF ρ c o.type).run P w=x at hq;cases x with
 |ok d w'=>exact hq
 |halt x w'=>exact hq
theorem VV{s:St}{r:AV}{K:St->Prop}(hq:AX P C s.t s.h o r)(m:K ⟨Br s.t o.dst r,s.h⟩):AOp P C o s K:=by
 rintro Q' a w ⟨j,S,ψ,H,d⟩;refine⟨LL (hq S ψ w a.eval H λx _=>BA d x),?_⟩;exact Lt j H d (hq S ψ w a.eval H λx _=>BA d x) λa' w' h=>⟨_,m,h⟩
section
variable{ops:Array bZ}{md:dL}{h:List ABlk}
def Gj(P:cG)(C:Ctx)(ops:Array bZ)(h:List ABlk)(o:bZ)(r:AV)(t:List AV):Prop:=
 (gA ops t o=jT aP/\AX P C t h o r)\/(gA ops t o=jT aM/\r= .lit undef)
def aOp(P:cG)(C:Ctx)(ops:Array bZ)(h:List ABlk)(i:Nat)(K:List AV->Prop)(t:List AV):Prop:=
 match ops[i]? with
 |none=>K t
 |some o=>∃r,Gj P C ops h o r t/\K (Br t o.dst r)
theorem Zf{t:List AV}{K K':List AV->Prop}(hk:∀t,K t->K' t)(hh:aOp P C ops h i K t):aOp P C ops h i K' t:=by
 unfold aOp at *;split
 ·exact hk _ (by simpa[*]using hh)
 ·rename_i o d;simp only[d]at hh;obtain⟨r,h1,h2⟩:=hh;exact⟨r,h1,hk _ h2⟩
def Ajo(P:cG)(C:Ctx)(md:dL)(ops:Array bZ)(h:List ABlk)(n:Nat)(L:Array Bool->List AV->Prop):Nat->Array Bool->List AV->Prop
 |0,listed,t=>L listed t
 |f+1,listed,t=>
  dR md ops listed≠[]/\∀i∈dR md ops listed,i < n/\aOp P C ops h i (Ajo P C md ops h n L f (listed.setIfInBounds i aP)) t
theorem V6{t:List AV}{w:eG}{K:List AV->Prop}(H:St.rel C ⟨t,h⟩ a w)(u:∀t a w,K t->St.rel C ⟨t,h⟩ a w->K' a w)
 (hh:aOp P C ops h i K t):wpOp P ops Q' i K' a w:=by
 unfold aOp at hh;unfold wpOp;split
 ·rename_i q;simp only[q]at hh;exact u _ _ _ hh H
 ·rename_i o q;simp only[q]at hh;obtain⟨r,z,hk⟩:=hh;obtain⟨D,S,ψ,d,j⟩:=id H;rcases z with⟨hg,hq⟩|⟨hg,rfl⟩
  ·have m:=D2 hg j;rw[m,if_pos V];exact .inl (Lt (s:=⟨t,h⟩) D d j (hq S ψ w a.eval d λx _=>BA j x) λa' w' h=>u _ _ _ hk h)
  ·have m:=D2 hg j;rw[m,if_neg (by simp)];exact u _ _ _ hk (F1 H o.dst)
theorem JV{n g:Nat}{L:Array Bool->List AV->Prop}{Q':bC->Act->eG->Prop}(d:∀listed t a w,L listed t->St.rel C ⟨t,h⟩ a w->wpAny P md ops Q' g listed a w):
 ∀(f:Nat) (listed:Array Bool) (t:List AV) (a:Act) (w:eG),Ajo P C md ops h n L f listed t->St.rel C ⟨t,h⟩ a w->wpAny P md ops Q' (f+g) listed a w
 |0,listed,t,a,w,hh,H=>by rw[jM];exact d _ _ _ _ hh H
 |f+1,listed,t,a,w,hh,H=>by
  rw[show f+1+g=(f+g)+1 by omega];exact⟨λh0=>absurd h0 hh.1,λi hi=>V6 H (λt' a' w' h' j=>JV d f _ t' a' w' h' j) (hh.2 i hi).2⟩
theorem Arp{t:List AV}{r:AV}{x:cF}(hx:∀d,dst=jT d->x≠.tmp d):evA (Br t dst r) x=evA t x:=by
 cases dst with
 |none=>rfl
 |some d=>
  cases x with
  |tmp i=>
   have:d≠i:=λe=>hx d V (by rw[e])
   simp[evA,Br,gN this]
  |_=>rfl
theorem T4{t:List AV}{u r:AV}(m:∀d,dst=jT d->d∉o.looksAt ops):AX P C (Br t dst u) h o r↔AX P C t h o r:=by
 have j:∀x∈o.op.operands,evA (Br t dst u) x=evA t x:=λx hx=>Arp λd s q=>m d s (by
  subst q;exact List.mem_append_left _ (List.mem_filterMap.2 ⟨.tmp d,by simpa using hx,rfl⟩))
 constructor
 ·intro H S ψ w ρ h1 h2;exact H S ψ w ρ h1 λx hx=>by rw[j x hx];exact h2 x hx
 ·intro H S ψ w ρ h1 h2;exact H S ψ w ρ h1 λx hx=>by rw[<-j x hx];exact h2 x hx
theorem Aos{t:List AV}{u:AV}(m:∀d,dst=jT d->d∉o.looksAt ops):gA ops (Br t dst u) o=gA ops t o:=by
 cases dst with
 |none=>rfl
 |some d=>
  unfold gA;cases hg:o.guard with
  |none=>rfl
  |some p=>
   obtain⟨j,q⟩:=p;simp only;cases r:(ops[j]?).bind (·.dst)with
   |none=>rfl
   |some k=>
    have:d≠k:=λe=>m d V (by
     subst e;unfold Oper.looksAt;rw[hg];simp only;rw[r];simp)
    simp[Br,gN this]
theorem P3{t:List AV}{u r:AV}(j:∀d,dst=jT d->d∉o.looksAt ops):Gj P C ops h o r (Br t dst u)↔Gj P C ops h o r t:=by
 unfold Gj;rw[Aos j,T4 j]
theorem T6(t:List AV){x y:Option Tmp}(v u:AV)(j:∀d,x=jT d->y≠jT d):Br (Br t x v) y u=Br (Br t y u) x v:=by
 cases x with
 |none=>rfl
 |some d=>
  cases y with
  |none=>rfl
  |some e=>
   have:d≠e:=λh=>j d V (by rw[h])
   exact List.set_comm _ _ this
theorem Aiu{j:Nat}{m:bZ}{v:AV}(u:ops[j]? =jT m)(d:oi.apart ops m=aP){K:List AV->Prop}{t:List AV}(q:Gj P C ops h oi v t)(hh:aOp P C ops h j K (Br t oi.dst v)):
 aOp P C ops h j (λt'=>Gj P C ops h oi v t'/\K (Br t' oi.dst v)) t:=by
 obtain⟨h1,h2,x⟩:=b9 d;unfold aOp at *;simp only[u]at *;obtain⟨r,s,hk⟩:=hh;exact⟨r,(P3 h1).1 s,(P3 x).2 q,by rw[<-T6 t v r h2];exact hk⟩
theorem RI{n:Nat}{v:AV}{L:Array Bool->List AV->Prop}(hi:ops[i]? =jT oi)
 (q:∀listed i,bG md ops n listed->i < n->listed.getD i aP=aM->∀t,n<=t->t∉dR md ops listed)(U:i < n)
 (F:∀listed t,L listed t->∀j∈dR md ops listed,n<=j):
 ∀(f:Nat) (listed:Array Bool) (t:List AV),bG md ops n listed->
  (∀j G,ops[j]? =jT G->j≠i->listed.getD j aP=aM->(∀e∈G.after,dM md e=aP->e.on≠i)->oi.apart ops G=aP)->
  i∈dR md ops listed->Gj P C ops h oi v t->
  Ajo P C md ops h n L f (listed.setIfInBounds i aP) (Br t oi.dst v)->Ajo P C md ops h n L (f+1) listed t:=by
 intro f;induction f with
 |zero=>
  intro listed t s _ z X H;have m:=(fC.1 z).1;refine⟨λh=>(by rw[h]at z;cases z),λj E=>?_⟩;have u:j < n:=by
   rcases jD j n with h|h
   ·exact h
   ·exact absurd E (q _ i s U m j h)
  refine⟨u,?_⟩;by_cases d:j=i
  ·subst d;unfold aOp;simp only[hi];exact⟨v,X,H⟩
  ·have:=F _ _ H j (fE E d);omega
 |succ f ih=>
  intro listed t s r z X H;have m:=(fC.1 z).1;refine⟨λh=>(by rw[h]at z;cases z),λj E=>?_⟩;have u:j < n:=by
   rcases jD j n with h|h
   ·exact h
   ·exact absurd E (q _ i s U m j h)
  refine⟨u,?_⟩;by_cases d:j=i
  ·subst d;unfold aOp;simp only[hi];exact⟨v,X,H⟩
  ·have h1:=(H.2 j (fE E d)).2;obtain⟨D,G,I,W⟩:=fC.1 E;have J:∀e∈G.after,dM md e=aP->e.on≠i:=λe he hb aa=>by
    have h1:=W e he hb;rw[aa,eS m]at h1;cases h1
   have h2:=Aiu I (r j G I d D J) X h1;have x:∀k ok,ops[k]? =jT ok->k≠i->(listed.setIfInBounds j aP).getD k aP=aM->
    (∀e∈ok.after,dM md e=aP->e.on≠i)->oi.apart ops ok=aP:=λk ok hk Z m Y=>by
    refine r k ok hk Z ?_ Y;by_cases O:j=k
    ·subst O;exact D
    ·rw[eV aP O]at m;exact m
   refine Zf (λa' h3=>ih (listed.setIfInBounds j aP) a' (s.set E u) x (fE z (jO d)) h3.1 ?_) h2;rw[aG _ _ d];exact h3.2
def aQ(P:cG)(C:Ctx)(ops:Array bZ)(h:List ABlk)(K:List AV->Prop):List bZ->List AV->Prop
 | [],t=>K t
 |o::d,t=>∃r,Gj P C ops h o r t/\aQ P C ops h K d (Br t o.dst r)
theorem SY{n g:Nat}{Lq:List AV->Prop}(m:∀listed i,bG md ops n listed->i < n->listed.getD i aP=aM->∀t,n<=t->t∉dR md ops listed):
 ∀(l:List bZ) (k:Nat) (listed:Array Bool) (t:List AV),(∀j,j < l.length->l[j]? =ops[k+j]?)->k+l.length=n->bG md ops n listed->
 dP md ops g l.length k listed=aP->aQ P C ops h Lq l t->
 Ajo P C md ops h n (λd t'=>dT md ops g n d=aP/\Lq t') l.length listed t
 | [],k,listed,t,_,hk,_,u,hh=>by
  have:k=n:=by simpa using hk
  subst this;exact⟨by simpa[dP]using u,hh⟩
 |o::l,k,listed,t,z,hk,q,u,hh=>by
  have h0:ops[k]? =jT o:=by simpa using(z 0 (by simp)).symm
  simp only[gU,dP,aL]at u;obtain⟨⟨E,F⟩,x⟩:=u;have s:k < n:=by simp only[gU]at hk;omega
  have r:k∈dR md ops listed:=by simpa using E
  obtain⟨v,D,H⟩:=hh;exact RI h0 m s (λd a' G=>seqB_ready G.1) l.length listed t q (dO h0 F) r D
   (SY m l (k+1) _ _ (λj I=>by have:=z (j+1) (by simp;omega);simpa[iX,iY 1 j]using this) (by simp only[gU]at hk;omega) (q.set r s) x H)
def Ac0(ops:Array bZ)(n:Nat):Bool:=
 (dQ ops&&KZ ops)&&aU (n<=ops.size)&&(n ==ops.size||(Region.sinkB .any ops n&&Region.chainB .any ops n))&&dP .any ops (ops.size - n) n 0 (aF ops.size aM)
end
theorem OC{l:List bZ}{Q:bC->St->Prop}{s:St}(n:Nat)(hm:P.follows .mixedOrders=aP)(Z:Ac0 l.toArray n=aP)
 (hh:aQ P C l.toArray s.h (λt=>C4 P C l.toArray (Q .normal) (l.drop n) ⟨t,s.h⟩) (l.take n) s.t):Awp P C (.region id l.toArray aP) Q s:=λa w H=>by
 simp only[Ac0,aL,decide_eq_true_eq,aO,beq_iff_eq]at Z;obtain⟨⟨⟨⟨W,J⟩,hn⟩,z⟩,r⟩:=Z;have aa:n<=l.length:=by simpa using hn
 have d:(l.take n).length=n:=by simp;omega
 have x:(l.drop n).length=l.toArray.size - n:=by simp
 have q:bG .any l.toArray n (aF l.toArray.size aM):=
  ⟨by simp,λj oj _ D=>(by rw[eU]at D;cases D),λt _ ht=>eT (by simpa using ht) (eU _ _)⟩
 have m:∀(listed:Array Bool) (i:Nat),bG .any l.toArray n listed->i < n->listed.getD i aP=aM->∀t,n<=t->t∉dR .any l.toArray listed:=by
  intro listed i E hi F t ht;rcases z with z|⟨z,hc⟩
  ·intro G;obtain⟨_,o,I,_⟩:=fC.1 G;have:=(aC.1 I).1;omega
  ·by_cases L:n < l.toArray.size
   ·exact tail_waits z hc L E _ i V hi F t ht
   ·intro G;obtain⟨_,o,I,_⟩:=fC.1 G;have:=(aC.1 I).1;omega
 have HH:=SY (md:=.any) (g:=l.toArray.size - n) m (l.take n) 0 _ s.t (λj X=>by
  have O:j < n:=by rw[d]at X;exact X
  simp[O]) (by simpa using d) q (by rw[d];exact r) hh
 refine FT hm J ?_;have U:St.rel C ⟨s.t,s.h⟩ a {w with drawn:=w.drawn+1}:=by
  obtain⟨hd,S,ψ,u,D⟩:=H;have hb:Below w.heap.size w {w with drawn:=w.drawn+1}:=⟨rfl,rfl,rfl,jA _,λ_ _=>rfl⟩
  exact⟨hd,S,ψ,u.grow hb (λ_ h=>h) (λ_ h=>.inl h) u.lt,AE (show Ext w S s.h ψ {w with drawn:=w.drawn+1} S s.h ψ from Ext.grow s.h ψ (λk hk=>rfl) λ_ h=>h) _ _ D⟩
 have:=JV (Q':=λe a' w'=>e= .normal/\∃s',Q e s'/\s'.rel C a' w') (g:=l.toArray.size - n) (λlisted t a' w' Y U=>by
  have:=wpAny_of_seq (md:=.any) (l.drop n) n listed a' w' (λj=>by simp[gG]) (by rw[x];exact Y.1) (E5 (Q':=λe a' w'=>e= .normal/\∃s',Q e s'/\s'.rel C a' w') (λs a w h H=>⟨rfl,s,h,H⟩) _ _ _ _ Y.2 U);rwa [x]at this) _ _ _ _ _ HH U
 rw[d,show n+(l.toArray.size - n)=l.toArray.size by omega]at this;exact this
end
mutual
def AV.cl:AV->Bool
 | .own _ _=>aM
 | .ptr _ _=>aM
 | .rp _ _ _ _=>aM
 | .agg l=>Bl l
 | .tup l=>Bl l
 | .fn _ l=>Bl l
 |_=>aP
def Bl:List AV->Bool
 | []=>aP
 |x::l=>AV.cl x&&Bl l
end
section
variable{w:eG}{S:Nat->Prop}{h h':List ABlk}{ψ ψ':Nat->eC}
mutual
theorem DE:∀(x:AV) (v:eC),AV.cl x=aP->AV.rel w S h ψ x v->AV.rel w S h' ψ' x v
 | .any,_,_,_=>by unfold AV.rel;trivial
 | .lit u,v,_,H=>by unfold AV.rel at H⊢;exact H
 | .bs T l,v,_,H=>by unfold AV.rel at H⊢;exact H
 | .tv T d,v,_,H=>by unfold AV.rel at H⊢;exact H
 | .own i ver,v,hc,H=>by simp[AV.cl]at hc
 | .ptr i off,v,hc,H=>by simp[AV.cl]at hc
 | .rp i ver k off,v,hc,H=>by simp[AV.cl]at hc
 | .bp T d off,v,_,H=>by unfold AV.rel at H⊢;exact H
 | .agg l,v,hc,H=>by
  unfold AV.cl at hc;unfold AV.rel at H⊢;obtain⟨cs,e,hl⟩:=H;exact⟨cs,e,Bn l cs hc hl⟩
 | .tup l,v,hc,H=>by
  unfold AV.cl at hc;unfold AV.rel at H⊢;obtain⟨cs,e,hl⟩:=H;exact⟨cs,e,Bn l cs hc hl⟩
 | .fn f l,v,hc,H=>by
  unfold AV.cl at hc;unfold AV.rel at H⊢;obtain⟨cs,e,hl⟩:=H;exact⟨cs,e,Bn l cs hc hl⟩
theorem Bn:∀(l:List AV) (cs:List eC),Bl l=aP->Ak w S h ψ l cs->Ak w S h' ψ' l cs
 | [],cs,_,H=>by unfold Ak at H⊢;exact H
 |x::l,cs,hc,H=>by
  unfold Bl at hc;rw[aL]at hc;unfold Ak at H⊢;obtain⟨v,vs,e,h1,h2⟩:=H;exact⟨v,vs,e,DE x v hc.1 h1,Bn l vs hc.2 h2⟩
end
end
def ψ0:Nat->eC:=λ_=>undef
def Ch(P:cG)(f:bF):Bool:=
 match P.funcs[f]? with
 |some fn=>!(fn.name == "runtime.NumGoroutine")&&!fn.body.isNone
 |none=>aM
def Fn(P:cG)(f:bF)(args:List AV)(r:AV):Prop:=
 Ch P f=aP/\∀(w:eG) (S:Nat->Prop) (vs:List eC),(∀k,S k->k < w.heap.size)->Ak w S [] ψ0 args vs->
  a8 P f vs.toArray w λe w'=>∃v,e= .returned v/\Zi w S [] ψ0 r v w'
theorem VR{P:cG}{args:List AV}(h:Fn P f args (.lit (.slice jS 0 0))):Fn P f args (.bs T []):=
 ⟨h.1,λw S vs x r=>(h.2 w S vs x r).mono λe w' ⟨v,s,u,S',q,m,j,d⟩=>⟨v,s,u,S',q,m,j,by
  unfold AV.rel at d⊢;rw[d];exact T.slice_nilS _ _⟩⟩
theorem Ck{w:eG}{S:Nat->Prop}{h:List ABlk}{ψ:Nat->eC}{t:List AV}{ρ:cF->eC}:∀{l:List cF},(∀x∈l,AV.rel w S h ψ (evA t x) (ρ x))->Ak w S h ψ (l.map (evA t)) (l.map ρ)
 | [],_=>by unfold Ak;rfl
 |x::l,H=>by
  simp only[gY];unfold Ak;exact⟨_,_,rfl,H x (by simp),Ck λy d=>H y (by simp[d])⟩
theorem CC{P:cG}{args:Array cF}(ho:o.op= .call {callee:=.value (.func f),args:=args,argTypes:=tys})(hE:Ch P f=aP)(ρ:cF->eC)(w:eG)(hρ:ρ (.func f)= .func (.func f) #[] #[]):
 (eR ρ o).run P w= .ok (.enter f (args.map ρ)) w:=by
 unfold Ch at hE;cases hf:P.funcs[f]? with
 |none=>rw[hf]at hE;cases hE
 |some fn=>
  rw[hf]at hE;simp only[zas]at hE;have h1:¬fn.name= "runtime.NumGoroutine" :=by simpa using hE.1
  have h2:¬fn.body=jS:=λe=>by have:=hE.2;rw[e]at this;cases this
  simp[eR,ho,fF,Deferred.ofValue,hρ,eZ,eO,hf,h1,h2]
theorem AX.call{P:cG}{C:Ctx}{t:List AV}{h:List ABlk}{args:Array cF}{xs:List AV}{r:AV}
 (m:o.op= .call {callee:=.value (.func f),args:=args,argTypes:=tys})(q:Fn P f xs r)(hx:args.toList.map (evA t)=xs)(hc:Bl xs=aP)(E:AV.cl r=aP):AX P C t h o r:=by
 intro S ψ w ρ H d;have h1:ρ (.func f)= .func (.func f) #[] #[]:=by
  have:=d (.func f) (by rw[m];exact aD.2 (.inl (by simp)));simpa[evA,AV.rel]using this
 rw[CC m q.1 ρ w h1];refine⟨rfl,?_⟩;have h2:Ak w S h ψ xs (args.toList.map ρ):=by
  rw[<-hx];exact Ck λx j=>d x (by rw[m];exact aD.2 (.inr (aE.1 j)))
 have I:=q.2 w S (args.toList.map ρ) H.lt (Bn _ _ hc h2);rw[show(args.map ρ)=(args.toList.map ρ).toArray from(by rw[<-aI])];refine I.mono ?_;rintro e w' ⟨v,F,G,S',D,z,u,s⟩;exact⟨v,F,G,S',D,z,u,DE _ _ E s⟩
inductive Lent(h:List ABlk):List AV->List AV->Prop
 |nil:Lent h [] []
 |cl {x:AV} {l l':List AV} (hx:AV.cl x=true) (hl:Lent h l l'):Lent h (x::l) (x::l')
 |own {i ver:Nat} {e:TypeId} {α:Type} {T:Ty α} {d:List α} {l l':List AV} (hi:h[i]? =some (.row ver e T d)) (hl:Lent h l l'):Lent h (.own i ver::l) (.bs T d::l')
theorem Lent.rel{C:Ctx}{w:eG}{S:Nat->Prop}{h:List ABlk}{ψ:Nat->eC}(H:HRel C h S ψ w):∀{l l':List AV} {vs:List eC},Lent h l l'->Ak w S h ψ l vs->Ak w (λk=>k < w.heap.size) [] ψ0 l' vs
 | [],_,vs,j,q=>by
  cases j;unfold Ak at q⊢;exact q
 |x::l,_,vs,j,q=>by
  have X:Ext w S h ψ w (λk=>k < w.heap.size) h ψ:=Ext.grow h ψ (λ_ _=>rfl) H.lt;unfold Ak at q;obtain⟨v,m,e,h1,h2⟩:=q;cases j with
  |cl hx j=>
   unfold Ak;exact⟨v,m,e,DE _ _ hx (FY X _ _ h1),Lent.rel H j h2⟩
  |own hi j=>
   unfold Ak;refine⟨v,m,e,?_,Lent.rel H j h2⟩;unfold AV.rel at h1⊢;have u:=(h1.2 _ (by rw[hi];rfl)).2 V;subst u;obtain⟨cells,r,E,s,D⟩:=H.blk _ _ hi;exact Dh r (λi d z=>Ty.keepS _ (s i d z) (λ_ _=>rfl) H.lt) λg hg=>(eL r g hg).2
theorem Kh{P:cG}{C:Ctx}{t:List AV}{h:List ABlk}{args:Array cF}{xs:List AV}{u:eC}
 (m:o.op= .call {callee:=.value (.func f),args:=args,argTypes:=tys})(s:Fn P f xs (.lit u))(hx:Lent h (args.toList.map (evA t)) xs):AX P C t h o (.lit u):=by
 intro S ψ w ρ H d;have h1:ρ (.func f)= .func (.func f) #[] #[]:=by
  have:=d (.func f) (by rw[m];exact aD.2 (.inl (by simp)));simpa[evA,AV.rel]using this
 rw[CC m s.1 ρ w h1];refine⟨rfl,?_⟩;have h2:Ak w S h ψ (args.toList.map (evA t)) (args.toList.map ρ):=Ck λx j=>d x (by rw[m];exact aD.2 (.inr (aE.1 j)))
 have D:=s.2 w _ (args.toList.map ρ) (λ_ h=>h) (Lent.rel H hx h2);rw[show(args.map ρ)=(args.toList.map ρ).toArray from(by rw[<-aI])];refine D.mono ?_;rintro e w' ⟨v,z,r,S',G,F,E,q⟩;refine⟨v,z,r,S,λ_ h=>h,λ_ h=>.inl h,λk hk=>jC (H.lt k hk) r.size,?_⟩;unfold AV.rel at q⊢;exact q
def Fin(h:List ABlk)(x r:AV):Prop:=mkD h= []/\
 ∀(C:Ctx) (S:Nat->Prop) (ψ:Nat->eC) (w:eG) (v:eC),C.std->HRel C h S ψ w->AV.rel w S h ψ x v->
  ∃S':Nat->Prop,(∀k,S k->S' k)/\(∀k,S' k->S k\/C.w0.heap.size<=k)/\(∀k,S' k->k < w.heap.size)/\AV.rel w S' [] ψ0 r v
theorem Fin.cl{h:List ABlk}{r:AV}(j:AV.cl r=aP)(m:mkD h= []:=by rfl):Fin h r r:=⟨m,λC S ψ w v _ H d=>⟨S,λ_ h=>h,λ_ h=>.inl h,H.lt,DE _ _ j d⟩⟩
theorem Fin.own{h:List ABlk}{ver:Nat}{l:List α}(hi:h[i]? =jT (.row ver e T l))(r:mkD h= []:=by rfl):Fin h (.own i ver) (.bs T l):=⟨r,λC S ψ w v u H q=>by
 unfold AV.rel at q;have j:=(q.2 _ (by rw[hi];rfl)).2 V;subst j;obtain⟨cells,h1,h0,h2,x⟩:=H.blk i _ hi;refine⟨λk=>S k\/(ψ i).ownBlock=jT k,λ_ h=>.inl h,λk hk=>?_,λk hk=>?_,?_⟩
 ·rcases hk with hk|hk
  ·exact .inl hk
  ·exact .inr (i9 λm=>(x k hk).1 (u k m))
 ·rcases hk with hk|hk
  ·exact H.lt k hk
  ·exact(eL h1 k hk).2
 ·unfold AV.rel;exact Dh h1 (λi d s=>T.keepS (h2 i d s) (λ_ _=>rfl) λ_ h=>.inl h) λg hg=>.inr hg⟩
def ABd(t:Tmp)(r:AV):bC->St->Prop:=λe s=>(e= .normal\/e= .ret)/\Fin s.h (evA s.t (.tmp t)) r
def AAj(t u:Tmp)(r q:AV):bC->St->Prop:=λe s=>(e= .normal\/e= .ret)/\∃d j,Fin s.h (.tup [evA s.t (.tmp t),evA s.t (.tmp u)]) (.tup [d,j])/\d=r/\j=q
theorem Dv{w:eG}{S:Nat->Prop}{args:List AV}{vs:List eC}{n:Nat}(q:∀k,S k->k < w.heap.size)(m:Ak w S [] ψ0 args vs):
 St.rel ⟨w,S,λk=>k < w.heap.size,jS⟩ ⟨args++iJ (n - args.length) (.lit undef),[]⟩ {tmps:=vs.toArray++aF (n - vs.toArray.size) undef,defers:=[]} w:=by
 refine⟨rfl,S,ψ0,⟨Kp.refl _ _,λ_ h=>h,q,λ_ h=>h,λ_ h=>.inl h,λi b hi=>by simp at hi,λi j _ hi=>by simp[ABlk.live]at hi⟩,?_⟩;simp only[zao];refine BP m (DV (by simp[BB m]) λi x v hx d=>?_);rw[gL]at hx d;split at hx <;> cases hx
 split at d <;> cases d
 unfold AV.rel;rfl
theorem FP{w:eG}{S:Nat->Prop}{s:St}{w':eG}{x r:AV}{d:Nat->Prop}{ψ:Nat->eC}(H:HRel ⟨w,S,λk=>k < w.heap.size,jS⟩ s.h d ψ w')(D:Fin s.h x r)(z:AV.rel w' d s.h ψ x v):Zi w S [] ψ0 r v w':=by
 obtain⟨S',u,q,m,j⟩:=D.2 _ _ _ _ _ (λ_ h=>h) H z;refine⟨H.bel.below λ_ h=>h,S',λk hk=>u k (H.sub k hk),λk hk=>?_,m,j⟩;rcases q k hk with h1|h1
 ·exact H.new k h1
 ·exact .inr h1
theorem AT{P:cG}{fn:bE}{args:List AV}{r:AV}{t:Tmp}{n:Nat}(E:P.funcs[f]? =jT fn)(G:fn.body=jT c)(J:Ch P f=aP)(m:fn.results= #[.tmp t])(z:fn.ntmps=n)
 (h:∀C:Ctx,C.std->Awp P C c (ABd t r) ⟨args++iJ (n - args.length) (.lit undef),[]⟩):Fn P f args r:=by
 refine⟨J,λw S vs I x=>eQ E G ?_⟩;rw[z];refine wp_mono ((h ⟨w,S,λk=>k < w.heap.size,jS⟩ (λ_ h=>h)).wp V (Dv I x)) ?_;rintro e a' w' ⟨s,⟨F,j⟩,q,L,ψ,H,D⟩;rw[j.1]at q;have u:=BA D (.tmp t);have hg:=FP H j u;have d:(results fn a'.tmps).run P w'= .ok (a'.eval (.tmp t)) w':=fG m _ _ _;rcases F with rfl|rfl
 ·exact⟨q,_,d,_,rfl,hg⟩
 ·exact⟨q,_,d,_,rfl,hg⟩
theorem Acl{P:cG}{fn:bE}{args:List AV}{r q:AV}{t u:Tmp}{n:Nat}(G:P.funcs[f]? =jT fn)(J:fn.body=jT c)(O:Ch P f=aP)(m:fn.results= #[.tmp t,.tmp u])(F:fn.ntmps=n)
 (h:∀C:Ctx,C.std->Awp P C c (AAj t u r q) ⟨args++iJ (n - args.length) (.lit undef),[]⟩):Fn P f args (.tup [r,q]):=by
 refine⟨O,λw S vs L E=>eQ G J ?_⟩;rw[F];refine wp_mono ((h ⟨w,S,λk=>k < w.heap.size,jS⟩ (λ_ h=>h)).wp V (Dv L E)) ?_;rintro e a' w' ⟨s,⟨I,W,X,j,rfl,rfl⟩,x,U,ψ,H,z⟩;rw[j.1]at x;have D:AV.rel w' U s.h ψ (.tup [evA s.t (.tmp t),evA s.t (.tmp u)]) (.tuple #[a'.eval (.tmp t),a'.eval (.tmp u)]):=by
  unfold AV.rel;refine⟨[a'.eval (.tmp t),a'.eval (.tmp u)],rfl,?_⟩;unfold Ak;refine⟨_,_,rfl,BA z (.tmp t),?_⟩;unfold Ak;refine⟨_,_,rfl,BA z (.tmp u),?_⟩;unfold Ak;rfl
 have hg:=FP H j D;have d:(results fn a'.tmps).run P w'= .ok (.tuple #[a'.eval (.tmp t),a'.eval (.tmp u)]) w':=results_tmp2 m _ _ _;rcases I with rfl|rfl
 ·exact⟨x,_,d,_,rfl,hg⟩
 ·exact⟨x,_,d,_,rfl,hg⟩
theorem nS{P:cG}{C:Ctx}{h:List ABlk}{Q:bC->St->Prop}{t t':List AV}(hk:Awp P C c Q ⟨t',h⟩)(ht:t=t':=by(simp only[Nat.reduceAdd,Nat.reduceSub,zaa];exact V)):Awp P C c Q ⟨t,h⟩:=by
 subst ht;exact hk
end Mu
namespace Mu
open Go Go.RowKit Go.ChangeShapes Go.WideShapes
variable{α:Type}{T:Ty α}{a b:Int}{c:Nat}{cs:List eC}{d:α}{e:eA}{enc:α->List AV}{i:Nat}{ik:bR}{j:Nat}{k:bR}{l:List α}{n off:Nat}{r:AV}{st ty:eA}{tys:Array eA}{ver:Nat}{x:cF}{xt:eA}{y:cF}{yt:eA}
def Enc{α:Type}(T:Ty α)(enc:α->List AV):Prop:=∀(w:eG) (S:Nat->Prop) (h:List ABlk) (ψ:Nat->eC) (cs:List eC) (d:α),T.RS w S cs d->Ak w S h ψ (enc d) cs
section
variable{P:cG}{C:Ctx}{t:List AV}{h:List ABlk}{o:bZ}
variable{w:eG}{S:Nat->Prop}{ψ:Nat->eC}
theorem Arv(k:bR):Enc (Ty.int k) λd=>[.lit (.int k d)]:=by
 rintro w S h ψ cs d ⟨rfl,_⟩;simp[Ak,AV.rel]
theorem Al6:Enc Ty.bool λd=>[.lit (.bool d)]:=by
 rintro w S h ψ cs d rfl;simp[Ak,AV.rel]
theorem U1(T:Ty α):Enc T.slice λl=>[.bs T l]:=by
 intro w S h ψ cs d H;obtain⟨A,c,rfl,_⟩:=id H;unfold Ak;refine⟨_,_,rfl,?_,?_⟩
 ·unfold AV.rel;exact H
 ·unfold Ak;rfl
theorem AQ(H:∀S ψ w (ρ:cF->eC),HRel C h S ψ w->(∀x∈o.op.operands,AV.rel w S h ψ (evA t x) (ρ x))->∃v,(eR ρ o).run P w= .ok (.value v) w/\AV.rel w S h ψ r v):AX P C t h o r:=by
 intro S ψ w ρ h1 h2;obtain⟨v,e,m⟩:=H S ψ w ρ h1 h2;rw[e];exact Zi.same h1.lt m
theorem AX.move(q:o.op= .move x)(hx:evA t x=r):AX P C t h o r:=
 AQ λS ψ w ρ _ m=>⟨ρ x,by simp[eR,q],by rw[<-hx];exact m x (by simp[q,bY])⟩
theorem AX.assign(q:o.op= .assign x)(hx:evA t x=r):AX P C t h o r:=
 AQ λS ψ w ρ _ m=>⟨ρ x,by simp[eR,q],by rw[<-hx];exact m x (by simp[q,bY])⟩
theorem AX.pick{c a b:cF}{q:Bool}(s:o.op= .pick c a b)(hc:evA t c= .lit (.bool q))(u:(if q then evA t a else evA t b)=r):AX P C t h o r:=
 AQ λS ψ w ρ _ m=>by
  have h1:=m c (by simp[s,bY]);have h2:=m a (by simp[s,bY]);have z:=m b (by simp[s,bY]);rw[hc]at h1;unfold AV.rel at h1;cases q
  ·exact⟨ρ b,by simp[eR,s,h1,asBool],by rw[<-u];exact z⟩
  ·exact⟨ρ a,by simp[eR,s,h1,asBool],by rw[<-u];exact h2⟩
theorem AX.extract{xs:List AV}(q:o.op= .extract x j)(hx:evA t x= .tup xs)(s:xs[j]? =jT r):AX P C t h o r:=
 AQ λS ψ w ρ _ m=>by
  have h1:=m x (by simp[q,bY]);rw[hx]at h1;unfold AV.rel at h1;obtain⟨cs,e,u⟩:=h1;obtain⟨v,h2,z⟩:=Cb u s;exact⟨v,by simp[eR,q,e,Instr.extract,h2],z⟩
def Hy(op:BinOp)(k:bR)(a b:Int):Option eC:=
 match op with
 | .add=>jT (.int k (k.wrap (a+b)))
 | .sub=>jT (.int k (k.wrap (a - b)))
 | .mul=>jT (.int k (k.wrap (a * b)))
 | .eql=>jT (.bool (a ==b))
 | .neq=>jT (.bool (a !=b))
 | .lss=>jT (.bool (aU (a < b)))
 | .leq=>jT (.bool (aU (a<=b)))
 | .gtr=>jT (.bool (aU (a > b)))
 | .geq=>jT (.bool (aU (a≥b)))
 | .quo=>if b=0 then jS else jT (.int k (k.wrap (a.tdiv b)))
 | .rem=>if b=0 then jS else jT (.int k (a.tmod b))
 |_=>jS
theorem CN{op:BinOp}{v:eC}(s:o.op= .binOp op xt x y yt)(hx:evA t x= .lit (.int k a))(z:evA t y= .lit (.int k b))(m:Hy op k a b=jT v):AX P C t h o (.lit v):=
 AQ λS ψ w ρ _ q=>by
  have h1:=q x (by simp[s,bY]);have h2:=q y (by simp[s,bY]);rw[hx]at h1;rw[z]at h2;unfold AV.rel at h1 h2;refine⟨v,?_,by unfold AV.rel;rfl⟩;cases op <;> simp only[Hy,jV,reduceCtorEq]at m
  case quo=>
   split at m <;> simp only[jV,reduceCtorEq]at m
   rename_i u;subst m;simp[eR,s,h1,h2,eqGuard,binOp,Op.intDiv,u]
  case rem=>
   split at m <;> simp only[jV,reduceCtorEq]at m
   rename_i u;subst m;simp[eR,s,h1,h2,eqGuard,binOp,Op.intDiv,u]
  all_goals
   subst m;simp[eR,s,h1,h2,eqGuard,binOp,Op.intArith,Op.intCmp]
theorem El(q:o.op= .binOp .add xt x y yt)(hx:evA t x= .lit (.int .i64 a))(m:evA t y= .lit (.int .i64 b))(s:-9223372036854775808<=a+b/\a+b<=9223372036854775807):AX P C t h o (.lit (.int .i64 (a+b))):=by
 have:=CN (P:=P) (C:=C) (h:=h) q hx m (v:=.int .i64 (a+b)) (by simp only[Hy];rw[IntWalk.i64_in _ ⟨by omega,by omega⟩]);exact this
theorem EZ(q:o.op= .binOp .sub xt x y yt)(hx:evA t x= .lit (.int .i64 a))(m:evA t y= .lit (.int .i64 b))(s:-9223372036854775808<=a - b/\a - b<=9223372036854775807):AX P C t h o (.lit (.int .i64 (a - b))):=by
 have:=CN (P:=P) (C:=C) (h:=h) q hx m (v:=.int .i64 (a - b)) (by simp only[Hy];rw[IntWalk.i64_in _ ⟨by omega,by omega⟩]);exact this
theorem Cu{b:Bool}(q:o.op= .unOp .not xt x)(hx:evA t x= .lit (.bool b)):AX P C t h o (.lit (.bool (!b))):=
 AQ λS ψ w ρ _ m=>by
  have h1:=m x (by simp[q,bY]);rw[hx]at h1;unfold AV.rel at h1;exact⟨_,by simp[eR,q,h1,Op.unary];rfl,by unfold AV.rel;rfl⟩
def RG(P:cG)(ty:eA):Option (Bool×Nat):=
 match P.underlying ty,P.info? ty with
 |some (.struct _),jT i=>jT (aP,i.size)
 |some (.array _ _),jT i=>jT (aP,i.size)
 |some _,jT i=>jT (aM,i.size)
 |_,_=>jS
theorem NY{b o:Nat}(w:eG)(hc:∀j u,cs[j]? =jT u->w.cell? ⟨b,o+j,jS⟩=jT u):(loadCells ⟨b,o,jS⟩ cs.length).run P w= .ok cs.toArray w:=
 run_loadCells_list w _ cs λj v q=>by
  have:=hc j v q;unfold aW;split
  ·rename_i m;subst m;exact this
  ·exact this
theorem Jb{b:Nat}{w:eG}(m:RG P ty=jT (aP,n))(s:cs.length=n)(hc:∀j u,cs[j]? =jT u->w.cell? ⟨b,off+j,jS⟩=jT u):
 (bM ty (.pointer (jT ⟨b,off,jS⟩))).run P w= .ok (.agg cs.toArray) w:=by
 have q:=NY (P:=P) w hc;rw[s]at q;unfold RG at m;split at m <;> simp only[jV,Prod.mk.injEq,reduceCtorEq,aR,aN,false_and,true_and]at m
 ·rename_i h1 h2;simp[bM,bP,loadVar,isAgg,underlying,h1,fK,fM,h2,m,q]
 ·rename_i h1 h2;simp[bM,bP,loadVar,isAgg,underlying,h1,fK,fM,h2,m,q]
theorem Ja{b:Nat}{u:eC}{w:eG}(m:RG P ty=jT (aM,n))(hc:w.cell? ⟨b,off,jS⟩=jT u):
 (bM ty (.pointer (jT ⟨b,off,jS⟩))).run P w= .ok u w:=by
 unfold RG at m;split at m <;> simp only[jV,Prod.mk.injEq,reduceCtorEq,aR,aN,false_and,true_and]at m
 rename_i d i q hi h1 h2;have:(isAgg ty).run P w= .ok aM w:=by
  unfold isAgg underlying;simp only[dX,run_program,Result.andThen_ok,h1];cases d <;> first|rfl|exact absurd V (q _)|exact absurd V (hi _ _)
 simp[bM,bP,loadVar,this,hc]
def Lm(h:List ABlk)(x:AV)(cells:List AV):Prop:=∀(C:Ctx) (S:Nat->Prop) (ψ:Nat->eC) (w:eG) (v:eC),HRel C h S ψ w->AV.rel w S h ψ x v->
 ∃b off,v= .pointer (jT ⟨b,off,jS⟩)/\∀j y,cells[j]? =jT y->∃u,w.cell? ⟨b,off+j,jS⟩=jT u/\AV.rel w S h ψ y u
def Am2(h:List ABlk)(x:AV)(n:Nat)(y:AV):Prop:=∀(C:Ctx) (S:Nat->Prop) (ψ:Nat->eC) (w:eG) (v:eC),HRel C h S ψ w->AV.rel w S h ψ x v->
 ∃b off,v= .pointer (jT ⟨b,off,jS⟩)/\AV.rel w S h ψ y (.pointer (jT ⟨b,off+n,jS⟩))
theorem Lm.ptr{cells:List AV}(hi:h[i]? =jT (.box cells)):Lm h (.ptr i off) (cells.drop off):=λC S ψ w v H q=>by
 unfold AV.rel at q;obtain⟨g,h1,rfl⟩:=q.2 (by rw[hi];rfl);obtain⟨F,cs,e,h2,_,_,E,D⟩:=H.blk i _ hi;rw[h1]at h2;cases h2;refine⟨g,off,rfl,λj y m=>?_⟩;rw[gG]at m;obtain⟨u,z,s⟩:=Cb D m;exact⟨u,by simp[eH,E,z],s⟩
theorem Am2.ptr{cells:List AV}(hi:h[i]? =jT (.box cells)):Am2 h (.ptr i off) n (.ptr i (off+n)):=λC S ψ w v H m=>by
 unfold AV.rel at m⊢;obtain⟨g,h1,rfl⟩:=m.2 (by rw[hi];rfl);exact⟨g,off,rfl,m.1,λ_=>⟨g,h1,rfl⟩⟩
theorem Lm.bp(E:Enc T enc):Lm h (.bp T d off) ((enc d).drop off):=λC S ψ w v H q=>by
 unfold AV.rel at q;obtain⟨b,o,rfl,F,cs,s,hc⟩:=q;refine⟨b,o+off,rfl,λj y m=>?_⟩;rw[gG]at m;obtain⟨u,D,z⟩:=Cb (E w S h ψ cs d s) m;exact⟨u,by rw[iX];exact hc _ _ D,z⟩
theorem Am2.bp:Am2 h (.bp T d off) n (.bp T d (off+n)):=λC S ψ w v H q=>by
 unfold AV.rel at q;obtain⟨b,o,rfl,m⟩:=q;exact⟨b,o+off,rfl,by unfold AV.rel;exact⟨b,o,by rw[iX],m⟩⟩
theorem Lm.rp{k:Nat}(hi:h[i]? =jT (.row ver e T l))(hk:l[k]? =jT d)(E:Enc T enc):Lm h (.rp i ver k off) ((enc d).drop off):=λC S ψ w v H D=>by
 unfold AV.rel at D;obtain⟨g,n,c,h1,rfl⟩:=(D.2 _ (by rw[hi];rfl)).2 V;obtain⟨cells,h2,h0,L,_⟩:=H.blk i _ hi;rw[h1]at h2;refine⟨g,_,rfl,λj y z=>?_⟩;rw[gG]at z;obtain⟨u,q,J⟩:=Cb (E w S h ψ _ d (L k d hk)) z;have I:off+j < T.size:=by
  have:=(gJ.1 q).1;simp at this;omega
 rw[gQ I,gG]at q;have G:k < l.length:=(gJ.1 hk).1;have F:k * T.size+(off+j) < n * T.size:=by
  have O:n=l.length:=by
   rcases h2.2 with⟨s,_⟩|⟨U,cap,cur,s,_⟩
   ·cases s
   ·cases s;rfl
  have:(k+1) * T.size<=n * T.size:=jG _ (by omega);rw[iZ,jJ]at this;omega
 refine⟨u,?_,J⟩;have m:=eK h2 (g:=g) V _ _ q;rw[hi];show w.cell? ⟨g,k * T.size+off+j,jS⟩=jT u;rw[add_plain,jM,<-iX]at m;exact m
theorem Am2.rp{k:Nat}(hi:h[i]? =jT (.row ver e T l)):Am2 h (.rp i ver k off) n (.rp i ver k (off+n)):=λC S ψ w v H q=>by
 unfold AV.rel at q⊢;obtain⟨g,m,c,h1,rfl⟩:=(q.2 _ (by rw[hi];rfl)).2 V;exact⟨g,_,rfl,q.1,λu s=>⟨(q.2 u s).1,λ_=>⟨g,m,c,h1,by rw[iX]⟩⟩⟩
theorem Ek{a:AV}{cells:List AV}(q:o.op= .load ty x)(D:RG P ty=jT (aM,n))(hx:evA t x=a)(hc:Lm h a cells)(s:cells[0]? =jT r):AX P C t h o r:=
 AQ λS ψ w ρ H m=>by
  have h1:=m x (by simp[q,bY]);rw[hx]at h1;obtain⟨b,off,e,z⟩:=hc C S ψ w _ H h1;obtain⟨u,h2,E⟩:=z 0 r s;exact⟨u,by simp[eR,q,e,Ja D (by simpa using h2)],E⟩
theorem Gm{a:AV}{cells rs:List AV}(J:o.op= .load ty x)(Y:RG P ty=jT (aP,n))(hx:evA t x=a)(hc:Lm h a cells)(U:cells.take n=rs)(hn:rs.length=n):AX P C t h o (.agg rs):=
 AQ λS ψ w ρ H F=>by
  have h1:=F x (by simp[J,bY]);rw[hx]at h1;obtain⟨b,off,e,X⟩:=hc C S ψ w _ H h1;have E:∀m,m<=n->∃cs:List eC,cs.length=m/\Ak w S h ψ (rs.take m) cs/\∀j u,cs[j]? =jT u->w.cell? ⟨b,off+j,jS⟩=jT u:=by
   intro m;induction m with
   |zero=>exact λ_=>⟨[],rfl,by simp[Ak],by simp⟩
   |succ m L=>
    intro hm;obtain⟨cs,D,q,s⟩:=L (by omega);have O:rs[m]? =jT (rs[m]'(by omega)):=gH (by omega);have G:rs[m]? =cells[m]?:=by rw[<-U,gQ (by omega)]
    have I:cells[m]? =jT (rs[m]'(by omega)):=G.symm.trans O;obtain⟨u,h2,Z⟩:=X m _ I;refine⟨cs++[u],by simp[D],?_,λj v z=>?_⟩
    ·rw[iS (by omega)];refine BP q ?_;unfold Ak;refine⟨u,[],rfl,Z,?_⟩;unfold Ak;rfl
    ·by_cases W:j < m
     ·exact s j v (by rwa [gC (by omega)]at z)
     ·have:j=m:=by
       have:=(gJ.1 z).1;simp[D]at this;omega
      subst this;rw[gD (by omega),D]at z;simp at z;subst z;exact h2
  obtain⟨cs,D,q,s⟩:=E n (jA _);rw[iR (by omega)]at q;refine⟨.agg cs.toArray,by simp[eR,J,e,Jb Y D s],?_⟩;unfold AV.rel;exact⟨cs,rfl,q⟩
def Ou(P:cG)(st:eA)(j:Nat):Option Nat:=
 match P.underlying st with
 |some (.struct fs)=>
  match fs[j]? with
  |some f=>match P.info? f.type with
   |some i=>if i.size=0 then jS else jT f.offset
   |none=>jS
  |none=>jS
 |_=>jS
theorem Wi{b:Nat}{w:eG}(m:Ou P st j=jT n):(bJ st (.pointer (jT ⟨b,off,jS⟩)) j).run P w= .ok (.pointer (jT ⟨b,off+n,jS⟩)) w:=by
 unfold Ou at m;split at m <;> try(cases m;done)
 rename_i fs h1;split at m <;> try(cases m;done)
 rename_i f h2;split at m <;> try(cases m;done)
 rename_i i s;split at m <;> try(cases m;done)
 rename_i q;cases m;simp[bJ,underlying,h1,h2,bP,fieldPlace,fK,fM,s,q,add_plain]
theorem AX.fieldAddr{a:AV}(q:o.op= .fieldAddr st x j)(z:Ou P st j=jT n)(hx:evA t x=a)(s:Am2 h a n r):AX P C t h o r:=
 AQ λS ψ w ρ H m=>by
  have h1:=m x (by simp[q,bY]);rw[hx]at h1;obtain⟨b,off,e,u⟩:=s C S ψ w _ H h1;exact⟨_,by simp[eR,q,e,Wi z],u⟩
def PN(P:cG)(ty:eA):Option Nat:=
 match P.underlying ty with
 |some (.slice e)=>(P.info? e).map (·.size)
 |_=>jS
theorem GT{sz b k:Nat}{w:eG}(m:PN P ty=jT sz)(hk:k < n):(bL ty (.slice (jT ⟨b,off,jS⟩) n c) (.int ik (k:Int))).run P w= .ok (.pointer (jT ⟨b,off+k * sz,jS⟩)) w:=by
 unfold PN at m;split at m <;> try(cases m;done)
 rename_i e h1;cases h2:P.info? e with
 |none=>rw[h2]at m;cases m
 |some i=>
  rw[h2]at m;simp only[jR,jV]at m;have q:(0:Int)<=(k:Int)/\(k:Int) < (n:Int):=by omega
  simp[bL,asIntOf,underlying,h1,fK,fM,h2,m,add_plain,hk]
theorem KE{n:Int}(q:o.op= .indexAddr ty x y)(E:PN P ty=jT T.size)(hx:evA t x= .bs T l)(D:evA t y= .lit (.int ik n))(h0:0<=n)(z:l[n.toNat]? =jT d):
 AX P C t h o (.bp T d 0):=
 AQ λS ψ w ρ H m=>by
  have h1:=m x (by simp[q,bY]);have h2:=m y (by simp[q,bY]);rw[hx]at h1;rw[D]at h2;unfold AV.rel at h1 h2;obtain⟨A,c,e,hc,-,hi⟩:=h1;obtain⟨b,off,rfl,s⟩:=hi _ _ z;have hk:n.toNat < l.length:=(gJ.1 z).1;have F:n=(n.toNat:Int):=by omega
  simp only[fR,and_true]at e;have u:=GT (P:=P) (w:=w) (b:=b) (off:=off) (c:=c) (ik:=ik) E hk;rw[<-F]at u;refine⟨_,by simp[eR,q,e,h2,u];rfl,?_⟩;unfold AV.rel;exact⟨b,_,rfl,s⟩
theorem JQ{n:Int}(s:o.op= .indexAddr ty x y)(hx:evA t x= .own i ver)(hi:h[i]? =jT (.row ver e T l))(G:PN P ty=jT T.size)
 (F:evA t y= .lit (.int ik n))(h0:0<=n)(hk:n.toNat < l.length):AX P C t h o (.rp i ver n.toNat 0):=
 AQ λS ψ w ρ H m=>by
  have h1:=m x (by simp[s,bY]);have h2:=m y (by simp[s,bY]);rw[hx]at h1;rw[F]at h2;unfold AV.rel at h1 h2;have E:=(h1.2 _ (by rw[hi];rfl)).2 V;obtain⟨cells,q,J,-,-⟩:=H.blk i _ hi;rcases q.2 with⟨z,O⟩|⟨g,cap,cur,z,-⟩
  ·omega
  ·have I:n=(n.toNat:Int):=by omega
   have D:=GT (P:=P) (w:=w) (b:=g) (off:=0) (n:=l.length) (c:=cap) (ik:=ik) G hk;rw[<-I]at D;rw[z]at E;refine⟨_,by simp[eR,s,E,h2,D];rfl,?_⟩;unfold AV.rel;refine⟨h1.1,λL u=>⟨(h1.2 L u).1,λ_=>⟨g,l.length,cap,z,?_⟩⟩⟩;rw[hi];show _=Value.pointer (jT ⟨g,n.toNat * T.size+0,jS⟩);simp
def GV(P:cG)(ty:eA):Bool:=
 match P.underlying ty with
 |some (.slice _)=>aP
 |_=>aM
theorem R4{m:eA}{a:Option aV}{w:eG}(q:GV P ty=aP):(a6 #[ty] m #[.slice a n c]).run P w= .ok (.int .i64 (n:Int)) w:=by
 unfold GV at q;split at q <;> try(cases q;done)
 rename_i e h1;simp[a6,underlying,h1,goInt]
theorem NN(q:o.op= .call {callee:=.builtin .len,args:=#[x],argTypes:=#[ty]})(s:GV P ty=aP)(hx:evA t x= .bs T l):AX P C t h o (.lit (.int .i64 (l.length:Int))):=
 AQ λS ψ w ρ H m=>by
  have h1:=m x (by simp[q,bY,a7]);rw[hx]at h1;unfold AV.rel at h1;obtain⟨A,c,e,-⟩:=h1;simp only[fR,and_true]at e;refine⟨_,by simp[eR,q,fF,eZ,builtin,e,R4 s];rfl,?_⟩;unfold AV.rel;rfl
theorem S6(u:o.op= .call {callee:=.builtin .len,args:=#[x],argTypes:=#[ty]})(hx:evA t x= .own i ver)(hi:h[i]? =jT (.row ver e T l))(D:GV P ty=aP):AX P C t h o (.lit (.int .i64 (l.length:Int))):=
 AQ λS ψ w ρ H s=>by
  have h1:=s x (by simp[u,bY,a7]);rw[hx]at h1;unfold AV.rel at h1;have q:=(h1.2 _ (by rw[hi];rfl)).2 V;obtain⟨cells,m,E,-,-⟩:=H.blk i _ hi;rcases m.2 with⟨z,F⟩|⟨g,cap,cur,z,-⟩
  ·rw[z]at q;refine⟨_,by simp[eR,u,fF,eZ,builtin,q,R4 D];rfl,?_⟩;unfold AV.rel;rw[F];rfl
  ·rw[z]at q;refine⟨_,by simp[eR,u,fF,eZ,builtin,q,R4 D];rfl,?_⟩;unfold AV.rel;rfl
theorem S7{a:Option aV}(q:o.op= .call {callee:=.builtin .len,args:=#[x],argTypes:=#[ty]})(hx:evA t x= .lit (.slice a n c))(s:GV P ty=aP):AX P C t h o (.lit (.int .i64 (n:Int))):=
 AQ λS ψ w ρ H m=>by
  have h1:=m x (by simp[q,bY,a7]);rw[hx]at h1;unfold AV.rel at h1;refine⟨_,by simp[eR,q,fF,eZ,builtin,h1,R4 s];rfl,?_⟩;unfold AV.rel;rfl
theorem AX.max2(q:o.op= .call {callee:=.builtin .max,args:=#[x,y],argTypes:=tys})(hx:evA t x= .lit (.int k a))(s:evA t y= .lit (.int k b)):AX P C t h o (.lit (.int k (if b > a then b else a))):=
 AQ λS ψ w ρ H m=>by
  have h1:=m x (by simp[q,bY,a7]);have h2:=m y (by simp[q,bY,a7]);rw[hx]at h1;rw[s]at h2;unfold AV.rel at h1 h2;refine⟨_,by simp[eR,q,fF,eZ,builtin,h1,h2,Builtin.max_,Builtin.max2];rfl,?_⟩;unfold AV.rel;rfl
theorem AX.min2(q:o.op= .call {callee:=.builtin .min,args:=#[x,y],argTypes:=tys})(hx:evA t x= .lit (.int k a))(s:evA t y= .lit (.int k b)):AX P C t h o (.lit (.int k (if b < a then b else a))):=
 AQ λS ψ w ρ H m=>by
  have h1:=m x (by simp[q,bY,a7]);have h2:=m y (by simp[q,bY,a7]);rw[hx]at h1;rw[s]at h2;unfold AV.rel at h1 h2;refine⟨_,by simp[eR,q,fF,eZ,builtin,h1,h2,Builtin.min_,Builtin.min2];rfl,?_⟩;unfold AV.rel;rfl
end
end Mu
namespace Mu
open Go Go.RowKit
variable{A:Option aV}{B:Nat}{Q:bC->Act->eG->Prop}{S:Nat->Prop}{α:Type}{T:Ty α}{a:Act}{c:Nat}{cs:List eC}{ds:List α}{e:eA}{fr:Nat×Nat}{m n:Nat}{o:bZ}{sz:Nat}{t:eA}
theorem Abu{cells:List eC}{i:Nat}(q:cells.length=m * sz)(hi:i < m):((cells++cs).drop (i * sz)).take sz=(cells.drop (i * sz)).take sz:=by
 have h1:(i+1) * sz<=m * sz:=Nat.mul_le_mul (by omega) (jA _);rw[jL]at h1;rw[fT (by omega),iP (by rw[List.length_drop];omega)]
theorem Abv{cells:List eC}(q:cells.length=m * sz)(hc:cs.length=sz):((cells++cs).drop (m * sz)).take sz=cs:=by
 rw[<-q,List.drop_left,<-hc,iQ]
theorem Wg{w:eG}(h:T.slice.RS w S [.slice A n c] ds)(h1:∀cs d,T.RS w S cs d->∀u∈cs,u.oneCell'=aP):
 ∃cells:List eC,cells.length=n * T.size/\(∀b o,A=jT ⟨b,o,jS⟩->∀j u,cells[j]? =jT u->w.cell? ⟨b,o+j,jS⟩=jT u)/\
  (∀i d,ds[i]? =jT d->T.RS w S ((cells.drop (i * T.size)).take T.size) d)/\∀u∈cells,u.oneCell'=aP:=by
 obtain⟨L,_,_⟩:=TG h;have E:∀m,m<=ds.length->∃cells:List eC,cells.length=m * T.size/\(∀b o,A=jT ⟨b,o,jS⟩->∀j u,cells[j]? =jT u->w.cell? ⟨b,o+j,jS⟩=jT u)/\
  (∀i d,i < m->ds[i]? =jT d->T.RS w S ((cells.drop (i * T.size)).take T.size) d)/\∀u∈cells,u.oneCell'=aP:=by
  intro m;induction m with
  |zero=>intro _;exact⟨[],by simp,by simp,by simp,by simp⟩
  |succ m J=>
   intro W;obtain⟨cells,s,hc,F,G⟩:=J (by omega);have z:ds[m]? =jT ds[m]:=gH (by omega);obtain⟨b,o,rfl,_,cs,H,O⟩:=LB h z;have D:=T.len H;refine⟨cells++cs,by rw[gT,s,D,jL],?_,?_,?_⟩
   ·intro b' U e j u hu;cases e;rw[List.getElem?_append]at hu;by_cases I:j < cells.length
    ·rw[if_pos I]at hu;exact hc b o V j u hu
    ·rw[if_neg I]at hu;have:=O _ u hu;rw[show o+m * T.size+(j - cells.length)=o+j from by omega]at this;exact this
   ·intro i d hi q;by_cases e:i=m
    ·subst e;rw[z]at q;cases q;rw[Abv s D];exact H
    ·rw[Abu s (by omega)];exact F i d (by omega) q
   ·intro u hu;rcases g8.1 hu with hu|hu
    ·exact G u hu
    ·exact h1 _ _ H u hu
 obtain⟨cells,s,hc,F,G⟩:=E ds.length (jA _);exact⟨cells,by rw[L];exact s,hc,λi d z=>F i d (gJ.1 z).1 z,G⟩
structure Src(w:World)(size:Nat)(A:Option Addr)(m:Nat)(news:List Value):Prop where
 len:news.length=m * size
 cells:∀j u,news[j]? =some u->∃ad,A=some ad/\w.cell? (ad.add j)=some u
theorem Ape{w:eG}{cs:Array eC}{size:Nat}(h:w.heap[B]? =jT (.cells cs t fr))(s:cs.size=m * size):Src w size (jT ⟨B,0,jS⟩) m cs.toList:=
 ⟨by simpa using s,λj u q=>⟨_,rfl,World.news_of_block h j u q⟩⟩
section
variable{P:cG}{w:eG}
theorem LC{base:Nat}{ty:eA}{i:eB}{z:eC}{size bytes:Nat}(ht:P.underlying t=jT (.slice e))(hi:P.info? e=jT i)(U:i.zero=jT z)
 (D:i.size=size)(L:i.bytes=bytes)(I:z.cells.size=size)(F:0 < size)
 {v:eC}{n:Nat}{xs:List eC}(q:w.ownsRow base e size v n xs){A:Option aV}{m c:Nat}{news:List eC}(G:Src w size A m news)(h1:∀u∈news,u.oneCell'=aP)
 (O:n+m<=fB)(s:(n+m) * bytes<=140737488355328)(E:base<=w.heap.size):
 ∃v' w',(aX #[t,t] ty #[v,.slice A m c]).run P w= .ok v' w'/\w'.ownsRow base e size v' (n+m) (xs++news)/\w.grownBy w' v.ownBlock/\(v'.ownBlock=v.ownBlock\/v'.ownBlock=jT w.heap.size):=by
 have H:∀c,(aX #[t,t] ty #[v,.slice jS 0 c]).run P w= .ok v w:=by
  intro c;rcases q.2 with⟨rfl,rfl⟩|⟨g,cap,cur,rfl,_,_,J,_⟩
  ·simp[aX,fH ht,fK,fM,hi,aZ,aY]
  ·simp[aX,fH ht,fK,fM,hi,aZ,aY,J,storeCells]
 rcases A with _|ad
 ·have Y:news= []:=by
   rcases news with _|⟨u,l⟩
   ·rfl
   ·obtain⟨ad,e,_⟩:=G.cells 0 u V;cases e
  subst Y;have Z:m=0:=by
   have:=G.len;rcases i6 m with h|h
   ·exact h
   ·have:=jI h F;simp at *;omega
  subst Z;exact⟨v,w,H c,by simpa using q,eJ w _,.inl V⟩
 ·obtain⟨v',w',X,h2,h3,_,h5⟩:=run_append_own_at (P:=P) w base t ty e i z size bytes ht hi U D L I F v n xs q ad m c news G.len
   (λj u W=>by obtain⟨aa,e',hc⟩:=G.cells j u W;cases e';exact hc) h1 O s E
  exact⟨v',w',X,h2,h3,h5⟩
theorem Ac9{K:Act->eG->Prop}(s x:cF)(t:eA)
 (X:o.op= .call {callee:=.builtin .append,args:=#[s,x],argTypes:=#[t,t]})(base:Nat)(e:eA)(i:eB)(z:eC)(size bytes:Nat)
 (ht:P.underlying t=jT (.slice e))(hi:P.info? e=jT i)(O:i.zero=jT z)(D:i.size=size)(J:i.bytes=bytes)(H:z.cells.size=size)(I:0 < size)
 {v:eC}{n:Nat}{xs:List eC}(U:a.eval s=v)(G:w.ownsRow base e size v n xs){A:Option aV}{m c:Nat}{news:List eC}(hx:a.eval x= .slice A m c)
 (W:Src w size A m news)(h1:∀u∈news,u.oneCell'=aP)(L:n+m<=fB)(q:(n+m) * bytes<=140737488355328)(E:base<=w.heap.size)
 (h:∀v' w',w'.ownsRow base e size v' (n+m) (xs++news)->w.grownBy w' v.ownBlock->(v'.ownBlock=v.ownBlock\/v'.ownBlock=jT w.heap.size)->K (a.put o.dst v') w'):o.wp P a w K Q:=by
 obtain⟨v',w',F,h2,Z,Y⟩:=LC (P:=P) (ty:=o.type) (c:=c) ht hi O D J H I G W h1 L q E;unfold cD eR;simp only[X,fF,eZ,builtin,List.map_toArray,gY,gZ,U,hx,F,zan];exact h v' w' h2 Z Y
theorem Agg{ops:Array bZ}{D:List bZ}(J:o.guard=jS)(s x:cF)(t:eA)
 (Y:o.op= .call {callee:=.builtin .append,args:=#[s,x],argTypes:=#[t,t]})(base:Nat)(e:eA)(i:eB)(z:eC)(size bytes:Nat)
 (ht:P.underlying t=jT (.slice e))(hi:P.info? e=jT i)(U:i.zero=jT z)(E:i.size=size)(L:i.bytes=bytes)(H:z.cells.size=size)(I:0 < size)
 {v:eC}{n:Nat}{xs:List eC}(W:a.eval s=v)(G:w.ownsRow base e size v n xs){A:Option aV}{m c:Nat}{news:List eC}(hx:a.eval x= .slice A m c)
 (X:Src w size A m news)(h1:∀u∈news,u.oneCell'=aP)(O:n+m<=fB)(q:(n+m) * bytes<=140737488355328)(F:base<=w.heap.size)
 (h:∀v' w',w'.ownsRow base e size v' (n+m) (xs++news)->w.grownBy w' v.ownBlock->(v'.ownBlock=v.ownBlock\/v'.ownBlock=jT w.heap.size)->fN P ops Q D (a.put o.dst v') w'):fN P ops Q (o::D) a w:=
 wpList_plain J λ_ Z=>Ac9 s x t Y base e i z size bytes ht hi U E L H I W G hx X h1 O q F λv' w' h2 h3 h4=>Z _ _ (h v' w' h2 h3 h4)
end
theorem R6{w:eG}{base g:Nat}(hg:w.heap[g]? =jT (.cells cs.toArray e (0,0)))(u:base<=g)(q:cs.length=n * sz)(s:n<=fB):
 w.ownsRow base e sz (.slice (jT ⟨g,0,jS⟩) n n) n cs:=
 ⟨by simpa using q,.inr ⟨_,n,_,rfl,u,hg,jA _,s,by simp[q],by simp[<-q]⟩⟩
theorem Aic{w:eG}{c:Array eC}(h:w.heap[B]? =jT (.cells c t fr))(o:Obj):(w.alloc o).heap[B]? =jT (.cells c t fr):=
 (Below.heap_alloc w o B (by rcases jD B w.heap.size with q|hg;exact q;rw[Array.getElem?_eq_none hg]at h;cases h)).trans h
theorem Ow{w:eG}{j:Nat}{v:eC}(h:w.heap[B]? =jT (.cells cs.toArray t fr))(q:cs[j]? =jT v):w.cell? ⟨B,j,jS⟩=jT v:=by
 rw[cell_of_row w B j cs.toArray t fr h];simpa using q
theorem I6{w:eG}(h:T.slice.RS w S [.slice A n c] ds)(h1:∀cs d,T.RS w S cs d->∀u∈cs,u.oneCell'=aP):
 ∃cells:List eC,cells.length=n * T.size/\(∀w':eG,(∀k,S k->w'.heap[k]? =w.heap[k]?)->Src w' T.size A n cells)/\(∀i d,ds[i]? =jT d->T.RS w S ((cells.drop (i * T.size)).take T.size) d)/\∀u∈cells,u.oneCell'=aP:=by
 obtain⟨cells,q,hc,D,E⟩:=Wg h h1;refine⟨cells,q,λw' hk=>⟨q,λj u s=>?_⟩,D,E⟩;have z:j < n * T.size:=by
  rw[<-q];exact(gJ.1 s).1
 have F:0 < ds.length:=by
  rw[<-(TG h).1];rcases i6 n with e|e
  ·rw[e]at z;simp at z
  ·exact e
 obtain⟨b,o,rfl,G,_⟩:=LB h (gH F);refine⟨_,rfl,?_⟩;rw[Go.WideShapes.add_plain];exact(eI (w:=w) (a:=⟨b,o+j,jS⟩) (hk b G)).trans (hc b o V j u s)
section
variable{g:Nat}{w w1 w2:eG}
end
open Go.ChangeShapes Go.WideShapes
variable{Q':bC->Act->eG->Prop}{α:Type}{T:Ty α}{a:Act}{b b':ABlk}{c:Nat}{d d':α}{ds:List α}{dst:Option Tmp}{e:eA}{g i j k:Nat}{l:List α}{n:Nat}{new:List eC}{off:Nat}{r:AV}{sz:Nat}{t t':List AV}{ty:eA}{v v':eC}{x:cF}{xs:List cF}{y:cF}
section
variable{C:Ctx}{h:List ABlk}{S:Nat->Prop}{ψ:Nat->eC}{w w':eG}
def Bs(ψ:Nat->eC)(i:Nat)(v:eC):Nat->eC:=λj=>if j=i then v else ψ j
theorem Bo{ψ:Nat->eC}:Bs ψ i v i=v:=if_pos V
theorem BH{ψ:Nat->eC}(q:j≠i):Bs ψ i v j=ψ j:=if_neg q
theorem D1{h:List ABlk}(q:ABlk.live h[i]? =aP):∃b,h[i]? =jT b:=by
 cases s:h[i]? with
 |none=>rw[s]at q;simp[ABlk.live]at q
 |some b=>exact⟨b,rfl⟩
theorem Ext.push(b:ABlk)(v:eC)(s:∀k,S k->w'.heap[k]? =w.heap[k]?):Ext w S h ψ w' S (h++[b]) (Bs ψ h.length v):=by
 refine⟨s,λ_ h=>h,by simp,λi u hi q=>?_,λi hi q=>?_⟩
 ·rw[gC hi]at q;refine⟨u,q,jA _,λ_=>⟨BH (by omega),?_⟩⟩;rw[gC hi]
 ·rw[gC hi]at q;exact⟨q,BH (by omega)⟩
theorem HRel.push(H:HRel C h S ψ w)(F:Below w.heap.size w w')(W:H8 C.N w' S (h++[b]) (Bs ψ h.length v) v b)(J:∀g,ftp (jT b) v g->w.heap.size<=g):
 HRel C (h++[b]) S (Bs ψ h.length v) w':=by
 have X:Ext w S h ψ w' S (h++[b]) (Bs ψ h.length v):=Ext.push b v λk hk=>F.block k (H.lt k hk)
 have s:∀i c,i < h.length->(h++[b])[i]? =jT c->h[i]? =jT c:=λi c hi hc=>by rwa [gC hi]at hc
 have z:∀i,i < h.length->ABlk.live h[i]? =aP->∀g,ftp h[i]? (ψ i) g->g < w.heap.size:=λi hi L g hg=>by
  obtain⟨c,hc⟩:=D1 L;rw[hc]at hg;exact((H.blk i c hc).lt (by rw[<-hc];exact L) g hg).2.1
 refine⟨H.bel.trans (Qe F λk hk=>jC (H.nlt k hk) H.bel.size),H.nlt,λk hk=>jC (H.lt k hk) F.size,H.sub,H.new,λi c hc=>?_,λi j G hi D g hg q=>?_⟩
 ·by_cases hi:i < h.length
  ·have E:=s i c hi hc;rw[BH (by omega)];by_cases u:ABlk.live (jT c)=aP
   ·exact(H.blk i c E).keep X λg hg=>⟨F.block g ((H.blk i c E).lt u g hg).2.1,λh=>h⟩
   ·cases c <;> simp[ABlk.live]at u
    trivial
  ·have I:i=h.length:=by
    have:=(gJ.1 hc).1;simp at this;omega
   subst I;simp at hc;subst hc;rw[Bo];exact W
 ·have U:i < h.length+1:=by
   obtain⟨c,hc⟩:=D1 hi;have:=(gJ.1 hc).1;simpa using this
  have O:j < h.length+1:=by
   obtain⟨c,hc⟩:=D1 D;have:=(gJ.1 hc).1;simpa using this
  by_cases h1:i < h.length
  ·rw[BH (by omega),gC h1]at hg;rw[gC h1]at hi;by_cases h2:j < h.length
   ·rw[BH (by omega),gC h2]at q;rw[gC h2]at D;exact H.dis i j G hi D g hg q
   ·have:j=h.length:=by omega
    subst this;rw[Bo,gE]at q;have:=z i h1 hi g hg;have:=J g q;omega
  ·have:i=h.length:=by omega
   subst this;rw[Bo,gE]at hg;have h2:j < h.length:=by omega
   rw[BH (by omega),gC h2]at q;rw[gC h2]at D;have:=z j h2 D g q;have:=J g hg;omega
theorem Ext.set(F:∀k,S k->w'.heap[k]? =w.heap[k]?)(hi:h[i]? =jT b)
 (D:∀s,ABlk.ver (jT b')=jT s->∃c,ABlk.ver (jT b)=jT c/\c<=s/\(c=s->v'=ψ i/\Fz (jT b')=Fz (jT b)))
 (hx:Bd (jT b')=aP->Bd (jT b)=aP/\v'=ψ i):Ext w S h ψ w' S (h.set i b') (Bs ψ i v'):=by
 have u:=(gJ.1 hi).1;refine⟨F,λ_ h=>h,by simp,λj s E hc=>?_,λj E hc=>?_⟩
 ·by_cases q:j=i
  ·subst q;rw[gO u]at hc⊢;obtain⟨c,h1,h2,z⟩:=D s hc;rw[hi];exact⟨c,h1,h2,λe=>⟨by rw[Bo];exact(z e).1,(z e).2⟩⟩
  ·rw[gN (jO q)]at hc⊢;exact⟨s,hc,jA _,λ_=>⟨BH q,rfl⟩⟩
 ·by_cases q:j=i
  ·subst q;rw[gO u]at hc;rw[hi,Bo];exact hx hc
  ·rw[gN (jO q)]at hc;exact⟨hc,BH q⟩
structure Gr(F:Nat->Prop)(w w':World):Prop where
 os:w'.os=w.os
 tape:w'.tape=w.tape
 output:w'.output=w.output
 size:w.heap.size<=w'.heap.size
 block:∀k,k < w.heap.size->¬F k->w'.heap[k]? =w.heap[k]?
theorem Bv{w w':eG}{o:Option Nat}(h:w.grownBy w' o):Gr (λg=>o=jT g) w w':=⟨h.os,h.tape,h.output,h.size,λk hk q=>h.block k hk λe=>q e.symm⟩
theorem HRel.set(H:HRel C h S ψ w)(hi:h[i]? =jT b)(u:ABlk.live (jT b)=aP)(hg:Gr (ftp (jT b) (ψ i)) w w')(X:Ext w S h ψ w' S (h.set i b') (Bs ψ i v'))
 (W:H8 C.N w' S (h.set i b') (Bs ψ i v') v' b')(U:∀g,ftp (jT b') v' g->ftp (jT b) (ψ i) g\/w.heap.size<=g):HRel C (h.set i b') S (Bs ψ i v') w':=by
 have I:=(gJ.1 hi).1;have O:=(H.blk i b hi).lt u;refine⟨H.bel.trans ⟨hg.os,hg.tape,hg.output,hg.size,λk hk=>hg.block k (jC (H.nlt k hk) H.bel.size) λe=>(O k e).1 hk⟩,H.nlt,λk hk=>jC (H.lt k hk) hg.size,H.sub,H.new,λj c hc=>?_,λj k L E hk g s z=>?_⟩
 ·by_cases q:j=i
  ·subst q;rw[gO I]at hc;cases hc;rw[Bo];exact W
  ·rw[gN (jO q)]at hc;rw[BH q];by_cases F:ABlk.live (jT c)=aP
   ·refine(H.blk j c hc).keep X λg J=>⟨hg.block g ((H.blk j c hc).lt F g J).2.1 λe=>?_,λh=>h⟩
    exact H.dis j i q (by rw[hc];exact F) (by rw[hi];exact u) g (by rw[hc];exact J) (by rw[hi];exact e)
   ·cases c <;> simp[ABlk.live]at F
    trivial
 ·have G:∀j k,j≠i->k=i->ABlk.live (h.set i b')[j]? =aP->ftp (h.set i b')[j]? (Bs ψ i v' j) g->ftp (h.set i b')[k]? (Bs ψ i v' k) g->False:=by
   intro j k q D E s z;subst D;rw[BH q,gN (jO q)]at s;rw[Bo,gO I]at z;rw[gN (jO q)]at E;rcases U g z with h1|h1
   ·exact H.dis j k q E (by rw[hi];exact u) g s (by rw[hi];exact h1)
   ·obtain⟨c,hc⟩:=D1 E;rw[hc]at s;have:=((H.blk j c hc).lt (by rw[<-hc];exact E) g s).2.1;omega
  by_cases q:j=i
  ·exact G k j (by omega) q hk z s
  ·by_cases D:k=i
   ·exact G j k q D E s z
   ·rw[BH q,gN (jO q)]at s;rw[BH D,gN (jO D)]at z;rw[gN (jO q)]at E;rw[gN (jO D)]at hk;exact H.dis j k L E hk g s z
end
section
variable{P:cG}{C:Ctx}{s:St}{o:bZ}{K:St->Prop}
def Qd(h:List ABlk)(x:AV)(cells:List AV):Prop:=∀(C:Ctx) (S:Nat->Prop) (ψ:Nat->eC) (w:eG) (v:eC),HRel C h S ψ w->AV.rel w S h ψ x v->
 Ak w S h ψ cells v.cells.toList/\∀u∈v.cells.toList,u.oneCell'=aP
def One(h:List ABlk)(x:AV):Prop:=∀(C:Ctx) (S:Nat->Prop) (ψ:Nat->eC) (w:eG) (v:eC),HRel C h S ψ w->AV.rel w S h ψ x v->v.oneCell'=aP
theorem HJ(q:v.oneCell'=aP):v.cells= #[v]:=by cases v <;> simp[Value.cells,eE]at q⊢
theorem One.lit{h:List ABlk}(z:v.oneCell'=aP):One h (.lit v):=λC S ψ w u H q=>by unfold AV.rel at q;rw[q];exact z
theorem One.bs{h:List ABlk}:One h (.bs T l):=λC S ψ w u H q=>by
 unfold AV.rel at q;obtain⟨A,c,e,_⟩:=q;simp only[fR,and_true]at e;rw[e];rfl
theorem One.own{h:List ABlk}{ver:Nat}(hi:h[i]? =jT (.row ver e T l)):One h (.own i ver):=λC S ψ w u H z=>by
 unfold AV.rel at z;have h1:=(z.2 _ (by rw[hi];rfl)).2 V;obtain⟨cells,q,_⟩:=H.blk i _ hi;rw[h1];rcases q.2 with⟨D,_⟩|⟨g,cap,cur,D,_⟩ <;> rw[D] <;> rfl
theorem Qd.one{h:List ABlk}{x:AV}(hx:One h x):Qd h x [x]:=λC S ψ w v H q=>by
 have h1:=hx C S ψ w v H q;rw[HJ h1];refine⟨?_,λu z=>?_⟩
 ·unfold Ak;refine⟨v,[],rfl,q,?_⟩;unfold Ak;rfl
 ·simp at z;subst z;exact h1
theorem Qd.agg{h:List ABlk}{l:List AV}(hx:∀x∈l,One h x):Qd h (.agg l) l:=λC S ψ w v H E=>by
 unfold AV.rel at E;obtain⟨cs,rfl,D⟩:=E;refine⟨D,λu F=>?_⟩;obtain⟨j,G⟩:=iB.1 F;have q:cs[j]? =jT u:=G;have z:j < l.length:=by rw[<-BB D];exact(gJ.1 q).1
 obtain⟨I,h1,h2⟩:=Cb D (gH z);rw[q]at h1;cases h1;exact hx _ (gR _) C S ψ w u H h2
def VN(h:List ABlk)(x:AV)(cells:List AV):Prop:=∀(C:Ctx) (S:Nat->Prop) (ψ:Nat->eC) (w:eG) (v:eC),HRel C h S ψ w->AV.rel w S h ψ x v->Ak w S h ψ cells v.cells.toList
theorem Qd.weak{h:List ABlk}{x:AV}{cells:List AV}(u:Qd h x cells):VN h x cells:=λC S ψ w v H q=>(u C S ψ w v H q).1
theorem VN.agg{h:List ABlk}{l:List AV}:VN h (.agg l) l:=λC S ψ w v H q=>by
 unfold AV.rel at q;obtain⟨cs,rfl,u⟩:=q;exact u
theorem OM{w w':eG}{S:Nat->Prop}{ψ:Nat->eC}(D:a.defers=mkD s.h)(z:Ak w S s.h ψ s.t a.tmps.toList)(E:HRel C (s.h++[b]) S (Bs ψ s.h.length v) w')
 (X:Ext w S s.h ψ w' S (s.h++[b]) (Bs ψ s.h.length v))(q:AV.rel w' S (s.h++[b]) (Bs ψ s.h.length v) r v)(u:b.mrk= []:=by rfl):St.rel C ⟨Br s.t dst r,s.h++[b]⟩ (a.put dst v) w':=
 ⟨by rw[put_defers,Ip,u];exact D,S,_,E,KU (AE X _ _ z) dst q⟩
theorem Qp{r:dV Next}{cs:List eC}{cells:List AV}{w:eG}{S:Nat->Prop}{ψ:Nat->eC}(D:a.defers=mkD s.h)(H:HRel C s.h S ψ w)(z:Ak w S s.h ψ s.t a.tmps.toList)
 (u:r= .ok (.value (.pointer (jT ⟨w.heap.size,0,jS⟩))) (w.alloc (.cells cs.toArray e)))(hc:Ak w S s.h ψ cells cs)(G:K ⟨Br s.t o.dst (.ptr s.h.length 0),s.h++[.box cells]⟩):
 o.upon P a (λa' w'=>∃s',K s'/\s'.rel C a' w') Q' r:=by
 subst u;have q:Below w.heap.size w (w.alloc (.cells cs.toArray e)):=(dW _ _).alloc (jA _) _;have X:Ext w S s.h ψ (w.alloc (.cells cs.toArray e)) S (s.h++[.box cells]) (Bs ψ s.h.length (.pointer (jT ⟨w.heap.size,0,jS⟩))):=Ext.push _ _ λk hk=>q.block k (H.lt k hk)
 have I:H8 C.N (w.alloc (.cells cs.toArray e)) S (s.h++[.box cells]) (Bs ψ s.h.length (.pointer (jT ⟨w.heap.size,0,jS⟩))) (.pointer (jT ⟨w.heap.size,0,jS⟩)) (.box cells):=
  ⟨w.heap.size,cs,e,rfl,λF=>by have:=H.nlt _ F;have:=H.bel.size;omega,λE=>by have:=H.lt _ E;omega,eY w _,AE X _ _ hc⟩
 refine⟨_,G,OM D z (H.push q I λg hg=>by simp[ftp,Bz]at hg;omega) X ?_⟩;unfold AV.rel;exact⟨by simp,λ_=>⟨w.heap.size,Bo,rfl⟩⟩
theorem AOp.box{q:eA}{cells:List AV}(u:o.op= .box q x)(D:VN s.h (evA s.t x) cells)(F:K ⟨Br s.t o.dst (.ptr s.h.length 0),s.h++[.box cells]⟩):AOp P C o s K:=by
 rintro Q' a w ⟨E,S,ψ,H,z⟩;refine⟨λc e=>(by rw[u]at e;cases e),?_⟩;have hx:=BA z x;unfold cD;refine Qp (cs:=(a.eval x).cells.toList) (e:=q) E H z ?_ (D C S ψ w _ H hx) F;simp[eR,u,Instr.box,newVar,newRow]
theorem Jd{w:eG}{S:Nat->Prop}{h:List ABlk}{ψ:Nat->eC}(l:List eC):Ak w S h ψ (l.map .lit) l:=
 DV (by simp) λi x v hx q=>by
  rw[gK,q]at hx;cases hx;unfold AV.rel;rfl
def CD(P:cG)(t:eA):Option (List eC):=((P.info? t).bind (·.zero)).map λz=>z.cells.toList
theorem AOp.alloc{q:eA}{zs:List eC}(F:o.op= .alloc q)(E:CD P q=jT zs)(J:K ⟨Br s.t o.dst (.ptr s.h.length 0),s.h++[.box (zs.map .lit)]⟩):AOp P C o s K:=by
 rintro Q' a w ⟨I,S,ψ,H,G⟩;refine⟨λc e=>(by rw[F]at e;cases e),?_⟩;unfold CD at E;obtain⟨z,D,rfl⟩:=jQ.1 E;obtain⟨i,hi,u⟩:=jP.1 D;unfold cD;refine Qp (cs:=z.cells.toList) (e:=q) I H G ?_ (Jd _) J;simp[eR,F,bH,fO,fM,hi,u,newVar,newRow]
end
section
variable{P:cG}{C:Ctx}{s:St}{o:bZ}{K:St->Prop}
theorem IK{w w':eG}{S:Nat->Prop}{ψ:Nat->eC}(hi:s.h[i]? =jT b)(D:a.defers=mkD s.h)(z:Ak w S s.h ψ s.t a.tmps.toList)(E:HRel C (s.h.set i b') S (Bs ψ i v') w')
 (X:Ext w S s.h ψ w' S (s.h.set i b') (Bs ψ i v'))(q:AV.rel w' S (s.h.set i b') (Bs ψ i v') r v)(u:b'.mrk=b.mrk:=by rfl):St.rel C ⟨Br s.t dst r,s.h.set i b'⟩ (a.put dst v) w':=
 ⟨by rw[put_defers,DY hi u];exact D,S,_,E,KU (AE X _ _ z) dst q⟩
theorem Cj(w:eG)(g:Nat)(cs:Array eC):w.grownBy (w.setRow g cs) (jT g):=
 ⟨rfl,rfl,rfl,by simp,λk _ hk=>fJ w g k cs λe=>hk (by rw[e])⟩
def Aeh(P:cG)(ty:eA):Option Nat:=(P.info? ty).map (·.size)
theorem KQ{cur:Array eC}{w:eG}(D:Aeh P ty=jT v.cells.toList.length)(hg:w.heap[g]? =jT (.cells cur e (0,0)))(z:off+v.cells.toList.length<=cur.size)(h1:∀u∈v.cells.toList,u.oneCell'=aP):
 (bO ty (.pointer (jT ⟨g,off,jS⟩)) v).run P w= .ok () (w.setRow g (cur.toList.take off++v.cells.toList++cur.toList.drop (off+v.cells.toList.length)).toArray):=by
 unfold Aeh at D;obtain⟨i,hi,q⟩:=jQ.1 D;have E:=run_storeCells_at (P:=P) g off e v.cells.toList 0 cur w hg (by simpa using z) h1;simp only[Nat.add_zero]at E;have F:v.cells.size=i.size:=by rw[q];simp
 simp[bO,bP,storeVar,fK,fM,hi,F,E]
theorem VU{cells new:List AV}(W:o.op= .store ty x y)(hx:evA s.t x= .ptr i off)(hi:s.h[i]? =jT (.box cells))(hp:Qd s.h (evA s.t y) new)(hs:Aeh P ty=jT new.length)(F:off+new.length<=cells.length)
 (hK:K ⟨Br s.t o.dst (.lit undef),s.h.set i (.box (cells.take off++new++cells.drop (off+new.length)))⟩):AOp P C o s K:=by
 rintro Q' a w ⟨hd,S,ψ,H,G⟩;refine⟨λc e=>(by rw[W]at e;cases e),?_⟩;have q:=BA G x;have E:=BA G y;rw[hx]at q;unfold AV.rel at q;obtain⟨g,O,e2⟩:=q.2 (by rw[hi];rfl);obtain⟨g',cs,e,e3,hN,Z,hg,z⟩:=H.blk i _ hi;rw[O]at e3;cases e3;obtain⟨Y,h1⟩:=hp C S ψ w _ H E;have u:=BB Y;have L:=BB z;have U:=KQ (P:=P) (ty:=ty) (v:=a.eval y) (off:=off) (w:=w) (by rw[hs,u]) hg (by rw[u,iM,L];exact F) h1;rw[u]at U;have I:=Cj w g (cs.take off++(a.eval y).cells.toList++cs.drop (off+new.length)).toArray;have D:∀k,S k->(w.setRow g (cs.take off++(a.eval y).cells.toList++cs.drop (off+new.length)).toArray).heap[k]? =w.heap[k]?:=λk hk=>fJ _ _ _ _ λe=>Z (by rw[<-e];exact hk)
 have X:Ext w S s.h ψ _ S (s.h.set i (.box (cells.take off++new++cells.drop (off+new.length)))) (Bs ψ i (ψ i)):=Ext.set D hi (λc' hc=>by simp[ABlk.ver]at hc) λ_=>⟨rfl,rfl⟩
 have hB:H8 C.N (w.setRow g (cs.take off++(a.eval y).cells.toList++cs.drop (off+new.length)).toArray) S (s.h.set i (.box (cells.take off++new++cells.drop (off+new.length)))) (Bs ψ i (ψ i)) (ψ i) (.box (cells.take off++new++cells.drop (off+new.length))):=
  ⟨g,_,e,O,hN,Z,fI w g _ _ e _ hg,AE X _ _ (BP (BP (LF z off) Y) (LG z _))⟩
 unfold cD;simp only[eR,W,e2,U,cB,zaw];refine⟨_,hK,IK hi hd G (H.set hi V (by rw[O];exact Bv I) X hB λg' J=>.inl J) X ?_⟩;unfold AV.rel;rfl
def Aix(h:List ABlk){α:Type}(T:Ty α)(d:α)(off:Nat)(x:AV)(n:Nat)(d':α):Prop:=
 ∀(C:Ctx) (S:Nat->Prop) (ψ:Nat->eC) (w:eG) (v:eC) (cs:List eC),HRel C h S ψ w->AV.rel w S h ψ x v->T.RS w S cs d->
  v.cells.toList.length=n/\off+n<=T.size/\(∀u∈v.cells.toList,u.oneCell'=aP)/\T.RS w S (cs.take off++v.cells.toList++cs.drop (off+n)) d'
theorem Ad6{cells:List eC}(E:new.length=n)(D:off+n<=sz)(hk:k * sz+sz<=cells.length):
 (((cells.take (k * sz+off)++new++cells.drop (k * sz+off+n)).drop (k * sz)).take sz)=((cells.drop (k * sz)).take sz).take off++new++((cells.drop (k * sz)).take sz).drop (off+n):=by
 apply fY;intro j;have u:(cells.take (k * sz+off)).length=k * sz+off:=by simp;omega
 have q:(((cells.drop (k * sz)).take sz).take off).length=off:=by simp;omega
 by_cases z:j < sz
 ·rw[gQ z,gG];by_cases h1:j < off
  ·rw[gC (by simp;omega),gC (by omega),gC (by simp;omega),gC (by omega),gQ (by omega),gQ h1,gQ z,gG]
  ·by_cases h2:j < off+n
   ·rw[gC (by simp;omega),gD (by omega),gC (by simp;omega),gD (by omega),u,q];congr 1;omega
   ·rw[gD (by simp;omega),gD (by simp;omega),gG,gG,gQ (by simp;omega),gG];congr 1;simp;omega
 ·rw[gI (by simp;omega),gI (by simp;omega)]
theorem Ad5{cells:List eC}(D:new.length=n)(z:off+n<=sz)(hk:k * sz+sz<=cells.length)(hi:i≠k):
 (((cells.take (k * sz+off)++new++cells.drop (k * sz+off+n)).drop (i * sz)).take sz)=((cells.drop (i * sz)).take sz):=by
 apply fY;intro j;have u:(cells.take (k * sz+off)).length=k * sz+off:=by simp;omega
 by_cases q:j < sz
 ·rw[gQ q,gQ q,gG,gG];have:i * sz+j < k * sz+off\/k * sz+off+n<=i * sz+j:=by
   rcases Nat.lt_or_gt_of_ne hi with h1|h1
   ·left;have:(i+1) * sz<=k * sz:=jG _ h1;rw[iZ,jJ]at this;omega
   ·right;have:(k+1) * sz<=i * sz:=jG _ h1;rw[iZ,jJ]at this;omega
  rcases this with h1|h1
  ·rw[gC (by simp;omega),gC (by omega),gQ h1]
  ·rw[gD (by simp;omega),gG];congr 1;simp;omega
 ·rw[gI (by simp;omega),gI (by simp;omega)]
theorem NV{ver:Nat}(ho:o.op= .store ty x y)(hx:evA s.t x= .rp i ver k off)(hi:s.h[i]? =jT (.row ver e T l))(hk:l[k]? =jT d)
 (hu:Aix s.h T d off (evA s.t y) n d')(hs:Aeh P ty=jT n)(hK:K ⟨Br s.t o.dst (.lit undef),s.h.set i (.row ver e T (l.set k d'))⟩):AOp P C o s K:=by
 rintro Q' a w ⟨hd,S,ψ,H,hl⟩;refine⟨λc e=>(by rw[ho]at e;cases e),?_⟩;have J:=BA hl x;have ab:=BA hl y;rw[hx]at J;unfold AV.rel at J;obtain⟨g,n0,c0,U,e2⟩:=(J.2 _ (by rw[hi];rfl)).2 V;obtain⟨cells,G,h0,hR,aj⟩:=H.blk i _ hi;obtain⟨hN,hS⟩:=aj g (by rw[U];rfl);rw[hi]at e2;simp only[Fz]at e2;have aa:k < l.length:=(gJ.1 hk).1;obtain⟨E,Z,h1,I⟩:=hu C S ψ w _ _ H ab (hR k d hk);have Y:(k+1) * T.size<=l.length * T.size:=jG _ aa;rw[iZ,jJ]at Y;rcases G.2 with⟨O,_⟩|⟨g',cap,cur,O,am,hg,W,ah,u,ad⟩
 ·rw[U]at O;cases O
 rw[U]at O;simp only[Value.slice.injEq,jV,Addr.mk.injEq]at O;obtain⟨⟨rfl,-,-⟩,rfl,rfl⟩:=O;have q:min l.length c0=l.length:=by omega
 have ak:l.length * T.size<=c0 * T.size:=jG _ W;have hr:=KQ (P:=P) (ty:=ty) (v:=a.eval y) (off:=k * T.size+off) (w:=w) (by rw[hs,E]) hg (by rw[E,u];omega) h1;rw[E]at hr;obtain⟨vs,ac⟩:∃vs:List eC,vs=(a.eval y).cells.toList:=⟨_,rfl⟩
 rw[<-ac]at E h1 I hr;have ag:=Cj w g (cur.toList.take (k * T.size+off)++vs++cur.toList.drop (k * T.size+off+n)).toArray;have z:∀j,S j->(w.setRow g (cur.toList.take (k * T.size+off)++vs++cur.toList.drop (k * T.size+off+n)).toArray).heap[j]? =w.heap[j]?:=λj D=>fJ _ _ _ _ λe=>hS (by rw[<-e];exact D)
 have X:Ext w S s.h ψ _ S (s.h.set i (.row ver e T (l.set k d'))) (Bs ψ i (ψ i)):=Ext.set z hi (λc' hc=>⟨c',hc,jA _,λ_=>⟨rfl,rfl⟩⟩) λh=>by simp[Bd]at h
 have ai:cells.length=l.length * T.size:=G.1;have hB:H8 C.N (w.setRow g (cur.toList.take (k * T.size+off)++vs++cur.toList.drop (k * T.size+off+n)).toArray) S (s.h.set i (.row ver e T (l.set k d'))) (Bs ψ i (ψ i)) (ψ i) (.row ver e T (l.set k d')):=by
  refine⟨cells.take (k * T.size+off)++vs++cells.drop (k * T.size+off+n),⟨by simp[E,ai];omega,.inr ⟨g,c0,_,by rw[U];simp,jN _,fI w g _ _ e _ hg,by simpa using W,ah,by simp[E,u,q];omega,?_⟩⟩,h0,λj d1 D=>?_,λg' F=>?_⟩
  ·simp only[List.length_set];rw[<-ad];apply fY;intro j;have af:(cur.toList.take (k * T.size+off)).length=k * T.size+off:=by simp[u,q];omega
   have ae:((cur.toList.take (l.length * T.size)).take (k * T.size+off)).length=k * T.size+off:=by simp[u,q];omega
   by_cases D:j < l.length * T.size
   ·rw[gQ D];by_cases h2:j < k * T.size+off
    ·rw[gC (by simp[u,q];omega),gC (by omega),gC (by simp[u,q];omega),gC (by omega),gQ h2,gQ h2,gQ D]
    ·by_cases h3:j < k * T.size+off+n
     ·rw[gC (by simp[u,q];omega),gD (by omega),gC (by simp[u,q];omega),gD (by omega),af,ae]
     ·rw[gD (by simp[u,q];omega),gD (by simp[u,q];omega),gG,gG,gQ (by simp[u,q];omega)];congr 1;simp[u,q];omega
   ·rw[gI (by simp;omega),gI (by simp[E,u,q];omega)]
  ·have al:=D;by_cases L:j=k
   ·subst L;rw[gO aa]at D;cases D;rw[Ad6 E Z (by omega)];exact T.keepS I z λ_ h=>h
   ·rw[gN (jO L)]at D;rw[Ad5 E Z (by omega) L];exact T.keepS (hR j d1 D) z λ_ h=>h
  ·rw[U]at F;cases F;exact⟨hN,hS⟩
 unfold cD;simp only[eR,ho,e2,hr,cB,zaw];refine⟨_,hK,IK hi hd hl (H.set hi V (by rw[U];exact Bv ag) X hB λg' F=>.inl F) X ?_⟩;unfold AV.rel;rfl
end
section
variable{P:cG}{C:Ctx}{s:St}{o:bZ}{K:St->Prop}
def S9{α:Type}(T:Ty α):Prop:=∀(w:eG) (S:Nat->Prop) (cs:List eC) (d:α),T.RS w S cs d->∀u∈cs,u.oneCell'=aP
theorem J5{k:bR}:S9 (Ty.int k):=by
 rintro w S cs d ⟨rfl,_⟩ u q;simp at q;subst q;rfl
theorem Afu:S9 Ty.bool:=by
 rintro w S cs d rfl u q;simp at q;subst q;rfl
theorem one1_slice:S9 T.slice:=by
 rintro w S cs d ⟨A,c,rfl,_⟩ u q;simp at q;subst q;rfl
theorem Ef{enc:α->List AV}(E:Enc T enc)(h:∀d x,x∈enc d->(∃v:eC,x= .lit v/\v.oneCell'=aP)\/∃(β:Type) (U:Ty β) (l:List β),x= .bs U l):S9 T:=by
 intro w S cs d H u I;have z:=E w S [] ψ0 cs d H;obtain⟨j,D⟩:=iB.1 I;have q:j < (enc d).length:=by rw[<-BB z];exact(gJ.1 D).1
 obtain⟨J,h1,h2⟩:=Cb z (gH q);rw[D]at h1;cases h1;rcases h d _ (gR q)with⟨v,e,G⟩|⟨β,U,l,e⟩
 ·rw[e]at h2;unfold AV.rel at h2;rw[h2];exact G
 ·rw[e]at h2;unfold AV.rel at h2;obtain⟨A,c,F,_⟩:=h2;simp only[fR,and_true]at F;rw[F];rfl
def NZ(P:cG)(ty:eA):Option (eA×Nat×Nat):=
 match P.underlying ty with
 |some (.slice e)=>(P.info? e).bind λi=>i.zero.bind λz=>if z.cells.size=i.size then jT (e,i.size,i.bytes)else jS
 |_=>jS
theorem Dk{bytes:Nat}(h:NZ P ty=jT (e,sz,bytes)):P.underlying ty=jT (.slice e)/\∃i z,P.info? e=jT i/\i.zero=jT z/\i.size=sz/\i.bytes=bytes/\z.cells.size=sz:=by
 unfold NZ at h;split at h <;> try(cases h;done)
 rename_i E h1;obtain⟨i,hi,h2⟩:=jP.1 h;obtain⟨z,u,q⟩:=jP.1 h2;split at q <;> try(cases q;done)
 rename_i D;cases q;exact⟨h1,i,z,hi,u,rfl,rfl,D⟩
theorem UE{cells news:List eC}(hc:cells.length=n * sz)(hi:i < n):(((cells++news).drop (i * sz)).take sz)=(cells.drop (i * sz)).take sz:=by
 have:(i+1) * sz<=n * sz:=jG _ hi;rw[iZ,jJ]at this;rw[fT (by omega),iP (by simp;omega)]
theorem MX{cells news:List eC}(hc:cells.length=n * sz):(((cells++news).drop ((n+j) * sz)).take sz)=(news.drop (j * sz)).take sz:=by
 rw[iZ,<-hc,List.drop_append,fU (by omega)];simp
theorem AOp.append{ver:Nat}{bytes:Nat}{I:List α}(ho:o.op= .call {callee:=.builtin .append,args:=#[x,y],argTypes:=#[ty,ty]})(hT:NZ P ty=jT (e,T.size,bytes))
 (hx:evA s.t x= .own i ver)(hi:s.h[i]? =jT (.row ver e T l))(hy:evA s.t y= .bs T I)(ai:S9 T)(W:l.length+I.length<=fB)(F:(l.length+I.length) * bytes<=140737488355328)
 (hK:K ⟨Br s.t o.dst (.own i (ver+1)),s.h.set i (.row (ver+1) e T (l++I))⟩):AOp P C o s K:=by
 rintro Q' a w ⟨hd,S,ψ,H,hl⟩;refine⟨λc e=>(by rw[ho]at e;cases e),?_⟩;have J:=BA hl x;have u:=BA hl y;rw[hx]at J;rw[hy]at u;unfold AV.rel at J u;have hv:=(J.2 _ (by rw[hi];rfl)).2 V;obtain⟨cells,q,h0,hR,ad⟩:=H.blk i _ hi;obtain⟨h1,ti,z,h2,h3,h4,h5,h6⟩:=Dk hT;obtain⟨A,c,O⟩:=Cn u;rw[O]at u;obtain⟨news,aj,U,ae,af⟩:=I6 u λcs d ag=>ai _ _ _ _ ag
 refine Ac9 (P:=P) x y ty ho 0 e ti z T.size bytes h1 h2 h3 h4 h5 h6 h0 hv q O (U w λ_ _=>rfl) af W F (jN _) λv' w' D Z ab=>?_
 have ah:∀g,Bz v'=jT g->v'.ownBlock=jT g:=λg hg=>by
  rcases D.2 with⟨e1,_⟩|⟨g',cap,cur,e1,_⟩
  ·rw[e1]at hg;simp[Bz]at hg
  ·rw[e1]at hg⊢;simpa[Bz,eF]using hg
 have G:(ψ i).ownBlock=Bz (ψ i):=by
  rcases q.2 with⟨e1,_⟩|⟨g',cap,cur,e1,_⟩ <;> rw[e1] <;> rfl
 have E:∀k,S k->w'.heap[k]? =w.heap[k]?:=λk hk=>Z.block k (H.lt k hk) λe=>(ad k e.symm).2 hk
 have X:Ext w S s.h ψ w' S (s.h.set i (.row (ver+1) e T (l++I))) (Bs ψ i v'):=Ext.set E hi (λc' hc=>by
  simp only[ABlk.ver,jV]at hc;exact⟨ver,rfl,by omega,λe=>by omega⟩) λh=>by simp[Bd]at h
 have ac:∀g,v'.ownBlock=jT g->¬C.N g/\¬S g:=λg hg=>by
  rcases ab with e1|e1
  ·rw[e1]at hg;exact ad g hg
  ·rw[e1]at hg;cases hg;exact⟨λhN=>by have:=H.nlt _ hN;have:=H.bel.size;omega,λhS=>by have:=H.lt _ hS;omega⟩
 have hB:H8 C.N w' S (s.h.set i (.row (ver+1) e T (l++I))) (Bs ψ i v') v' (.row (ver+1) e T (l++I)):=by
  refine⟨cells++news,by rw[gT];exact D,h0,λj d hj=>?_,ac⟩;by_cases Y:j < l.length
  ·rw[gC Y]at hj;rw[UE q.1 Y];exact T.keepS (hR j d hj) E λ_ h=>h
  ·rw[gD (by omega)]at hj;obtain⟨m,rfl⟩:∃m,j=l.length+m:=⟨j - l.length,by omega⟩
   rw[MX q.1];exact T.keepS (ae m d (by simpa using hj)) E λ_ h=>h
 refine⟨_,hK,IK hi hd hl (H.set hi V (Bv (by rw[<-G];exact Z)) X hB λg hg=>?_) X ?_⟩
 ·have L:=ah g hg;rcases ab with e1|e1
  ·left;show Bz (ψ i)=jT g;rw[<-G,<-e1];exact L
  ·right;rw[e1]at L;cases L;exact jA _
 ·unfold AV.rel;refine⟨by simp[(gJ.1 hi).1],λc' aa=>?_⟩;rw[gO (gJ.1 hi).1]at aa;simp only[ABlk.ver,jV]at aa;exact⟨by omega,λ_=>by rw[Bo]⟩
theorem AOp.newRow{r:dV Next}{cap:Nat}{cells:List eC}{w w':eG}{S:Nat->Prop}{ψ:Nat->eC}(F:a.defers=mkD s.h)(H:HRel C s.h S ψ w)(E:Ak w S s.h ψ s.t a.tmps.toList)
 (D:r= .ok (.value (.slice (jT ⟨w.heap.size,0,jS⟩) n cap)) w')(z:Below w.heap.size w w')(q:w'.ownsRow 0 e T.size (.slice (jT ⟨w.heap.size,0,jS⟩) n cap) l.length cells)(h0:0 < T.size)
 (I:∀i d,l[i]? =jT d->T.RS w' S ((cells.drop (i * T.size)).take T.size) d)(L:K ⟨Br s.t o.dst (.own s.h.length 0),s.h++[.row 0 e T l]⟩):
 o.upon P a (λa' w'=>∃s',K s'/\s'.rel C a' w') Q' r:=by
 subst D;have X:Ext w S s.h ψ w' S (s.h++[.row 0 e T l]) (Bs ψ s.h.length (.slice (jT ⟨w.heap.size,0,jS⟩) n cap)):=Ext.push _ _ λk hk=>z.block k (H.lt k hk)
 have O:H8 C.N w' S (s.h++[.row 0 e T l]) (Bs ψ s.h.length (.slice (jT ⟨w.heap.size,0,jS⟩) n cap)) (.slice (jT ⟨w.heap.size,0,jS⟩) n cap) (.row 0 e T l):=
  ⟨cells,q,h0,I,λg hg=>by
   obtain rfl:w.heap.size=g:=by simpa[eF]using hg
   exact⟨λJ=>by have:=H.nlt _ J;have:=H.bel.size;omega,λG=>by have:=H.lt _ G;omega⟩⟩
 refine⟨_,L,OM F E (H.push z O λg hg=>by simp[ftp,Bz]at hg;omega) X ?_⟩;unfold AV.rel;refine⟨by simp,λU u=>?_⟩;rw[gD (jA _)]at u;simp[ABlk.ver]at u;exact⟨by omega,λ_=>Bo.symm⟩
def GO(P:cG)(ty:eA):Option (eA×eC×Nat):=
 match P.underlying ty with
 |some (.slice e)=>(P.info? e).bind λi=>i.zero.bind λz=>if i.size=1/\z.oneCell'=aP then jT (e,z,i.bytes)else jS
 |_=>jS
theorem Pv(z:eC)(n:Nat):fA #[z] n=(iJ n z).toArray:=by
 apply Array.ext
 ·simp[fA]
 ·intro i h1 h2;simp[fA,Nat.mod_one]
theorem Anc{k U:bR}{z:eC}{bytes:Nat}(W:o.op= .makeSlice ty x y)(E:GO P ty=jT (e,z,bytes))(Y:T.size=1)(L:∀w S,T.RS w S [z] d)
 (hx:evA s.t x= .lit (.int k (n:Int)))(hy:evA s.t y= .lit (.int U (n:Int)))(hb:bytes * n<=281474976710656)(X:n<=fB)
 (hK:K ⟨Br s.t o.dst (.own s.h.length 0),s.h++[.row 0 e T (iJ n d)]⟩):AOp P C o s K:=by
 rintro Q' a w ⟨hd,S,ψ,H,I⟩;refine⟨λc e=>(by rw[W]at e;cases e),?_⟩;have D:=BA I x;have u:=BA I y;rw[hx]at D;rw[hy]at u;unfold AV.rel at D u;unfold GO at E;split at E <;> try(cases E;done)
 rename_i e' h1;obtain⟨i,hi,h2⟩:=jP.1 E;obtain⟨z',G,O⟩:=jP.1 h2;split at O <;> try(cases O;done)
 rename_i Z;cases O;have F:=HJ Z.2;have q:=run_make_row' (P:=P) ty e z i.bytes h1 (by rw[hi];simp[G,Z.1]) F k U n hb (by unfold fB at X;omega) w;unfold cD;rw[Pv]at q;refine AOp.newRow (T:=T) (l:=iJ n d) (e:=e) (cells:=iJ n z) (n:=n) (cap:=n) (w':=w.alloc (.cells (iJ n z).toArray e)) hd H I ?_ ((dW _ _).alloc (jA _) _) ?_ (by omega) ?_ hK
 ·simp[eR,W,D,u,q]
 ·rw[List.length_replicate,Y];refine⟨by simp,.inr ⟨_,n,_,rfl,jN _,eY w _,jA _,X,by simp,by simp⟩⟩
 ·intro j d' J;rw[gL]at J;split at J <;> cases J
  rename_i aa;rw[Y,jH,List.drop_replicate,List.take_replicate];have:min 1 (n - j)=1:=by omega
  rw[this];exact L _ _
def Fit(h:List ABlk){α:Type}(T:Ty α)(x:AV)(d:α):Prop:=∀(C:Ctx) (S:Nat->Prop) (ψ:Nat->eC) (w:eG) (v:eC),HRel C h S ψ w->AV.rel w S h ψ x v->T.RS w S v.cells.toList d
theorem Fit.int{h:List ABlk}{k:bR}{n:Int}(u:wfI k n):Fit h (Ty.int k) (.lit (.int k n)) n:=λC S ψ w v H q=>by
 unfold AV.rel at q;subst q;exact⟨rfl,u⟩
theorem Fit.bool{h:List ABlk}{b:Bool}:Fit h Ty.bool (.lit (.bool b)) b:=λC S ψ w v H q=>by
 unfold AV.rel at q;subst q;rfl
theorem Fit.bs{h:List ABlk}:Fit h T.slice (.bs T l) l:=λC S ψ w v H q=>by
 unfold AV.rel at q;obtain⟨A,c,e,_⟩:=id q;simp only[fR,and_true]at e;subst e;exact q
theorem Acb{h:List ABlk}{x:AV}(E:Fit h T x d')(h1:S9 T):Aix h T d 0 x T.size d':=λC S ψ w v cs H z u=>by
 have q:=E C S ψ w v H z;have D:=T.len q;refine⟨D,by omega,h1 _ _ _ _ q,?_⟩;rw[iU,iG,fU (by rw[T.len u];omega),fQ];exact q
inductive Fits(h:List ABlk){α:Type}(T:Ty α):List AV->List α->Prop
 |nil:Fits h T [] []
 |cons {x:AV} {d:α} {xs:List AV} {ds:List α} (hx:Fit h T x d) (hs:Fits h T xs ds):Fits h T (x::xs) (d::ds)
theorem Ael:∀(vs:List eC) (A M B:List eC) (off k:Nat),M.length=vs.length->off+k=A.length->
 (vs.zipIdx k).foldl (λ(cs:Array eC) (p:eC×Nat)=>cs.setIfInBounds (off+p.2) p.1) (A++M++B).toArray=(A++vs++B).toArray
 | [],A,M,B,off,k,q,hk=>by
  have:M= []:=fW (by simpa using q);subst this;simp
 |v::vs,A,m::M,B,off,k,q,hk=>by
  have u:=Ael vs (A++[v]) M B off (k+1) (by simpa using q) (by simp;omega);simp only[iW,List.foldl_cons];rw[show((A++(m::M)++B).toArray.setIfInBounds (off+k) v)=(A++[v]++M++B).toArray from by
   rw[List.setIfInBounds_toArray,hk];congr 1;simp]
  rw[u];simp
theorem YQ{sz:Nat}:∀(vs:List eC) (k:Nat) (A B:List eC),A.length=k * sz->B.length=vs.length * sz->(∀v∈vs,v.cells.size=sz)->
 bK (λi=>jT (i * sz,sz)) (A++B).toArray ((vs.zipIdx k).map λp=>(p.2,p.1))=jT (A++vs.flatMap λv=>v.cells.toList).toArray
 | [],k,A,B,E,z,_=>by
  have:B= []:=fW (by simpa using z);subst this;simp[bK]
 |v::vs,k,A,B,E,z,D=>by
  have h1:=D v (by simp);have q:B.length=sz+vs.length * sz:=by rw[z,gU,iZ,jJ];omega
  simp only[iW,gY,bK];have hc:¬((aU (v.cells.size≠sz)||decide (k * sz+v.cells.size > (A++B).toArray.size))=aP):=by
   simp[h1];omega
  rw[if_neg hc];have e:(A++B)=A++B.take sz++B.drop sz:=by rw[List.append_assoc,iO]
  have H:=Ael v.cells.toList A (B.take sz) (B.drop sz) (k * sz) 0 (by simp[h1];omega) (by omega);have F:v.cells.zipIdx.foldl (λcs (c,j)=>cs.setIfInBounds (k * sz+j) c) (A++B).toArray=(A++v.cells.toList++B.drop sz).toArray:=by
   rw[e,<-H,<-Array.foldl_toList,Array.toList_zipIdx]
  rw[F,YQ vs (k+1) (A++v.cells.toList) (B.drop sz) (by simp[h1,E,iZ]) (by simp[q]) λu G=>D u (by simp[G])];simp
def GB(xs:List cF):Array (Nat×cF):=(xs.zipIdx.map λp=>(p.2,p.1)).toArray
theorem Aep{bytes:Nat}{vs:List eC}{w:eG}(F:NZ P ty=jT (e,sz,bytes))(I:vs.length * sz<=16777216)(E:∀v∈vs,v.cells.size=sz):
 (bI ty vs.length (vs.zipIdx.map λp=>(p.2,p.1)).toArray).run P w= .ok (.slice (jT ⟨w.heap.size,0,jS⟩) vs.length vs.length) (w.alloc (.cells (vs.flatMap λv=>v.cells.toList).toArray e)):=by
 obtain⟨h1,i,z,h2,H,G,L,J⟩:=Dk F;have q:∀c:Array eC,c.size=vs.length * sz->bK (λi=>jT (i * sz,sz)) c (vs.zipIdx.map λp=>(p.2,p.1))=jT (vs.flatMap λv=>v.cells.toList).toArray:=λc hc=>by
  have:=YQ (sz:=sz) vs 0 [] c.toList (by simp) (by simpa using hc) E;simpa using this
 have D:¬vs.length * sz > 2 ^ 24:=by simp;omega
 unfold bI;simp only[underlying,h1,fK,fM,h2,G,D,if_false,zar];by_cases u:vs.length * sz=0
 ·simp only[u,if_true,pure_bind];rw[q _ (by simp[u])];simp[newRow]
 ·simp only[u,if_false,fO,fM,h2,H,zar];rw[q _ (by simp)];simp[newRow]
theorem M5{h:List ABlk}{α:Type}{T:Ty α}{C:Ctx}{S:Nat->Prop}{ψ:Nat->eC}{w:eG}(H:HRel C h S ψ w):∀{xs:List AV} {ds:List α} {vs:List eC},Fits h T xs ds->Ak w S h ψ xs vs->
 vs.length=ds.length/\(∀v∈vs,v.cells.size=T.size)/\(vs.flatMap λv=>v.cells.toList).length=ds.length * T.size/\∀i d,ds[i]? =jT d->T.RS w S (((vs.flatMap λv=>v.cells.toList).drop (i * T.size)).take T.size) d
 | [],ds,vs,F,D=>by
  cases F;unfold Ak at D;subst D;simp
 |x::xs,ds,vs,F,D=>by
  cases F with
  |cons hx W=>
   unfold Ak at D;obtain⟨v,z,rfl,h1,h2⟩:=D;obtain⟨U,O,L,J⟩:=M5 H W h2;have I:=hx C S ψ w v H h1;have q:v.cells.size=T.size:=by have:=T.len I;simpa using this
   have E:((v::z).flatMap λv=>v.cells.toList)=v.cells.toList++z.flatMap λv=>v.cells.toList:=by simp
   rw[E];refine⟨by simp[U],λu hu=>?_,by simp[q,L,iZ];omega,λi d G=>?_⟩
   ·rcases g9.1 hu with rfl|hu
    ·exact q
    ·exact O u hu
   ·cases i with
    |zero=>
     simp only[gF,jV]at G;subst G;rw[Nat.zero_mul,fV,iP (by simp[q]),iR (by simp[q])];exact I
    |succ i=>
     have:=MX (news:=z.flatMap λv=>v.cells.toList) (n:=1) (j:=i) (sz:=T.size) (cells:=v.cells.toList) (by simp[q]);rw[show(i+1) * T.size=(1+i) * T.size from by rw[iY],this];exact J i d (by simpa using G)
theorem OW{ρ:cF->eC}{w:eG}(q:o.op= .buildSlice ty xs.length (GB xs)):(eR ρ o).run P w=((bI ty (xs.map ρ).length ((xs.map ρ).zipIdx.map λp=>(p.2,p.1)).toArray).run P w).andThen λv w'=>.ok (.value v) w':=by
 have e:(GB xs).map (λp:Nat×cF=>(p.1,ρ p.2))=((xs.map ρ).zipIdx.map λp=>(p.2,p.1)).toArray:=by
  unfold GB;simp[List.zipIdx_map]
 simp only[eR,q,dX,dY,gV];rw[<-e]
theorem AX.lit{h:List ABlk}{bytes:Nat}{q:Array (Nat×cF)}(G:o.op= .buildSlice ty n q)(W:q=GB xs)(X:n=xs.length)
 (hT:NZ P ty=jT (e,T.size,bytes))(h0:0 < T.size)(E:n * T.size<=16777216)(Z:Fits h T (xs.map (evA t)) ds):AX P C t h o (.bs T ds):=by
 subst W X;intro S ψ w ρ H D;have u:Ak w S h ψ (xs.map (evA t)) (xs.map ρ):=Ck λx hx=>D x (by
  rw[G];simp only[bY,GB,List.map_map];refine iF.2 (iC.2 ?_);obtain⟨j,Y⟩:=iB.1 hx;exact⟨(x,j),by rw[List.mem_zipIdx_iff_getElem?];exact Y,rfl⟩)
 obtain⟨U,O,L,J⟩:=M5 H Z u;have z:ds.length=xs.length:=by rw[<-U];simp
 rw[OW G,Aep hT (by rw[gV];exact E) O];have I:Below w.heap.size w (w.alloc (.cells ((xs.map ρ).flatMap λv=>v.cells.toList).toArray e)):=(dW _ _).alloc (jA _) _;refine⟨I,λk=>S k\/k=w.heap.size,λk hk=>.inl hk,λk hk=>hk.imp id λe=>by omega,λk hk=>?_,?_⟩
 ·rcases hk with hk|hk
  ·have:=H.lt k hk;simp;omega
  ·simp;omega
 ·unfold AV.rel;have F:xs.length<=fB:=by
   have:xs.length * 1<=xs.length * T.size:=jF _ h0;unfold fB;omega
  refine Dh (base:=0) (e:=e) (cells:=(xs.map ρ).flatMap λv=>v.cells.toList) ?_ (λi d hd=>T.keepS (J i d hd) (λk hk=>I.block k (H.lt k hk)) λ_ h=>.inl h) λg hg=>.inr (by simpa[eF]using hg.symm)
  rw[z];exact R6 (eY w _) (jN _) (by rw[L,z]) F |> λh=>by simpa using h
theorem AOp.lit{bytes:Nat}{q:Array (Nat×cF)}(G:o.op= .buildSlice ty n q)(X:q=GB xs)(Y:n=xs.length)
 (hT:NZ P ty=jT (e,T.size,bytes))(h0:0 < T.size)(D:n * T.size<=16777216)(Z:Fits s.h T (xs.map (evA s.t)) ds)(hK:K ⟨Br s.t o.dst (.own s.h.length 0),s.h++[.row 0 e T ds]⟩):AOp P C o s K:=by
 subst X Y;rintro Q' a w ⟨F,S,ψ,H,I⟩;refine⟨λc e=>(by rw[G]at e;cases e),?_⟩;have u:Ak w S s.h ψ (xs.map (evA s.t)) (xs.map a.eval):=Ck λx _=>BA I x
 obtain⟨W,U,O,L⟩:=M5 H Z u;have z:ds.length=xs.length:=by rw[<-W];simp
 unfold cD;rw[OW G,Aep hT (by rw[gV];exact D) U];have J:Below w.heap.size w (w.alloc (.cells ((xs.map a.eval).flatMap λv=>v.cells.toList).toArray e)):=(dW _ _).alloc (jA _) _;have E:xs.length<=fB:=by
  have:xs.length * 1<=xs.length * T.size:=jF _ h0;unfold fB;omega
 refine AOp.newRow (T:=T) (l:=ds) (e:=e) (cells:=(xs.map a.eval).flatMap λv=>v.cells.toList) (n:=xs.length) (cap:=xs.length) (w':=w.alloc (.cells ((xs.map a.eval).flatMap λv=>v.cells.toList).toArray e)) F H I ?_ J ?_ h0 (λi d F=>T.keepS (L i d F) (λk hk=>J.block k (H.lt k hk)) λ_ h=>h) hK
 ·simp
 ·rw[z];exact R6 (eY w _) (jN _) (by rw[O,z]) E
end
theorem St.le.refl{C:Ctx}{s:St}:St.le C s s:=λ_ _ h=>h
theorem St.le.trans{C:Ctx}{s s' q:St}(h:St.le C s s')(h':St.le C s' q):St.le C s q:=λa w H=>h' a w (h a w H)
mutual
def AV.bd(n:Nat):AV->Bool
 | .own i _=>decide (i < n)
 | .ptr i _=>decide (i < n)
 | .rp i _ _ _=>decide (i < n)
 | .agg l=>Mz n l
 | .tup l=>Mz n l
 | .fn _ l=>Mz n l
 |_=>aP
def Mz(n:Nat):List AV->Bool
 | []=>aP
 |x::l=>AV.bd n x&&Mz n l
end
structure Cut(h h':List ABlk):Prop where
 len:h'.length<=h.length
 blk:∀(i:Nat) (b:ABlk),h'[i]? =some b->b= .dead\/h[i]? =some b
section
variable{w:eG}{S:Nat->Prop}{h h':List ABlk}{ψ:Nat->eC}
theorem Cut.ver(hc:Cut h h')(q:ABlk.ver h'[i]? =jT c):ABlk.ver h[i]? =jT c/\Fz h'[i]? =Fz h[i]?:=by
 cases u:h'[i]? with
 |none=>rw[u]at q;simp[ABlk.ver]at q
 |some b=>
  rcases hc.blk i b u with rfl|h1
  ·rw[u]at q;simp[ABlk.ver]at q
  ·rw[h1,<-u];exact⟨q,rfl⟩
theorem Cut.box(hc:Cut h h')(q:Bd h'[i]? =aP):Bd h[i]? =aP:=by
 cases u:h'[i]? with
 |none=>rw[u]at q;simp[Bd]at q
 |some b=>
  rcases hc.blk i b u with rfl|h1
  ·rw[u]at q;simp[Bd]at q
  ·rw[h1,<-u];exact q
theorem Cut.live(hc:Cut h h')(q:ABlk.live h'[i]? =aP):ABlk.live h[i]? =aP:=by
 cases u:h'[i]? with
 |none=>rw[u]at q;simp[ABlk.live]at q
 |some b=>
  rcases hc.blk i b u with rfl|h1
  ·rw[u]at q;simp[ABlk.live]at q
  ·rw[h1,<-u];exact q
theorem Cut.same(hc:Cut h h')(q:ABlk.live h'[i]? =aP):h'[i]? =h[i]?:=by
 cases u:h'[i]? with
 |none=>rw[u]at q;simp[ABlk.live]at q
 |some b=>
  rcases hc.blk i b u with rfl|h1
  ·rw[u]at q;simp[ABlk.live]at q
  ·rw[h1]
mutual
theorem RV(hc:Cut h h'):∀(x:AV) (v:eC),AV.bd h'.length x=aP->AV.rel w S h ψ x v->AV.rel w S h' ψ x v
 | .any,_,_,_=>by unfold AV.rel;trivial
 | .lit u,v,_,H=>by unfold AV.rel at H⊢;exact H
 | .bs T l,v,_,H=>by unfold AV.rel at H⊢;exact H
 | .tv T d,v,_,H=>by unfold AV.rel at H⊢;exact H
 | .own i ver,v,hb,H=>by
  unfold AV.bd at hb;unfold AV.rel at H⊢;exact⟨by simpa using hb,λc hv=>H.2 c (hc.ver hv).1⟩
 | .ptr i off,v,hb,H=>by
  unfold AV.bd at hb;unfold AV.rel at H⊢;exact⟨by simpa using hb,λhv=>H.2 (hc.box hv)⟩
 | .rp i ver k off,v,hb,H=>by
  unfold AV.bd at hb;unfold AV.rel at H⊢;refine⟨by simpa using hb,λc hv=>?_⟩;rw[(hc.ver hv).2];exact H.2 c (hc.ver hv).1
 | .bp T d off,v,_,H=>by unfold AV.rel at H⊢;exact H
 | .agg l,v,hb,H=>by
  unfold AV.bd at hb;unfold AV.rel at H⊢;obtain⟨cs,e,hl⟩:=H;exact⟨cs,e,E4 hc l cs hb hl⟩
 | .tup l,v,hb,H=>by
  unfold AV.bd at hb;unfold AV.rel at H⊢;obtain⟨cs,e,hl⟩:=H;exact⟨cs,e,E4 hc l cs hb hl⟩
 | .fn f l,v,hb,H=>by
  unfold AV.bd at hb;unfold AV.rel at H⊢;obtain⟨cs,e,hl⟩:=H;exact⟨cs,e,E4 hc l cs hb hl⟩
theorem E4(hc:Cut h h'):∀(l:List AV) (cs:List eC),Mz h'.length l=aP->Ak w S h ψ l cs->Ak w S h' ψ l cs
 | [],cs,_,H=>by unfold Ak at H⊢;exact H
 |x::l,cs,hb,H=>by
  unfold Mz at hb;rw[aL]at hb;unfold Ak at H⊢;obtain⟨v,vs,e,h1,h2⟩:=H;exact⟨v,vs,e,RV hc x v hb.1 h1,E4 hc l vs hb.2 h2⟩
end
end
def Amn(n:Nat):ABlk->Bool
 | .box cells=>Mz n cells
 |_=>aP
inductive Fgt(n:Nat):List AV->List AV->Prop
 |nil:Fgt n [] []
 |any {x:AV} {t t':List AV} (h:Fgt n t t'):Fgt n (x::t) (.any::t')
 |keep {x:AV} {t t':List AV} (hx:AV.bd n x=true) (h:Fgt n t t'):Fgt n (x::t) (x::t')
theorem Fgt.rel{w:eG}{S:Nat->Prop}{h h':List ABlk}{ψ:Nat->eC}(hc:Cut h h')(u:Fgt h'.length t t'):∀{cs:List eC},Ak w S h ψ t cs->Ak w S h' ψ t' cs:=by
 induction u with
 |nil=>intro cs H;unfold Ak at H⊢;exact H
 |any _ q=>
  intro cs H;unfold Ak at H⊢;obtain⟨v,vs,e,_,h2⟩:=H;exact⟨v,vs,e,by unfold AV.rel;trivial,q h2⟩
 |keep hx _ q=>
  intro cs H;unfold Ak at H⊢;obtain⟨v,vs,e,h1,h2⟩:=H;exact⟨v,vs,e,RV hc _ _ hx h1,q h2⟩
theorem VE{C:Ctx}{h h':List ABlk}(hc:Cut h h')(U:∀b∈h',Amn h'.length b=aP)(L:Fgt h'.length t t')(I:mkD h'=mkD h:=by rfl):St.le C ⟨t,h⟩ ⟨t',h'⟩:=λa w ⟨O,S,ψ,H,J⟩=>by
 refine⟨O.trans I.symm,S,ψ,⟨H.bel,H.nlt,H.lt,H.sub,H.new,λi b hi=>?_,λi j q h1 h2=>by rw[hc.same h1,hc.same h2];exact H.dis i j q (hc.live h1) (hc.live h2)⟩,L.rel hc J⟩;rcases hc.blk i b hi with rfl|h1
 ·trivial
 ·have u:=H.blk i b h1;cases b with
  |dead=>trivial
  |box cells=>
   obtain⟨g,cs,e,G,F,E,D,z⟩:=u;exact⟨g,cs,e,G,F,E,D,E4 hc _ _ (U _ (iD hi)) z⟩
  |row ver e T l=>exact u
  |res R=>exact u
theorem Cut.refl(h:List ABlk):Cut h h:=⟨jA _,λ_ _ h=>.inr h⟩
theorem Cut.cons{h h':List ABlk}(hc:Cut h h'):Cut (b::h) (b::h'):=⟨by have:=hc.len;simp;omega,λi c hi=>by
 cases i with
 |zero=>exact .inr hi
 |succ i=>exact hc.blk i c (by simpa using hi)⟩
theorem Cut.dead{h h':List ABlk}(hc:Cut h h'):Cut (b::h) (.dead::h'):=⟨by have:=hc.len;simp;omega,λi c hi=>by
 cases i with
 |zero=>exact .inl (by simpa using hi.symm)
 |succ i=>exact hc.blk i c (by simpa using hi)⟩
theorem Cut.nil(h:List ABlk):Cut h []:=⟨jN _,λi c hi=>by simp at hi⟩
theorem CG{C:Ctx}{h:List ABlk}(j:Nat)(e:eA)(T:Ty α)(E:t[j]? =jT (.lit (.slice jS 0 0)))(h0:0 < T.size):St.le C ⟨t,h⟩ ⟨t.set j (.own h.length 0),h++[.row 0 e T []]⟩:=λa w ⟨F,S,ψ,H,z⟩=>by
 have X:Ext w S h ψ w S (h++[.row 0 e T []]) (Bs ψ h.length (.slice jS 0 0)):=Ext.push _ _ λ_ _=>rfl
 have G:H8 C.N w S (h++[.row 0 e T []]) (Bs ψ h.length (.slice jS 0 0)) (.slice jS 0 0) (.row 0 e T []):=
  ⟨[],eM _ _ _ _,h0,λi d hi=>by simp at hi,λg hg=>by simp[eF]at hg⟩
 obtain⟨v,h1,h2⟩:=Cb z E;unfold AV.rel at h2;subst h2;refine⟨by rw[F];show mkD h=mkD (h++[_]);rw[Ip];rfl,S,_,H.push (dW _ _) G (λg hg=>by simp[ftp,Bz]at hg),?_⟩;have D:=Ij (AE X _ _ z) j (x:=.own h.length 0) (v:=.slice jS 0 0) (by
  unfold AV.rel;refine⟨by simp,λJ q=>?_⟩;rw[gD (jA _)]at q;simp[ABlk.ver]at q;exact⟨by omega,λ_=>Bo.symm⟩)
 have I:a.tmps.toList.set j (.slice jS 0 0)=a.tmps.toList:=by
  have u:=(gJ.1 h1).1;apply fY;intro k;by_cases hk:j=k
  ·subst hk;rw[gO u,h1]
  ·rw[gN hk]
 rw[I]at D;exact D
mutual
def AV.fz(i ver:Nat)(r:AV):AV->AV
 | .own j v=>if j=i/\v=ver then r else .own j v
 | .agg l=>.agg (Du i ver r l)
 | .tup l=>.tup (Du i ver r l)
 | .fn f l=>.fn f (Du i ver r l)
 |x=>x
def Du(i ver:Nat)(r:AV):List AV->List AV
 | []=>[]
 |x::l=>AV.fz i ver r x::Du i ver r l
end
def ABlk.fz(i ver:Nat)(r:AV):ABlk->ABlk
 | .box cells=>.box (Du i ver r cells)
 |b=>b
def fzH(i ver:Nat)(r:AV)(h:List ABlk):List ABlk:=(h.map (ABlk.fz i ver r)).set i .dead
section
variable{w:eG}{S:Nat->Prop}{h:List ABlk}{ψ:Nat->eC}
theorem WX{ver:Nat}(q:ABlk.ver (fzH i ver r h)[j]? =jT c):j≠i/\ABlk.ver h[j]? =jT c/\Fz (fzH i ver r h)[j]? =Fz h[j]?:=by
 unfold fzH at *;by_cases u:j=i
 ·subst u;exfalso;by_cases z:j < (h.map (ABlk.fz j ver r)).length
  ·rw[gO z]at q;simp[ABlk.ver]at q
  ·rw[gI (by simpa using z)]at q;simp[ABlk.ver]at q
 ·rw[gN (jO u),gK]at q⊢;cases D:h[j]? with
  |none=>rw[D]at q;simp[ABlk.ver]at q
  |some b=>rw[D]at q;cases b <;> simp[ABlk.fz,ABlk.ver,Fz]at q⊢<;> exact⟨u,q⟩
theorem Ark{ver:Nat}(q:Bd (fzH i ver r h)[j]? =aP):Bd h[j]? =aP:=by
 unfold fzH at q;by_cases z:j=i
 ·subst z;exfalso;by_cases u:j < (h.map (ABlk.fz j ver r)).length
  ·rw[gO u]at q;simp[Bd]at q
  ·rw[gI (by simpa using u)]at q;simp[Bd]at q
 ·rw[gN (jO z),gK]at q;cases D:h[j]? with
  |none=>rw[D]at q;simp[Bd]at q
  |some b=>rw[D]at q;cases b <;> simp[ABlk.fz,Bd]at q⊢
theorem Ahb{ver:Nat}(q:ABlk.live (fzH i ver r h)[j]? =aP)(hg:ftp (fzH i ver r h)[j]? v g):ftp h[j]? v g:=by
 unfold fzH at q hg;by_cases z:j=i
 ·subst z;exfalso;by_cases u:j < (h.map (ABlk.fz j ver r)).length
  ·rw[gO u]at q;simp[ABlk.live]at q
  ·rw[gI (by simpa using u)]at q;simp[ABlk.live]at q
 ·rw[gN (jO z),gK]at q hg;cases D:h[j]? with
  |none=>rw[D]at q;simp[ABlk.live]at q
  |some b=>rw[D]at hg;cases b <;> simpa[ABlk.fz,ftp]using hg
theorem Aym{ver:Nat}(hi:h[i]? =jT b)(u:b.mrk= []):mkD (fzH i ver r h)=mkD h:=by
 have e:∀l:List ABlk,mkD (l.map (ABlk.fz i ver r))=mkD l:=λl=>by
  induction l with
  |nil=>rfl
  |cons c l q=>
   simp only[gY,mkD,q];cases c <;> rfl
 unfold fzH;rw[DY (b:=b.fz i ver r) (by rw[gK,hi];rfl) (by cases b <;> simp_all[ABlk.fz,ABlk.mrk]),e]
theorem WY{ver:Nat}:(fzH i ver r h).length=h.length:=by simp[fzH]
mutual
theorem Ai9{i ver:Nat}{r:AV}{S':Nat->Prop}(hS:∀k,S k->S' k)(hr:∀v,AV.rel w S h ψ (.own i ver) v->AV.rel w S' (fzH i ver r h) ψ r v):∀(x:AV) (v:eC),AV.rel w S h ψ x v->AV.rel w S' (fzH i ver r h) ψ (AV.fz i ver r x) v
 | .any,_,_=>by unfold AV.fz AV.rel;trivial
 | .lit u,v,H=>by unfold AV.fz;unfold AV.rel at H⊢;exact H
 | .bs T l,v,H=>by unfold AV.fz;unfold AV.rel at H⊢;exact T.slice.keepS H (λ_ _=>rfl) hS
 | .tv T d,v,H=>by unfold AV.fz;unfold AV.rel at H⊢;exact T.keepS H (λ_ _=>rfl) hS
 | .own j c,v,H=>by
  unfold AV.fz;split
  ·rename_i e;obtain⟨rfl,rfl⟩:=e;exact hr v H
  ·unfold AV.rel at H⊢;exact⟨by rw[WY];exact H.1,λc' hv=>H.2 c' (WX hv).2.1⟩
 | .ptr j off,v,H=>by
  unfold AV.fz;unfold AV.rel at H⊢;exact⟨by rw[WY];exact H.1,λhv=>H.2 (Ark hv)⟩
 | .rp j c k off,v,H=>by
  unfold AV.fz;unfold AV.rel at H⊢;refine⟨by rw[WY];exact H.1,λc' hv=>?_⟩;rw[(WX hv).2.2];exact H.2 c' (WX hv).2.1
 | .bp T d off,v,H=>by
  unfold AV.fz;unfold AV.rel at H⊢;obtain⟨b,o,e,hat⟩:=H;exact⟨b,o,e,hat.keep (λ_ _=>rfl) hS⟩
 | .agg l,v,H=>by
  unfold AV.fz;unfold AV.rel at H⊢;obtain⟨cs,e,hl⟩:=H;exact⟨cs,e,FZ hS hr l cs hl⟩
 | .tup l,v,H=>by
  unfold AV.fz;unfold AV.rel at H⊢;obtain⟨cs,e,hl⟩:=H;exact⟨cs,e,FZ hS hr l cs hl⟩
 | .fn f l,v,H=>by
  unfold AV.fz;unfold AV.rel at H⊢;obtain⟨cs,e,hl⟩:=H;exact⟨cs,e,FZ hS hr l cs hl⟩
theorem FZ{i ver:Nat}{r:AV}{S':Nat->Prop}(hS:∀k,S k->S' k)(hr:∀v,AV.rel w S h ψ (.own i ver) v->AV.rel w S' (fzH i ver r h) ψ r v):∀(l:List AV) (cs:List eC),Ak w S h ψ l cs->Ak w S' (fzH i ver r h) ψ (Du i ver r l) cs
 | [],cs,H=>by unfold Du;unfold Ak at H⊢;exact H
 |x::l,cs,H=>by
  unfold Du;unfold Ak at H⊢;obtain⟨v,vs,e,h1,h2⟩:=H;exact⟨v,vs,e,Ai9 hS hr x v h1,FZ hS hr l vs h2⟩
end
end
theorem OA{C:Ctx}(hC:C.std){h:List ABlk}(i:Nat){ver:Nat}(hi:h[i]? =jT (.row ver e T l)):St.le C ⟨t,h⟩ ⟨Du i ver (.bs T l) t,fzH i ver (.bs T l) h⟩:=λa w ⟨U,S,ψ,H,hl⟩=>by
 obtain⟨cells,F,h0,hR,ad⟩:=H.blk i _ hi;have O:=(gJ.1 hi).1;have X:∀k,S k->(S k\/(ψ i).ownBlock=jT k):=λk hk=>.inl hk
 have hr:∀v,AV.rel w S h ψ (.own i ver) v->AV.rel w (λk=>S k\/(ψ i).ownBlock=jT k) (fzH i ver (.bs T l) h) ψ (.bs T l) v:=λv hv=>by
  unfold AV.rel at hv⊢;have:=(hv.2 _ (by rw[hi];rfl)).2 V;subst this;exact Dh F (λi d U=>T.keepS (hR i d U) (λ_ _=>rfl) X) λg hg=>.inr hg
 have W:∀g,(ψ i).ownBlock=jT g->Bz (ψ i)=jT g:=λg hg=>AY hg
 refine⟨U.trans (Aym hi V).symm,λk=>S k\/(ψ i).ownBlock=jT k,ψ,⟨H.bel,H.nlt,λk hk=>?_,λk hk=>.inl (H.sub k hk),λk hk=>?_,λj b q=>?_,λj k ac q hk=>?_⟩,FZ X hr _ _ hl⟩
 ·rcases hk with hk|hk
  ·exact H.lt k hk
  ·exact(eL F k hk).2
 ·rcases hk with hk|hk
  ·exact H.new k hk
  ·exact .inr (i9 λab=>(ad k hk).1 (hC k ab))
 ·by_cases z:j=i
  ·subst z;unfold fzH at q;rw[gO (by simpa using O)]at q;cases q;trivial
  ·have G:=q;unfold fzH at G;rw[gN (jO z),gK]at G;obtain⟨Z,I,rfl⟩:=jQ.1 G;have hB:=H.blk j Z I;have D:ABlk.live (jT Z)=aP->∀g,ftp (jT Z) (ψ j) g->(ψ i).ownBlock≠jT g:=λaa g hg e=>H.dis j i z (by rw[I];exact aa) (by rw[hi];rfl) g (by rw[I];exact hg) (by rw[hi];exact W g e)
   cases Z with
   |dead=>trivial
   |box u=>
    obtain⟨g,cs,e',E,L,k3,Y,k5⟩:=hB;exact⟨g,cs,e',E,L,λhk=>hk.elim k3 (D V g (by rw[E];rfl)),Y,FZ X hr _ _ k5⟩
   |row v' e' T' l'=>
    obtain⟨u,E,L,k3,Y⟩:=hB;exact⟨u,E,L,λi d U=>T'.keepS (k3 i d U) (λ_ _=>rfl) X,λg hg=>⟨(Y g hg).1,λhk=>hk.elim (Y g hg).2 (D V g (AY hg))⟩⟩
   |res R=>
    obtain⟨E,L⟩:=hB;exact⟨λg hg=>⟨(E g hg).1,λhk=>hk.elim (E g hg).2.1 (D V g hg),(E g hg).2.2⟩,R.keep L (λ_ _=>rfl) (λ_ _=>rfl) X⟩
 ·have J:∀j,ABlk.live (fzH i ver (.bs T l) h)[j]? =aP->ABlk.live h[j]? =aP:=λj q=>by
   unfold fzH at q;by_cases z:j=i
   ·subst z;rw[gO (by simpa using O)]at q;simp[ABlk.live]at q
   ·rw[gN (jO z),gK]at q;cases hb:h[j]? with
    |none=>rw[hb]at q;simp[ABlk.live]at q
    |some b=>rw[hb]at q;cases b <;> simp[ABlk.fz,ABlk.live]at q⊢
  exact λg h1 h2=>H.dis j k ac (J j q) (J k hk) g (Ahb q h1) (Ahb hk h2)
open Go.Proofs
variable{Q:bC->St->Prop}{α:Type}{T:Ty α}{c:bA}{d:α}{e:eA}{enc:α->List AV}{h':List ABlk}{i:Nat}{ik:bR}{j k:Nat}{l:List α}{m:Int}{n off:Nat}{r:AV}{st:eA}{t':List AV}{ty:eA}{ver:Nat}{x y:cF}
class AG(P:Program)(ty:TypeId)(b:outParam Bool)(n:outParam Nat):Prop where
 eq:RG P ty=some (b,n)
class FO(P:Program)(st:TypeId)(j:Nat)(n:outParam Nat):Prop where
 eq:Ou P st j=some n
class ES(P:Program)(ty:TypeId)(n:outParam Nat):Prop where
 eq:PN P ty=some n
class SL(P:Program)(ty:TypeId):Prop where
 eq:GV P ty=true
class RT(P:Program)(ty:TypeId)(e:outParam TypeId)(n bytes:outParam Nat):Prop where
 eq:NZ P ty=some (e,n,bytes)
class SZ(P:Program)(ty:TypeId)(n:outParam Nat):Prop where
 eq:Aeh P ty=some n
class TyOf(P:Program)(e:TypeId)(α:outParam Type)(T:outParam (Ty α)):Prop where
 eq:True
class ZC(P:Program)(ty:TypeId)(zs:outParam (List Value)):Prop where
 eq:CD P ty=some zs
class EncOf{α:Type}(T:Ty α)(enc:outParam (α->List AV)):Prop where
 ok:Enc T enc
 one:S9 T
 pos:0 < T.size
section
variable{P:cG}{C:Ctx}{s:St}{o:bZ}{K:St->Prop}{t:List AV}{h:List ABlk}{ops:Array bZ}{rest:List bZ}
theorem Ait{K:St->Prop}(hg:gA ops t o=jT aP)(hq:AX P C t h o r)(hk:C4 P C ops K rest ⟨Br t o.dst r,h⟩):C4 P C ops K (o::rest) ⟨t,h⟩:=
 ⟨aP,hg,λ_=>VV hq hk,λe=>by cases e⟩
theorem Ay1{K:St->Prop}(hg:gA ops t o=jT aP)(hq:AOp P C o ⟨t,h⟩ (C4 P C ops K rest)):C4 P C ops K (o::rest) ⟨t,h⟩:=
 ⟨aP,hg,λ_=>hq,λe=>by cases e⟩
theorem P4{K:St->Prop}(hg:gA ops t o=jT aM)(hk:C4 P C ops K rest ⟨Br t o.dst (.lit undef),h⟩):C4 P C ops K (o::rest) ⟨t,h⟩:=
 ⟨aM,hg,(λe=>by cases e),λ_=>hk⟩
theorem AH{K:St->Prop}{s:St}(hg:gA ops s.t o=jT aP)(hq:AOp P C o s (C4 P C ops K rest)):C4 P C ops K (o::rest) s:=
 ⟨aP,hg,λ_=>hq,λe=>by cases e⟩
theorem Ba{K:St->Prop}(hq:AX P C t h o r)(hk:K ⟨Br t o.dst r,h⟩):AOp P C o ⟨t,h⟩ K:=VV hq hk
theorem Ar6{K:St->Prop}{l:List bZ}(ht:t=t')(hh:h=h')(hk:C4 P C ops K l ⟨t',h'⟩):C4 P C ops K l ⟨t,h⟩:=by subst ht hh;exact hk
def QOp(P:cG)(C:Ctx)(o:bZ)(t:List AV)(h:List ABlk)(K:List AV->Prop):Prop:=∃r,AX P C t h o r/\K (Br t o.dst r)
theorem E2{K:List AV->Prop}(hq:AX P C t h o r)(hk:K (Br t o.dst r)):QOp P C o t h K:=⟨r,hq,hk⟩
theorem Ax{K:St->Prop}{s:St}(hk:K s):C4 P C ops K [] s:=hk
theorem AAu{K:List AV->Prop}(hg:gA ops t o=jT aP)(hq:AX P C t h o r)(hk:aQ P C ops h K rest (Br t o.dst r)):aQ P C ops h K (o::rest) t:=⟨r,.inl ⟨hg,hq⟩,hk⟩
theorem Ar8{K:List AV->Prop}(hg:gA ops t o=jT aM)(hk:aQ P C ops h K rest (Br t o.dst (.lit undef))):aQ P C ops h K (o::rest) t:=⟨_,.inr ⟨hg,rfl⟩,hk⟩
theorem Fo{K:List AV->Prop}(hk:K t):aQ P C ops h K [] t:=hk
theorem Df{t:List AV}{h:List ABlk}(ht:t=t')(hh:h=h')(hk:Awp P C c Q ⟨t',h'⟩):Awp P C c Q ⟨t,h⟩:=by subst ht hh;exact hk
theorem Tc{x y:bA}{s:St}(M:St)(h1:Awp P C x (Ku (λs'=>St.le C s' M) λ_ _=>False) s)(h2:Awp P C y Q M):Awp P C (.seq x y) Q s:=
 Ae λK q=>h1.mono λe s' hq=>by
  cases e with
  |normal=>exact q _ (h2.le hq)
  |_=>exact hq.elim
theorem AN{s:St}(M:St)(h1:St.le C s M)(h2:Awp P C c Q M):Awp P C c Q s:=h2.le h1
theorem H7{op:BinOp}{xt yt:eA}{k:bR}{a b:Int}{c q:Bool}(D:o.op= .binOp op xt x y yt)(hx:evA t x= .lit (.int k a))(u:evA t y= .lit (.int k b))(z:Hy op k a b=jT (.bool c))(hc:c=q):AX P C t h o (.lit (.bool q)):=by
 subst hc;exact CN D hx u z
def WO:AV->Bool
 | .lit v=>v.oneCell'
 | .bs _ _=>aP
 |_=>aM
theorem Mv{x:AV}(hx:Mu.WO x=aP):One h x:=by
 cases x <;> simp[Mu.WO]at hx
 ·exact One.lit hx
 ·exact One.bs
theorem Nh{l:List AV}(q:l.all Mu.WO=aP):Qd h (.agg l) l:=Qd.agg λx hx=>Mv (fP.1 q x hx)
theorem Ajd{k u:bR}{z:eC}{bytes:Nat}{K:St->Prop}(d:α)(F:o.op= .makeSlice ty x y)(D:GO P ty=jT (e,z,bytes))(I:T.size=1)(q:∀w S,T.RS w S [z] d)
 (hx:evA t x= .lit (.int k (n:Int)))(E:evA t y= .lit (.int u (n:Int)))(H:bytes * n<=281474976710656)(G:n<=fB)(J:K ⟨Br t o.dst (.own h.length 0),h++[.row 0 e T (iJ n d)]⟩):AOp P C o ⟨t,h⟩ K:=
 Anc (s:=⟨t,h⟩) F D I q hx E H G J
theorem Zm{q:eA}{zs:List eC}{K:St->Prop}[ZC P q zs](u:o.op= .alloc q)(z:K ⟨Br t o.dst (.ptr h.length 0),h++[.box (zs.map .lit)]⟩):AOp P C o ⟨t,h⟩ K:=AOp.alloc (s:=⟨t,h⟩) u ZC.eq z
theorem As{K:St->Prop}{s:St}(hk:K s):Ku K Q .normal s:=hk
def bdH(h:List ABlk):Bool:=h.all (Amn h.length)
theorem XE{t:List AV}{h:List ABlk}(z:bdH h=aP)(u:Fgt h.length t t'):St.le C ⟨t,h⟩ ⟨t',h⟩:=VE (Cut.refl h) (λb q=>fP.1 z b q) u V
theorem Aiw{t:List AV}{h:List ABlk}(hc:Cut h h')(z:bdH h'=aP)(u:Fgt h'.length t t')(q:mkD h'=mkD h:=by rfl):St.le C ⟨t,h⟩ ⟨t',h'⟩:=VE hc (λb q=>fP.1 z b q) u q
theorem AJ{s:St}{β:Type}(F:β->St)(I:β->Prop)(q:β->Nat)(u:β)(H:I u)(h0:St.le C s (F u))
 (D:∀b,I b->Awp P C c (Ku (λs'=>∃b',I b'/\q b' < q b/\St.le C s' (F b')) Q) (F b)):Awp P C (.loop c) Q s:=
 Awp.loop (λm s=>∃b,I b/\m=q b/\s=F b) (q u) ⟨_,h0,u,H,rfl,rfl⟩ λm s ⟨b,G,E,z⟩=>by
  subst E z;refine(D b G).mono λe s' hq=>?_
  cases e with
  |normal=>
   obtain⟨b',h1,h2,J⟩:=hq;exact⟨q b',h2,F b',J,b',h1,rfl,rfl⟩
  |_=>exact hq
theorem Bi{cells:List AV}[AG P ty aM n](u:o.op= .load ty x)(hx:evA t x= .ptr i off)(hi:h[i]? =jT (.box cells))(q:(cells.drop off)[0]? =jT r):AX P C t h o r:=
 Ek u AG.eq hx (Lm.ptr hi) q
theorem AI[AG P ty aM n][EncOf T enc](u:o.op= .load ty x)(hx:evA t x= .bp T d off)(q:((enc d).drop off)[0]? =jT r):AX P C t h o r:=
 Ek u AG.eq hx (Lm.bp EncOf.ok) q
theorem Bp[AG P ty aM n][EncOf T enc](u:o.op= .load ty x)(hx:evA t x= .rp i ver k off)(hi:h[i]? =jT (.row ver e T l))(hk:l[k]? =jT d)
 (q:((enc d).drop off)[0]? =jT r):AX P C t h o r:=
 Ek u AG.eq hx (Lm.rp hi hk EncOf.ok) q
theorem AW{cells:List AV}[AG P ty aP n](q:o.op= .load ty x)(hx:evA t x= .ptr i off)(hi:h[i]? =jT (.box cells))(u:((cells.drop off).take n).length=n):AX P C t h o (.agg ((cells.drop off).take n)):=
 Gm q AG.eq hx (Lm.ptr hi) V u
theorem D8[AG P ty aP n][EncOf T enc](q:o.op= .load ty x)(hx:evA t x= .bp T d off)(u:(((enc d).drop off).take n).length=n):AX P C t h o (.agg (((enc d).drop off).take n)):=
 Gm q AG.eq hx (Lm.bp EncOf.ok) V u
theorem Bu{cells:List AV}[FO P st j n](q:o.op= .fieldAddr st x j)(hx:evA t x= .ptr i off)(hi:h[i]? =jT (.box cells)):AX P C t h o (.ptr i (off+n)):=
 AX.fieldAddr q FO.eq hx (Am2.ptr hi)
theorem Cw[FO P st j n](q:o.op= .fieldAddr st x j)(hx:evA t x= .bp T d off):AX P C t h o (.bp T d (off+n)):=
 AX.fieldAddr q FO.eq hx Am2.bp
theorem CQ[FO P st j n](q:o.op= .fieldAddr st x j)(hx:evA t x= .rp i ver k off)(hi:h[i]? =jT (.row ver e T l)):AX P C t h o (.rp i ver k (off+n)):=
 AX.fieldAddr q FO.eq hx (Am2.rp hi)
theorem IG[ES P ty n](z:o.op= .indexAddr ty x y)(hx:evA t x= .bs T l)(q:evA t y= .lit (.int ik (k:Int)))(u:T.size=n)(D:l[k]? =jT d):AX P C t h o (.bp T d 0):=
 KE z (by rw[u];exact ES.eq) hx q (by omega) (by simpa using D)
theorem H6[ES P ty n](z:o.op= .indexAddr ty x y)(hx:evA t x= .bs T l)(q:evA t y= .lit (.int ik m))(u:T.size=n)(h0:0<=m)(D:l[m.toNat]? =jT d):AX P C t h o (.bp T d 0):=
 KE z (by rw[u];exact ES.eq) hx q h0 D
theorem JP[ES P ty n](z:o.op= .indexAddr ty x y)(hx:evA t x= .own i ver)(hi:h[i]? =jT (.row ver e T l))(q:evA t y= .lit (.int ik (k:Int)))(u:T.size=n)(hk:k < l.length):
 AX P C t h o (.rp i ver k 0):=by
 have:=JQ (P:=P) (C:=C) (h:=h) z hx hi (by rw[u];exact ES.eq) q (by omega) (by simpa using hk);simpa using this
theorem FW[ES P ty n](z:o.op= .indexAddr ty x y)(hx:evA t x= .own i ver)(hi:h[i]? =jT (.row ver e T l))(q:evA t y= .lit (.int ik m))(u:T.size=n)(h0:0<=m)(hk:m.toNat < l.length):
 AX P C t h o (.rp i ver m.toNat 0):=JQ z hx hi (by rw[u];exact ES.eq) q h0 hk
theorem AX.ln[SL P ty](q:o.op= .call {callee:=.builtin .len,args:=#[x],argTypes:=#[ty]})(hx:evA t x= .bs T l):AX P C t h o (.lit (.int .i64 (l.length:Int))):=NN q SL.eq hx
theorem Fq[SL P ty](q:o.op= .call {callee:=.builtin .len,args:=#[x],argTypes:=#[ty]})(hx:evA t x= .own i ver)(hi:h[i]? =jT (.row ver e T l)):AX P C t h o (.lit (.int .i64 (l.length:Int))):=S6 q hx hi SL.eq
theorem JO{a:Option aV}{c:Nat}[SL P ty](q:o.op= .call {callee:=.builtin .len,args:=#[x],argTypes:=#[ty]})(hx:evA t x= .lit (.slice a n c)):AX P C t h o (.lit (.int .i64 (n:Int))):=S7 q hx SL.eq
theorem CZ{cells new:List AV}[SZ P ty n](D:o.op= .store ty x y)(hx:evA t x= .ptr i off)(hi:h[i]? =jT (.box cells))(z:Qd h (evA t y) new)(u:n=new.length)(q:off+new.length<=cells.length)
 (E:K ⟨Br t o.dst (.lit undef),h.set i (.box (cells.take off++new++cells.drop (off+new.length)))⟩):AOp P C o ⟨t,h⟩ K:=VU (s:=⟨t,h⟩) D hx hi z (by rw[<-u];exact SZ.eq) q E
theorem CY{d':α}[SZ P ty n][EncOf T enc](u:o.op= .store ty x y)(hx:evA t x= .rp i ver k 0)(hi:h[i]? =jT (.row ver e T l))(hk:l[k]? =jT d)
 (z:Fit h T (evA t y) d')(q:T.size=n)(D:K ⟨Br t o.dst (.lit undef),h.set i (.row ver e T (l.set k d'))⟩):AOp P C o ⟨t,h⟩ K:=NV (s:=⟨t,h⟩) u hx hi hk (Acb z EncOf.one) (by rw[q];exact SZ.eq) D
theorem Tf{bytes:Nat}{z:List α}[RT P ty e n bytes][EncOf T enc](F:o.op= .call {callee:=.builtin .append,args:=#[x,y],argTypes:=#[ty,ty]})
 (hx:evA t x= .own i ver)(hi:h[i]? =jT (.row ver e T l))(D:evA t y= .bs T z)(E:T.size=n)(u:l.length+z.length<=fB)(q:(l.length+z.length) * bytes<=140737488355328)
 (G:K ⟨Br t o.dst (.own i (ver+1)),h.set i (.row (ver+1) e T (l++z))⟩):AOp P C o ⟨t,h⟩ K:=AOp.append (s:=⟨t,h⟩) F (by rw[E];exact RT.eq) hx hi D EncOf.one u q G
theorem AX.lt{bytes m:Nat}{q:Array (Nat×cF)}{xs:List cF}{ds:List α}[RT P ty e m bytes][EncOf T enc](E:o.op= .buildSlice ty n q)(D:q=GB xs)(F:n=xs.length)
 (z:T.size=m)(u:n * T.size<=16777216)(G:Fits h T (xs.map (evA t)) ds):AX P C t h o (.bs T ds):=AX.lit E D F (by rw[z];exact RT.eq) (EncOf.pos (T:=T) (enc:=enc)) u G
end
section
variable{P:cG}{C:Ctx}{o:bZ}{t:List AV}{h:List ABlk}
theorem Cm{bytes m:Nat}{q:Array (Nat×cF)}[RT P ty e m bytes][TyOf P e α T][EncOf T enc](F:o.op= .buildSlice ty n q)(E:q= #[(0,x)])(u:n=1)
 (D:T.size=m)(z:T.size<=16777216)(G:Fit h T (evA t x) d):AX P C t h o (.bs T [d]):=AX.lt (xs:=[x]) F E u D (by subst u;omega) (.cons G .nil)
end
instance Au7:EncOf tInt λd=>[.lit (.int .i64 d)]:=⟨Arv .i64,J5,by decide⟩
instance Au6:EncOf Ty.bool λd=>[.lit (.bool d)]:=⟨Al6,Afu,by decide⟩
instance Aqj{α:Type}(T:Ty α):EncOf T.slice λl=>[.bs T l]:=⟨U1 T,one1_slice,Nat.zero_lt_one⟩
@[reducible] def B8(x:Ins):List AV:=[.lit (.int .u8 x.op),.lit (.int .i64 x.d),.lit (.int .i64 x.a),.lit (.int .i64 x.b),.lit (.int .u32 x.n),.lit (.int .i64 x.f),.bs tInt x.args,.lit (.int .i64 x.l1),.lit (.int .i64 x.l2)]
@[reducible] def Ed(x:Block):List AV:=[.lit (.string x.name),.bs Et x.ins]
@[reducible] def An(x:Func):List AV:=[.lit (.string x.name),.lit (.int .i64 x.args),.lit (.int .i64 x.regs),.bs Ct x.blocks]
theorem Ahq:Enc Et B8:=by
 intro w S h ψ cs d H;obtain⟨A,c,q⟩:=IY.1 H;rw[q.cs];have u:=q.args;simp only[B8,Ak,AV.rel];exact⟨_,_,rfl,rfl,_,_,rfl,rfl,_,_,rfl,rfl,_,_,rfl,rfl,_,_,rfl,rfl,_,_,rfl,rfl,_,_,rfl,u,_,_,rfl,rfl,_,_,rfl,rfl,rfl⟩
theorem U2:Enc Ct Ed:=by
 intro w S h ψ cs d H;obtain⟨A,c,rfl,_,q⟩:=Ob.1 H;simp only[Ed,Ak,AV.rel];exact⟨_,_,rfl,rfl,_,_,rfl,q,rfl⟩
theorem YU:Enc Dg An:=by
 intro w S h ψ cs d H;obtain⟨A,c,rfl,_,_,_,q⟩:=OI.1 H;simp only[An,Ak,AV.rel];exact⟨_,_,rfl,rfl,_,_,rfl,rfl,_,_,rfl,rfl,_,_,rfl,q,rfl⟩
theorem Ak0:S9 Et:=Ef Ahq λd x hx=>by
 simp only[B8,or_false,zak]at hx;rcases hx with rfl|rfl|rfl|rfl|rfl|rfl|rfl|rfl|rfl <;> first|exact .inl ⟨_,rfl,rfl⟩|exact .inr ⟨_,_,_,rfl⟩
theorem Z6:S9 Ct:=Ef U2 λd x hx=>by
 simp only[Ed,or_false,zak]at hx;rcases hx with rfl|rfl <;> first|exact .inl ⟨_,rfl,rfl⟩|exact .inr ⟨_,_,_,rfl⟩
theorem Aft:S9 Dg:=Ef YU λd x hx=>by
 simp only[An,or_false,zak]at hx;rcases hx with rfl|rfl|rfl|rfl <;> first|exact .inl ⟨_,rfl,rfl⟩|exact .inr ⟨_,_,_,rfl⟩
instance Au5:EncOf Et B8:=⟨Ahq,Ak0,by decide⟩
instance Au4:EncOf Ct Ed:=⟨U2,Z6,by decide⟩
instance Au3:EncOf Dg An:=⟨YU,Aft,by decide⟩
instance Au2:AG cV 3 aM 1:=⟨by kernel_rfl⟩
instance Au1:SZ cV 3 1:=⟨by kernel_rfl⟩
instance Atq:AG cV 4 aM 1:=⟨by kernel_rfl⟩
instance Atp:SZ cV 4 1:=⟨by kernel_rfl⟩
instance Ato:AG cV 5 aM 1:=⟨by kernel_rfl⟩
instance Atn:AG cV 27 aM 1:=⟨by kernel_rfl⟩
instance Atm:ES cV 27 1:=⟨by kernel_rfl⟩
instance Atl:SL cV 27:=⟨by kernel_rfl⟩
instance Atk:RT cV 27 3 1 8:=⟨by kernel_rfl⟩
instance Atj:AG cV 99 aM 1:=⟨by kernel_rfl⟩
instance Ati:ES cV 99 1:=⟨by kernel_rfl⟩
instance Ath:AG cV 48 aM 1:=⟨by kernel_rfl⟩
instance Atg:ES cV 48 9:=⟨by kernel_rfl⟩
instance Atf:SL cV 48:=⟨by kernel_rfl⟩
instance Ate:AG cV 22 aM 1:=⟨by kernel_rfl⟩
instance Atd:ES cV 22 2:=⟨by kernel_rfl⟩
instance Atc:SL cV 22:=⟨by kernel_rfl⟩
instance Atb:RT cV 66 27 1 24:=⟨by kernel_rfl⟩
instance Ata:ES cV 98 1:=⟨by kernel_rfl⟩
instance As9:RT cV 98 99 1 24:=⟨by kernel_rfl⟩
instance As8:RT cV 59 66 1 24:=⟨by kernel_rfl⟩
instance As7:AG cV 47 aP 9:=⟨by kernel_rfl⟩
instance As6:SZ cV 47 9:=⟨by kernel_rfl⟩
instance As5:AG cV 63 aP 2:=⟨by kernel_rfl⟩
instance As4:AG cV 24 aP 4:=⟨by kernel_rfl⟩
instance As3:SZ cV 24 4:=⟨by kernel_rfl⟩
instance As2:TyOf cV 3 _ tInt:=⟨trivial⟩
instance As1:TyOf cV 27 _ tInt.slice:=⟨trivial⟩
instance As0:TyOf cV 99 _ Ty.bool.slice:=⟨trivial⟩
instance Asz:TyOf cV 66 _ tInt.slice.slice:=⟨trivial⟩
instance Asy:ZC cV 47 [.int .u8 0,.int .i64 0,.int .i64 0,.int .i64 0,.int .u32 0,.int .i64 0,.slice jS 0 0,.int .i64 0,.int .i64 0]:=⟨by kernel_rfl⟩
instance Asx:ZC cV 63 [.string ⟨#[]⟩,.slice jS 0 0]:=⟨by kernel_rfl⟩
instance Asw:ZC cV 24 [.string ⟨#[]⟩,.int .i64 0,.int .i64 0,.slice jS 0 0]:=⟨by kernel_rfl⟩
instance Asv:FO cV 47 0 0:=⟨by kernel_rfl⟩
instance Asu:FO cV 47 1 1:=⟨by kernel_rfl⟩
instance Ast:FO cV 47 2 2:=⟨by kernel_rfl⟩
instance Ass:FO cV 47 3 3:=⟨by kernel_rfl⟩
instance Asr:FO cV 47 6 6:=⟨by kernel_rfl⟩
instance Asq:FO cV 47 7 7:=⟨by kernel_rfl⟩
instance Asp:FO cV 47 8 8:=⟨by kernel_rfl⟩
instance Aso:FO cV 63 1 1:=⟨by kernel_rfl⟩
instance Asn:FO cV 24 1 1:=⟨by kernel_rfl⟩
instance Asm:FO cV 24 2 2:=⟨by kernel_rfl⟩
instance Asl:FO cV 24 3 3:=⟨by kernel_rfl⟩
end Mu
section
namespace Go.Proofs
open Go.Shelf
def Tryz.lays189_ren:dZ:=⟨fun|189=>62|125=>99|257=>98|128=>126|129=>127|294=>118|295=>119|296=>120|297=>121|298=>122|299=>123|216=>73|300=>124|301=>125|328=>145|329=>146|330=>147|331=>148|332=>149|215=>107|343=>163|n=>n,fun|28=>27|3=>3|46=>104|0=>0|51=>45|53=>151|4=>4|183=>144|182=>143|131=>68|5=>5|9=>9|218=>166|222=>170|228=>185|229=>186|n=>n,fun|n=>n⟩
theorem Tryz.lays189:Go.Proofs.Lays.n189 cV Tryz.lays189_ren:={
 mixed:=by kernel_rfl
 f125:=Tryz.func99.trans (congrArg jT (by kernel_rfl))
 f128:=Tryz.func126.trans (congrArg jT (by kernel_rfl))
 f129:=Tryz.func127.trans (congrArg jT (by kernel_rfl))
 f189:=Tryz.func62.trans (congrArg jT (by kernel_rfl))
 f215:=Tryz.func107.trans (congrArg jT (by kernel_rfl))
 f216:=Tryz.func73.trans (congrArg jT (by kernel_rfl))
 f257:=Tryz.func98.trans (congrArg jT (by kernel_rfl))
 f294:=Tryz.func118.trans (congrArg jT (by kernel_rfl))
 f295:=Tryz.func119.trans (congrArg jT (by kernel_rfl))
 f296:=Tryz.func120.trans (congrArg jT (by kernel_rfl))
 f297:=Tryz.func121.trans (congrArg jT (by kernel_rfl))
 f298:=Tryz.func122.trans (congrArg jT (by kernel_rfl))
 f299:=Tryz.func123.trans (congrArg jT (by kernel_rfl))
 f300:=Tryz.func124.trans (congrArg jT (by kernel_rfl))
 f301:=Tryz.func125.trans (congrArg jT (by kernel_rfl))
 f328:=Tryz.func145.trans (congrArg jT (by kernel_rfl))
 f329:=Tryz.func146.trans (congrArg jT (by kernel_rfl))
 f330:=Tryz.func147.trans (congrArg jT (by kernel_rfl))
 f331:=Tryz.func148.trans (congrArg jT (by kernel_rfl))
 f332:=Tryz.func149.trans (congrArg jT (by kernel_rfl))
 f343:=Tryz.func163.trans (congrArg jT (by kernel_rfl))
 t0:=dA
 a0:=cM
 z0:=cW
 v0:=dH
 t3:=dC
 a3:=cO
 z3:=cY
 v3:=dJ
 t4:=dD
 a4:=cP
 z4:=cZ
 v4:=dK
 t5:=dF
 a5:=Tryz.isAgg5
 z5:=Tryz.sizeOf5
 v5:=Tryz.zeroValue5
 t9:=dG
 a9:=Tryz.isAgg9
 z9:=Tryz.sizeOf9
 v9:=Tryz.zeroValue9
 t28:=dB
 a28:=cN
 z28:=cX
 v28:=dI
 t46:=Tryz.underlying104
 a46:=Tryz.isAgg104
 z46:=Tryz.sizeOf104
 v46:=Tryz.zeroValue104
 t51:=dE
 a51:=Tryz.isAgg45
 z51:=Tryz.sizeOf45
 v51:=Tryz.zeroValue45
 t53:=Tryz.underlying151
 a53:=Tryz.isAgg151
 z53:=Tryz.sizeOf151
 v53:=Tryz.zeroValue151
 t131:=Tryz.underlying68
 a131:=Tryz.isAgg68
 z131:=Tryz.sizeOf68
 v131:=Tryz.zeroValue68
 t182:=Tryz.underlying143
 a182:=Tryz.isAgg143
 z182:=Tryz.sizeOf143
 v182:=Tryz.zeroValue143
 t183:=Tryz.underlying144
 a183:=Tryz.isAgg144
 z183:=Tryz.sizeOf144
 v183:=Tryz.zeroValue144
 t218:=Tryz.underlying166
 a218:=Tryz.isAgg166
 z218:=Tryz.sizeOf166
 v218:=Tryz.zeroValue166
 t222:=Tryz.underlying170
 a222:=Tryz.isAgg170
 z222:=Tryz.sizeOf170
 v222:=Tryz.zeroValue170
 t228:=Tryz.underlying185
 a228:=Tryz.isAgg185
 z228:=Tryz.sizeOf185
 v228:=Tryz.zeroValue185
 t229:=Tryz.underlying186
 a229:=Tryz.isAgg186
 z229:=Tryz.sizeOf186
 v229:=Tryz.zeroValue186}
open Go.Sort Go.RowKit in
theorem Tryz.slices_Sort_int(q off cap:Nat)(zs:List Int)(w:eG)(D:Holds (eD .i64) w q off zs.toArray)(u:q < w.heap.size)(z:zs.length < 4611686018427387904):
 a8 cV 62 #[.slice (jT ⟨q,off,jS⟩) zs.length cap] w λe w'=>
  e= .returned (.tuple #[])/\∃n os,w'=grow (putRow (eD .i64) (Sort.ahead w n) q off (zs.mergeSort λx y=>decide (x<=y)).toArray) os:=Any.slices_Sort_int Tryz.lays189 q off cap zs w D u z
def Tryz.lays107_ren:dZ:=⟨fun|107=>39|108=>75|n=>n,fun|28=>27|3=>3|4=>4|0=>0|n=>n,fun|n=>n⟩
theorem Tryz.lays107:Go.Proofs.Lays.n107 cV Tryz.lays107_ren:={
 mixed:=by kernel_rfl
 f107:=Tryz.func39.trans (congrArg jT (by kernel_rfl))
 f108:=Tryz.func75.trans (congrArg jT (by kernel_rfl))
 t0:=dA
 a0:=cM
 z0:=cW
 v0:=dH
 t3:=dC
 a3:=cO
 z3:=cY
 v3:=dJ
 t4:=dD
 a4:=cP
 z4:=cZ
 v4:=dK
 t28:=dB
 a28:=cN
 z28:=cX
 v28:=dI}
open Go.Lib in
theorem Tryz.slices_Contains_int(b off n c:Nat)(zs:List Int)(x:Int)(w:eG)(u:n<=zs.length)(q:n<=9223372036854775807)(hc:∀j,j < zs.length->w.cell? ⟨b,off+j,jS⟩=jT (.int .i64 (zs.getD j 0))):
 a8 cV 39 #[.slice (jT ⟨b,off,jS⟩) n c,.int .i64 x] w λe w'=>e= .returned (.bool ((zs.take n).contains x))/\w'=w:=Any.slices_Contains_int Tryz.lays107 b off n c zs x w u q hc
open Go.Lib in
theorem Tryz.slices_Contains_int_empty(a:Option aV)(c:Nat)(x:Int)(w:eG):
 a8 cV 39 #[.slice a 0 c,.int .i64 x] w λe w'=>e= .returned (.bool aM)/\w'=w:=Any.slices_Contains_int_empty Tryz.lays107 a c x w
def Tryz.laysNm215_ren:dZ:=⟨fun|15=>92|n=>n,fun|22=>27|3=>3|4=>4|n=>n,fun|n=>n⟩
theorem Tryz.laysNm215:Go.Proofs.Lays2.n15 cV Tryz.laysNm215_ren:={
 mixed:=by kernel_rfl
 f15:=Tryz.func92.trans (congrArg jT (by kernel_rfl))
 t3:=dC
 a3:=cO
 z3:=cY
 v3:=dJ
 t4:=dD
 a4:=cP
 z4:=cZ
 v4:=dK
 t22:=dB
 a22:=cN
 z22:=cX
 v22:=dI
 i3:=by kernel_rfl}
open Go.RowKit Go.Lib in
theorem Tryz.slices_Clone_int(b off n c:Nat)(zs:List Int)(w:eG)(u:n<=zs.length)(q:n * 8<=140737488355328)(hc:∀j,j < zs.length->w.cell? ⟨b,off+j,jS⟩=jT (.int .i64 (zs.getD j 0))):
 a8 cV 92 #[.slice (jT ⟨b,off,jS⟩) n c] w λe w'=>∃v',e= .returned v'/\w'.ownsRow w.heap.size 3 1 v' n ((zs.take n).map (eD .i64))/\v'≠.slice jS 0 0/\Below w.heap.size w w':=Any.slices_Clone_int Tryz.laysNm215 b off n c zs w u q hc
open Go.RowKit Go.Lib in
theorem Tryz.slices_Clone_int_nil(n c:Nat)(w:eG):
 a8 cV 92 #[.slice jS n c] w λe w'=>e= .returned (.slice jS 0 0)/\w'=w:=Any.slices_Clone_int_nil Tryz.laysNm215 n c w
open Go.RowKit Go.Lib in
theorem Tryz.slices_Clone_int_zero(a:aV)(c:Nat)(w:eG):
 a8 cV 92 #[.slice (jT a) 0 c] w λe w'=>∃v',e= .returned v'/\w'.ownsRow w.heap.size 3 1 v' 0 []/\v'≠.slice jS 0 0/\Below w.heap.size w w':=Any.slices_Clone_int_zero Tryz.laysNm215 a c w
def Tryz.laysNm220_ren:dZ:=⟨fun|20=>63|n=>n,fun|22=>27|3=>3|4=>4|0=>0|n=>n,fun|n=>n⟩
theorem Tryz.laysNm220:Go.Proofs.Lays2.n20 cV Tryz.laysNm220_ren:={
 mixed:=by kernel_rfl
 f20:=Tryz.func63.trans (congrArg jT (by kernel_rfl))
 t0:=dA
 a0:=cM
 z0:=cW
 v0:=dH
 t3:=dC
 a3:=cO
 z3:=cY
 v3:=dJ
 t4:=dD
 a4:=cP
 z4:=cZ
 v4:=dK
 t22:=dB
 a22:=cN
 z22:=cX
 v22:=dI
 i3:=by kernel_rfl}
open Go.RowKit Go.Lib Go.Sort in
theorem Tryz.slices_Compact_int(u off cap:Nat)(zs:List Int)(w:eG)(E:Holds (eD .i64) w u off zs.toArray)(D:zs.length<=9223372036854775807)(z:zs.length<=cap):
 a8 cV 63 #[.slice (jT ⟨u,off,jS⟩) zs.length cap] w λe w'=>e= .returned (.slice (jT ⟨u,off,jS⟩) (bU zs).length cap)/\∃q,w'=putRow (eD .i64) (Sort.ahead w q) u off (bU zs++iJ (zs.length - (bU zs).length) 0).toArray:=Any.slices_Compact_int Tryz.laysNm220 u off cap zs w E D z
open Go.RowKit Go.Lib Go.Sort in
theorem Tryz.slices_Compact_int_empty(a:Option aV)(cap:Nat)(w:eG):
 a8 cV 63 #[.slice a 0 cap] w λe w'=>e= .returned (.slice a 0 cap)/\w'=w:=Any.slices_Compact_int_empty Tryz.laysNm220 a cap w
open Go.RowKit Go.Sort in
theorem Tryz.slices_Sort_int_none(p:Option aV)(cap:Nat)(w:eG):
 a8 cV 62 #[.slice p 0 cap] w λe w'=>e= .returned (.tuple #[])/\w'=w:=Any.slices_Sort_int_none Tryz.lays189 p cap w
end Go.Proofs
end
namespace Mu
open Go Go.RowKit Go.Proofs Go.Sort
variable{l:List Int}{v:eC}{w:eG}{zs:List Int}
theorem Ka{g:Nat}{e:eA}{cur:Array eC}(u:w.heap[g]? =jT (.cells cur e (0,0)))(E:cur.toList.take (zs.length * 1)=zs.map (eD .i64)):
 Holds (eD .i64) w g 0 zs.toArray:=by
 intro j z;have q:j < zs.length:=by simpa using z
 have D:cur[j]? =jT (.int .i64 zs[j]):=by
  have:(cur.toList.take (zs.length * 1))[j]? =jT (.int .i64 zs[j]):=by rw[E];simp[q]
  rw[gQ (by omega)]at this;simpa using this
 refine⟨?_,by simp[World.frozen?,u]⟩;have F:zs.toArray[j]! =zs[j]:=by simp[getElem!_pos,q]
 rw[F,jM];simp[eH,u,D]
def Gp(w:eG)(base:Nat)(v:eC)(l:List Int):Prop:=w.ownsRow base 3 1 v l.length (l.map (eD .i64))
theorem Gp.of{base n:Nat}{cs:List eC}(h:w.ownsRow base 3 1 v n cs)(q:n=l.length)(hc:cs=l.map (eD .i64)):Gp w base v l:=by
 subst q hc;exact h
theorem Gp.nil(w:eG)(base:Nat):Gp w base (.slice jS 0 0) []:=eM _ _ _ _
theorem Gp.base{base q:Nat}(h:Gp w base v l)(z:q<=base):Gp w q v l:=by
 obtain⟨h1,h2⟩:=h;refine⟨h1,?_⟩;rcases h2 with h2|⟨g,cap,cur,u,hg,r⟩
 ·exact .inl h2
 ·exact .inr ⟨g,cap,cur,u,by omega,r⟩
theorem Gp.lt{base:Nat}(h:Gp w base v l):∀k,v.ownBlock=jT k->base<=k/\k < w.heap.size:=eL h
theorem Alk:(cV.info? 3).map (λi=>(i.zero,i.size,i.bytes))=jT (jT (.int .i64 0),1,8):=by kernel_rfl
theorem Vg{xs:List Int}(h:(Ty.int .i64).slice.R w w.heap.size [v] xs)(J:xs.length<=2147483648):
 a8 cV 92 #[v] w λe w'=>∃v',e= .returned v'/\Gp w' w.heap.size v' xs/\Below w.heap.size w w':=by
 obtain⟨A,c,rfl⟩:=Cn h;rcases A with _|ad
 ·obtain⟨rfl,_,rfl⟩:=TF h;refine(Tryz.slices_Clone_int_nil _ _ _).mono λe w' ⟨u,G⟩=>?_
  subst G;exact⟨_,u,Gp.nil _ _,dW _ _⟩
 ·by_cases E:xs= []
  ·subst E;refine(Tryz.slices_Clone_int_zero ad c w).mono λe w' ⟨v',u,z,_,D⟩=>?_
   exact⟨v',u,z,D⟩
  ·have q:0 < xs.length:=List.length_pos_iff.2 E;obtain⟨b,o,e,_⟩:=L8 h (gH q);cases e;refine(Tryz.slices_Clone_int b o xs.length c xs w (jA _) (by omega) (λj F=>?_)).mono λe w' ⟨v',u,z,_,D⟩=>?_
   ·obtain⟨b',I,H,_,hc,_⟩:=L8 h (gH F);cases H;rw[hc];simp[gB,F]
   ·rw[iQ]at z;exact⟨v',u,z,D⟩
theorem Aj2{base:Nat}(q:Gp w base v zs)(J:zs.length<=2147483648):
 a8 cV 62 #[v] w λe w'=>e= .returned (.tuple #[])/\Gp w' base v (zs.mergeSort λx y=>decide (x<=y))/\w.grownBy w' v.ownBlock:=by
 rcases q.2 with⟨rfl,h0⟩|⟨g,cap,cur,rfl,u,F,h1,h2,H,G⟩
 ·have:zs= []:=fW h0;subst this;refine(Tryz.slices_Sort_int_none _ _ _).mono λe w' ⟨E,z⟩=>?_
  subst z;exact⟨E,by simpa using q,eJ _ _⟩
 ·have D:g < w.heap.size:=(aC.1 F).1;refine(Tryz.slices_Sort_int g 0 cap zs w (Ka F G) D (by omega)).mono λe w' ⟨E,I,os,z⟩=>?_
  subst z;exact⟨E,.of (fD (by simp) u F h1 h2 H) (by simp) V,eX _⟩
theorem Xj{base:Nat}(q:Gp w base v zs)(hn:zs.length<=2147483648):
 a8 cV 63 #[v] w λe w'=>∃v',e= .returned v'/\Gp w' base v' (bU zs)/\w.grownBy w' v.ownBlock/\v'.ownBlock=v.ownBlock:=by
 rcases q.2 with⟨rfl,h0⟩|⟨g,cap,cur,rfl,u,L,h1,h2,h3,h4⟩
 ·have:zs= []:=fW h0;subst this;refine(Tryz.slices_Compact_int_empty _ _ _).mono λe w' ⟨H,E⟩=>?_
  subst E;exact⟨_,H,by simpa[bU,bV]using q,eJ _ _,rfl⟩
 ·have z:(bU zs).length<=zs.length:=by
   unfold bU bV;rw[gV];exact jB (List.length_filter_le _ _) (by simp)
  refine(Tryz.slices_Compact_int g 0 cap zs w (Ka L h4) (by omega) h1).mono λe w' ⟨H,I,E⟩=>?_
  subst E;refine⟨_,H,?_,?_,rfl⟩
  ·have J:=fD (os:=#[]) (n:=I) (ts:=bU zs++iJ (zs.length - (bU zs).length) 0) (ss:=zs) (by simp;omega) u L h1 h2 h3;rw[grow_empty]at J;rcases J.2 with⟨h0,_⟩|⟨g',U,D,Z,G,F,k1,Y,X,W⟩
   ·cases h0
   ·cases Z;refine⟨by simp,.inr ⟨g,cap,D,rfl,G,F,by omega,Y,X,?_⟩⟩;have O:=congrArg (List.take (bU zs).length) W;rw[iT,jH,jE z,<-List.map_take,List.take_left' V]at O;rw[jH];exact O
  ·have hg:=eX (w:=w) (g:=g) (n:=I) (os:=#[]) (bU zs++iJ (zs.length - (bU zs).length) 0).toArray;rw[grow_empty]at hg;exact hg
end Mu
namespace Mu
variable{succ:Nat->List Nat}
section
variable{n:Nat}(hs:∀k l,l∈succ k->l < n)
include hs
end
section
variable{n:Nat}(hs:∀k l,l∈succ k->l < n)
include hs
end
section
variable{n:Nat}
end
end Mu
namespace Mu
open Go
theorem G4{zs:List Int}(h:zs.Pairwise (·<=·)):(bU zs).Pairwise (· < ·)/\∀z,z∈bU zs↔z∈zs:=by
 have q:∀j,j < zs.length->zs.toArray[j]! =zs.getD j 0:=λj u=>by simp[getElem!_pos,u]
 have E:∀i j,i<=j->j < zs.length->zs.getD i 0<=zs.getD j 0:=λi j L u=>by
  rcases Nat.eq_or_lt_of_le L with e|hlt
  ·subst e;exact Int.le_refl _
  ·have:=List.pairwise_iff_getElem.1 h i j (by omega) u hlt;simpa[gB,show i < zs.length by omega,u]using this
 have D:∀j,j < zs.length->(bX zs.toArray j=aP↔j=0\/zs.getD (j - 1) 0 < zs.getD j 0):=by
  intro j u;unfold bX;rw[q j u,q (j - 1) (by omega)];by_cases I:j=0
  ·simp[I]
  ·have:=E (j - 1) j (by omega) u;simp only[I,false_or,ne_eq,decide_eq_true_eq];omega
 constructor
 ·unfold bU bV;rw[List.pairwise_map];refine List.Pairwise.imp_of_mem ?_ (List.Pairwise.filter _ List.pairwise_lt_range);intro a b Z X Y;obtain⟨H,_⟩:=iA.1 Z;obtain⟨G,O⟩:=iA.1 X;simp only[iE]at H G;rw[q a H,q b G];rcases(D b G).1 O with e|e
  ·omega
  ·have:=E a (b - 1) (by omega) (by omega);omega
 ·intro z;unfold bU bV;rw[iC];constructor
  ·rintro⟨j,u,rfl⟩;obtain⟨F,_⟩:=iA.1 u;simp only[iE]at F;rw[q j F];simp[gB,F]
  ·intro I;have J:∀j,j < zs.length->∃i,i<=j/\bX zs.toArray i=aP/\zs.getD i 0=zs.getD j 0:=by
    intro j;induction j with
    |zero=>intro u;exact⟨0,jA _,(D 0 u).2 (.inl V),rfl⟩
    |succ j W=>
     intro u;by_cases hlt:zs.getD j 0 < zs.getD (j+1) 0
     ·exact⟨j+1,jA _,(D _ u).2 (.inr (by simpa using hlt)),rfl⟩
     ·obtain⟨i,h1,h2,U⟩:=W (by omega);have:=E j (j+1) (by omega) u;exact⟨i,by omega,h2,by omega⟩
   obtain⟨j,u,rfl⟩:=List.getElem_of_mem I;obtain⟨i,h1,h2,U⟩:=J j u;refine⟨i,iA.2 ⟨by simp;omega,h2⟩,?_⟩;rw[q i (by omega),U];simp[gB,u]
theorem Fw(zs:List Int):(zs.mergeSort λx y=>decide (x<=y)).Pairwise (·<=·):=by
 have:=List.pairwise_mergeSort (le:=λx y:Int=>decide (x<=y)) (λa b c h1 h2=>by simp at *;omega) (λa b=>by simp;omega) zs;exact this.imp (by simp)
open Go.RowKit
theorem WG(x:Int):1<=tInt.bulk x:=jA _
theorem Afq(x:Ins):1<=Et.bulk x:=by simp only[Et,Ty.via];omega
theorem Afr(x:Block):1<=Ct.bulk x:=by simp only[Ct,Ty.via];omega
theorem Mn(p:Func):Dg.bulk p=p.name.size+D5 Ct.bulk p.blocks+5:=by
 simp only[Dg,Ty.via,Ty.cons,Ty.slice,tInt,Ty.int,Dt,VB];omega
theorem HN(p:Block):Ct.bulk p=p.name.size+D5 Et.bulk p.ins+3:=by
 simp only[Ct,Ty.via,Ty.cons,Ty.slice,Dt,VB];omega
theorem SO(p:Ins):Et.bulk p=D5 tInt.bulk p.args+10:=by
 simp only[Et,Ty.via,Ty.cons,Ty.slice,tInt,Ty.int,Dt];omega
theorem GZ(p:Func):p.blocks.length<=Dg.bulk p:=by
 have:=Eq Afr p.blocks;rw[Mn];omega
theorem FJ{p:Func}{b:Block}(h:b∈p.blocks):Ct.bulk b<=Dg.bulk p:=by
 have:=Vi (f:=Ct.bulk) h;rw[Mn];omega
theorem JJ(p:Block):p.ins.length<=Ct.bulk p:=by
 have:=Eq Afq p.ins;rw[HN];omega
theorem Xr{p:Block}{x:Ins}(h:x∈p.ins):Et.bulk x<=Ct.bulk p:=by
 have:=Vi (f:=Et.bulk) h;rw[HN];omega
theorem Az8{B:Nat}{a w:eG}(h:Below B a w)(n:Nat):Below B a (w.drewN n):=⟨h.os,h.tape,h.output,h.size,h.block⟩
theorem DI{a b:Bool}(h:a=b):Ending.returned (.bool a)= .returned (.bool b):=by rw[h]
theorem Vk{w q:eG}{cs:List eC}{T:eA}(h:Below (w.heap.size+1) (w.alloc (.cells cs.toArray T)) q):
 (∀a:aV,a.block < w.heap.size->q.cell? a=w.cell? a)/\(∀j v,cs[j]? =jT v->q.cell? ⟨w.heap.size,j,jS⟩=jT v)/\w.heap.size < q.heap.size/\Below w.heap.size w q:=by
 have h0:Below w.heap.size w (w.alloc (.cells cs.toArray T)):=(dW _ _).alloc (jA _) _;have u:Below w.heap.size w q:=h0.trans (h.mono (by omega));refine⟨λa D=>u.cell D,λj v z=>?_,?_,u⟩
 ·rw[h.cell (p:=⟨w.heap.size,j,jS⟩) (by show w.heap.size < _;omega)];have e:=cell_of_row _ _ j _ _ _ (eY w (.cells cs.toArray T));rw[e];simpa using z
 ·have h1:(w.alloc (.cells cs.toArray T)).heap.size=w.heap.size+1:=by simp
  have:=h.size;omega
open Go.Proofs
theorem Nx{w w':eG}{base n size:Nat}{e:eA}{v:eC}{xs:List eC}(h:w.ownsRow base e size v n xs)(hk:∀g,v.ownBlock=jT g->w'.heap[g]? =w.heap[g]?):w'.ownsRow base e size v n xs:=by
 obtain⟨h1,h2⟩:=h;refine⟨h1,?_⟩;rcases h2 with h2|⟨g,cap,cur,rfl,hg,hh,r⟩
 ·exact .inl h2
 ·exact .inr ⟨g,cap,cur,rfl,hg,(hk g V).trans hh,r⟩
end Mu
namespace Mu
open Go Go.RowKit
variable{α:Type}
section
variable{T:Ty α}{e:eA}{w w' w2 X:eG}{base:Nat}{v v':eC}{ds:List α}{S S':Nat->Prop}
end
open Go.Proofs
variable{j:Nat}{l:List Int}{n:Int}{v:eC}{x:Ins}{xs:List Int}
def Ic(op:Int):List UInt8:=
 if op=0 then [100,110]else if op=1 then [100,97,98,110]else if op=2 then [100,97]else if op=3 then [100,97]else if op=4 then [97,98]else if op=5 then [100,102,120]
 else if op=6 then [97]else if op=7 then []else if op=8 then [108]else if op=9 then [97,108,109]else if op=10 then [97]else []
def readsC(x:Ins):List Int:=(if(Ic x.op).contains 97 then [x.a]else [])++(if(Ic x.op).contains 98 then [x.b]else [])++(if(Ic x.op).contains 120 then x.args else [])
def Ayk(s:ByteArray)(c:UInt8):Bool:=s.data.toList.contains c
def Bg(x:Ins):Bool:=(Ic x.op).contains 100
theorem Ae1(op:Int)(w:eG)(h0:0<=op)(h1:op<=255):
 a8 cV 79 #[.int .u8 op] w λe w'=>e= .returned (.string ⟨(Ic op).toArray⟩)/\Below w.heap.size w w':=by
 have hc:op=0\/op=1\/op=2\/op=3\/op=4\/op=5\/op=6\/op=7\/op=8\/op=9\/op=10\/11<=op:=by omega
 rcases hc with rfl|rfl|rfl|rfl|rfl|rfl|rfl|rfl|rfl|rfl|rfl|h
 case inr.inr.inr.inr.inr.inr.inr.inr.inr.inr.inr=>
  have hd:aU (11<=op)=aP:=decide_eq_true h;have hs:Hid (Ic op= []):=by
   unfold Ic;show _=_;repeat rw[if_neg (by omega)]
  go_enter cL,cU
  go_wp2_with fail
  go_ret
  exact⟨by rw[hs.out];rfl,(dW _ _).alloc (jA _) _⟩
 all_goals
  go_enter cL,cU
  go_wp2_with fail
  go_ret
  exact⟨rfl,(dW _ _).alloc (jA _) _⟩
theorem Yd(s:ByteArray)(c:UInt8)(w:eG)(hs:s.size<=65536):
 a8 cV 80 #[.string s,.int .u8 c.toNat] w λe w'=>e= .returned (.bool (Ayk s c))/\w=w':=by
 go_enter Tryz.func80,Tryz.ntmps80
 go_wp2_with fail
 go_loop [5] (λi=>∃k:Nat,k<=s.size/\i= .int .i64 k/\Hid ((s.data.toList.take k).contains c=aM)) (λi=>s.size - (RowKit.intOf i).toNat)
 case atStart=>exact⟨0,jN _,rfl,by simp[Hid]⟩
 case round=>
  obtain⟨k,hk,rfl,hno⟩:=hrel;by_cases hlt:k < s.size
  ·have hts:Hid (s.data.toList.take (k+1)=s.data.toList.take k++[s[k]]):=by
    show _=_;rw[iS (by simpa using hlt)];rfl
   by_cases he:s[k]=c
   ·have hfin:Hid (Ayk s c=aP):=by
     show s.data.toList.contains c=aP;rw[List.contains_iff_mem];have:s[k]∈s.data.toList:=by
      have h1:s.data.toList[k]? =jT s[k]:=by
       rw[gH (by simpa using hlt)];rfl
      exact iD h1
     rwa [he]at this
    have hb:((s[k].toNat:Int) ==(c.toNat:Int))=aP:=by rw[he];simp
    clear hts hno he
    go_wp2_with fail
    go_ret
    exact⟨DI hfin.out.symm,rfl⟩
   ·have hb:((s[k].toNat:Int) ==(c.toNat:Int))=aM:=by
     rw[beq_eq_false_iff_ne];intro h;exact he (UInt8.toNat_inj.1 (by omega))
    have hno2:Hid ((s.data.toList.take (k+1)).contains c=aM):=by
     show _=_;rw[hts.out];have:=hno.out;simp only[List.contains_eq_mem,decide_eq_false_iff_not,g8,List.mem_singleton,not_or]at this⊢;exact⟨this,λh=>he h.symm⟩
    clear hts hno he
    go_wp2_with fail
    go_round
    case rel=>exact⟨k+1,by omega,by go_num,hno2⟩
    case measure=>simp[RowKit.intOf];omega
  ·obtain rfl:k=s.size:=by omega
   have hfin:Hid (Ayk s c=aM):=by
    have:=hno.out;rw[iR (by simp)]at this;exact this
   clear hno
   go_wp2_with fail
   go_ret
   exact⟨DI hfin.out.symm,rfl⟩
theorem Ag7(op:Int)(c:UInt8):Ayk ⟨(Ic op).toArray⟩ c=(Ic op).contains c:=rfl
theorem Alt(op:Int):(Ic op).length<=4:=by
 unfold Ic
 repeat' split
 all_goals simp
theorem UK(op:Int):(⟨(Ic op).toArray⟩:ByteArray).size<=65536:=by
 have:=Alt op;show(Ic op).toArray.size<=_;rw[iM];omega
def Bx(w0:eG)(cs:List eC)(T:eA)(w':eG):Prop:=Below (w0.heap.size+1) (w0.alloc (.cells cs.toArray T)) w'
section
variable{w0 w' w'':eG}{cs:List eC}{T:eA}
theorem Bx.refl:Bx w0 cs T (w0.alloc (.cells cs.toArray T)):=dW _ _
theorem Bx.cell(h:Bx w0 cs T w')(q:cs[j]? =jT v):w'.cell? ⟨w0.heap.size,j,jS⟩=jT v:=(Vk h).2.1 j v q
theorem Bx.lt(h:Bx w0 cs T w'):w0.heap.size < w'.heap.size:=(Vk h).2.2.1
theorem Bx.below(h:Bx w0 cs T w'):Below w0.heap.size w0 w':=(Vk h).2.2.2
theorem Bx.call(h:Bx w0 cs T w')(q:Below w'.heap.size w' w''):Bx w0 cs T w'':=Below.trans h (q.mono h.lt)
end
theorem Afp:1<=fB:=by decide
theorem Dy{a b c:eG}{row:Option Nat}(h:a.grownBy b row)(k:b.grownBy c row):a.grownBy c row:=
 ⟨k.os.trans h.os,k.tape.trans h.tape,k.output.trans h.output,jB h.size k.size,λi hi q=>(k.block i (jC hi h.size) q).trans (h.block i hi q)⟩
theorem Yk{w:eG}{base:Nat}(h:Gp w base v l):∃A c,v= .slice A l.length c:=by
 rcases h.2 with⟨rfl,h0⟩|⟨g,cap,cur,rfl,_⟩
 ·rw[h0];exact⟨_,_,rfl⟩
 ·exact⟨_,_,rfl⟩
theorem Yl{w:eG}{base g cap n:Nat}{i:Nat}{z:Int}(h:Gp w base (.slice (jT ⟨g,0,jS⟩) n cap) l)(q:l[i]? =jT z):w.cell? ⟨g,i,jS⟩=jT (.int .i64 z):=by
 have hi:=(gJ.1 q).1;rcases h.2 with⟨h0,_⟩|⟨G,u,cur,e,_,hh,_,_,_,F⟩
 ·cases h0
 ·cases e;have D:=h.cells (g:=g) V i (.int .i64 z) (by simp[q]);have E:(⟨g,0,jS⟩:aV).add i=⟨g,i,jS⟩:=by
   unfold aW;by_cases q:i=0 <;> simp[q]
  rwa [E]at D
theorem Ug{w:eG}{base:Nat}(h:Gp w base v l)(q:0 < l.length):∃g c,v= .slice (jT ⟨g,0,jS⟩) l.length c/\base<=g/\g < w.heap.size:=by
 rcases h.2 with⟨rfl,h0⟩|⟨g,cap,cur,rfl,hg,hh,_⟩
 ·omega
 ·exact⟨g,cap,rfl,hg,(aC.1 hh).1⟩
def IV(x:Ins):eC:=if Bg x then .tuple #[.int .i64 x.d,.bool aP]else .tuple #[.int .i64 0,.bool aM]
section
variable{w w':eG}{cs:List eC}{T:eA}
theorem Aox(op:Int)(h0:0<=op)(h1:op<=255)(h:Bx w cs T w'):
 a8 cV 79 #[.int .u8 op] w' λe w''=>e= .returned (.string ⟨(Ic op).toArray⟩)/\Bx w cs T w'':=
 (Ae1 op w' h0 h1).mono λ_ _ q=>⟨q.1,h.call q.2⟩
theorem Y5(op:Int){b:Bool}(u:(Ic op).contains 100=b)(w':eG):
 a8 cV 80 #[.string ⟨(Ic op).toArray⟩,.int .u8 100] w' λe w''=>e= .returned (.bool b)/\w'=w'':=
 (Yd ⟨(Ic op).toArray⟩ 100 w' (UK op)).mono λ_ _ q=>⟨by rw[q.1,Ag7,u],q.2⟩
end
theorem KH(h:Bg x=aP):IV x= .tuple #[.int .i64 x.d,.bool aP]:=by unfold IV;rw[if_pos h]
theorem MB(h:Bg x=aM):IV x= .tuple #[.int .i64 0,.bool aM]:=by unfold IV;rw[if_neg (by simp[h])]
theorem ZR(x:Ins)(w:eG)(cs:List eC)(hR:Et.R w w.heap.size cs x):
 a8 cV 44 #[.agg cs.toArray] w λe w'=>e= .returned (IV x)/\Below w.heap.size w w':=by
 obtain⟨A,c,hI⟩:=IY.1 hR;obtain⟨rfl,hop,_,_,_,_,_,_,_,_⟩:=hI;obtain⟨h0,h255⟩:=Add hop;obtain⟨cs,hcs⟩:∃cs:List eC,cs= [.int .u8 x.op,.int .i64 x.d,.int .i64 x.a,.int .i64 x.b,.int .u32 x.n,.int .i64 x.f,.slice A x.args.length c,.int .i64 x.l1,.int .i64 x.l2]:=⟨_,rfl⟩
 have q1:∀w',Bx w cs 47 w'->w'.cell? ⟨w.heap.size,1,jS⟩=jT (.int .i64 x.d):=λw' h=>h.cell (by rw[hcs];rfl)
 have hstart:Hid (Bx w cs 47 (w.alloc (.cells #[.int .u8 x.op,.int .i64 x.d,.int .i64 x.a,.int .i64 x.b,.int .u32 x.n,.int .i64 x.f,.slice A x.args.length c,.int .i64 x.l1,.int .i64 x.l2] 47))):=by
  have h:=Bx.refl (w0:=w) (cs:=cs) (T:=47);rw[hcs]at h;rw[hcs];exact h
 clear hcs hR;rcases hq:Bg x with _|_
 ·have HQ:=bW hq;clear hq
  go_enter cH,cQ
  go_wp2_with fail
  refine(Aox x.op h0 h255 hstart.out).mono ?_;rintro e w1 ⟨rfl,hx1⟩
  go_wp2_with fail
  refine(Y5 x.op HQ.out w1).mono ?_;rintro e w' ⟨rfl,rfl⟩
  go_wp2_with fail
  go_ret2
  exact⟨by rw[MB HQ.out];rfl,hx1.below⟩
 ·have HQ:=bW hq;clear hq
  go_enter cH,cQ
  go_wp2_with fail
  refine(Aox x.op h0 h255 hstart.out).mono ?_;rintro e w1 ⟨rfl,hx1⟩
  go_wp2_with fail
  refine(Y5 x.op HQ.out w1).mono ?_;rintro e w' ⟨rfl,rfl⟩
  go_wp2_with fail
  go_ret2
  exact⟨by rw[KH HQ.out];rfl,hx1.below⟩
theorem Ns(x:Ins)(w:eG)(cs:List eC)(hR:Et.R w w.heap.size cs x):
 a8 cV 61 #[.agg cs.toArray] w λe w'=>e= .returned (IV x)/\Below w.heap.size w w':=by
 obtain⟨A,c,hI⟩:=IY.1 hR;obtain⟨rfl,hop,_,_,_,_,_,_,_,_⟩:=hI;obtain⟨h0,h255⟩:=Add hop;clear hR;have hc:(x.op=0\/x.op=1\/x.op=2\/x.op=3\/x.op=5)\/(x.op≠0/\x.op≠1/\x.op≠2/\x.op≠3/\x.op≠5):=by omega
 rcases hc with hc|⟨n0,n1,n2,n3,n5⟩
 ·have HQ:Hid (Bg x=aP):=by
   show _=_;unfold Bg Ic;rcases hc with h|h|h|h|h <;> rw[h] <;> decide
  rcases hc with h|h|h|h|h
  all_goals
   rw[h]
   go_enter cJ,cT
   go_wp2_with fail
   go_ret2
   exact⟨by rw[KH HQ.out];rfl,(dW _ _).alloc (jA _) _⟩
 ·have HQ:Hid (Bg x=aM):=by
   show _=_;unfold Bg Ic;rw[if_neg n0,if_neg n1,if_neg n2,if_neg n3];by_cases h4:x.op=4
   ·rw[h4];decide
   ·rw[if_neg h4,if_neg n5]
    repeat' split
    all_goals decide
  have e0:(x.op ==0)=aM:=beq_eq_false_iff_ne.2 n0;have e1:(x.op ==1)=aM:=beq_eq_false_iff_ne.2 n1;have e2:(x.op ==2)=aM:=beq_eq_false_iff_ne.2 n2;have e3:(x.op ==3)=aM:=beq_eq_false_iff_ne.2 n3;have e5:(x.op ==5)=aM:=beq_eq_false_iff_ne.2 n5;clear n0 n1 n2 n3 n5
  go_enter cJ,cT
  go_wp2_with fail
  go_ret2
  exact⟨by rw[MB HQ.out];rfl,(dW _ _).alloc (jA _) _⟩
theorem Ap1(w:eG)(o:Obj)(a:eC):((w.alloc o).alloc (.cells #[a] 3)).ownsRow (w.heap.size+1) 3 1 (.slice (jT ⟨w.heap.size+1,0,jS⟩) 1 1) 1 [a]:=by
 have h:=eY (w.alloc o) (.cells #[a] 3);rw[show(w.alloc o).heap.size=w.heap.size+1 from by simp]at h;exact R6 (cs:=[a]) h (jA _) V Afp
theorem XU(w:eG)(o:Obj)(a b:eC):(((w.alloc o).alloc (.cells #[b] 3)).alloc (.cells #[a] 3)).ownsRow (w.heap.size+1) 3 1 (.slice (jT ⟨w.heap.size+1+1,0,jS⟩) 1 1) 1 [a]/\
 Src (((w.alloc o).alloc (.cells #[b] 3)).alloc (.cells #[a] 3)) 1 (jT ⟨w.heap.size+1,0,jS⟩) 1 [b]:=by
 have h:=eY ((w.alloc o).alloc (.cells #[b] 3)) (.cells #[a] 3);rw[show((w.alloc o).alloc (.cells #[b] 3)).heap.size=w.heap.size+1+1 from by simp]at h;have h2:=eY (w.alloc o) (.cells #[b] 3);rw[show(w.alloc o).heap.size=w.heap.size+1 from by simp]at h2;exact⟨R6 (cs:=[a]) h (by omega) V Afp,Ape (cs:=#[b]) (Aic h2 _) V⟩
theorem Ig(x:Ins)(w:eG)(cs:List eC)(hR:Et.R w w.heap.size cs x)(hl:x.args.length<=2097152):
 a8 cV 60 #[.agg cs.toArray] w λe w'=>∃v,e= .returned v/\Gp w' w.heap.size v (readsC x)/\Below w.heap.size w w':=by
 obtain⟨A,c,hI⟩:=IY.1 hR;obtain⟨rfl,hop,_,_,_,_,_,_,_,hA⟩:=hI;obtain⟨h0,h255⟩:=Add hop;obtain⟨i0,hi,hz0,hz1,hz2⟩:=info_parts Alk;have hb0:Hid (Below w.heap.size w (w.alloc (.cells #[.int .u8 x.op,.int .i64 x.d,.int .i64 x.a,.int .i64 x.b,.int .u32 x.n,.int .i64 x.f,.slice A x.args.length c,.int .i64 x.l1,.int .i64 x.l2] 47))):=(dW _ _).alloc (jA _) _;have HA:Hid (tInt.slice.R (w.alloc (.cells #[.int .u8 x.op,.int .i64 x.d,.int .i64 x.a,.int .i64 x.b,.int .u32 x.n,.int .i64 x.f,.slice A x.args.length c,.int .i64 x.l1,.int .i64 x.l2] 47)) (w.alloc (.cells #[.int .u8 x.op,.int .i64 x.d,.int .i64 x.a,.int .i64 x.b,.int .u32 x.n,.int .i64 x.f,.slice A x.args.length c,.int .i64 x.l1,.int .i64 x.l2] 47)).heap.size [.slice A x.args.length c] x.args):=Ty.below hA hb0.out hb0.out.size;clear hR hA;have hc:(x.op=1\/x.op=4)\/(x.op=2\/x.op=3\/x.op=6\/x.op=9\/x.op=10)\/x.op=5\/(x.op=0\/x.op=7\/x.op=8)\/11<=x.op:=by omega
 rcases hc with hc|hc|hc|hc|hc
 ·have HQ:Hid (readsC x= [x.a,x.b]):=by
   show _=_;unfold readsC Ic;rcases hc with h|h <;> rw[h] <;> rfl
  rcases hc with h|h
  all_goals
   rw[h]at hb0 HA⊢
   go_enter cI,cR
   go_wp2_with (at_builtin;refine Agg V (.tmp 22) (.tmp 23) _ V (w.heap.size+1) 3 i0 _ 1 8 dB hi hz0 hz1 hz2 V (by decide) V (XU _ _ _ _).1 V (XU _ _ _ _).2 (by simp[eE]) (by unfold fB;omega) (by omega) (by simp) ?_)
   intro v2 w2 ho2 hg2 _;have hbn:Hid (Below w.heap.size w w2):=((hb0.out.alloc (by simp) _).alloc (by simp;omega) _).grown hg2 (by simp;omega) (λq hq=>by simp[eF]at hq;omega);have HO:=bW ho2;clear ho2 hg2
   go_wp2_with fail
   go_ret
   exact⟨_,rfl,by rw[HQ.out];exact Gp.base (Gp.of HO.out V V) (by omega),hbn.out⟩
 ·have HQ:Hid (readsC x= [x.a]):=by
   show _=_;unfold readsC Ic;rcases hc with h|h|h|h|h <;> rw[h] <;> rfl
  rcases hc with h|h|h|h|h
  all_goals
   rw[h]at hb0 HA⊢
   go_enter cI,cR
   have hbn:Hid (Below w.heap.size w _):=hb0.out.alloc (by simp) (.cells #[.int .i64 x.a] 3)
   go_wp2_with fail
   go_ret
   exact⟨_,rfl,by rw[HQ.out];exact Gp.base (Gp.of (Ap1 _ _ _) V V) (by omega),hbn.out⟩
 ·have HQ:Hid (readsC x=x.args):=by
   show _=_;unfold readsC Ic;rw[hc];rfl
  rw[hc]at hb0 HA⊢
  go_enter cI,cR
  go_wp2_with fail
  refine(Vg HA.out (by omega)).mono ?_;rintro e w1 ⟨v,rfl,ho,hb⟩;have HO:=bW ho;have HB:=bW hb;clear ho hb
  go_wp2_with fail
  go_ret
  exact⟨_,rfl,by rw[HQ.out];exact HO.out.base (by simp),hb0.out.trans (HB.out.mono hb0.out.size)⟩
 ·have HQ:Hid (readsC x= []):=by
   show _=_;unfold readsC Ic;rcases hc with h|h|h <;> rw[h] <;> rfl
  rcases hc with h|h|h
  all_goals
   rw[h]at hb0 HA⊢
   go_enter cI,cR
   go_wp2_with fail
   go_ret
   exact⟨_,rfl,by rw[HQ.out];exact Gp.nil _ _,hb0.out⟩
 ·have HQ:Hid (readsC x= []):=by
   show _=_;have e:Ic x.op= []:=by
    unfold Ic;repeat rw[if_neg (by omega)]
   unfold readsC;rw[e];rfl
  have e1:(x.op ==1)=aM:=beq_eq_false_iff_ne.2 (by omega);have e2:(x.op ==2)=aM:=beq_eq_false_iff_ne.2 (by omega);have e3:(x.op ==3)=aM:=beq_eq_false_iff_ne.2 (by omega);have e4:(x.op ==4)=aM:=beq_eq_false_iff_ne.2 (by omega);have e5:(x.op ==5)=aM:=beq_eq_false_iff_ne.2 (by omega);have e6:(x.op ==6)=aM:=beq_eq_false_iff_ne.2 (by omega);have e9:(x.op ==9)=aM:=beq_eq_false_iff_ne.2 (by omega);have e10:(x.op ==10)=aM:=beq_eq_false_iff_ne.2 (by omega)
  go_enter cI,cR
  go_wp2_with fail
  go_ret
  exact⟨_,rfl,by rw[HQ.out];exact Gp.nil _ _,hb0.out⟩
theorem far{B:Nat}{w q:eG}(h:Below B w q):∀a:aV,a.block < B->q.cell? a=w.cell? a:=λ_ u=>h.cell u
theorem Aqi{x:Int}(hx:xs[j]? =jT x)(h:¬x=n)(hs:(xs.take j).contains n=aM):Hid ((xs.take (j+1)).contains n=aM):=by
 show _=_;rw[List.contains_eq_any_beq]at hs⊢;rw[iN,hx,List.any_append,hs];simpa using λe=>h e.symm
theorem Au0{x:Int}(hx:xs[j]? =jT x)(h:x=n):aP=xs.contains n:=by
 subst h;simpa using(iD hx)
theorem Aki(xs:List Int)(n:Int)(va:eC)(w:eG)(hA:tInt.slice.R w w.heap.size [va] xs)(hx:xs.length<=2097152):
 a8 cV 100 #[va,.int .i64 n] w λe w'=>e= .returned (.bool (xs.contains n))/\Below w.heap.size w w':=by
 obtain⟨A,c,rfl⟩:=Cn hA;have HA:=bW hA;clear hA
 go_enter Tryz.func100,Tryz.ntmps100
 go_wp2
 go_loopw [5] (λi wr=>∃j:Nat,j<=xs.length/\i= .int .i64 j/\Hid ((xs.take j).contains n=aM)/\Below w.heap.size w wr) (λi _=>xs.length - (RowKit.intOf i).toNat)
 case atStart=>exact⟨0,jN _,rfl,rfl,dW _ _⟩
 case round=>
  obtain⟨j,hj,rfl,hs,hbe⟩:=hrel;have HBE:=bW hbe;have hfar:=far hbe;clear hbe;by_cases hlt:j < xs.length
  ·obtain⟨x,hx1⟩:∃x,xs[j]? =jT x:=⟨_,gH hlt⟩
   obtain⟨b1,o1,rfl,hb1,e1,_⟩:=L8 HA.out hx1;have HX:=bW hx1;clear hx1;by_cases hxy:x=n
   ·have d:(x ==n)=aP:=by simp[hxy]
    have HXY:=bW hxy;clear hxy
    go_wp2
    go_ret
    exact⟨DI (Au0 HX.out HXY.out),HBE.out⟩
   ·have d:(x ==n)=aM:=by simp[hxy]
    have HXY:=bW hxy;clear hxy
    go_wp2
    go_roundw
    case rel=>exact⟨j+1,by omega,by go_num,Aqi HX.out HXY.out hs.out,HBE.out⟩
    case measure=>simp[RowKit.intOf];omega
  ·obtain rfl:j=xs.length:=by omega
   go_wp2
   go_ret
   have hs':=hs.out;rw[iQ]at hs';exact⟨DI hs'.symm,HBE.out⟩
end Mu
namespace Mu
open Go
variable{bl:Block}{f:Func}
abbrev Blk(f:Func):={k:Nat // k < f.blocks.length}
def Ado(f:Func)(k:Int):Option (Blk f):=if h:0<=k/\k < f.blocks.length then jT ⟨k.toNat,by omega⟩else jS
def Al4(f:Func)(l:List Int):List (Blk f):=l.filterMap (Ado f)
def Ik(x:Ins):List Int:=if x.op=9 then [x.l1,if x.l2=x.l1 then -1 else x.l2]else if x.op=8 then [x.l1,-1]else []
def Sn(f:Func)(b:Block):List (Blk f):=
 match b.ins.getLast? with
 |none=>[]
 |some x=>Al4 f (Ik x)
def Hq(f:Func)(b:Int):List (Blk f):=
 if 0<=b then
  match f.blocks[b.toNat]? with
  |none=>[]
  |some bl=>Sn f bl
 else []
theorem Adn{m:Nat}(h:m < f.blocks.length):Ado f (m:Int)=jT ⟨m,h⟩:=by
 unfold Ado;rw[dif_pos ⟨by omega,by omega⟩];simp
theorem Aju{k:Int}(h:¬(0<=k/\k < f.blocks.length)):Ado f k=jS:=by
 unfold Ado;rw[dif_neg h]
theorem Wp(x:Ins):(Ik x).length<=2:=by
 unfold Ik
 repeat' split
 all_goals simp
theorem Aho(f:Func)(l:List Int):(Al4 f l).length<=l.length:=List.length_filterMap_le _ _
theorem Af2(f:Func)(b:Block):(Sn f b).length<=2:=by
 unfold Sn;split
 ·simp
 ·exact jB (Aho _ _) (Wp _)
theorem LW(f:Func)(b:Int):(Hq f b).length<=2:=by
 unfold Hq
 repeat' split
 ·simp
 ·exact Af2 _ _
 ·simp
def Fy{f:Func}(x:Blk f):Int:=((x.1:Nat):Int)
def nextL(f:Func)(b:Int):List Int:=(Hq f b).map Fy
theorem Uq{b:Int}(h:¬(0<=b/\b < f.blocks.length)):nextL f b= []:=by
 unfold nextL Hq;split
 ·rw[gI (by omega)];rfl
 ·rfl
theorem Sm{k:Nat}(h:f.blocks[k]? =jT bl):nextL f (k:Int)=(Sn f bl).map Fy:=by
 unfold nextL Hq;rw[if_pos (by omega)];simp[h]
theorem Us(h:bl.ins= []):(Sn f bl).map Fy= []:=by
 unfold Sn;rw[h];rfl
def inB(f:Func)(k:Int):Bool:=aU (k≥0)&&aU (k < (f.blocks.length:Int))
def QW(f:Func)(x:Ins):Bool:=((x.op ==8)||(x.op ==9))&&inB f x.l1
def Ajr(f:Func)(x:Ins):Bool:=(x.op ==9)&&(x.l2 !=x.l1)&&inB f x.l2
theorem U0(f:Func)(l:List Int):(Al4 f l).map Fy=l.filter (inB f):=by
 unfold Al4;induction l with
 |nil=>rfl
 |cons k l q=>
  by_cases h:0<=k/\k < f.blocks.length
  ·obtain⟨m,rfl⟩:=Int.eq_ofNat_of_zero_le h.1;have u:m < f.blocks.length:=by omega
   rw[fZ,Adn u,gY,q,List.filter_cons_of_pos (by simp[inB];omega)];rfl
  ·rw[fZ,Aju h,q,List.filter_cons_of_neg (by simp[inB];omega)]
theorem Aaf{x:Ins}(h:bl.ins.getLast? =jT x):(Sn f bl).map Fy=(if QW f x then [x.l1]else [])++if Ajr f x then [x.l2]else []:=by
 unfold Sn;rw[h];simp only;rw[U0];unfold Ik QW Ajr;have q:inB f (-1)=aM:=by simp[inB]
 by_cases u:x.op=9
 ·rw[if_pos u];by_cases z:x.l2=x.l1
  ·rw[if_pos z];cases h1:inB f x.l1 <;> simp[u,z,h1,q]
  ·rw[if_neg z];cases h1:inB f x.l1 <;> cases h2:inB f x.l2 <;> simp[u,z,h1,h2]
 ·rw[if_neg u];by_cases D:x.op=8
  ·rw[if_pos D];cases h1:inB f x.l1 <;> simp[D,h1,q]
  ·rw[if_neg D];simp[D,u]
open Go.RowKit Go.Proofs Go.Shelf
variable{S:Nat->Prop}{W:eG}
structure KS(S:Nat->Prop)(W W':World):Prop where
 size:W.heap.size<=W'.heap.size
 block:∀k,S k->W'.heap[k]? =W.heap[k]?
theorem KS.refl:KS S W W:=⟨jA _,λ_ _=>rfl⟩
theorem KS.trans{A B C:eG}(h:KS S A B)(k:KS S B C):KS S A C:=⟨jB h.size k.size,λi hi=>(k.block i hi).trans (h.block i hi)⟩
theorem KS.cell{W':eG}(h:KS S W W'){a:aV}{v:eC}(q:S a.block)(hc:W.cell? a=jT v):W'.cell? a=jT v:=(eI (h.block a.block q)).trans hc
end Mu
namespace Mu
open Go Go.RowKit Go.Proofs
variable{α:Type}{T:Ty α}{f:bF}{l:List α}{pl:List (Nat×Nat)}{ty:eA}{u v:eC}{vs:List eC}{x:Ins}
def Bj(l:List Int):Prop:=∀x∈l,wfI .i64 x
structure okIns(x:Ins):Prop where
 op:wfI .u8 x.op
 d:wfI .i64 x.d
 a:wfI .i64 x.a
 b:wfI .i64 x.b
 n:wfI .u32 x.n
 f:wfI .i64 x.f
 l1:wfI .i64 x.l1
 l2:wfI .i64 x.l2
 args:Bj x.args
structure okBlock(b:Block):Prop where
 name:b.name.size<=maxLen
 ins:∀x∈b.ins,okIns x
structure okFunc(f:Func):Prop where
 name:f.name.size<=maxLen
 args:wfI .i64 f.args
 regs:wfI .i64 f.regs
 blocks:∀b∈f.blocks,okBlock b
section
variable{w:eG}{S:Nat->Prop}{cs:List eC}
theorem Sl{p:α->Prop}(z:∀cs d,T.RS w S cs d->p d)(h:T.slice.RS w S cs l):∀x∈l,p x:=by
 obtain⟨A,c,rfl,_,_,hi⟩:=h;intro x hx;obtain⟨j,D⟩:=iB.1 hx;obtain⟨b,o,_,_,q,h1,_⟩:=hi j x D;exact z q x h1
theorem Ap4{l:List Int}(h:tInt.slice.RS w S cs l):Bj l:=Sl (T:=tInt) (p:=wfI .i64) (λ_ _ h=>(DR.1 h).2) h
theorem Auv(h:Et.RS w S cs x):okIns x:=by
 obtain⟨A,c,q⟩:=IY.1 h;exact⟨q.op,q.d,q.a,q.b,q.n,q.f,q.l1,q.l2,Ap4 q.args⟩
theorem Ak2{x:Block}(h:Ct.RS w S cs x):okBlock x:=by
 obtain⟨A,c,_,h1,h2⟩:=Ob.1 h;exact⟨h1,Sl (λ_ _ h=>Auv h) h2⟩
theorem Ap5{x:Func}(h:Dg.RS w S cs x):okFunc x:=by
 obtain⟨A,c,_,h1,h2,z,q⟩:=OI.1 h;exact⟨h1,h2,z,Sl (λ_ _ h=>Ak2 h) q⟩
variable{h:List ABlk}{ψ:Nat->eC}
theorem MN(q:okIns x)(H:Ak w S h ψ (B8 x) cs):Et.RS w S cs x:=by
 simp only[B8,Ak,AV.rel]at H;obtain⟨_,_,rfl,rfl,_,_,rfl,rfl,_,_,rfl,rfl,_,_,rfl,rfl,_,_,rfl,rfl,_,_,rfl,rfl,_,_,rfl,z,_,_,rfl,rfl,_,_,rfl,rfl,rfl⟩:=H;obtain⟨A,c,rfl⟩:=Cn z;exact IY.2 ⟨A,c,rfl,q.op,q.d,q.a,q.b,q.n,q.f,q.l1,q.l2,z⟩
theorem Afa{x:Block}(z:x.name.size<=fB)(H:Ak w S h ψ (Ed x) cs):Ct.RS w S cs x:=by
 simp only[Ed,Ak,AV.rel]at H;obtain⟨_,_,rfl,rfl,_,_,rfl,q,rfl⟩:=H;obtain⟨A,c,rfl⟩:=Cn q;exact Ob.2 ⟨A,c,rfl,z,q⟩
theorem Sf{x:Func}(q:okFunc x)(H:Ak w S h ψ (An x) cs):Dg.RS w S cs x:=by
 simp only[An,Ak,AV.rel]at H;obtain⟨_,_,rfl,rfl,_,_,rfl,rfl,_,_,rfl,rfl,_,_,rfl,z,rfl⟩:=H;obtain⟨A,c,rfl⟩:=Cn z;exact OI.2 ⟨A,c,rfl,q.name,q.args,q.regs,z⟩
end
section
variable{P:cG}
theorem JS{args:List AV}(F:Ch P f=aP)(h:∀(w:eG) (vs:List eC),Ak w (λk=>k < w.heap.size) [] ψ0 args vs->a8 P f vs.toArray w λe w'=>e= .returned v/\Below w.heap.size w w'):Fn P f args (.lit v):=
 ⟨F,λw S vs z D=>(h w vs (AE (Ext.grow [] ψ0 (λ_ _=>rfl) z) _ _ D)).mono λe w' ⟨E,q⟩=>⟨v,E,q,S,λ_ h=>h,λ_ h=>.inl h,λk hk=>jC (z k hk) q.size,by unfold AV.rel;rfl⟩⟩
theorem RR{args:List AV}(F:Ch P f=aP)(h:∀(w:eG) (vs:List eC),Ak w (λk=>k < w.heap.size) [] ψ0 args vs->a8 P f vs.toArray w λe w'=>e= .returned (.tuple #[v,u])/\Below w.heap.size w w'):Fn P f args (.tup [.lit v,.lit u]):=
 ⟨F,λw S vs z D=>(h w vs (AE (Ext.grow [] ψ0 (λ_ _=>rfl) z) _ _ D)).mono λe w' ⟨E,q⟩=>⟨_,E,q,S,λ_ h=>h,λ_ h=>.inl h,λk hk=>jC (z k hk) q.size,by
  unfold AV.rel;exact⟨[v,u],rfl,by simp[Ak,AV.rel]⟩⟩⟩
theorem Ack{args:List AV}{l:List Int}(H:Ch P f=aP)(F:Bj l)(h:∀(w:eG) (vs:List eC),Ak w (λk=>k < w.heap.size) [] ψ0 args vs->a8 P f vs.toArray w λe w'=>∃v,e= .returned v/\Gp w' w.heap.size v l/\Below w.heap.size w w'):Fn P f args (.bs tInt l):=
 ⟨H,λw S vs D E=>(h w vs (AE (Ext.grow [] ψ0 (λ_ _=>rfl) D) _ _ E)).mono λe w' ⟨v,G,q,z⟩=>by
  refine⟨v,G,z,λk=>S k\/v.ownBlock=jT k,λ_ h=>.inl h,λk hk=>hk.imp id λe=>(q.lt k e).1,λk hk=>?_,?_⟩
  ·rcases hk with hk|hk
   ·exact jC (D k hk) z.size
   ·exact(q.lt k hk).2
  ·unfold AV.rel;exact tInt.slice.keepS (LQ q F) (λ_ _=>rfl) λk hk=>.inr hk⟩
theorem Ac4{w:eG}{S:Nat->Prop}{h:List ABlk}{ψ:Nat->eC}{x:AV}(H:Ak w S h ψ [x] vs):∃v,vs= [v]/\AV.rel w S h ψ x v:=by
 simp only[Ak]at H;obtain⟨v,_,rfl,h1,rfl⟩:=H;exact⟨v,rfl,h1⟩
theorem Azu{w:eG}{S:Nat->Prop}{h:List ABlk}{ψ:Nat->eC}{x y:AV}(H:Ak w S h ψ [x,y] vs):∃v u,vs= [v,u]/\AV.rel w S h ψ x v/\AV.rel w S h ψ y u:=by
 simp only[Ak]at H;obtain⟨v,_,rfl,h1,u,_,rfl,h2,rfl⟩:=H;exact⟨v,u,rfl,h1,h2⟩
theorem Jc{w:eG}{S:Nat->Prop}{h:List ABlk}{ψ:Nat->eC}{l:List AV}(H:AV.rel w S h ψ (.agg l) v):∃cs,v= .agg cs.toArray/\Ak w S h ψ l cs:=by unfold AV.rel at H;exact H
theorem OZ{w:eG}{S:Nat->Prop}{h:List ABlk}{ψ:Nat->eC}(H:AV.rel w S h ψ (.lit u) v):v=u:=by unfold AV.rel at H;exact H
theorem Aup{w:eG}{S:Nat->Prop}{h:List ABlk}{ψ:Nat->eC}(H:AV.rel w S h ψ (.bs T l) v):T.slice.RS w S [v] l:=by unfold AV.rel at H;exact H
end
theorem F5(h:okIns x):Bj (readsC x):=by
 intro r hr;unfold readsC at hr;simp only[g8]at hr;rcases hr with(hr|hr)|hr <;> split at hr <;> first|(simp at hr;done)|(simp at hr;subst hr;first|exact h.a|exact h.b)|exact h.args r hr
theorem FG(x:Ins)(D:okIns x):Fn cV 44 [.agg (B8 x)] (.tup [.lit (.int .i64 (if Bg x then x.d else 0)),.lit (.bool (Bg x))]):=
 RR (by kernel_rfl) λw vs z=>by
  obtain⟨v,rfl,q⟩:=Ac4 z;obtain⟨cs,rfl,hc⟩:=Jc q;refine(ZR x w cs (MN D hc)).mono λe w' ⟨E,F⟩=>⟨?_,F⟩
  rw[E];unfold IV;cases Bg x <;> rfl
theorem WV(xs:List Int)(n:Int)(hx:xs.length<=2097152):Fn cV 100 [.bs tInt xs,.lit (.int .i64 n)] (.lit (.bool (xs.contains n))):=
 JS (by kernel_rfl) λw vs D=>by
  obtain⟨v,u,rfl,q,z⟩:=Azu D;obtain rfl:=OZ z;exact(Aki xs n v w (Aup q) hx).mono λe w' h=>by first|exact h|exact⟨h.1,by rw[<-h.2];exact dW _ _⟩|exact⟨h.1,by rw[h.2];exact dW _ _⟩
section
variable{P:cG}
def Oj(P:cG):List Field->Option (List (Nat×Nat))
 | []=>jT []
 |f::fs=>
  match P.info? f.type with
  |some i=>(Oj P fs).map λl=>(f.offset,i.size)::l
  |none=>jS
def EB(P:cG)(t:eA):Option (List (Nat×Nat)):=
 match P.underlying t with
 |some (.struct fs)=>Oj P fs.toList
 |_=>jS
theorem Q1(w:eG):∀(fs:List Field) (l:List (Nat×Nat)),Oj P fs=jT l->(fs.mapM (m:=Sem) λf=>do pure (f.offset,<-fK f.type)).run P w= .ok l w
 | [],l,h=>by cases h;rfl
 |f::fs,l,h=>by
  unfold Oj at h;split at h <;> try(cases h;done)
  rename_i i hi;obtain⟨l',h1,rfl⟩:=jQ.1 h;have q:=Q1 w fs l' h1;have h0:(do pure (f.offset,<-fK f.type):Sem (Nat×Nat)).run P w= .ok (f.offset,i.size) w:=by simp[fK,fM,hi]
  rw[List.mapM_cons,dX,h0];simp only[Result.andThen_ok,dX,q,dY]
def putCells(pl:List (Nat×Nat)):List AV->List (Nat×AV)->Option (List AV)
 |cs,[]=>jT cs
 |cs,(j,x)::ps=>
  match pl[j]? with
  |some (off,1)=>if off < cs.length then putCells pl (cs.set off x) ps else jS
  |_=>jS
theorem YO{w:eG}{S:Nat->Prop}{h:List ABlk}{ψ:Nat->eC}{pl:List (Nat×Nat)}:∀(ps:List (Nat×AV)) (cs rs:List AV) (vs:List (Nat×eC)) (E:List eC),putCells pl cs ps=jT rs->Ak w S h ψ cs E->
 vs.map (·.1)=ps.map (·.1)->(∀(j:Nat) (p:Nat×AV) (v:Nat×eC),ps[j]? =jT p->vs[j]? =jT v->AV.rel w S h ψ p.2 v.2/\v.2.oneCell'=aP)->
 ∃z,bK (λi=>pl[i]?) E.toArray vs=jT z.toArray/\Ak w S h ψ rs z
 | [],cs,rs,vs,E,q,H,F,_=>by
  cases q;have:vs= []:=by simpa using F
  subst this;exact⟨E,rfl,H⟩
 |(j,x)::ps,cs,rs,vs,E,q,H,F,D=>by
  cases vs with
  |nil=>simp at F
  |cons v vs=>
   simp only[gY,fR]at F;obtain⟨G,I⟩:=F;unfold putCells at q;split at q <;> try(cases q;done)
   rename_i off J;split at q <;> try(cases q;done)
   rename_i L;obtain⟨h1,h2⟩:=D 0 _ _ V V;have U:=BB H;obtain⟨z,O,Y⟩:=YO ps (cs.set off x) rs vs (E.set off v.2) q (Ij H off h1) I λj p v q F=>D (j+1) p v (by simpa using q) (by simpa using F)
   refine⟨z,?_,Y⟩;obtain⟨i,v⟩:=v;dsimp only at G h1 h2 O;subst G;unfold bK;simp only[J,HJ h2];have hc:¬((aU ((#[v]:Array eC).size≠1)||decide (off+(#[v]:Array eC).size > E.toArray.size))=aP):=by
    simp;omega
   rw[if_neg hc];simpa using O
theorem AX.build{C:Ctx}{t:List AV}{h:List ABlk}{o:bZ}{D:Array (Nat×cF)}{zs:List eC}{rs:List AV}(ho:o.op= .build ty D)(hz:CD P ty=jT zs)(E:EB P ty=jT pl)
 (hr:putCells pl (zs.map .lit) (D.toList.map λp=>(p.1,evA t p.2))=jT rs)(h1:∀p∈D.toList,One h (evA t p.2)):AX P C t h o (.agg rs):=
 AQ λS ψ w ρ H L=>by
  unfold CD at hz;obtain⟨z,U,rfl⟩:=jQ.1 hz;obtain⟨i,hi,O⟩:=jP.1 U;unfold EB at E;split at E <;> try(cases E;done)
  rename_i fs hu;have Z:=Q1 (P:=P) w fs.toList pl E;have F:∀p∈D.toList,AV.rel w S h ψ (evA t p.2) (ρ p.2):=λp J=>L p.2 (by rw[ho];exact iF.2 (iC.2 ⟨p,J,rfl⟩))
  obtain⟨G,h3,h4⟩:=YO (w:=w) (S:=S) (h:=h) (ψ:=ψ) _ _ rs (D.toList.map λp=>(p.1,ρ p.2)) z.cells.toList hr (Jd _) (by simp) λj p v J Y=>by
   rw[gK]at J Y;obtain⟨q,hq,rfl⟩:=jQ.1 J;rw[hq]at Y;cases Y;have I:=iD hq;exact⟨F q I,h1 q I C S ψ w _ H (F q I)⟩
  refine⟨.agg G.toArray,?_,by unfold AV.rel;exact⟨G,rfl,h4⟩⟩;have aa:(fs.mapM (m:=Sem) λf=>do pure (f.offset,<-fK f.type)).run P w= .ok pl.toArray w:=by
   rw[<-Array.toArray_toList (xs:=fs),List.mapM_toArray,Sem.run_map,Z];rfl
  have hf:bK (λi=>pl.toArray[i]?) z.cells (D.map λp=>(p.1,ρ p.2)).toList=jT G.toArray:=by simpa using h3
  simp only[eR,ho,Instr.build,fO,fM,underlying,hi,O,hu,aa,hf,zar]
def AAi(t:Tmp)(r:AV):bC->St->Prop:=λe s=>(e= .normal\/e= .ret)/\∃i cells,evA s.t (.tmp t)= .ptr i 0/\s.h[i]? =jT (.box cells)/\Fin s.h (.agg cells) r
theorem Kj{fn:bE}{c:bA}{args:List AV}{r:AV}{t:Tmp}{n m:Nat}(hf:P.funcs[f]? =jT fn)(hb:fn.body=jT c)(hE:Ch P f=aP)(E:fn.results= #[.cell t ty])(ha:RG P ty=jT (aP,m))(Z:fn.ntmps=n)
 (h:∀C:Ctx,C.std->Awp P C c (λe s=>AAi t r e s/\∀i cells,evA s.t (.tmp t)= .ptr i 0->s.h[i]? =jT (.box cells)->cells.length=m) ⟨args++iJ (n - args.length) (.lit undef),[]⟩):Fn P f args r:=by
 refine⟨hE,λw S vs hS Y=>eQ hf hb ?_⟩;rw[Z];refine wp_mono ((h ⟨w,S,λk=>k < w.heap.size,jS⟩ (λ_ h=>h)).wp V (Dv hS Y)) ?_;rintro e a' w' ⟨s,⟨⟨he,i,cells,G,hi,D⟩,F⟩,J,S1,ψ,H,hl⟩;rw[D.1]at J;have hm:=F i cells G hi;have I:=BA hl (.tmp t);rw[G]at I;unfold AV.rel at I;obtain⟨g,h1,h2⟩:=I.2 (by rw[hi];rfl);obtain⟨g',cs,e',O,_,_,h4,L⟩:=H.blk i _ hi;rw[h1]at O;cases O;have hc:∀j u,cs[j]? =jT u->w'.cell? ⟨g,0+j,jS⟩=jT u:=λj u U=>by simp[eH,h4,U]
 have q:=Jb (P:=P) (ty:=ty) (b:=g) (off:=0) ha (by rw[BB L];exact hm) hc;have z:(results fn a'.tmps).run P w'= .ok (.agg cs.toArray) w':=by
  have e1:(a'.tmps[t]?).getD undef= .pointer (jT ⟨g,0,jS⟩):=by rw[<-aA];exact h2
  unfold bM bP at q;simp only[zan]at q;simp[results,E,e1,asAddr,q]
 have hg:=FP H D (by unfold AV.rel;exact⟨cs,rfl,L⟩);rcases he with rfl|rfl
 ·exact⟨J,_,z,_,rfl,hg⟩
 ·exact⟨J,_,z,_,rfl,hg⟩
end
end Mu
namespace Mu
open Go Go.RowKit
variable{F:Nat->Prop}{K':Act->eG->Prop}{L:Array Bool->List AV->Prop}{Q:bC->St->Prop}{Q':bC->Act->eG->Prop}{R:Res}{α:Type}{T:Ty α}{a:Act}{c:bA}{e:eA}{f:bF}{fn:bE}{i id j:Nat}{l:List bZ}{l':List α}{off:Nat}{oi:bZ}{r:AV}{t':List AV}{ty:eA}{tys:Array eA}{v:eC}{x:cF}{xs:List AV}
mutual
def Gn(p:Nat):AV->Bool
 | .own i _=>i !=p
 | .ptr i _=>i !=p
 | .rp i _ _ _=>i !=p
 | .agg l=>DF p l
 | .tup l=>DF p l
 | .fn _ l=>DF p l
 |_=>aP
def DF(p:Nat):List AV->Bool
 | []=>aP
 |x::l=>Gn p x&&DF p l
end
def nrB(p:Nat):ABlk->Bool
 | .box cells=>DF p cells
 |_=>aP
section
variable{w:eG}{S:Nat->Prop}{h:List ABlk}{ψ ψ':Nat->eC}{p:Nat}{b:ABlk}
mutual
theorem JT(hψ:∀i,i≠p->ψ' i=ψ i):∀(x:AV) (v:eC),Gn p x=aP->AV.rel w S h ψ x v->AV.rel w S (h.set p b) ψ' x v
 | .any,_,_,_=>by unfold AV.rel;trivial
 | .lit u,v,_,H=>by unfold AV.rel at H⊢;exact H
 | .bs T l,v,_,H=>by unfold AV.rel at H⊢;exact H
 | .tv T d,v,_,H=>by unfold AV.rel at H⊢;exact H
 | .own i ver,v,hn,H=>by
  have hi:i≠p:=by simpa[Gn]using hn
  unfold AV.rel at H⊢;rw[gN (jO hi),hψ i hi];exact⟨by simpa using H.1,H.2⟩
 | .ptr i off,v,hn,H=>by
  have hi:i≠p:=by simpa[Gn]using hn
  unfold AV.rel at H⊢;rw[gN (jO hi),hψ i hi];exact⟨by simpa using H.1,H.2⟩
 | .rp i ver k off,v,hn,H=>by
  have hi:i≠p:=by simpa[Gn]using hn
  unfold AV.rel at H⊢;rw[gN (jO hi),hψ i hi];exact⟨by simpa using H.1,H.2⟩
 | .bp T d off,v,_,H=>by unfold AV.rel at H⊢;exact H
 | .agg l,v,hn,H=>by
  unfold Gn at hn;unfold AV.rel at H⊢;obtain⟨cs,e,hl⟩:=H;exact⟨cs,e,DQ hψ l cs hn hl⟩
 | .tup l,v,hn,H=>by
  unfold Gn at hn;unfold AV.rel at H⊢;obtain⟨cs,e,hl⟩:=H;exact⟨cs,e,DQ hψ l cs hn hl⟩
 | .fn f l,v,hn,H=>by
  unfold Gn at hn;unfold AV.rel at H⊢;obtain⟨cs,e,hl⟩:=H;exact⟨cs,e,DQ hψ l cs hn hl⟩
theorem DQ(hψ:∀i,i≠p->ψ' i=ψ i):∀(l:List AV) (cs:List eC),DF p l=aP->Ak w S h ψ l cs->Ak w S (h.set p b) ψ' l cs
 | [],cs,_,H=>by unfold Ak at H⊢;exact H
 |x::l,cs,hn,H=>by
  unfold DF at hn;rw[aL]at hn;unfold Ak at H⊢;obtain⟨v,vs,e,h1,h2⟩:=H;exact⟨v,vs,e,JT hψ x v hn.1 h1,DQ hψ l vs hn.2 h2⟩
end
variable{h':List ABlk}
mutual
theorem Ln(hc:Cut h h')(hl:h'.length=h.length):∀(x:AV) (v:eC),AV.rel w S h ψ x v->AV.rel w S h' ψ x v
 | .any,_,_=>by unfold AV.rel;trivial
 | .lit u,v,H=>by unfold AV.rel at H⊢;exact H
 | .bs T l,v,H=>by unfold AV.rel at H⊢;exact H
 | .tv T d,v,H=>by unfold AV.rel at H⊢;exact H
 | .own i ver,v,H=>by
  unfold AV.rel at H⊢;exact⟨by omega,λc hv=>H.2 c (hc.ver hv).1⟩
 | .ptr i off,v,H=>by
  unfold AV.rel at H⊢;exact⟨by omega,λhv=>H.2 (hc.box hv)⟩
 | .rp i ver k off,v,H=>by
  unfold AV.rel at H⊢;refine⟨by omega,λc hv=>?_⟩;rw[(hc.ver hv).2];exact H.2 c (hc.ver hv).1
 | .bp T d off,v,H=>by unfold AV.rel at H⊢;exact H
 | .agg l,v,H=>by
  unfold AV.rel at H⊢;obtain⟨cs,e,hL⟩:=H;exact⟨cs,e,Fs hc hl l cs hL⟩
 | .tup l,v,H=>by
  unfold AV.rel at H⊢;obtain⟨cs,e,hL⟩:=H;exact⟨cs,e,Fs hc hl l cs hL⟩
 | .fn f l,v,H=>by
  unfold AV.rel at H⊢;obtain⟨cs,e,hL⟩:=H;exact⟨cs,e,Fs hc hl l cs hL⟩
theorem Fs(hc:Cut h h')(hl:h'.length=h.length):∀(l:List AV) (cs:List eC),Ak w S h ψ l cs->Ak w S h' ψ l cs
 | [],cs,H=>by unfold Ak at H⊢;exact H
 |x::l,cs,H=>by
  unfold Ak at H⊢;obtain⟨v,vs,e,h1,h2⟩:=H;exact⟨v,vs,e,Ln hc hl x v h1,Fs hc hl l vs h2⟩
end
theorem HRel.cute{C:Ctx}(H:HRel C h S ψ w)(hc:Cut h h')(O:h'.length=h.length):HRel C h' S ψ w:=
 ⟨H.bel,H.nlt,H.lt,H.sub,H.new,λi b hi=>by
  rcases hc.blk i b hi with rfl|h1
  ·trivial
  ·have z:=H.blk i b h1;cases b with
   |dead=>trivial
   |box cells=>
    obtain⟨g,cs,e,J,I,G,E,D⟩:=z;exact⟨g,cs,e,J,I,G,E,Fs hc O _ _ D⟩
   |row ver e T l=>exact z
   |res R=>exact z,λi j q h1 h2=>by rw[hc.same h1,hc.same h2];exact H.dis i j q (hc.live h1) (hc.live h2)⟩
theorem Acn(z:h[p]? =jT .dead):Cut (h.set p b) h:=⟨by simp,λi c hi=>by
 by_cases q:i=p
 ·subst q;rw[z]at hi;exact .inl (by injection hi with e;exact e.symm)
 ·exact .inr (by rw[gN (jO q)];exact hi)⟩
theorem AX.up{P:cG}{C:Ctx}{t:List AV}{o:bZ}(Y:h[p]? =jT .dead)(U:Gn p r=aP)(hq:AX P C t h o r):AX P C t (h.set p b) o r:=by
 intro S ψ w ρ H hx;have hc:Cut (h.set p b) h:=Acn Y;have E:h.length=(h.set p b).length:=by simp
 have h1:=hq S ψ w ρ (H.cute hc E) λx D=>Ln hc E _ _ (hx x D)
 have z:∀v w',Zi w S h ψ r v w'->Zi w S (h.set p b) ψ r v w':=λv w' ⟨hb,S',O,J,I,G⟩=>⟨hb,S',O,J,I,JT (λ_ _=>rfl) r v U G⟩
 cases q:(eR ρ o).run P w with
 |ok n w'=>
  rw[q]at h1;cases n <;> simp only[Wv]at h1⊢
  case value v=>exact z _ _ h1
  case skip=>exact z _ _ h1
  case enter f args=>exact⟨h1.1,h1.2.mono λe w'' ⟨v,Z,hg⟩=>⟨v,Z,z _ _ hg⟩⟩
 |halt x w'=>rw[q]at h1;simp only[Wv]at h1
theorem HRel.revive{C:Ctx}{w':eG}(H:HRel C h S ψ w)(hp:h[p]? =jT .dead)(hn:h.all (nrB p)=aP)(hb:Below w.heap.size w w')(hB:H8 C.N w' S (h.set p b) (Bs ψ p v) v b)(hg:∀g,ftp (jT b) v g->w.heap.size<=g):
 HRel C (h.set p b) S (Bs ψ p v) w':=by
 have D:=(gJ.1 hp).1;have G:=H.grow (S':=S) hb (λ_ h=>h) (λ_ h=>.inl h) λk hk=>jC (H.lt k hk) hb.size
 have I:∀i,ABlk.live h[i]? =aP->∀g,ftp h[i]? (ψ i) g->g < w.heap.size:=λi Z g O=>by
  obtain⟨c,hc⟩:=D1 Z;rw[hc]at O;exact((H.blk i c hc).lt (by rw[<-hc];exact Z) g O).2.1
 refine⟨G.bel,G.nlt,G.lt,G.sub,G.new,λi c hi=>?_,λi j J hi U g h1 h2=>?_⟩
 ·by_cases q:i=p
  ·subst q;rw[gO D]at hi;cases hi;rw[Bo];exact hB
  ·rw[gN (jO q)]at hi;rw[BH q];have hc:=G.blk i c hi;have Y:=fP.1 hn c (iD hi);cases c with
   |dead=>trivial
   |box cells=>
    obtain⟨g,cs,e,k1,k2,k3,k4,k5⟩:=hc;exact⟨g,cs,e,k1,k2,k3,k4,DQ (λi hi=>BH hi) _ _ Y k5⟩
   |row ver e T l=>exact hc
   |res R=>exact hc
 ·by_cases q:i=p
  ·subst q;rw[Bo,gO D]at h1;have E:j≠i:=jO J;rw[BH E,gN (jO E)]at h2;rw[gN (jO E)]at U;have:=I j U g h2;have:=hg g h1;omega
  ·rw[BH q,gN (jO q)]at h1;rw[gN (jO q)]at hi;by_cases z:j=p
   ·subst z;rw[Bo,gO D]at h2;have:=I i hi g h1;have:=hg g h2;omega
   ·rw[BH z,gN (jO z)]at h2;rw[gN (jO z)]at U;exact H.dis i j J hi U g h1 h2
end
section
variable{P:cG}{C:Ctx}{ops:Array bZ}{md:dL}{h:List ABlk}{p ip:Nat}{zs:List eC}{elem:eA}
def An0(o:bZ):Bool:=
 match o.op with
 | .alloc _=>aP
 |_=>aM
def JK(P:cG)(C:Ctx)(ops:Array bZ)(h:List ABlk)(p:Nat)(zs:List eC)(o:bZ)(r:AV)(t:List AV):Prop:=
 (An0 o=aM/\gA ops t o=jT aP/\AX P C t h o r/\Gn p r=aP)\/(An0 o=aM/\gA ops t o=jT aM/\r= .lit undef)\/(An0 o=aP/\o.guard=jS/\r= .ptr p 0/\∃elem,o.op= .alloc elem/\CD P elem=jT zs)
def bOp(P:cG)(C:Ctx)(ops:Array bZ)(h:List ABlk)(p ip:Nat)(zs:List eC)(i:Nat)(K:List AV->Prop)(t:List AV):Prop:=
 match ops[i]? with
 |none=>K t
 |some o=>∃r,JK P C ops h p zs o r t/\An0 o=aU (i=ip)/\K (Br t o.dst r)
theorem Amt{t:List AV}{K K':List AV->Prop}(hk:∀t,K t->K' t)(hh:bOp P C ops h p ip zs i K t):bOp P C ops h p ip zs i K' t:=by
 unfold bOp at *;split
 ·exact hk _ (by simpa[*]using hh)
 ·rename_i o q;simp only[q]at hh;obtain⟨r,h1,h2,z⟩:=hh;exact⟨r,h1,h2,hk _ z⟩
def Ayw(P:cG)(C:Ctx)(md:dL)(ops:Array bZ)(h:List ABlk)(p ip:Nat)(zs:List eC)(n:Nat)(L:Array Bool->List AV->Prop):Nat->Array Bool->List AV->Prop
 |0,listed,t=>L listed t
 |f+1,listed,t=>
  dR md ops listed≠[]/\∀i∈dR md ops listed,i < n/\bOp P C ops h p ip zs i (Ayw P C md ops h p ip zs n L f (listed.setIfInBounds i aP)) t
def hcur(h:List ABlk)(p ip:Nat)(zs:List eC)(listed:Array Bool):List ABlk:=if listed.getD ip aM=aP then h.set p (.box (zs.map .lit))else h
theorem Ag5{listed:Array Bool}(hi:i≠ip):hcur h p ip zs (listed.setIfInBounds i aP)=hcur h p ip zs listed:=by
 unfold hcur;rw[eV aM hi]
theorem Arg{listed:Array Bool}:hcur h p ip zs listed=h\/hcur h p ip zs listed=h.set p (.box (zs.map .lit)):=by
 unfold hcur;split
 ·exact .inr V
 ·exact .inl V
theorem Ap7{t:List AV}{d:Option Tmp}(ht:DF p t=aP)(z:Gn p r=aP):DF p (Br t d r)=aP:=by
 cases d with
 |none=>exact ht
 |some d=>
  unfold Br;simp only;induction t generalizing d with
  |nil=>exact ht
  |cons x t q=>
   unfold DF at ht;rw[aL]at ht;cases d with
   |zero=>unfold List.set DF;rw[z,ht.2];rfl
   |succ d=>unfold List.set DF;rw[ht.1,q ht.2];rfl
theorem V5{t:List AV}{w:eG}{K:List AV->Prop}{listed:Array Bool}(hp:h[p]? =jT .dead)(hn:h.all (nrB p)=aP)(U:listed.getD ip aM=aM->DF p t=aP)
 (Z:ip < listed.size)(hr:i∈dR md ops listed)(H:St.rel C ⟨t,hcur h p ip zs listed⟩ a w)
 (hK:∀t a w,K t->((listed.setIfInBounds i aP).getD ip aM=aM->DF p t=aP)->St.rel C ⟨t,hcur h p ip zs (listed.setIfInBounds i aP)⟩ a w->K' a w)
 (hh:bOp P C ops h p ip zs i K t):wpOp P ops Q' i K' a w:=by
 obtain⟨ad,o,ho,-⟩:=fC.1 hr;unfold bOp at hh;unfold wpOp;simp only[ho]at hh⊢;obtain⟨r,hy,D,hk⟩:=hh;obtain⟨hd,S,ψ,q,E⟩:=id H;have Y:∀{r:AV},i≠ip->Gn p r=aP->((listed.setIfInBounds i aP).getD ip aM=aM->DF p (Br t o.dst r)=aP):=λhi hr E=>by
  rw[eV aM hi]at E;exact Ap7 (U E) hr
 rcases hy with⟨ha,hg,hq,O⟩|⟨ha,hg,rfl⟩|⟨ha,aj,rfl,el,ag,hz⟩
 ·have I:=D2 hg E;rw[I,if_pos V];have hi:i≠ip:=λe=>by rw[ha]at D;simp[e]at D
  refine .inl ?_;have af:AX P C t (hcur h p ip zs listed) o r:=by
   rcases Arg (h:=h) (p:=p) (ip:=ip) (zs:=zs) (listed:=listed)with e|e <;> rw[e]
   ·exact hq
   ·exact hq.up hp O
  exact Lt (s:=⟨t,hcur h p ip zs listed⟩) hd q E (af S ψ w a.eval q λx _=>BA E x) λa' w' h'=>hK _ _ _ hk (Y hi O) (by rw[Ag5 hi];exact h')
 ·have I:=D2 hg E;rw[I,if_neg (by simp)];have hi:i≠ip:=λe=>by rw[ha]at D;simp[e]at D
  exact hK _ _ _ hk (Y hi V) (by rw[Ag5 hi];exact F1 H o.dst)
 ·have hi:i=ip:=by rw[ha]at D;simpa using D.symm
  subst hi;have I:dU o (yielded ops a.tmps)=aP:=by unfold dU;rw[aj]
  rw[I,if_pos V];refine .inl ?_;have G:listed.getD i aM=aM:=eS ad;have aa:hcur h p i zs listed=h:=by unfold hcur;rw[if_neg (by simp[G])]
  have ak:hcur h p i zs (listed.setIfInBounds i aP)=h.set p (.box (zs.map .lit)):=by
   unfold hcur;rw[if_pos (by simp[aA,Z])]
  rw[aa]at q E;unfold CD at hz;obtain⟨z,ac,rfl⟩:=jQ.1 hz;obtain⟨ti,ae,ab⟩:=jP.1 ac;have J:(eR a.eval o).run P w= .ok (.value (.pointer (jT ⟨w.heap.size,0,jS⟩))) (w.alloc (.cells z.cells el)):=by
   simp[eR,ag,bH,fO,fM,ae,ab,newVar,newRow]
  unfold cD;rw[J];have hb:Below w.heap.size w (w.alloc (.cells z.cells el)):=(dW _ _).alloc (jA _) _;have hB:H8 C.N (w.alloc (.cells z.cells el)) S (h.set p (.box (z.cells.toList.map .lit))) (Bs ψ p (.pointer (jT ⟨w.heap.size,0,jS⟩))) (.pointer (jT ⟨w.heap.size,0,jS⟩)) (.box (z.cells.toList.map .lit)):=
   ⟨w.heap.size,z.cells.toList,el,rfl,λhN=>by have:=q.nlt _ hN;have:=q.bel.size;omega,λhS=>by have:=q.lt _ hS;omega,by simpa using eY w (.cells z.cells el),Jd _⟩
  have H1:=q.revive hp hn hb hB λg hg=>by simp[ftp,Bz]at hg;omega
  have ai:=AE (Ext.grow h ψ (λk hk=>hb.block k (q.lt k hk)) λ_ h=>h) _ _ E;have ah:=DQ (b:=.box (z.cells.toList.map .lit)) (ψ':=Bs ψ p (.pointer (jT ⟨w.heap.size,0,jS⟩))) (λi hi=>BH hi) _ _ (U G) ai;refine hK _ _ _ hk (λE=>?_) ?_
  ·simp[aA,Z]at E
  ·rw[ak];refine⟨by rw[put_defers,hd];show mkD (hcur _ _ _ _ _)=mkD (h.set p _);rw[aa];exact(DY (b':=.box (z.cells.toList.map .lit)) hp V).symm,S,_,H1,KU ah o.dst ?_⟩;unfold AV.rel;exact⟨by simpa using(gJ.1 hp).1,λ_=>⟨w.heap.size,Bo,rfl⟩⟩
theorem QU{n g:Nat}{L:Array Bool->List AV->Prop}{Q':bC->Act->eG->Prop}(E:h[p]? =jT .dead)(G:h.all (nrB p)=aP)(I:∀listed t a w,L listed t->St.rel C ⟨t,hcur h p ip zs listed⟩ a w->wpAny P md ops Q' g listed a w):
 ∀(f:Nat) (listed:Array Bool) (t:List AV) (a:Act) (w:eG),ip < listed.size->(listed.getD ip aM=aM->DF p t=aP)->Ayw P C md ops h p ip zs n L f listed t->St.rel C ⟨t,hcur h p ip zs listed⟩ a w->wpAny P md ops Q' (f+g) listed a w
 |0,listed,t,a,w,_,_,hh,H=>by rw[jM];exact I _ _ _ _ hh H
 |f+1,listed,t,a,w,z,D,hh,H=>by
  rw[show f+1+g=(f+g)+1 by omega];exact⟨λh0=>absurd h0 hh.1,λi hi=>V5 E G D z hi H (λt' a' w' h' q J=>QU E G I f _ t' a' w' (by simpa using z) q h' J) (hh.2 i hi).2⟩
theorem PX{o:bZ}{t:List AV}{dst:Option Tmp}{u:AV}(q:∀d,dst=jT d->d∉o.looksAt ops):JK P C ops h p zs o r (Br t dst u)↔JK P C ops h p zs o r t:=by
 unfold JK;rw[Aos q,T4 q]
theorem Ar0{z:bZ}{v:AV}(G:ops[j]? =jT z)(q:oi.apart ops z=aP){K:List AV->Prop}{t:List AV}(D:JK P C ops h p zs oi v t)(hh:bOp P C ops h p ip zs j K (Br t oi.dst v)):
 bOp P C ops h p ip zs j (λt'=>JK P C ops h p zs oi v t'/\K (Br t' oi.dst v)) t:=by
 obtain⟨h1,h2,I⟩:=b9 q;unfold bOp at *;simp only[G]at *;obtain⟨r,E,H,hk⟩:=hh;exact⟨r,(PX h1).1 E,H,(PX I).2 D,by rw[<-T6 t v r h2];exact hk⟩
theorem Ab4{n:Nat}{v:AV}(hi:ops[i]? =jT oi)(Y:An0 oi=aU (i=ip))
 (D:∀listed i,bG md ops n listed->i < n->listed.getD i aP=aM->∀t,n<=t->t∉dR md ops listed)(ae:i < n)
 (aa:∀listed t,L listed t->∀j∈dR md ops listed,n<=j):
 ∀(f:Nat) (listed:Array Bool) (t:List AV),bG md ops n listed->
  (∀j oj,ops[j]? =jT oj->j≠i->listed.getD j aP=aM->(∀e∈oj.after,dM md e=aP->e.on≠i)->oi.apart ops oj=aP)->
  i∈dR md ops listed->JK P C ops h p zs oi v t->
  Ayw P C md ops h p ip zs n L f (listed.setIfInBounds i aP) (Br t oi.dst v)->Ayw P C md ops h p ip zs n L (f+1) listed t:=by
 intro f;induction f with
 |zero=>
  intro listed t G _ O hy H;have z:=(fC.1 O).1;refine⟨λh=>(by rw[h]at O;cases O),λj Z=>?_⟩;have I:j < n:=by
   rcases jD j n with h|h
   ·exact h
   ·exact absurd Z (D _ i G ae z j h)
  refine⟨I,?_⟩;by_cases q:j=i
  ·subst q;unfold bOp;simp only[hi];exact⟨v,hy,Y,H⟩
  ·have:=aa _ _ H j (fE Z q);omega
 |succ f ih=>
  intro listed t G E O hy H;have z:=(fC.1 O).1;refine⟨λh=>(by rw[h]at O;cases O),λj Z=>?_⟩;have I:j < n:=by
   rcases jD j n with h|h
   ·exact h
   ·exact absurd Z (D _ i G ae z j h)
  refine⟨I,?_⟩;by_cases q:j=i
  ·subst q;unfold bOp;simp only[hi];exact⟨v,hy,Y,H⟩
  ·have h1:=(H.2 j (fE Z q)).2;obtain⟨U,oj,ab,af⟩:=fC.1 Z;have ac:∀e∈oj.after,dM md e=aP->e.on≠i:=λe he hb ai=>by
    have h1:=af e he hb;rw[ai,eS z]at h1;cases h1
   have h2:=Ar0 ab (E j oj ab q U ac) hy h1;have J:∀k ok,ops[k]? =jT ok->k≠i->(listed.setIfInBounds j aP).getD k aP=aM->
    (∀e∈ok.after,dM md e=aP->e.on≠i)->oi.apart ops ok=aP:=λk ok hk ah z ag=>by
    refine E k ok hk ah ?_ ag;by_cases ad:j=k
    ·subst ad;exact U
    ·rw[eV aP ad]at z;exact z
   refine Amt (λa' h3=>ih (listed.setIfInBounds j aP) a' (G.set Z I) J (fE O (jO q)) h3.1 ?_) h2;rw[aG _ _ q];exact h3.2
def bQ(P:cG)(C:Ctx)(ops:Array bZ)(h:List ABlk)(p ip:Nat)(zs:List eC)(K:List AV->Prop):Nat->List bZ->List AV->Prop
 |_,[],t=>K t
 |k,o::rest,t=>∃r,JK P C ops h p zs o r t/\An0 o=aU (k=ip)/\bQ P C ops h p ip zs K (k+1) rest (Br t o.dst r)
theorem Za{n g:Nat}{Lq:List AV->Prop}(z:∀listed i,bG md ops n listed->i < n->listed.getD i aP=aM->∀t,n<=t->t∉dR md ops listed)(E:ip < n):
 ∀(l:List bZ) (k:Nat) (listed:Array Bool) (t:List AV),(∀j,j < l.length->l[j]? =ops[k+j]?)->k+l.length=n->bG md ops n listed->(∀j,j < k->listed.getD j aM=aP)->
 dP md ops g l.length k listed=aP->bQ P C ops h p ip zs Lq k l t->
 Ayw P C md ops h p ip zs n (λq t'=>dT md ops g n q=aP/\q.getD ip aM=aP/\Lq t') l.length listed t
 | [],k,listed,t,_,hk,_,D,J,hh=>by
  have:k=n:=by simpa using hk
  subst this;exact⟨by simpa[dP]using J,D ip E,hh⟩
 |o::l,k,listed,t,Z,hk,G,D,J,hh=>by
  have h0:ops[k]? =jT o:=by simpa using(Z 0 (by simp)).symm
  simp only[gU,dP,aL]at J;obtain⟨⟨hr,hf⟩,Y⟩:=J;have I:k < n:=by simp only[gU]at hk;omega
  have H:k∈dR md ops listed:=by simpa using hr
  obtain⟨v,hy,ha,hK⟩:=hh;have O:k < listed.size:=by rw[G.size];exact(aC.1 h0).1
  refine Ab4 h0 ha z I (λq a' hL=>seqB_ready hL.1) l.length listed t G (dO h0 hf) H hy
   (Za z E l (k+1) _ _ (λj hj=>by have:=Z (j+1) (by simp;omega);simpa[iX,iY 1 j]using this) (by simp only[gU]at hk;omega) (G.set H I) (λj hj=>?_) Y hK)
  by_cases U:k=j
  ·subst U;simp[aA,O]
  ·exact eW (D j (by omega))
end
theorem RJ{C:Ctx}{t:List AV}{h:List ABlk}:St.le C ⟨t,h⟩ ⟨t,h++[.dead]⟩:=λa w ⟨z,S,ψ,H,q⟩=>by
 have X:Ext w S h ψ w S (h++[.dead]) (Bs ψ h.length (.slice jS 0 0)):=Ext.push _ _ λ_ _=>rfl
 exact⟨by rw[z];show mkD h=mkD (h++[_]);rw[Ip];rfl,S,_,H.push (dW _ _) trivial (λg hg=>by simp[ftp,Bz]at hg),AE X _ _ q⟩
theorem Ai8{P:cG}{C:Ctx}{t:List AV}{h:List ABlk}{zs:List eC}(n ip:Nat)(hm:P.follows .mixedOrders=aP)(hB:Ac0 l.toArray n=aP)(ah:aU (ip < n)=aP)
 (hn:DF h.length t=aP)(ab:h.all (nrB h.length)=aP)
 (hh:bQ P C l.toArray (h++[.dead]) h.length ip zs (λt=>C4 P C l.toArray (Q .normal) (l.drop n) ⟨t,h++[.box (zs.map .lit)]⟩) 0 (l.take n) t):Awp P C (.region id l.toArray aP) Q ⟨t,h⟩:=λa w H0=>by
 have H:=RJ a w H0;have I:ip < n:=by simpa using ah
 simp only[Ac0,aL,decide_eq_true_eq,aO,beq_iff_eq]at hB;obtain⟨⟨⟨⟨ai,ac⟩,ae⟩,hs⟩,G⟩:=hB;have aj:n<=l.length:=by simpa using ae
 have q:(l.take n).length=n:=by simp;omega
 have O:(l.drop n).length=l.toArray.size - n:=by simp
 have D:bG .any l.toArray n (aF l.toArray.size aM):=
  ⟨by simp,λj oj _ U=>(by rw[eU]at U;cases U),λt _ ht=>eT (by simpa using ht) (eU _ _)⟩
 have z:∀(listed:Array Bool) (i:Nat),bG .any l.toArray n listed->i < n->listed.getD i aP=aM->∀t,n<=t->t∉dR .any l.toArray listed:=by
  intro listed i Z hi aa t ht;rcases hs with hs|⟨hs,hc⟩
  ·intro hr;obtain⟨_,o,ho,_⟩:=fC.1 hr;have:=(aC.1 ho).1;omega
  ·by_cases af:n < l.toArray.size
   ·exact tail_waits hs hc af Z _ i V hi aa t ht
   ·intro hr;obtain⟨_,o,ho,_⟩:=fC.1 hr;have:=(aC.1 ho).1;omega
 have HH:=Za (md:=.any) (g:=l.toArray.size - n) z I (l.take n) 0 _ t (λj hj=>by
  have ag:j < n:=by rw[q]at hj;exact hj
  simp[ag]) (by simpa using q) D (λj hj=>by omega) (by rw[q];exact G) hh
 refine FT hm ac ?_;have hp:(h++[ABlk.dead])[h.length]? =jT .dead:=by simp
 have ad:(h++[ABlk.dead]).all (nrB h.length)=aP:=by rw[List.all_append,ab];rfl
 have E:(h++[ABlk.dead]).set h.length (.box (zs.map .lit))=h++[.box (zs.map .lit)]:=by simp
 have Y:St.rel C ⟨t,hcur (h++[.dead]) h.length ip zs (aF l.toArray.size aM)⟩ a {w with drawn:=w.drawn+1}:=by
  obtain⟨hd,S,ψ,J,U⟩:=H;have hb:Below w.heap.size w {w with drawn:=w.drawn+1}:=⟨rfl,rfl,rfl,jA _,λ_ _=>rfl⟩
  have e:hcur (h++[.dead]) h.length ip zs (aF l.toArray.size aM)=h++[.dead]:=by unfold hcur;rw[eU];rfl
  rw[e];exact⟨hd,S,ψ,J.grow hb (λ_ h=>h) (λ_ h=>.inl h) J.lt,AE (show Ext w S (h++[.dead]) ψ {w with drawn:=w.drawn+1} S (h++[.dead]) ψ from Ext.grow _ ψ (λk hk=>rfl) λ_ h=>h) _ _ U⟩
 have:=QU (Q':=λe a' w'=>e= .normal/\∃s',Q e s'/\s'.rel C a' w') (g:=l.toArray.size - n) hp ad (λlisted t a' w' hL Y=>by
  have hc:hcur (h++[.dead]) h.length ip zs listed=h++[.box (zs.map .lit)]:=by unfold hcur;rw[if_pos hL.2.1];exact E
  rw[hc]at Y;have:=wpAny_of_seq (md:=.any) (l.drop n) n listed a' w' (λj=>by simp[gG]) (by rw[O];exact hL.1) (E5 (Q':=λe a' w'=>e= .normal/\∃s',Q e s'/\s'.rel C a' w') (λs a w h H=>⟨rfl,s,h,H⟩) _ _ _ _ hL.2.2 Y);rwa [O]at this) _ _ _ _ _ (by simp;omega) (λ_=>hn) HH Y
 rw[q,show n+(l.toArray.size - n)=l.toArray.size by omega]at this;exact this
section
variable{P:cG}{C:Ctx}{ops:Array bZ}{h:List ABlk}{p ip k:Nat}{zs:List eC}{K:List AV->Prop}{o:bZ}{rest:List bZ}{t:List AV}
theorem Ai7(elem:eA)[ZC P elem zs](n ip:Nat)(E:P.follows .mixedOrders=aP)(G:Ac0 l.toArray n=aP)(z:aU (ip < n)=aP)
 (D:DF h.length t=aP)(q:h.all (nrB h.length)=aP)
 (hh:bQ P C l.toArray (h++[.dead]) h.length ip zs (λt=>C4 P C l.toArray (Q .normal) (l.drop n) ⟨t,h++[.box (zs.map .lit)]⟩) 0 (l.take n) t):Awp P C (.region id l.toArray aP) Q ⟨t,h⟩:=Ai8 n ip E G z D q hh
def BOp(P:cG)(C:Ctx)(o:bZ)(t:List AV)(h:List ABlk)(p:Nat)(K:List AV->Prop):Prop:=∃r,AX P C t h o r/\Gn p r=aP/\K (Br t o.dst r)
theorem E3{K:List AV->Prop}(hq:AX P C t h o r)(hk:Gn p r=aP/\K (Br t o.dst r)):BOp P C o t h p K:=⟨r,hq,hk.1,hk.2⟩
theorem ABa(q:An0 o=aM)(hi:aU (k=ip)=aM)(hg:gA ops t o=jT aP)(hq:BOp P C o t h p (bQ P C ops h p ip zs K (k+1) rest)):bQ P C ops h p ip zs K k (o::rest) t:=
 let ⟨r,h1,h2,z⟩:=hq;⟨r,.inl ⟨q,hg,h1,h2⟩,by rw[q,hi],z⟩
theorem AAa{elem:eA}[ZC P elem zs](z:An0 o=aP)(hi:aU (k=ip)=aP)(q:o.guard=jS)(D:o.op= .alloc elem)(hk:bQ P C ops h p ip zs K (k+1) rest (Br t o.dst (.ptr p 0))):bQ P C ops h p ip zs K k (o::rest) t:=⟨_,.inr (.inr ⟨z,q,rfl,elem,D,ZC.eq⟩),by rw[z,hi],hk⟩
theorem Az9(ht:t=t')(hk:bQ P C ops h p ip zs K k l t'):bQ P C ops h p ip zs K k l t:=by subst ht;exact hk
theorem Ayv(hk:K t):bQ P C ops h p ip zs K k [] t:=hk
end
def Am8(P:cG)(f:bF)(e:eA){α:Type}(T:Ty α)(l l':List α):Prop:=
 Ch P f=aP/\∀(N S:Nat->Prop) (w:eG) (v:eC),(∀k,N k->k < w.heap.size)->(∀k,S k->k < w.heap.size)->H8 N w S [] ψ0 v (.row 0 e T l)->
  a8 P f #[v] w λx w'=>∃v',x= .returned v'/\w.grownBy w' (Bz v)/\H8 N w' S [] ψ0 v' (.row 0 e T l')/\∀g,Bz v'=jT g->Bz v=jT g\/w.heap.size<=g
def Aiz(t:Tmp)(e:eA){α:Type}(T:Ty α)(l':List α):bC->St->Prop:=λx s=>(x= .normal\/x= .ret)/\∃i ver,evA s.t (.tmp t)= .own i ver/\s.h[i]? =jT (.row ver e T l')/\mkD s.h= []
theorem VP{P:cG}{l:List α}{t:Tmp}{n:Nat}(hf:P.funcs[f]? =jT fn)(hb:fn.body=jT c)(hE:Ch P f=aP)(G:fn.results= #[.tmp t])(hn:fn.ntmps=n)(E:∀w S S' cs d,T.RS w S cs d->T.RS w S' cs d)
 (h:∀C:Ctx,Awp P C c (Aiz t e T l') ⟨[.own 0 0]++iJ (n - 1) (.lit undef),[.row 0 e T l]⟩):Am8 P f e T l l':=by
 refine⟨hE,λN S w v hN hS hB=>eQ hf hb ?_⟩;rw[hn];have ae:=hB.lt V;have ab:St.rel ⟨w,S,λk=>k < w.heap.size/\Bz v≠jT k,jS⟩ ⟨[.own 0 0]++iJ (n - 1) (.lit undef),[.row 0 e T l]⟩ {tmps:=#[v]++aF (n - (#[v]:Array eC).size) undef,defers:=[]} w:=by
  refine⟨rfl,S,λ_=>v,⟨Kp.refl _ _,λk hk=>hk.1,hS,λ_ h=>h,λ_ h=>.inl h,λi b hi=>?_,λi j ag hi hj=>?_⟩,?_⟩
  ·cases i with
   |zero=>
    simp only[gF,jV]at hi;subst hi;obtain⟨cells,k1,Z,Y,U⟩:=hB;exact⟨cells,k1,Z,Y,λg hg=>⟨λhc=>hc.2 (AY hg),(U g hg).2⟩⟩
   |succ i=>simp at hi
  ·cases i with
   |zero=>cases j with
    |zero=>exact absurd V ag
    |succ j=>simp[ABlk.live]at hj
   |succ i=>simp[ABlk.live]at hi
  ·simp only[aH,aJ];refine BP ?_ (DV (by simp) λi x u hx hu=>?_)
   ·unfold Ak;refine⟨v,[],rfl,?_,by unfold Ak;rfl⟩;unfold AV.rel;refine⟨by simp,λc hc=>?_⟩;simp[ABlk.ver]at hc;exact⟨by omega,λ_=>rfl⟩
   ·rw[gL]at hx hu;split at hx <;> cases hx
    split at hu <;> cases hu
    unfold AV.rel;rfl
 refine wp_mono ((h ⟨w,S,λk=>k < w.heap.size/\Bz v≠jT k,jS⟩).wp V ab) ?_;rintro x a' w' ⟨s,⟨hx,i,ver,ah,hi,ad⟩,hd,S1,ψ,H,hl⟩;rw[ad]at hd;have hv:=BA hl (.tmp t);rw[ah]at hv;unfold AV.rel at hv;have aa:=(hv.2 _ (by rw[hi];rfl)).2 V;have O:=H.blk i _ hi;have af:=O.lt V;have q:(results fn a'.tmps).run P w'= .ok (a'.eval (.tmp t)) w':=fG G _ _ _;have hg:w.grownBy w' (Bz v):=⟨H.bel.os,H.bel.tape,H.bel.output,H.bel.size,λk hk ac=>H.bel.block k ⟨hk,λe=>ac e.symm⟩⟩
 have D:∃v',Ending.returned (a'.eval (.tmp t))= .returned v'/\w.grownBy w' (Bz v)/\H8 N w' S [] ψ0 v' (.row 0 e T l')/\∀g,Bz v'=jT g->Bz v=jT g\/w.heap.size<=g:=by
  have I:∀g,Bz (ψ i)=jT g->Bz v=jT g\/w.heap.size<=g:=λg z=>by
   have:=(af g z).1;by_cases hc:Bz v=jT g
   ·exact .inl hc
   ·exact .inr (i9 λh=>this ⟨h,hc⟩)
  obtain⟨cells,k1,Z,Y,U⟩:=O;rw[aa];refine⟨_,rfl,hg,⟨cells,k1,Z,?_,λg z=>?_⟩,I⟩
  ·intro j d hj;exact E _ _ _ _ _ (Y j d hj)
  ·refine⟨λJ=>?_,λai=>(U g z).2 (H.sub g ai)⟩;rcases I g (AY z)with h1|h1
   ·exact(ae g h1).1 J
   ·have:=hN g J;omega
 rcases hx with rfl|rfl
 ·exact⟨hd,_,q,D⟩
 ·exact⟨hd,_,q,D⟩
theorem Qo{P:cG}{C:Ctx}{o:bZ}{t:List AV}{h:List ABlk}{K:St->Prop}{ver:Nat}{l:List α}
 (U:o.op= .call {callee:=.value (.func f),args:=#[x],argTypes:=tys})(Z:Am8 P f e T l l')(hx:evA t x= .own i ver)(hi:h[i]? =jT (.row ver e T l))
 (hK:K ⟨Br t o.dst (.own i (ver+1)),h.set i (.row (ver+1) e T l')⟩):AOp P C o ⟨t,h⟩ K:=by
 rintro Q' a w ⟨hd,S,ψ,H,Y⟩;refine⟨λc e=>(by rw[U]at e;cases e),?_⟩;have q:=BA Y x;rw[show evA (St.mk t h).t x= .own i ver from hx]at q;unfold AV.rel at q;have hv:=(q.2 _ (by rw[hi];rfl)).2 V;have G:=H.blk i _ hi;have J:=G.lt V;unfold cD;rw[CC U Z.1 a.eval w V];simp only[cB];have hc:=Z.2 C.N S w (ψ i) (λk hk=>jC (H.nlt k hk) H.bel.size) H.lt G;rw[show(#[x].map a.eval)= #[ψ i]from by simp[hv]];refine hc.mono ?_;rintro r w' ⟨v',rfl,z,O,I⟩;have E:∀k,S k->w'.heap[k]? =w.heap[k]?:=λk hk=>z.block k (H.lt k hk) λe=>(J k e.symm).2.2 hk
 have X:Ext w S h ψ w' S (h.set i (.row (ver+1) e T l')) (Bs ψ i v'):=Ext.set E hi (λc' hc=>by
  simp only[ABlk.ver,jV]at hc;exact⟨ver,rfl,by omega,λe=>by omega⟩) λh=>by simp[Bd]at h
 refine⟨_,hK,IK (s:=⟨t,h⟩) hi hd Y (H.set hi V (Bv z) X O I) X ?_⟩;unfold AV.rel;refine⟨by simp[(gJ.1 hi).1],λc' D=>?_⟩;rw[gO (gJ.1 hi).1]at D;simp only[ABlk.ver,jV]at D;exact⟨by omega,λ_=>by rw[Bo]⟩
section
variable{P:cG}{C:Ctx}{ops:Array bZ}{md:dL}{h:List ABlk}{K:St->Prop}
def tOp(P:cG)(C:Ctx)(ops:Array bZ)(i:Nat)(K:St->Prop)(s:St):Prop:=
 match ops[i]? with
 |none=>K s
 |some o=>∃b,gA ops s.t o=jT b/\(b=aP->AOp P C o s K)/\(b=aM->K ⟨Br s.t o.dst (.lit undef),s.h⟩)
def V9(P:cG)(C:Ctx)(md:dL)(ops:Array bZ)(K:St->Prop):Nat->Array Bool->St->Prop
 |0,listed,s=>dR md ops listed= []/\K s
 |f+1,listed,s=>(dR md ops listed= []->K s)/\∀i∈dR md ops listed,tOp P C ops i (V9 P C md ops K f (listed.setIfInBounds i aP)) s
theorem V4{s:St}{w:eG}(H:s.rel C a w)(z:∀s a w,K s->s.rel C a w->K' a w)(hh:tOp P C ops i K s):wpOp P ops Q' i K' a w:=by
 unfold tOp at hh;unfold wpOp;split
 ·rename_i q;simp only[q]at hh;exact z _ _ _ hh H
 ·rename_i o q;simp only[q]at hh;obtain⟨b,hg,ht,E⟩:=hh;obtain⟨_,S,ψ,_,D⟩:=id H;rw[D2 hg D];cases b with
  |true=>
   rw[if_pos V];exact .inl (cE (λa' w' ⟨s',h1,h2⟩=>z s' a' w' h1 h2) (ht V Q' a w H).2)
  |false=>
   rw[if_neg (by simp)];exact z _ _ _ (E V) (F1 H o.dst)
theorem Id{Q':bC->Act->eG->Prop}(q:∀s a w,K s->s.rel C a w->Q' .normal a w):∀(f:Nat) (listed:Array Bool) (s:St) (a:Act) (w:eG),V9 P C md ops K f listed s->s.rel C a w->wpAny P md ops Q' f listed a w
 |0,_,s,a,w,hh,H=>⟨hh.1,q s a w hh.2 H⟩
 |f+1,_,s,a,w,hh,H=>⟨λh0=>q s a w (hh.1 h0) H,λi hi=>V4 H (λs' a' w' h' z=>Id q f _ s' a' w' h' z) (hh.2 i hi)⟩
def Ald(ops:Array bZ)(n:Nat):Nat->Nat->Array Bool->Bool
 |0,_,listed=>(dR .any ops listed).all λj=>decide (n<=j)
 |f+1,k,listed=>(dR .any ops listed).contains k&&dN .any ops listed k&&Ald ops n f (k+1) (listed.setIfInBounds k aP)
def AAl(ops:Array bZ)(n:Nat):Bool:=
 (dQ ops&&KZ ops)&&aU (n<=ops.size)&&((iI ops.size).all λt=>decide (t < n)||(iI n).all λi=>Region.waitsFor .any ops t i)&&Ald ops n n 0 (aF ops.size aM)
def GU(sz:Nat):Nat->Array Bool
 |0=>aF sz aM
 |k+1=>(GU sz k).setIfInBounds k aP
theorem VA{n sz:Nat}{Lq:List AV->Prop}(z:∀listed i,bG .any ops n listed->i < n->listed.getD i aP=aM->∀t,n<=t->t∉dR .any ops listed):
 ∀(l:List bZ) (k:Nat) (t:List AV),(∀j,j < l.length->l[j]? =ops[k+j]?)->k+l.length=n->bG .any ops n (GU sz k)->
 Ald ops n l.length k (GU sz k)=aP->aQ P C ops h Lq l t->
 Ajo P C .any ops h n (λq t'=>(∀j∈dR .any ops q,n<=j)/\q=GU sz n/\Lq t') l.length (GU sz k) t
 | [],k,t,_,hk,_,H,hh=>by
  have:k=n:=by simpa using hk
  subst this;exact⟨λj O=>of_decide_eq_true (fP.1 H j O),rfl,hh⟩
 |o::l,k,t,J,hk,D,H,hh=>by
  have h0:ops[k]? =jT o:=by simpa using(J 0 (by simp)).symm
  simp only[gU,Ald,aL]at H;obtain⟨⟨Y,Z⟩,I⟩:=H;have G:k < n:=by simp only[gU]at hk;omega
  have E:k∈dR .any ops (GU sz k):=by simpa using Y
  obtain⟨v,U,hK⟩:=hh;exact RI h0 z G (λq a' hL=>hL.1) l.length _ t D (dO h0 Z) E U
   (VA z l (k+1) _ (λj O=>by have:=J (j+1) (by simp;omega);simpa[iX,iY 1 j]using this) (by simp only[gU]at hk;omega) (D.set E G) I hK)
end
theorem Ai5{P:cG}{C:Ctx}{s:St}(n:Nat)(hm:P.follows .mixedOrders=aP)(hB:AAl l.toArray n=aP)
 (hh:aQ P C l.toArray s.h (λt=>V9 P C .any l.toArray (Q .normal) (l.length - n) (GU l.length n) ⟨t,s.h⟩) (l.take n) s.t):Awp P C (.region id l.toArray aP) Q s:=λa w H=>by
 simp only[AAl,zag]at hB;obtain⟨⟨⟨⟨ad,ab⟩,hn⟩,hs⟩,I⟩:=hB;have af:n<=l.length:=by simpa using hn
 have q:(l.take n).length=n:=by simp;omega
 have D:bG .any l.toArray n (aF l.toArray.size aM):=
  ⟨by simp,λj oj _ U=>(by rw[eU]at U;cases U),λt _ ht=>eT (by simpa using ht) (eU _ _)⟩
 have z:∀(listed:Array Bool) (i:Nat),bG .any l.toArray n listed->i < n->listed.getD i aP=aM->∀t,n<=t->t∉dR .any l.toArray listed:=by
  intro listed i ae hi Y t ht hr;obtain⟨_,ot,G,O⟩:=fC.1 hr;have E:t < l.toArray.size:=(aC.1 G).1;have h1:=fP.1 hs t (iE.2 E);simp only[zau]at h1;rcases h1 with h1|h1
  ·omega
  ·obtain⟨oj,aa,e,he,hb,Z⟩:=Region.waitsFor_spec (fP.1 h1 i (iE.2 hi));have:oj=ot:=jU (aa.symm.trans G);subst this;have h2:=O e he hb;rw[Z,eS Y]at h2;cases h2
 have HH:=VA (P:=P) (C:=C) (h:=s.h) (sz:=l.length) (Lq:=λt=>V9 P C .any l.toArray (Q .normal) (l.length - n) (GU l.length n) ⟨t,s.h⟩) z (l.take n) 0 s.t (λj hj=>by
  have ac:j < n:=by rw[q]at hj;exact hj
  simp[ac]) (by simpa using q) (by simpa[GU]using D) (by rw[q];simpa[GU]using I) hh
 refine FT hm ab ?_;have H':St.rel C ⟨s.t,s.h⟩ a {w with drawn:=w.drawn+1}:=by
  obtain⟨hd,S,ψ,J,U⟩:=H;have hb:Below w.heap.size w {w with drawn:=w.drawn+1}:=⟨rfl,rfl,rfl,jA _,λ_ _=>rfl⟩
  exact⟨hd,S,ψ,J.grow hb (λ_ h=>h) (λ_ h=>.inl h) J.lt,AE (show Ext w S s.h ψ {w with drawn:=w.drawn+1} S s.h ψ from Ext.grow s.h ψ (λk hk=>rfl) λ_ h=>h) _ _ U⟩
 have:=JV (Q':=λe a' w'=>e= .normal/\∃s',Q e s'/\s'.rel C a' w') (g:=l.length - n) (λlisted t a' w' hL H'=>by
  rw[hL.2.1];exact Id (λs a w h H=>⟨rfl,s,h,H⟩) _ _ _ _ _ hL.2.2 H') _ _ _ _ _ HH H'
 rw[q,show n+(l.length - n)=l.toArray.size by simp;omega]at this;exact this
section
variable{P:cG}{C:Ctx}{ops:Array bZ}{K:St->Prop}{listed:Array Bool}{g:Nat}{s:St}{t:List AV}{h:List ABlk}
def Apb(P:cG)(C:Ctx)(ops:Array bZ)(K:St->Prop)(g:Nat)(listed:Array Bool)(s:St)(rs:List Nat):Prop:=∀i∈rs,tOp P C ops i (V9 P C .any ops K g (listed.setIfInBounds i aP)) s
theorem Lx(rs:List Nat)(z:dR .any ops listed=rs)(q:rs≠[])(hh:Apb P C ops K g listed s rs):V9 P C .any ops K (g+1) listed s:=⟨λh0=>absurd (z▸h0) q,z▸hh⟩
theorem Tr(q:dR .any ops listed= [])(hh:K s):V9 P C .any ops K 0 listed s:=⟨q,hh⟩
theorem AS:Apb P C ops K g listed s []:=λi hi=>by cases hi
theorem Ly{rs:List Nat}{o:bZ}(q:ops[i]? =jT o)(hg:gA ops s.t o=jT aP)(h1:AOp P C o s (V9 P C .any ops K g (listed.setIfInBounds i aP)))(h2:Apb P C ops K g listed s rs):Apb P C ops K g listed s (i::rs):=λj hj=>by
 rcases g9.1 hj with rfl|hj
 ·unfold tOp;simp only[q];exact⟨aP,hg,λ_=>h1,λe=>by cases e⟩
 ·exact h2 j hj
end
section
variable{P:cG}{C:Ctx}{ops:Array bZ}{md:dL}{h:List ABlk}{Inv:Array Bool->Prop}{n:Nat}
theorem XD{v:AV}(aa:∀listed i,Inv listed->i∈dR md ops listed->i < n->Inv (listed.setIfInBounds i aP))(hi:ops[i]? =jT oi)
 (D:∀listed i,Inv listed->i < n->listed.getD i aP=aM->∀t,n<=t->t∉dR md ops listed)(ae:i < n)
 (Z:∀listed t,L listed t->∀j∈dR md ops listed,n<=j):
 ∀(f:Nat) (listed:Array Bool) (t:List AV),Inv listed->
  (∀j oj,ops[j]? =jT oj->j≠i->listed.getD j aP=aM->(∀e∈oj.after,dM md e=aP->e.on≠i)->oi.apart ops oj=aP)->
  i∈dR md ops listed->Gj P C ops h oi v t->
  Ajo P C md ops h n L f (listed.setIfInBounds i aP) (Br t oi.dst v)->Ajo P C md ops h n L (f+1) listed t:=by
 intro f;induction f with
 |zero=>
  intro listed t G _ O hy H;have z:=(fC.1 O).1;refine⟨λh=>(by rw[h]at O;cases O),λj Y=>?_⟩;have I:j < n:=by
   rcases jD j n with h|h
   ·exact h
   ·exact absurd Y (D _ i G ae z j h)
  refine⟨I,?_⟩;by_cases q:j=i
  ·subst q;unfold aOp;simp only[hi];exact⟨v,hy,H⟩
  ·have:=Z _ _ H j (fE Y q);omega
 |succ f ih=>
  intro listed t G E O hy H;have z:=(fC.1 O).1;refine⟨λh=>(by rw[h]at O;cases O),λj Y=>?_⟩;have I:j < n:=by
   rcases jD j n with h|h
   ·exact h
   ·exact absurd Y (D _ i G ae z j h)
  refine⟨I,?_⟩;by_cases q:j=i
  ·subst q;unfold aOp;simp only[hi];exact⟨v,hy,H⟩
  ·have h1:=(H.2 j (fE Y q)).2;obtain⟨U,oj,ab,af⟩:=fC.1 Y;have ac:∀e∈oj.after,dM md e=aP->e.on≠i:=λe he hb ai=>by
    have h1:=af e he hb;rw[ai,eS z]at h1;cases h1
   have h2:=Aiu ab (E j oj ab q U ac) hy h1;have J:∀k ok,ops[k]? =jT ok->k≠i->(listed.setIfInBounds j aP).getD k aP=aM->
    (∀e∈ok.after,dM md e=aP->e.on≠i)->oi.apart ops ok=aP:=λk ok hk ah z ag=>by
    refine E k ok hk ah ?_ ag;by_cases ad:j=k
    ·subst ad;exact U
    ·rw[eV aP ad]at z;exact z
   refine Zf (λa' h3=>ih (listed.setIfInBounds j aP) a' (aa _ _ G Y I) J (fE O (jO q)) h3.1 ?_) h2;rw[aG _ _ q];exact h3.2
def aQo(P:cG)(C:Ctx)(ops:Array bZ)(h:List ABlk)(K:List AV->Prop):List Nat->List AV->Prop
 | [],t=>K t
 |i::rest,t=>∃o r,ops[i]? =jT o/\Gj P C ops h o r t/\aQo P C ops h K rest (Br t o.dst r)
def Hg:List Nat->Array Bool->Array Bool
 | [],l=>l
 |i::is,l=>Hg is (l.setIfInBounds i aP)
def Aza(ops:Array bZ)(n:Nat):List Nat->Array Bool->Bool
 | [],listed=>(dR .any ops listed).all λj=>decide (n<=j)
 |i::is,listed=>decide (i < n)&&(dR .any ops listed).contains i&&dN .any ops listed i&&Aza ops n is (listed.setIfInBounds i aP)
theorem Zg{Lq:List AV->Prop}(D:∀listed i,Inv listed->i∈dR .any ops listed->i < n->Inv (listed.setIfInBounds i aP))
 (z:∀listed i,Inv listed->i < n->listed.getD i aP=aM->∀t,n<=t->t∉dR .any ops listed):
 ∀(l:List Nat) (listed:Array Bool) (t:List AV),Inv listed->Aza ops n l listed=aP->aQo P C ops h Lq l t->
 Ajo P C .any ops h n (λq t'=>(∀j∈dR .any ops q,n<=j)/\q=Hg l listed/\Lq t') l.length listed t
 | [],listed,t,_,I,hh=>⟨λj Y=>of_decide_eq_true (fP.1 I j Y),rfl,hh⟩
 |i::l,listed,t,E,I,hh=>by
  obtain⟨o,v,h0,O,hK⟩:=hh;simp only[Aza,zag]at I;obtain⟨⟨⟨H,U⟩,Z⟩,J⟩:=I;have G:i∈dR .any ops listed:=by simpa using U
  exact XD D h0 z H (λq a' hL=>hL.1) l.length _ t E (dO h0 Z) G O (Zg D z l _ _ (D _ _ E G H) J hK)
def Yq(ops:Array bZ):List Nat->List AV->Option (List AV)
 | [],t=>jT t
 |i::is,t=>
  match ops[i]? with
  |some ⟨dst,.move x,_,_,_,jS⟩=>Yq ops is (Br t dst (evA t x))
  |_=>jS
def Aa1(ops:Array bZ):List Nat->Array Bool->Bool
 | [],_=>aP
 |i::is,listed=>(dR .any ops listed).contains i&&dN .any ops listed i&&Aa1 ops is (listed.setIfInBounds i aP)
theorem OE{Q:bC->Act->eG->Prop}(z:dQ ops=aP)(J:∀c a w,¬Q (.panic c) a w):∀(is:List Nat) (q:Nat) (listed:Array Bool) (t t':List AV) (a:Act) (w:eG),Aa1 ops is listed=aP->Yq ops is t=jT t'->St.rel C ⟨t,h⟩ a w->
 (∀a',St.rel C ⟨t',h⟩ a' w->wpAny P .any ops Q q (Hg is listed) a' w)->wpAny P .any ops Q (q+is.length) listed a w
 | [],q,listed,t,t',a,w,_,D,H,hk=>by
  cases D;exact hk a H
 |i::is,q,listed,t,t',a,w,O,D,H,hk=>by
  unfold Yq at D;split at D <;> try(cases D;done)
  rename_i dst x ty E af Z;simp only[Aa1,aL]at O;obtain⟨⟨Y,hf⟩,G⟩:=O;obtain⟨hd,S,ψ,hh,I⟩:=id H;have U:Yields P ops ⟨dst,.move x,ty,E,af,jS⟩ (a.eval x) a:=.inl ⟨by simp[dU],λw=>by simp[eR]⟩;rw[show q+(i::is).length=(q+is.length)+1 from by simp;omega];refine wpAny_take Z z hf Y (λc a w hq=>absurd hq (J c _ w)) U ?_;exact OE z J is q _ _ t' _ w G D ⟨by rw[put_defers];exact hd,S,ψ,hh,KU I dst (BA I x)⟩ hk
end
def Ajs(ops:Array bZ):Nat->Nat->Nat->Bool
 |0,_,_=>aM
 |f+1,j,i=>
  match ops[j]? with
  |some q=>q.after.any λe=>dM .any e&&(e.on ==i||Ajs ops f e.on i)
  |none=>aM
theorem Np{ops:Array bZ}{n:Nat}{listed:Array Bool}(q:bG .any ops n listed):∀(f j i:Nat),(∀z,ops[j]? =jT z->∀e∈z.after,dM .any e=aP->listed.getD e.on aM=aP)->Ajs ops f j i=aP->listed.getD i aM=aP
 |0,j,i,_,h=>by cases h
 |f+1,j,i,U,h=>by
  unfold Ajs at h;cases G:ops[j]? with
  |none=>rw[G]at h;cases h
  |some z=>
   rw[G]at h;obtain⟨e,Y,J⟩:=Array.any_eq_true'.1 h;simp only[aL,aO,beq_iff_eq]at J;have O:=U z G e Y J.1;rcases J.2 with h1|h1
   ·rw[<-h1];exact O
   ·exact Np q f e.on i (λD E Z H I=>q.closed e.on D E O Z H I) h1
def AAm(ops:Array bZ)(n:Nat)(fs is:List Nat):Bool:=
 (dQ ops&&KZ ops)&&aU (n<=ops.size)&&(fs.all λi=>decide (i < n))&&Aa1 ops fs (aF ops.size aM)&&Aza ops n is (Hg fs (aF ops.size aM))&&((iI ops.size).all λt=>decide (t < n)||(iI n).all λi=>fs.contains i||Ajs ops ops.size t i)
theorem OS:∀(l:List Nat) (a:Array Bool) (j:Nat),a.getD j aM=aP->(Hg l a).getD j aM=aP
 | [],a,j,h=>h
 |i::l,a,j,h=>OS l _ j (eW h)
theorem Q0:∀(l:List Nat) (a:Array Bool) (j:Nat),j∈l->j < a.size->(Hg l a).getD j aM=aP
 | [],a,j,h,_=>by cases h
 |i::l,a,j,h,hs=>by
  unfold Hg;rcases g9.1 h with rfl|h
  ·exact OS l _ _ (by simp[aA,hs])
  ·exact Q0 l _ j h (by simpa using hs)
theorem PE{ops:Array bZ}{n:Nat}:∀(fs:List Nat) (listed:Array Bool),bG .any ops n listed->(fs.all λi=>decide (i < n))=aP->Aa1 ops fs listed=aP->bG .any ops n (Hg fs listed)
 | [],listed,q,_,_=>q
 |i::fs,listed,q,z,D=>by
  simp only[List.all_cons,zag]at z;simp only[Aa1,aL]at D;exact PE fs _ (q.set (by simpa using D.1.1) z.1) z.2 D.2
theorem Ai6{P:cG}{C:Ctx}{s:St}(n:Nat)(fs is:List Nat){t1:List AV}(hm:P.follows .mixedOrders=aP)(hB:AAm l.toArray n fs is=aP)(hl:fs.length+is.length=n/\n<=l.length)(ag:Yq l.toArray fs s.t=jT t1)
 (hh:aQo P C l.toArray s.h (λt=>V9 P C .any l.toArray (Q .normal) (l.length - n) (Hg is (Hg fs (aF l.length aM))) ⟨t,s.h⟩) is t1):Awp P C (.region id l.toArray aP) Q s:=λa w H=>by
 simp only[AAm,zag]at hB;obtain⟨⟨⟨⟨⟨⟨Y,af⟩,hn⟩,ac⟩,z⟩,aa⟩,hs⟩:=hB;have I:bG .any l.toArray n (aF l.toArray.size aM):=
  ⟨by simp,λj oj _ hl=>(by rw[eU]at hl;cases hl),λt _ ht=>eT (by simpa using ht) (eU _ _)⟩
 let Inv:Array Bool->Prop:=λlisted=>bG .any l.toArray n listed/\∀j∈fs,listed.getD j aM=aP
 have U:∀listed i,Inv listed->i∈dR .any l.toArray listed->i < n->Inv (listed.setIfInBounds i aP):=λlisted i q hr hi=>⟨q.1.set hr hi,λj hj=>eW (q.2 j hj)⟩
 have D:∀(listed:Array Bool) (i:Nat),Inv listed->i < n->listed.getD i aP=aM->∀t,n<=t->t∉dR .any l.toArray listed:=by
  intro listed i q hi J t ht hr;obtain⟨_,ot,Z,ad⟩:=fC.1 hr;have O:t < l.toArray.size:=(aC.1 Z).1;have h1:=fP.1 hs t (iE.2 O);simp only[zau]at h1;rcases h1 with h1|h1
  ·omega
  ·have h2:=fP.1 h1 i (iE.2 hi);simp only[aO]at h2;rcases h2 with h2|h2
   ·have:=q.2 i (by simpa using h2);rw[eS J]at this;cases this
   ·have h3:=Np q.1 _ t i (λoj ae e he hb=>by
     have:oj=ot:=jU (ae.symm.trans Z);subst this;exact ad e he hb) h2
    rw[eS J]at h3;cases h3
 have G:Inv (Hg fs (aF l.toArray.size aM)):=⟨PE fs _ I ac z,λj hj=>Q0 fs _ j hj (by
  have:=fP.1 ac j hj;simp only[decide_eq_true_eq]at this;simp;omega)⟩
 have HH:=Zg (P:=P) (C:=C) (h:=s.h) (Inv:=Inv) (Lq:=λt=>V9 P C .any l.toArray (Q .normal) (l.length - n) (Hg is (Hg fs (aF l.length aM))) ⟨t,s.h⟩) U D is _ t1 G aa hh;have H':St.rel C ⟨s.t,s.h⟩ a {w with drawn:=w.drawn+1}:=by
  obtain⟨hd,S,ψ,ab,hl⟩:=H;have hb:Below w.heap.size w {w with drawn:=w.drawn+1}:=⟨rfl,rfl,rfl,jA _,λ_ _=>rfl⟩
  exact⟨hd,S,ψ,ab.grow hb (λ_ h=>h) (λ_ h=>.inl h) ab.lt,AE (show Ext w S s.h ψ {w with drawn:=w.drawn+1} S s.h ψ from Ext.grow s.h ψ (λk hk=>rfl) λ_ h=>h) _ _ hl⟩
 refine FT hm af ?_;have E:=OE (P:=P) (C:=C) (h:=s.h) (Q:=λe a' w'=>e= .normal/\∃s',Q e s'/\s'.rel C a' w') Y (λc a w hq=>by cases hq.1) fs (is.length+(l.length - n)) (aF l.toArray.size aM) s.t t1 a {w with drawn:=w.drawn+1} z ag H' λa' ah=>
  JV (Q':=λe a' w'=>e= .normal/\∃s',Q e s'/\s'.rel C a' w') (g:=l.length - n) (λlisted t a' w' hL H'=>by
   rw[hL.2.1];have:=hL.2.2;simp only[iM]at this⊢;exact Id (λs a w h H=>⟨rfl,s,h,H⟩) _ _ _ _ _ this H') _ _ _ _ _ HH ah
 rw[show is.length+(l.length - n)+fs.length=l.toArray.size by simp;omega]at E;exact E
section
variable{P:cG}{C:Ctx}{ops:Array bZ}{K:List AV->Prop}{h:List ABlk}{t:List AV}
theorem AAb{is:List Nat}{o:bZ}(q:ops[i]? =jT o)(hg:gA ops t o=jT aP)(hq:QOp P C o t h (aQo P C ops h K is)):aQo P C ops h K (i::is) t:=let ⟨r,h1,h2⟩:=hq;⟨o,r,q,.inl ⟨hg,h1⟩,h2⟩
theorem Ao2{l:List Nat}(ht:t=t')(hk:aQo P C ops h K l t'):aQo P C ops h K l t:=by subst ht;exact hk
theorem Ar7(hk:K t):aQo P C ops h K [] t:=hk
end
section
variable{P:cG}{C:Ctx}{t:List AV}{h:List ABlk}{o:bZ}
theorem Lm.res{b:Nat}{rs:List AV}(hi:h[i]? =jT (.res R))(hc:Bl rs=aP)
 (G:∀w S,R.R w S->∀j r,rs[j]? =jT r->∃u,w.cell? ⟨b,off+j,jS⟩=jT u/\AV.rel w S [] ψ0 r u):Lm h (.lit (.pointer (jT ⟨b,off,jS⟩))) rs:=λC S ψ w v H D=>by
 unfold AV.rel at D;refine⟨b,off,D,λj y hy=>?_⟩;obtain⟨u,h1,h2⟩:=G w S (H.blk i _ hi).2 j y hy;have z:AV.cl y=aP:=by
  have:∀(l:List AV),Bl l=aP->∀y∈l,AV.cl y=aP:=λl=>by
   induction l with
   |nil=>intro _ y hy;cases hy
   |cons x l E=>
    intro q y hy;unfold Bl at q;rw[aL]at q;rcases g9.1 hy with rfl|hy
    ·exact q.1
    ·exact E q.2 y hy
  exact this rs hc y (iD hy)
 exact⟨u,h1,DE _ _ z h2⟩
theorem NO{n b:Nat}[AG P ty aM n](D:o.op= .load ty x)(hx:evA t x= .lit (.pointer (jT ⟨b,off,jS⟩)))(hi:h[i]? =jT (.res R))(hc:AV.cl r=aP)
 (z:∀w S,R.R w S->∃u,w.cell? ⟨b,off,jS⟩=jT u/\AV.rel w S [] ψ0 r u):AX P C t h o r:=
 Ek (cells:=[r]) D AG.eq hx (Lm.res (rs:=[r]) hi (by unfold Bl;rw[hc];rfl) λw S E j y q=>by
  cases j with
  |zero=>cases q;exact z w S E
  |succ j=>cases q) rfl
theorem VI{y:cF}{ik:bR}{k n b len c:Nat}[ES P ty n](z:o.op= .indexAddr ty x y)(hx:evA t x= .lit (.slice (jT ⟨b,off,jS⟩) len c))(D:evA t y= .lit (.int ik (k:Int)))(hk:k < len):
 AX P C t h o (.lit (.pointer (jT ⟨b,off+k * n,jS⟩))):=
 AQ λS ψ w ρ H q=>by
  have h1:=q x (by simp[z,bY]);have h2:=q y (by simp[z,bY]);rw[hx]at h1;rw[D]at h2;unfold AV.rel at h1 h2;have E:=GT (P:=P) (w:=w) (b:=b) (off:=off) (c:=c) (ik:=ik) (ES.eq (P:=P) (ty:=ty) (n:=n)) hk;exact⟨_,by simp[eR,z,h1,h2,E];rfl,by unfold AV.rel;rfl⟩
def FnR(P:cG)(f:bF)(R:Res)(args:List AV)(r:AV):Prop:=
 Ch P f=aP/\∀(w:eG) (S:Nat->Prop) (vs:List eC),(∀k,S k->k < w.heap.size)->(∀g,R.F g->g < w.heap.size)->R.R w S->Ak w S [] ψ0 args vs->
  a8 P f vs.toArray w λe w'=>∃v,e= .returned v/\Zi w S [] ψ0 r v w'
theorem Lk{args:Array cF}(hi:h[i]? =jT (.res R))
 (D:o.op= .call {callee:=.value (.func f),args:=args,argTypes:=tys})(E:FnR P f R xs r)(hx:args.toList.map (evA t)=xs)(hc:Bl xs=aP)(Y:AV.cl r=aP):AX P C t h o r:=by
 intro S ψ w ρ H q;have h1:ρ (.func f)= .func (.func f) #[] #[]:=by
  have:=q (.func f) (by rw[D];exact aD.2 (.inl (by simp)));simpa[evA,AV.rel]using this
 rw[CC D E.1 ρ w h1];refine⟨rfl,?_⟩;have h2:Ak w S h ψ xs (args.toList.map ρ):=by
  rw[<-hx];exact Ck λx z=>q x (by rw[D];exact aD.2 (.inr (aE.1 z)))
 have G:=H.blk i _ hi;have h3:=E.2 w S (args.toList.map ρ) H.lt (λg hg=>(G.1 g hg).2.2) G.2 (Bn _ _ hc h2);rw[show(args.map ρ)=(args.toList.map ρ).toArray from(by rw[<-aI])];refine h3.mono ?_;rintro e w' ⟨v,Z,hb,S',U,O,J,I⟩;exact⟨v,Z,hb,S',U,O,J,DE _ _ Y I⟩
structure Turns{ι:Type}(w:World)(S:Nat->Prop)(F:Nat->Prop)(Rs:ι->Res)(val:ι->Value)(v:Value)(w':World):Prop where
 gr:Gr F w w'
 some:∃p,v=val p/\(Rs p).R w' S/\∀k,(Rs p).F k->(F k\/w.heap.size<=k)/\k < w'.heap.size
def V7{ι:Type}(P:cG)(w:eG)(S:Nat->Prop)(F:Nat->Prop)(Rs:ι->Res)(val:ι->eC):dV Next->Prop
 | .ok (.value v) w'=>Turns w S F Rs val v w'
 | .ok .skip w'=>Turns w S F Rs val undef w'
 | .ok (.enter f args) w1=>w1=w/\a8 P f args w λe w'=>∃v,e= .returned v/\Turns w S F Rs val v w'
 |_=>False
variable{ι:Type}{Rs:ι->Res}{val:ι->eC}
theorem Lv{w:eG}{S:Nat->Prop}{ρ:cF->eC}(hq:V7 P w S F Rs val ((eR ρ o).run P w)):∀c,o.op≠.defer c:=λc e=>by
 simp only[eR,e,dX]at hq;generalize (fF ρ c o.type).run P w=x at hq;cases x with
 |ok d w'=>exact hq
 |halt x w'=>exact hq
theorem Tm{K:Act->eG->Prop}{w:eG}{S:Nat->Prop}{res:dV Next}(hq:V7 P w S F Rs val res)(q:∀v w',Turns w S F Rs val v w'->K (a.put o.dst v) w'):o.upon P a K Q' res:=by
 cases res with
 |ok n w'=>
  cases n <;> simp only[V7]at hq <;> simp only[cB]
  case value v=>exact q v w' hq
  case skip=>exact q undef w' hq
  case enter f args=>
   obtain⟨rfl,hc⟩:=hq;exact hc.mono λe w'' ⟨v,z,hg⟩=>by subst z;exact q v w'' hg
 |halt x w'=>simp only[V7]at hq
theorem AOp.turn{K:St->Prop}(hi:h[i]? =jT (.res R))(U:∀p,(Rs p).mrk=R.mrk)
 (hq:∀S ψ w (ρ:cF->eC),HRel C h S ψ w->R.R w S->(∀g,R.F g->g < w.heap.size)->(∀x∈o.op.operands,AV.rel w S h ψ (evA t x) (ρ x))->V7 P w S R.F Rs val ((eR ρ o).run P w))
 (hK:∀p,K ⟨Br t o.dst (.lit (val p)),h.set i (.res (Rs p))⟩):AOp P C o ⟨t,h⟩ K:=by
 rintro Q' a w ⟨Z,S,ψ,H,I⟩;have D:=H.blk i _ hi;have q:=hq S ψ w a.eval H D.2 (λg hg=>(D.1 g hg).2.2) λx _=>BA I x
 refine⟨Lv q,Tm q λv w' E=>?_⟩;obtain⟨p,rfl,hR,J⟩:=E.some;have z:∀k,S k->w'.heap[k]? =w.heap[k]?:=λk hk=>E.gr.block k (H.lt k hk) λY=>(D.1 k Y).2.1 hk
 have X:Ext w S h ψ w' S (h.set i (.res (Rs p))) (Bs ψ i (ψ i)):=Ext.set z hi (λc' hc=>by simp[ABlk.ver]at hc) λh=>by simp[Bd]at h
 have G:H8 C.N w' S (h.set i (.res (Rs p))) (Bs ψ i (ψ i)) (ψ i) (.res (Rs p)):=⟨λg hg=>by
  obtain⟨h1,h2⟩:=J g hg;rcases h1 with h1|h1
  ·exact⟨(D.1 g h1).1,(D.1 g h1).2.1,h2⟩
  ·exact⟨λO=>by have:=H.nlt g O;have:=H.bel.size;omega,λhs=>by have:=H.lt g hs;omega,h2⟩,hR⟩
 exact⟨_,hK p,IK (s:=⟨t,h⟩) hi Z I (H.set hi V E.gr X G λg hg=>(J g hg).1) X (by unfold AV.rel;rfl) (by show(Rs p).mrk.map Kr=R.mrk.map Kr;rw[U p])⟩
theorem C8{K:St->Prop}(O:∀p,(Rs p).mrk= [])
 (hq:∀S ψ w (ρ:cF->eC),HRel C h S ψ w->(∀x∈o.op.operands,AV.rel w S h ψ (evA t x) (ρ x))->V7 P w S (λ_=>False) Rs val ((eR ρ o).run P w))
 (Z:∀p,K ⟨Br t o.dst (.lit (val p)),h++[.res (Rs p)]⟩):AOp P C o ⟨t,h⟩ K:=by
 rintro Q' a w ⟨U,S,ψ,H,E⟩;have z:=hq S ψ w a.eval H λx _=>BA E x
 refine⟨Lv z,Tm z λv w' q=>?_⟩;obtain⟨p,rfl,Y,I⟩:=q.some;have G:Below w.heap.size w w':=⟨q.gr.os,q.gr.tape,q.gr.output,q.gr.size,λk hk=>q.gr.block k hk λh=>h⟩
 have X:Ext w S h ψ w' S (h++[.res (Rs p)]) (Bs ψ h.length (val p)):=Ext.push _ _ λk hk=>G.block k (H.lt k hk)
 have D:H8 C.N w' S (h++[.res (Rs p)]) (Bs ψ h.length (val p)) (val p) (.res (Rs p)):=⟨λg hg=>by
  obtain⟨h1,h2⟩:=I g hg;rcases h1 with h1|h1
  ·exact h1.elim
  ·exact⟨λJ=>by have:=H.nlt g J;have:=H.bel.size;omega,λhs=>by have:=H.lt g hs;omega,h2⟩,Y⟩
 exact⟨_,Z p,OM (s:=⟨t,h⟩) U E (H.push G D λg hg=>by
  rcases(I g hg).1 with h1|h1
  ·exact h1.elim
  ·exact h1) X (by unfold AV.rel;rfl) (by show(Rs p).mrk.map Kr= [];rw[O p];rfl)⟩
def Nk(P:cG)(f:bF)(args:List AV)(Rs:ι->Res)(val:ι->eC):Prop:=
 Ch P f=aP/\∀(w:eG) (S:Nat->Prop) (vs:List eC),(∀k,S k->k < w.heap.size)->Ak w S [] ψ0 args vs->
  a8 P f vs.toArray w λe w'=>∃v,e= .returned v/\Turns w S (λ_=>False) Rs val v w'
theorem Cx{args:Array cF}{K:St->Prop}
 (D:o.op= .call {callee:=.value (.func f),args:=args,argTypes:=tys})(E:Nk P f xs Rs val)(G:∀p,(Rs p).mrk= [])(hx:args.toList.map (evA t)=xs)(hc:Bl xs=aP)
 (I:∀p,K ⟨Br t o.dst (.lit (val p)),h++[.res (Rs p)]⟩):AOp P C o ⟨t,h⟩ K:=by
 refine C8 G (λS ψ w ρ H q=>?_) I;have h1:ρ (.func f)= .func (.func f) #[] #[]:=by
  have:=q (.func f) (by rw[D];exact aD.2 (.inl (by simp)));simpa[evA,AV.rel]using this
 rw[CC D E.1 ρ w h1];refine⟨rfl,?_⟩;have h2:Ak w S h ψ xs (args.toList.map ρ):=by
  rw[<-hx];exact Ck λx z=>q x (by rw[D];exact aD.2 (.inr (aE.1 z)))
 rw[show(args.map ρ)=(args.toList.map ρ).toArray from(by rw[<-aI])];exact E.2 w S (args.toList.map ρ) H.lt (Bn _ _ hc h2)
def Ai2(P:cG)(f:bF)(R:Res)(args:List AV)(Rs:ι->Res)(val:ι->eC):Prop:=
 Ch P f=aP/\∀(w:eG) (S:Nat->Prop) (vs:List eC),(∀k,S k->k < w.heap.size)->(∀g,R.F g->g < w.heap.size)->R.R w S->Ak w S [] ψ0 args vs->
  a8 P f vs.toArray w λe w'=>∃v,e= .returned v/\Turns w S (λ_=>False) Rs val v w'
theorem VZ{args:Array cF}{K:St->Prop}(hi:h[i]? =jT (.res R))
 (D:o.op= .call {callee:=.value (.func f),args:=args,argTypes:=tys})(E:Ai2 P f R xs Rs val)(I:∀p,(Rs p).mrk= [])(hx:args.toList.map (evA t)=xs)(hc:Bl xs=aP)
 (J:∀p,K ⟨Br t o.dst (.lit (val p)),h++[.res (Rs p)]⟩):AOp P C o ⟨t,h⟩ K:=by
 refine C8 I (λS ψ w ρ H q=>?_) J;have h1:ρ (.func f)= .func (.func f) #[] #[]:=by
  have:=q (.func f) (by rw[D];exact aD.2 (.inl (by simp)));simpa[evA,AV.rel]using this
 rw[CC D E.1 ρ w h1];refine⟨rfl,?_⟩;have h2:Ak w S h ψ xs (args.toList.map ρ):=by
  rw[<-hx];exact Ck λx z=>q x (by rw[D];exact aD.2 (.inr (aE.1 z)))
 rw[show(args.map ρ)=(args.toList.map ρ).toArray from(by rw[<-aI])];have G:=H.blk i _ hi;exact E.2 w S (args.toList.map ρ) H.lt (λg hg=>(G.1 g hg).2.2) G.2 (Bn _ _ hc h2)
def DU(P:cG)(f:bF)(R:Res)(args:List AV)(Rs:ι->Res)(val:ι->eC):Prop:=
 Ch P f=aP/\∀(w:eG) (S:Nat->Prop) (vs:List eC),(∀k,S k->k < w.heap.size/\¬R.F k)->(∀g,R.F g->g < w.heap.size)->R.R w S->Ak w S [] ψ0 args vs->
  a8 P f vs.toArray w λe w'=>∃v,e= .returned v/\Turns w S R.F Rs val v w'
theorem BW{args:Array cF}{K:St->Prop}(hi:h[i]? =jT (.res R))
 (D:o.op= .call {callee:=.value (.func f),args:=args,argTypes:=tys})(G:DU P f R xs Rs val)(I:∀p,(Rs p).mrk=R.mrk)(hx:args.toList.map (evA t)=xs)(hc:Bl xs=aP)
 (U:∀p,K ⟨Br t o.dst (.lit (val p)),h.set i (.res (Rs p))⟩):AOp P C o ⟨t,h⟩ K:=by
 refine AOp.turn hi I (λS ψ w ρ H O E q=>?_) U;have h1:ρ (.func f)= .func (.func f) #[] #[]:=by
  have:=q (.func f) (by rw[D];exact aD.2 (.inl (by simp)));simpa[evA,AV.rel]using this
 rw[CC D G.1 ρ w h1];refine⟨rfl,?_⟩;have h2:Ak w S h ψ xs (args.toList.map ρ):=by
  rw[<-hx];exact Ck λx z=>q x (by rw[D];exact aD.2 (.inr (aE.1 z)))
 rw[show(args.map ρ)=(args.toList.map ρ).toArray from(by rw[<-aI])];exact G.2 w S (args.toList.map ρ) (λk hk=>⟨H.lt k hk,λJ=>((H.blk i _ hi).1 k J).2.1 hk⟩) E O (Bn _ _ hc h2)
theorem JM{R':Res}(hi:h[i]? =jT (.res R))(q:∀g,R'.F g->R.F g)(I:∀w S,R.R w S->R'.R w S)(D:R'.mrk=R.mrk):St.le C ⟨t,h⟩ ⟨t,h.set i (.res R')⟩:=λa w ⟨G,S,ψ,H,E⟩=>by
 have z:=H.blk i _ hi;have X:Ext w S h ψ w S (h.set i (.res R')) (Bs ψ i (ψ i)):=Ext.set (λ_ _=>rfl) hi (λJ hc=>by simp[ABlk.ver]at hc) λh=>by simp[Bd]at h
 refine⟨by rw[G];exact(DY hi (by show R'.mrk.map Kr=R.mrk.map Kr;rw[D])).symm,S,_,H.set (v':=ψ i) hi V ⟨rfl,rfl,rfl,jA _,λ_ _ _=>rfl⟩ X ⟨λg hg=>z.1 g (q g hg),I w S z.2⟩ λg hg=>.inl (q g hg),AE X _ _ E⟩
theorem Lf{R1 R2:Res}(Z:i≠j)(hi:h[i]? =jT (.res R1))(E:h[j]? =jT (.res R2))(h1:R1.mrk= [])(h2:R2.mrk= [])(h3:R.mrk= [])(hF:∀g,R.F g->R1.F g\/R2.F g)
 (hR:∀w S,R1.R w S->R2.R w S->(∀g,R1.F g->¬R2.F g)->R.R w S):St.le C ⟨t,h⟩ ⟨t,(h.set j .dead).set i (.res R)⟩:=λa w ⟨hd,S,ψ,H,hl⟩=>by
 have ae:=H.blk i _ hi;have ad:=H.blk j _ E;have ag:=(gJ.1 hi).1;have af:=(gJ.1 E).1;have ab:∀g,R1.F g->¬R2.F g:=λg D O=>H.dis i j Z (by rw[hi];rfl) (by rw[E];rfl) g (by rw[hi];exact D) (by rw[E];exact O)
 have X1:Ext w S h ψ w S (h.set j .dead) (Bs ψ j (ψ j)):=Ext.set (λ_ _=>rfl) E (λc' hc=>by simp[ABlk.ver]at hc) λh=>by simp[Bd]at h
 have aa:(h.set j .dead)[i]? =jT (.res R1):=by rw[gN (jO Z)];exact hi
 have X2:Ext w S (h.set j .dead) (Bs ψ j (ψ j)) w S ((h.set j .dead).set i (.res R)) (Bs (Bs ψ j (ψ j)) i (Bs ψ j (ψ j) i)):=Ext.set (λ_ _=>rfl) aa (λc' hc=>by simp[ABlk.ver]at hc) λh=>by simp[Bd]at h
 have e:∀(φ:Nat->eC) k,Bs φ k (φ k)=φ:=λφ k=>funext λq=>by unfold Bs;split <;> simp_all
 rw[e]at X1;rw[e,e]at X2;have X:Ext w S h ψ w S ((h.set j .dead).set i (.res R)) ψ:=⟨λ_ _=>rfl,λ_ h=>h,by simp,λk c' hk hv=>by
  obtain⟨c1,D,O,k3⟩:=X2.ver k c' (by simpa using hk) hv;obtain⟨c2,k4,k5,k6⟩:=X1.ver k c1 hk D;exact⟨c2,k4,by omega,λe'=>⟨rfl,by rw[(k3 (by omega)).2,(k6 (by omega)).2]⟩⟩,λk hk hv=>⟨(X1.box k hk (X2.box k (by simpa using hk) hv).1).1,rfl⟩⟩
 have G:∀k b,((h.set j .dead).set i (.res R))[k]? =jT b->(k=i/\b= .res R)\/(k=j/\b= .dead)\/(k≠i/\k≠j/\h[k]? =jT b):=λk b z=>by
  by_cases J:k=i
  ·subst J;rw[gO (by simpa using ag)]at z;cases z;exact .inl ⟨rfl,rfl⟩
  ·rw[gN (jO J)]at z;by_cases I:k=j
   ·subst I;rw[gO af]at z;cases z;exact .inr (.inl ⟨rfl,rfl⟩)
   ·rw[gN (jO I)]at z;exact .inr (.inr ⟨J,I,z⟩)
 refine⟨?_,S,ψ,⟨H.bel,H.nlt,H.lt,H.sub,H.new,λk b z=>?_,λk q Y hk hq g g1 g2=>?_⟩,AE X _ _ hl⟩
 ·rw[hd];show mkD h=_;rw[DY aa (by show R.mrk.map Kr=R1.mrk.map Kr;rw[h1,h3]),DY E (by show []=R2.mrk.map Kr;rw[h2];rfl)]
 ·rcases G k b z with⟨rfl,rfl⟩|⟨rfl,rfl⟩|⟨_,_,z⟩
  ·exact⟨λg hg=>(hF g hg).elim (ae.1 g) (ad.1 g),hR w S ae.2 ad.2 ab⟩
  ·trivial
  ·exact(H.blk k b z).keep X λg _=>⟨rfl,λh=>h⟩
 ·have U:∀k,ABlk.live ((h.set j .dead).set i (.res R))[k]? =aP->ftp ((h.set j .dead).set i (.res R))[k]? (ψ k) g->(k=i/\(R1.F g\/R2.F g))\/(k≠i/\k≠j/\ABlk.live h[k]? =aP/\ftp h[k]? (ψ k) g):=λk D O=>by
   obtain⟨b,z⟩:=D1 D;rw[z]at D O;rcases G k b z with⟨rfl,rfl⟩|⟨rfl,rfl⟩|⟨q1,q2,ac⟩
   ·exact .inl ⟨rfl,hF g O⟩
   ·cases D
   ·exact .inr ⟨q1,q2,by rw[ac];exact D,by rw[ac];exact O⟩
  have no:∀k,k≠i->k≠j->ABlk.live h[k]? =aP->ftp h[k]? (ψ k) g->(R1.F g\/R2.F g)->False:=λk q1 q2 q3 q4 q5=>by
   rcases q5 with q5|q5
   ·exact H.dis k i q1 q3 (by rw[hi];rfl) g q4 (by rw[hi];exact q5)
   ·exact H.dis k j q2 q3 (by rw[E];rfl) g q4 (by rw[E];exact q5)
  rcases U k hk g1 with⟨e1,f1⟩|⟨a1,a2,a3,a4⟩ <;> rcases U q hq g2 with⟨e2,f2⟩|⟨b1,b2,b3,b4⟩
  ·exact Y (e1.trans e2.symm)
  ·exact no q b1 b2 b3 b4 f1
  ·exact no k a1 a2 a3 a4 f2
  ·exact H.dis k q Y a3 b3 g a4 b4
end
def Asd(P:cG)(E:bF)(D:Array eC)(z:Nat->Prop)(G:eG)(encs:Nat->List eC->Prop)(N:Nat):Prop:=
 ∀(l:Nat) (J:Nat->eG->Prop) (W:eG),KS z G W->
  (∀k vs q,k < N->encs k vs->J k q->YieldAt bD 2 P l vs.toArray q λe W'=>e= .returned (.bool aP)/\J (k+1) W'/\KS z q W')->
  J 0 W->CallsIn bD 3 P E (#[.func (.yield l) #[] #[]]++D) W λe W'=>(∃v,e= .returned v)/\J N W'
def Bq(ds:List Nat):Res:=⟨ds,λg=>g∈ds,λw _=>ds.Nodup/\∀d∈ds,w.heap[d]? =jT (.deferred (jT [])),λh hk _ _=>⟨h.1,λd q=>(hk d q).trans (h.2 d q)⟩⟩
def owns(h:List ABlk)(ψ:Nat->eC)(g:Nat):Prop:=∃j,ABlk.live h[j]? =aP/\ftp h[j]? (ψ j) g
section
variable{C:Ctx}{h h':List ABlk}{S:Nat->Prop}{ψ:Nat->eC}{w w' W W':eG}{N N':Nat->Prop}
theorem H8.re{b:ABlk}(H:H8 N w S h ψ v b)(q:∀g,ftp (jT b) v g->ABlk.live (jT b)=aP->¬N' g):H8 N' w S h ψ v b:=by
 cases b with
 |dead=>trivial
 |box cells=>
  obtain⟨g,cs,e,rfl,h1,h2,z,D⟩:=H;exact⟨g,cs,e,rfl,q g V V,h2,z,D⟩
 |row ver e T l=>
  obtain⟨cells,h1,h0,h2,z⟩:=H;exact⟨cells,h1,h0,h2,λg hg=>⟨q g (AY hg) V,(z g hg).2⟩⟩
 |res R=>exact⟨λg hg=>⟨q g hg V,(H.1 g hg).2⟩,H.2⟩
theorem HRel.own_lt(H:HRel C h S ψ w){g:Nat}(hg:owns h ψ g):¬C.N g/\g < w.heap.size/\¬S g:=by
 obtain⟨j,h1,h2⟩:=hg;obtain⟨b,q⟩:=D1 h1;rw[q]at h1 h2;exact(H.blk j b q).lt h1 g h2
theorem HRel.re(H:HRel C h S ψ W)(D:∀k,S k->W'.heap[k]? =W.heap[k]?)(I:∀k,owns h ψ k->W'.heap[k]? =W.heap[k]?)(N':Nat->Prop)(E:∀k,N' k->k < W'.heap.size/\¬owns h ψ k)(rd:Option Nat):HRel ⟨W',S,N',rd⟩ h S ψ W':=by
 refine⟨Kp.refl _ _,λk hk=>(E k hk).1,λk hk=>?_,λ_ h=>h,λ_ h=>.inl h,λi b hi=>?_,H.dis⟩
 ·have h1:=D k hk;rw[aB (H.lt k hk)]at h1;exact(aC.1 h1).1
 ·by_cases z:ABlk.live (jT b)=aP
  ·have q:∀g,ftp (jT b) (ψ i) g->owns h ψ g:=λg hg=>⟨i,by rw[hi];exact z,by rw[hi];exact hg⟩
   exact H8.re ((H.blk i b hi).keep (Ext.grow h ψ D λ_ h=>h) λg hg=>⟨I g (q g hg),λh=>h⟩) λg hg _ G=>(E g G).2 (q g hg)
  ·cases b <;> simp[ABlk.live]at z
   trivial
theorem HRel.to{J:Ctx}(H:HRel J h S ψ W)(G:Kp C.N C.w0 W)(D:∀k,C.N k->k < C.w0.heap.size)(q:∀k,C.S0 k->S k)(E:∀k,S k->C.S0 k\/C.w0.heap.size<=k)(z:∀g,owns h ψ g->¬C.N g):HRel C h S ψ W:=
 ⟨G,D,H.lt,q,E,λi b hi=>(H.blk i b hi).re λg hg I=>z g ⟨i,by rw[hi];exact I,by rw[hi];exact hg⟩,H.dis⟩
theorem HRel.cut(H:HRel C h S ψ w)(hc:Cut h h')(O:∀b∈h',Amn h'.length b=aP):HRel C h' S ψ w:=by
 refine⟨H.bel,H.nlt,H.lt,H.sub,H.new,λi b hi=>?_,λi j q h1 h2=>by rw[hc.same h1,hc.same h2];exact H.dis i j q (hc.live h1) (hc.live h2)⟩;rcases hc.blk i b hi with rfl|h1
 ·trivial
 ·have z:=H.blk i b h1;cases b with
  |dead=>trivial
  |box cells=>
   obtain⟨g,cs,e,J,I,G,E,D⟩:=z;exact⟨g,cs,e,J,I,G,E,E4 hc _ _ (O _ (iD hi)) D⟩
  |row ver e T l=>exact z
  |res R=>exact z
theorem Akt(hc:Cut h h'){g:Nat}(hg:owns h' ψ g):owns h ψ g:=by
 obtain⟨j,h1,h2⟩:=hg;exact⟨j,hc.live h1,by rw[<-hc.same h1];exact h2⟩
theorem HRel.rise{p:Nat}(H:HRel C h S ψ w)(O:h[p]? =jT .dead)(U:R.R w S)(J:∀g,R.F g->¬C.N g/\¬S g/\g < w.heap.size/\¬owns h ψ g):HRel C (h.set p (.res R)) S ψ w:=by
 have z:=(gJ.1 O).1;have X:Ext w S h ψ w S (h.set p (.res R)) (Bs ψ p (ψ p)):=Ext.set (λ_ _=>rfl) O (λY hc=>by simp[ABlk.ver]at hc) λh=>by simp[Bd]at h
 have e:Bs ψ p (ψ p)=ψ:=funext λj=>by unfold Bs;split <;> simp_all
 rw[e]at X;refine⟨H.bel,H.nlt,H.lt,H.sub,H.new,λi b hi=>?_,λi j I hi G g h1 h2=>?_⟩
 ·by_cases q:i=p
  ·subst q;rw[gO z]at hi;cases hi;exact⟨λg hg=>⟨(J g hg).1,(J g hg).2.1,(J g hg).2.2.1⟩,U⟩
  ·rw[gN (jO q)]at hi;exact(H.blk i b hi).keep X λg _=>⟨rfl,λh=>h⟩
 ·have D:∀j,j≠p->ABlk.live (h.set p (.res R))[j]? =aP->ftp (h.set p (.res R))[j]? (ψ j) g->owns h ψ g:=λj G h1 h2=>by
   rw[gN (jO G)]at h1 h2;exact⟨j,h1,h2⟩
  by_cases q:i=p
  ·subst q;rw[gO z]at h1;exact(J g h1).2.2.2 (D j (jO I) G h2)
  ·by_cases E:j=p
   ·subst E;rw[gO z]at h2;exact(J g h2).2.2.2 (D i q hi h1)
   ·rw[gN (jO q)]at h1 hi;rw[gN (jO E)]at h2 G;exact H.dis i j I hi G g h1 h2
theorem Ak8{h:List ABlk}{p:Nat}(z:h[p]? =jT .dead)(q:mkD h= []):mkD (h.set p (.res R))=R.mrk.map Kr:=by
 induction h generalizing p with
 |nil=>simp at z
 |cons c h D=>
  simp only[mkD,List.append_eq_nil_iff]at q;cases p with
  |zero=>simp[mkD,q.1,ABlk.mrk]
  |succ p=>
   simp only[iK,mkD];rw[D (by simpa using z) q.1,q.2,fQ]
end
def Nv(t:List AV)(ps:List Tmp)(q:List AV):List AV:=(ps.zip q).foldl (λt p=>t.set p.1 p.2) t
theorem Q8{w:eG}{S:Nat->Prop}{h:List ABlk}{ψ:Nat->eC}:∀(ps:List Tmp) (z:List AV) (vs:List eC) (t:List AV) (tmps:Array eC),Ak w S h ψ z vs->Ak w S h ψ t tmps.toList->
 Ak w S h ψ (Nv t ps z) ((ps.zip vs).foldl (λ(t:Array eC) p=>t.setIfInBounds p.1 p.2) tmps).toList
 | [],z,vs,t,tmps,_,ht=>ht
 |p::ps,[],vs,t,tmps,q,ht=>by
  unfold Ak at q;subst q;exact ht
 |p::ps,x::z,vs,t,tmps,q,ht=>by
  unfold Ak at q;obtain⟨v,D,rfl,h1,h2⟩:=q;exact Q8 ps z D (t.set p x) (tmps.setIfInBounds p v) h2 (by rw[aK];exact Ij ht p h1)
structure Drops(h h':List ABlk):Prop where
 cut:Cut h h'
 bd:∀b∈h',Amn h'.length b=true
def Aj9(h':List ABlk):bC->St->Prop:=λe s=>e= .normal/\Drops s.h h'
def Aet(P:cG)(body:bA)(h':List ABlk)(z:St):Prop:=∀q:Ctx,q.rd.isSome=aP->Awp P q body (Aj9 h') z
section
variable{P:cG}
def NU(C:Ctx):Prop:=∃l r,C.rd=jT l/\C.N l/\C.w0.heap[l]? =jT (.loop r)
theorem NU.some{C:Ctx}(h:NU C):C.rd.isSome=aP:=by
 obtain⟨l,r,h1,_⟩:=h;rw[h1];rfl
theorem PL{gf:bF}(hE:Ch P gf=aP)(args:Array eC)(w:eG):(eO gf args).run P w= .ok (.enter gf args) w:=by
 unfold Ch at hE;cases hf:P.funcs[gf]? with
 |none=>rw[hf]at hE;cases hE
 |some fn=>
  rw[hf]at hE;simp only[zas]at hE;have h1:¬fn.name= "runtime.NumGoroutine" :=by simpa using hE.1
  have h2:¬fn.body=jS:=λe=>by have:=hE.2;rw[e]at this;cases this
  simp[eO,hf,h1,h2]
end
section
variable{C:Ctx}{h:List ABlk}{S:Nat->Prop}{ψ:Nat->eC}{W:eG}
theorem HRel.other(H:HRel C h S ψ W){D:Nat}(o:Obj)(h1:¬C.N D)(h2:¬S D)(G:¬owns h ψ D):HRel C h S ψ (W.putObj D o):=by
 have q:∀g,g≠D->(W.putObj D o).heap[g]? =W.heap[g]?:=λg hg=>eN hg
 have E:∀k,S k->(W.putObj D o).heap[k]? =W.heap[k]?:=λk hk=>q k λe=>h2 (e▸hk)
 refine⟨H.bel.trans ⟨rfl,rfl,rfl,by simp,λk hk=>q k λe=>h1 (e▸hk)⟩,H.nlt,λk hk=>by simpa using H.lt k hk,H.sub,H.new,λi b hi=>?_,H.dis⟩;by_cases z:ABlk.live (jT b)=aP
 ·exact(H.blk i b hi).keep (Ext.grow h ψ E λ_ h=>h) λg hg=>⟨q g λe=>G ⟨i,by rw[hi];exact z,by rw[hi];exact e▸hg⟩,λh=>h⟩
 ·cases b <;> simp[ABlk.live]at z
  trivial
end
theorem Oo{P:cG}{C:Ctx}{fn:bE}{tmps:Array eC}{R:Ending->eG->Prop}{v:eC}{x:AV}{n:Nat}(z:∀W,(results fn tmps).run P W= .ok v W):
 ∀(ds:List Nat) (W:eG) (h:List ABlk) (S:Nat->Prop) (ψ:Nat->eC),(∀W S ψ,HRel C (h.set 0 .dead) S ψ W->AV.rel W S (h.set 0 .dead) ψ x v->R (.returned v) W)->h[0]? =jT (.res (Bq ds))->HRel C h S ψ W->AV.rel W S h ψ x v->
  bS bD n P fn tmps R (ds.map Kr) .returning W
 | [],W,h,S,ψ,q,h0,H,U=>by
  have hc:Cut h (h.set 0 .dead):=⟨by simp,λi b hi=>by
   by_cases I:i=0
   ·subst I;rw[gO (gJ.1 h0).1]at hi;cases hi;exact .inl V
   ·rw[gN (jO I)]at hi;exact .inr hi⟩
  exact⟨v,z W,q W S ψ (H.cute hc (by simp)) (Ln hc (by simp) _ _ U)⟩
 |D::ds,W,h,S,ψ,q,h0,H,U=>by
  have J:=H.blk 0 _ h0;have E:=(gJ.1 h0).1;have hD:=J.1 D (by show D∈D::ds;simp);refine⟨by simp,.inl ⟨_,_,rfl,run_takeDeferred (J.2.2 D (by simp)),?_⟩⟩;have X:Ext W S h ψ W S (h.set 0 (.res (Bq ds))) (Bs ψ 0 (ψ 0)):=Ext.set (λ_ _=>rfl) h0 (λc' hc=>by simp[ABlk.ver]at hc) λh=>by simp[Bd]at h
  have G:=List.nodup_cons.1 J.2.1;have H1:HRel C (h.set 0 (.res (Bq ds))) S (Bs ψ 0 (ψ 0)) W:=H.set (v':=ψ 0) h0 V ⟨rfl,rfl,rfl,jA _,λ_ _ _=>rfl⟩ X
   ⟨λg hg=>J.1 g (hZ _ hg),G.2,λd hd=>J.2.2 d (hZ _ hd)⟩ λg hg=>.inl (hZ _ hg)
  have Y:¬owns (h.set 0 (.res (Bq ds))) (Bs ψ 0 (ψ 0)) D:=λ⟨j,h1,h2⟩=>by
   by_cases O:j=0
   ·subst O;rw[gO E]at h2;exact G.1 h2
   ·rw[gN (jO O)]at h1 h2;rw[BH O]at h2;exact H.dis j 0 O h1 (by rw[h0];rfl) D h2 (by rw[h0];show D∈D::ds;simp)
  have Z:∀k,S k->(W.putObj D (.deferred jS)).heap[k]? =W.heap[k]?:=λk hk=>eN λe=>hD.2.1 (e▸hk)
  refine Oo z ds _ _ S _ (λW S ψ h1 h2=>?_) (gO E) (H1.other _ hD.1 hD.2.1 Y) (FY (Ext.grow _ _ Z λ_ h=>h) _ _ (FY X _ _ U));rw[List.set_set]at h1 h2;exact q W S ψ h1 h2
def AAh(t:Tmp)(r:AV):bC->St->Prop:=λe s=>(e= .normal\/e= .ret)/\∃ds,s.h[0]? =jT (.res (Bq ds))/\mkD s.h=ds.map Kr/\Fin (s.h.set 0 .dead) (evA s.t (.tmp t)) r
theorem FX{P:cG}{args:List AV}{t:Tmp}{n:Nat}(hf:P.funcs[f]? =jT fn)(hb:fn.body=jT c)(hE:Ch P f=aP)(D:fn.results= #[.tmp t])(Z:fn.ntmps=n)
 (h:∀C:Ctx,C.std->C.rd=jS->Awp P C c (AAh t r) ⟨args++iJ (n - args.length) (.lit undef),[.res (Bq [])]⟩):Fn P f args r:=by
 refine⟨hE,λw S vs hS Y=>(eP (n:=4)).1 (callsIn_of_wp_marks hf hb trivial ?_)⟩;rw[Z];have I:St.rel ⟨w,S,λk=>k < w.heap.size,jS⟩ ⟨args++iJ (n - args.length) (.lit undef),[.res (Bq [])]⟩ {tmps:=vs.toArray++aF (n - vs.toArray.size) undef,defers:=[]} w:=by
  obtain⟨q,G,ψ,H,J⟩:=Dv (n:=n) hS Y;have X:=Ext.push (w:=w) (w':=w) (S:=G) (h:=[]) (ψ:=ψ) (.res (Bq [])) undef λ_ _=>rfl
  exact⟨rfl,G,_,H.push (b:=.res (Bq [])) (v:=undef) (dW _ _) (show H8 _ _ _ _ _ _ (.res (Bq []))from⟨λg hg=>(iH hg).elim,show([]:List Nat).Nodup/\∀d∈([]:List Nat),w.heap[d]? =jT (.deferred (jT []))from⟨List.nodup_nil,λd q=>(iH q).elim⟩⟩) (λg hg=>(iH hg).elim),AE X _ _ J⟩
 have O:=h ⟨w,S,λk=>k < w.heap.size,jS⟩ (λ_ h=>h) V _ w I;refine wpIn_mono O ?_;rintro e a' w' ⟨s,⟨he,ds,h0,hm,E⟩,q,G,ψ,H,J⟩;have U:=BA J (.tmp t);rw[hm]at q;have z:=Oo (P:=P) (C:=⟨w,S,λk=>k < w.heap.size,jS⟩) (fn:=fn) (tmps:=a'.tmps) (R:=λe w'=>∃v,e= .returned v/\Zi w S [] ψ0 r v w') (n:=4) (x:=evA s.t (.tmp t)) (v:=a'.eval (.tmp t)) (λW=>fG D _ _ _) ds w' s.h G ψ (λW S ψ h1 h2=>⟨_,rfl,FP (s:=⟨s.t,s.h.set 0 .dead⟩) h1 E h2⟩) h0 H U;rcases he with rfl|rfl
 ·show bS bD 4 P fn a'.tmps _ a'.defers .returning w';rw[q];exact z
 ·show bS bD 4 P fn a'.tmps _ a'.defers .returning w';rw[q];exact z
open Go.ChangeShapes Go.WideShapes
variable{α:Type}{T:Ty α}{a:Option aV}{ds:List α}{e:eA}{k k':bR}{l:List α}{len m n off:Nat}{t':List AV}{ty:eA}{x y:cF}
def Bh(g:Nat)(cells:List AV):Res:=⟨[],λk=>k=g,λw S=>∃cs e,w.heap[g]? =jT (.cells (iV cs) e (0,0))/\Ak w S [] ψ0 cells cs,
 λh hk q hs=>let ⟨cs,e,h1,h2⟩:=h;⟨cs,e,(hk g V).trans h1,AE (Ext.grow [] ψ0 q hs) _ _ h2⟩⟩
def rowR(v:eC)(e:eA){α:Type}(T:Ty α)(l:List α):Res:=⟨[],λg=>Bz v=jT g,λw S=>∃cells,w.ownsRow 0 e T.size v l.length cells/\0 < T.size/\∀i d,l[i]? =jT d->T.RS w S ((cells.drop (i * T.size)).take T.size) d,
 λh hk z hs=>let ⟨cells,h1,h0,h2⟩:=h;⟨cells,Nw h1 λg hg=>hk g hg,h0,λi d q=>T.keepS (h2 i d q) z hs⟩⟩
section
variable{C:Ctx}{h:List ABlk}{S:Nat->Prop}{ψ:Nat->eC}{w:eG}
theorem HRel.desc{i:Nat}{b b':ABlk}{v':eC}(H:HRel C h S ψ w)(hi:h[i]? =jT b)(E:ABlk.live (jT b)=aP)(hn:∀j c,j≠i->h[j]? =jT c->nrB i c=aP)
 (hB:H8 C.N w S (h.set i b') (Bs ψ i v') v' b')(hF:∀g,ftp (jT b') v' g->ftp (jT b) (ψ i) g):HRel C (h.set i b') S (Bs ψ i v') w:=by
 have J:=(gJ.1 hi).1;refine⟨H.bel,H.nlt,H.lt,H.sub,H.new,λj c hc=>?_,λj k O hj hk g U q=>?_⟩
 ·by_cases z:j=i
  ·subst z;rw[gO J]at hc;cases hc;rw[Bo];exact hB
  ·rw[gN (jO z)]at hc;rw[BH z];have I:=H.blk j c hc;cases c with
   |dead=>trivial
   |box cells=>
    obtain⟨g,cs,e,k1,k2,k3,Z,Y⟩:=I;exact⟨g,cs,e,k1,k2,k3,Z,DQ (λk hk=>BH hk) _ _ (hn j _ z hc) Y⟩
   |row ver e T l=>exact I
   |res R=>exact I
 ·have D:∀k,ABlk.live (h.set i b')[k]? =aP->ftp (h.set i b')[k]? (Bs ψ i v' k) g->ABlk.live h[k]? =aP/\ftp h[k]? (ψ k) g:=λk hk q=>by
   by_cases G:k=i
   ·subst G;rw[gO J,Bo]at q;rw[hi];exact⟨E,hF g q⟩
   ·rw[gN (jO G)]at hk q;rw[BH G]at q;exact⟨hk,q⟩
  obtain⟨a1,a2⟩:=D j hj U;obtain⟨b1,b2⟩:=D k hk q;exact H.dis j k O a1 b1 g a2 b2
end
inductive Opn(i ver:Nat)(v:Value):List AV->List AV->Prop
 |nil:Opn i ver v [] []
 |any {x:AV} {t t':List AV} (h:Opn i ver v t t'):Opn i ver v (x::t) (.any::t')
 |keep {x:AV} {t t':List AV} (hx:Gn i x=true) (h:Opn i ver v t t'):Opn i ver v (x::t) (x::t')
 |own {t t':List AV} (h:Opn i ver v t t'):Opn i ver v (.own i ver::t) (.lit v::t')
inductive OpnB(i g:Nat):List AV->List AV->Prop
 |nil:OpnB i g [] []
 |any {x:AV} {t t':List AV} (h:OpnB i g t t'):OpnB i g (x::t) (.any::t')
 |keep {x:AV} {t t':List AV} (hx:Gn i x=true) (h:OpnB i g t t'):OpnB i g (x::t) (x::t')
 |ptr {off:Nat} {t t':List AV} (h:OpnB i g t t'):OpnB i g (.ptr i off::t) (.lit (.pointer (some ⟨g,off,none⟩))::t')
inductive Cls(i ver:Nat)(v:Value):List AV->List AV->Prop
 |nil:Cls i ver v [] []
 |any {x:AV} {t t':List AV} (h:Cls i ver v t t'):Cls i ver v (x::t) (.any::t')
 |keep {x:AV} {t t':List AV} (hx:Gn i x=true) (h:Cls i ver v t t'):Cls i ver v (x::t) (x::t')
 |own {t t':List AV} (h:Cls i ver v t t'):Cls i ver v (.lit v::t) (.own i ver::t')
def Aac(i:Nat)(h:List ABlk):Bool:=h.all λb=>nrB i b
theorem LV{i:Nat}{h:List ABlk}(q:Aac i h=aP):∀(j:Nat) (c:ABlk),j≠i->h[j]? =jT c->nrB i c=aP:=λj c _ hc=>fP.1 q c (iD hc)
theorem N9(z:Nat->eC)(k:Nat):Bs z k (z k)=z:=funext λq=>by unfold Bs;split <;> simp_all
section
variable{w:eG}{S:Nat->Prop}{h:List ABlk}{ψ:Nat->eC}{i ver g:Nat}{v:eC}{b:ABlk}
theorem Opn.rel{t:List AV}(D:Opn i ver v t t')(z:∀u,AV.rel w S h ψ (.own i ver) u->u=v):∀{cs:List eC},Ak w S h ψ t cs->Ak w S (h.set i b) ψ t' cs:=by
 induction D with
 |nil=>intro cs H;unfold Ak at H⊢;exact H
 |any _ q=>
  intro cs H;unfold Ak at H⊢;obtain⟨u,vs,e,_,h2⟩:=H;exact⟨u,vs,e,by unfold AV.rel;trivial,q h2⟩
 |keep hx _ q=>
  intro cs H;unfold Ak at H⊢;obtain⟨u,vs,e,h1,h2⟩:=H;exact⟨u,vs,e,JT (λ_ _=>rfl) _ _ hx h1,q h2⟩
 |own _ q=>
  intro cs H;unfold Ak at H⊢;obtain⟨u,vs,e,h1,h2⟩:=H;exact⟨u,vs,e,by rw[z u h1];unfold AV.rel;rfl,q h2⟩
theorem OpnB.rel{t:List AV}(D:OpnB i g t t')(z:∀off u,AV.rel w S h ψ (.ptr i off) u->u= .pointer (jT ⟨g,off,jS⟩)):∀{cs:List eC},Ak w S h ψ t cs->Ak w S (h.set i b) ψ t' cs:=by
 induction D with
 |nil=>intro cs H;unfold Ak at H⊢;exact H
 |any _ q=>
  intro cs H;unfold Ak at H⊢;obtain⟨u,vs,e,_,h2⟩:=H;exact⟨u,vs,e,by unfold AV.rel;trivial,q h2⟩
 |keep hx _ q=>
  intro cs H;unfold Ak at H⊢;obtain⟨u,vs,e,h1,h2⟩:=H;exact⟨u,vs,e,JT (λ_ _=>rfl) _ _ hx h1,q h2⟩
 |ptr _ q=>
  intro cs H;unfold Ak at H⊢;obtain⟨u,vs,e,h1,h2⟩:=H;exact⟨u,vs,e,by rw[z _ u h1];unfold AV.rel;rfl,q h2⟩
theorem Cls.rel{t:List AV}(D:Cls i ver v t t')(z:i < h.length)(E:ABlk.ver (jT b)=jT ver):∀{cs:List eC},Ak w S h ψ t cs->Ak w S (h.set i b) (Bs ψ i v) t' cs:=by
 induction D with
 |nil=>intro cs H;unfold Ak at H⊢;exact H
 |any _ q=>
  intro cs H;unfold Ak at H⊢;obtain⟨u,vs,e,_,h2⟩:=H;exact⟨u,vs,e,by unfold AV.rel;trivial,q h2⟩
 |keep hx _ q=>
  intro cs H;unfold Ak at H⊢;obtain⟨u,vs,e,h1,h2⟩:=H;exact⟨u,vs,e,JT (λ_ hk=>BH hk) _ _ hx h1,q h2⟩
 |own _ q=>
  intro cs H;unfold Ak at H⊢;obtain⟨u,vs,e,h1,h2⟩:=H;refine⟨u,vs,e,?_,q h2⟩;unfold AV.rel at h1⊢;subst h1;refine⟨by simpa using z,λc hc=>?_⟩;rw[gO z,E]at hc;cases hc;exact⟨jA _,λ_=>by rw[Bo]⟩
end
section
variable{P:cG}{C:Ctx}{t:List AV}{h:List ABlk}{c:bA}{Q:bC->St->Prop}
theorem Bw(i:Nat){cells:List AV}(hi:h[i]? =jT (.box cells))(hc:Bl cells=aP)(G:Aac i h=aP)(t':Nat->List AV)(ht:∀g,OpnB i g t (t' g))
 (Y:∀g,Awp P C c Q ⟨t' g,h.set i (.res (Bh g cells))⟩):Awp P C c Q ⟨t,h⟩:=λa w ⟨J,S,ψ,H,I⟩=>by
 obtain⟨g,cs,e,D,U,O,hg,q⟩:=H.blk i _ hi;have E:=H.desc (b':=.res (Bh g cells)) (v':=ψ i) hi V (LV G) ⟨λk hk=>by
  have hk:k=g:=hk;subst hk;exact⟨U,O,(aC.1 hg).1⟩,⟨cs,_,hg,Bn _ _ hc q⟩⟩ λk hk=>by
  have hk:k=g:=hk;subst hk;rw[D];rfl
 rw[N9]at E;refine Y g a w ⟨by rw[J];exact(DY (b':=.res (Bh g cells)) hi V).symm,S,ψ,E,(ht g).rel (λoff u z=>?_) I⟩;unfold AV.rel at z;obtain⟨Z,h1,rfl⟩:=z.2 (by rw[hi];rfl);rw[D]at h1;cases h1;rfl
theorem VS(i:Nat){ver:Nat}(hi:h[i]? =jT (.row ver e T l))(G:Aac i h=aP)(t':eC->List AV)(ht:∀v,Opn i ver v t (t' v))
 (O:∀v,Awp P C c Q ⟨t' v,h.set i (.res (rowR v e T l))⟩):Awp P C c Q ⟨t,h⟩:=λa w ⟨J,S,ψ,H,I⟩=>by
 have D:=H.blk i _ hi;have q:=D.lt V;obtain⟨cells,h1,h0,h2,h3⟩:=id D;have E:=H.desc (b':=.res (rowR (ψ i) e T l)) (v':=ψ i) hi V (LV G) ⟨λk hk=>by
  obtain⟨Z,Y,U⟩:=q k hk;exact⟨Z,U,Y⟩,⟨cells,h1,h0,h2⟩⟩ λk hk=>hk
 rw[N9]at E;refine O (ψ i) a w ⟨by rw[J];exact(DY (b':=.res (rowR (ψ i) e T l)) hi V).symm,S,ψ,E,(ht (ψ i)).rel (λu z=>?_) I⟩;unfold AV.rel at z;exact(z.2 _ (by rw[hi];rfl)).2 V
theorem IB(i:Nat){ver:Nat}{v:eC}(hi:h[i]? =jT (.res (rowR v e T l)))(z:Aac i h=aP)(ht:Cls i ver v t t'):
 St.le C ⟨t,h⟩ ⟨t',h.set i (.row ver e T l)⟩:=λa w ⟨E,S,ψ,H,D⟩=>by
 have q:=H.blk i _ hi;obtain⟨cells,h1,h0,h2⟩:=q.2;have J:=H.desc (b':=.row ver e T l) (v':=v) hi V (LV z) ⟨cells,h1,h0,h2,λg hg=>by
  obtain⟨I,G,_⟩:=q.1 g (AY hg);exact⟨I,G⟩⟩ λk hk=>hk
 exact⟨by rw[E];exact(DY (b':=.row ver e T l) hi V).symm,S,_,J,ht.rel (gJ.1 hi).1 V D⟩
end
section
variable{P:cG}{C:Ctx}{t:List AV}{h:List ABlk}{o:bZ}{K:St->Prop}
theorem Bc{i g:Nat}{cells:List AV}{r:AV}[AG P ty aM n](z:o.op= .load ty x)(hx:evA t x= .lit (.pointer (jT ⟨g,off,jS⟩)))(hi:h[i]? =jT (.res (Bh g cells)))(q:cells[off]? =jT r)(hc:AV.cl r=aP):AX P C t h o r:=
 NO z hx hi hc λw S ⟨cs,e,h1,h2⟩=>by
  obtain⟨u,E,D⟩:=Cb h2 q;exact⟨u,by simp[eH,h1,E],D⟩
theorem Ca{i g:Nat}{cells:List AV}[AG P ty aP n](z:o.op= .load ty x)(hx:evA t x= .lit (.pointer (jT ⟨g,off,jS⟩)))(hi:h[i]? =jT (.res (Bh g cells)))(hc:Bl ((cells.drop off).take n)=aP)(D:((cells.drop off).take n).length=n):AX P C t h o (.agg ((cells.drop off).take n)):=
 Gm z AG.eq hx (Lm.res (R:=Bh g cells) (rs:=(cells.drop off).take n) hi hc λw S ⟨cs,e,h1,h2⟩ j r q=>by
  rw[gP]at q;split at q
  ·rw[gG]at q;obtain⟨u,G,E⟩:=Cb h2 q;exact⟨u,by simp[eH,h1,G],E⟩
  ·cases q) (by rw[iT,Nat.min_self]) D
theorem DD{st:eA}{j b:Nat}[FO P st j n](z:o.op= .fieldAddr st x j)(hx:evA t x= .lit (.pointer (jT ⟨b,off,jS⟩))):AX P C t h o (.lit (.pointer (jT ⟨b,off+n,jS⟩))):=
 AX.fieldAddr z FO.eq hx λC S ψ w v H q=>by
  unfold AV.rel at q⊢;exact⟨b,off,q,rfl⟩
theorem Ki{ik:bR}{k b c:Nat}[ES P ty 1](z:o.op= .indexAddr ty x y)(hx:evA t x= .lit (.slice (jT ⟨b,0,jS⟩) len c))(q:evA t y= .lit (.int ik (k:Int)))(hk:k < len):
 AX P C t h o (.lit (.pointer (jT ⟨b,k,jS⟩))):=by
 have:=VI (P:=P) (C:=C) (h:=h) (n:=1) z hx q hk;rwa [jM,jH]at this
theorem IH{i g:Nat}{cells new:List AV}[SZ P ty n](U:o.op= .store ty x y)(hx:evA t x= .lit (.pointer (jT ⟨g,off,jS⟩)))(hi:h[i]? =jT (.res (Bh g cells)))(hp:Qd h (evA t y) new)(hc:Bl new=aP)(hs:n=new.length)(Y:off+new.length<=cells.length)
 (hK:K ⟨Br t o.dst (.lit undef),h.set i (.res (Bh g (cells.take off++new++cells.drop (off+new.length))))⟩):AOp P C o ⟨t,h⟩ K:=by
 refine AOp.turn (ι:=Unit) (Rs:=λ_=>Bh g (cells.take off++new++cells.drop (off+new.length))) (val:=λ_=>undef) hi (λ_=>rfl) (λS ψ w ρ H hR aa G=>?_) λ_=>hK
 have z:=G x (by rw[U];simp[bY]);have O:=G y (by rw[U];simp[bY]);rw[hx]at z;unfold AV.rel at z;obtain⟨cs,e,hg,E⟩:=hR;obtain⟨J,h1⟩:=hp C S ψ w _ H O;have D:=BB J;have Z:=BB E;have hr:=KQ (P:=P) (ty:=ty) (v:=ρ y) (off:=off) (w:=w) (by rw[SZ.eq (P:=P) (ty:=ty) (n:=n),D,hs]) hg (by rw[D,iM,Z];exact Y) h1;rw[D]at hr;have q:=Cj w g (cs.take off++(ρ y).cells.toList++cs.drop (off+new.length)).toArray;have I:∀k,S k->(w.setRow g (cs.take off++(ρ y).cells.toList++cs.drop (off+new.length)).toArray).heap[k]? =w.heap[k]?:=λk hk=>fJ _ _ _ _ λe=>((H.blk i _ hi).1 k (show k=g from e)).2.1 hk
 simp only[eR,U,z,hr,V7,zaw];refine⟨⟨q.os,q.tape,q.output,q.size,λk hk J=>q.block k hk λe=>J (by injection e)⟩,(),rfl,⟨_,e,fI w g _ _ e _ hg,?_⟩,λk hk=>?_⟩
 ·have hE:Ext w S [] ψ0 (w.setRow g (cs.take off++(ρ y).cells.toList++cs.drop (off+new.length)).toArray) S [] ψ0:=Ext.grow [] ψ0 I λ_ h=>h
  exact AE hE _ _ (BP (BP (LF E off) (Bn _ _ hc J)) (LG E _))
 ·have hk:k=g:=hk;subst hk;have h5:k < w.heap.size:=(aC.1 hg).1;exact⟨.inl V,jC h5 q.size⟩
theorem Ajc{z:eC}{bytes:Nat}(Y:o.op= .makeSlice ty x y)(J:GO P ty=jT (e,z,bytes))
 (hx:evA t x= .lit (.int k (n:Int)))(hy:evA t y= .lit (.int k' (n:Int)))(hb:bytes * n<=281474976710656)(hn:n<=fB)
 (hK:∀g,K ⟨Br t o.dst (.lit (.slice (jT ⟨g,0,jS⟩) n n)),h++[.res (Bh g (iJ n (.lit z)))]⟩):AOp P C o ⟨t,h⟩ K:=by
 refine C8 (ι:=Nat) (Rs:=λg=>Bh g (iJ n (.lit z))) (val:=λg=>.slice (jT ⟨g,0,jS⟩) n n) (λ_=>rfl) (λS ψ w ρ H I=>?_) hK;have G:=I x (by rw[Y];simp[bY]);have E:=I y (by rw[Y];simp[bY]);rw[hx]at G;rw[hy]at E;unfold AV.rel at G E;unfold GO at J;split at J <;> try(cases J;done)
 rename_i e' h1;obtain⟨i,hi,h2⟩:=jP.1 J;obtain⟨z',U,Z⟩:=jP.1 h2;split at Z <;> try(cases Z;done)
 rename_i h4;cases Z;have O:=HJ h4.2;have D:=run_make_row' (P:=P) ty e z i.bytes h1 (by rw[hi];simp[U,h4.1]) O k k' n hb (by unfold fB at hn;omega) w;rw[Pv]at D;have q:=(dW w.heap.size w).alloc (jA _) (.cells (iJ n z).toArray e);have he:(eR ρ o).run P w= .ok (.value (.slice (jT ⟨w.heap.size,0,jS⟩) n n)) (w.alloc (.cells (iJ n z).toArray e)):=by simp[eR,Y,G,E,D]
 rw[he];refine⟨⟨q.os,q.tape,q.output,q.size,λk hk _=>q.block k hk⟩,w.heap.size,rfl,⟨iJ n z,e,eY w _,?_⟩,λk hk=>?_⟩
 ·refine DV (by simp) λj x v hx hv=>?_
  rw[fX (iD hx),fX (iD hv)];unfold AV.rel;rfl
 ·have hk:k=w.heap.size:=hk;subst hk;exact⟨.inr (jA _),by simp⟩
end
def Bnd(d:Nat):Option eC->Nat->Prop
 |none,n=>n=d
 |some v,n=>∃k,v= .int k (n:Int)
section
variable{P:cG}{C:Ctx}{t:List AV}{h:List ABlk}{o:bZ}
theorem TJ{sz cap l:Nat}{lo hi:Option eC}{w:eG}(hs:PN P ty=jT sz)(E:Bnd 0 lo l)(hh:Bnd len hi m)(h1:l<=m)(h2:m<=cap):
 (bN ty (.slice a len cap) lo hi jS).run P w= .ok (.slice (if cap=l then a else a.map (·.add (l * sz))) (m - l) (cap - l)) w:=by
 unfold PN at hs;split at hs <;> try(cases hs;done)
 rename_i e G;cases z:P.info? e with
 |none=>rw[z]at hs;cases hs
 |some i=>
  rw[z]at hs;simp only[jR,jV]at hs;have H:P.elem ty=e:=by simp[Program.elem,G]
  have q:P.underlying ty=jT (.slice (P.elem ty)):=by rw[H];exact G
  have D:(fK (P.elem ty)).run P w= .ok sz w:=by rw[H];simp[fK,fM,z,hs]
  rw[run_sliceAt_slice (h:=q)];cases lo with
  |none=>
   have E:l=0:=E;subst E;cases hi with
   |none=>
    have hh:m=len:=hh;subst hh;rw[run_slice_all (ht:=q),D];simp[fL]
   |some v=>
    obtain⟨k,rfl⟩:=hh;rw[run_slice_h (ht:=q) (h0:=by omega) (h2:=by omega),D];simp[fL]
  |some u=>
   obtain⟨I,rfl⟩:=E;cases hi with
   |none=>
    have hh:m=len:=hh;subst hh;rw[run_slice_l (ht:=q) (h0:=by omega) (h1:=by omega),D];simp[fL]
   |some v=>
    obtain⟨k,rfl⟩:=hh;rw[run_slice_lh (ht:=q) (h0:=by omega) (h1:=by omega) (h2:=by omega),D];simp[fL]
theorem ZL{w:eG}{S:Nat->Prop}{c l:Nat}(h:T.slice.RS w S [.slice a n c] ds)(h1:l<=m)(h2:m<=ds.length):
 T.slice.RS w S [.slice (if c=l then a else a.map (·.add (l * T.size))) (m - l) (c - l)] ((ds.take m).drop l):=by
 obtain⟨A,O,e,I,⟨hc,G⟩,hi⟩:=h;simp only[fR,zax]at e;obtain⟨rfl,rfl,rfl⟩:=e;have q:((ds.take m).drop l).length=m - l:=by simp;omega
 refine⟨_,c - l,by rw[q],by rw[q];omega,⟨by omega,λe=>?_⟩,λi d z=>?_⟩
 ·split at e
  ·rename_i J;omega
  ·cases a with
   |none=>have:=G V;omega
   |some x=>simp at e
 ·rw[gG,gP]at z;split at z
  ·rename_i H;obtain⟨b,off,rfl,E⟩:=hi _ _ z;have D:¬c=l:=by omega
   refine⟨b,off+l * T.size,by rw[if_neg D];simp[add_plain],?_⟩;rw[show off+l * T.size+i * T.size=off+(l+i) * T.size by rw[iZ];omega];exact E
  ·cases z
def Ao5(t:List AV)(d:Nat):Option cF->Nat->Prop
 |none,n=>n=d
 |some x,n=>∃k,evA t x= .lit (.int k (n:Int))
theorem Ao5.val{d:Nat}{x:Option cF}(z:Ao5 t d x n){w:eG}{S:Nat->Prop}{ψ:Nat->eC}{ρ:cF->eC}(q:∀y,x=jT y->AV.rel w S h ψ (evA t y) (ρ y)):Bnd d (x.map ρ) n:=by
 cases x with
 |none=>exact z
 |some y=>
  obtain⟨k,hk⟩:=z;have:=q y V;rw[hk]at this;unfold AV.rel at this;exact⟨k,this⟩
theorem P9{lo hi:Option cF}{l:Nat}[ES P ty n](E:o.op= .slice ty x lo hi jS)(hx:evA t x= .bs T ds)(hs:T.size=n)(Z:Ao5 t 0 lo l)(Y:Ao5 t ds.length hi m)(h1:l<=m)(h2:m<=ds.length):
 AX P C t h o (.bs T ((ds.take m).drop l)):=
 AQ λS ψ w ρ H z=>by
  have q:=z x (by rw[E];simp[bY]);have I:=Z.val (h:=h) (w:=w) (S:=S) (ψ:=ψ) (ρ:=ρ) λy G=>z y (by rw[E,G];simp[bY])
  have O:=Y.val (h:=h) (w:=w) (S:=S) (ψ:=ψ) (ρ:=ρ) λy G=>z y (by rw[E,G];simp[bY])
  rw[hx]at q;unfold AV.rel at q;obtain⟨A,c,e⟩:=Cn q;have D:=q;rw[e]at D;have J:m<=c:=by
   obtain⟨A',c',e',h3,_⟩:=D;simp only[fR,zax]at e';omega
  have U:=TJ (P:=P) (w:=w) (a:=A) (cap:=c) (ES.eq (P:=P) (ty:=ty) (n:=n)) I O h1 J;refine⟨_,by simp[eR,E,e,U];rfl,?_⟩;unfold AV.rel;rw[<-hs];exact ZL D h1 h2
theorem Nm{q:Option cF}{i ver:Nat}{K:St->Prop}[ES P ty n](ho:o.op= .slice ty x jS q jS)(hx:evA t x= .own i ver)(hi:h[i]? =jT (.row ver e T l))(hs:T.size=n)
 (hm:Ao5 t l.length q m)(h2:m<=l.length)(hK:K ⟨Br t o.dst (.own i (ver+1)),h.set i (.row (ver+1) e T (l.take m))⟩):AOp P C o ⟨t,h⟩ K:=by
 rintro Q' a w ⟨hd,S,ψ,H,hl⟩;refine⟨λc e=>(by rw[ho]at e;cases e),?_⟩;have z:=BA hl x;have E:=hm.val (h:=h) (w:=w) (S:=S) (ψ:=ψ) (ρ:=a.eval) λy hy=>BA hl y
 rw[hx]at z;unfold AV.rel at z;have hv:=(z.2 _ (by rw[hi];rfl)).2 V;obtain⟨cells,J,h0,hR,af⟩:=H.blk i _ hi;obtain⟨v',I,D,aa,ae⟩:∃v',(bN ty (ψ i) jS (q.map a.eval) jS).run P w= .ok v' w/\w.ownsRow 0 e T.size v' m (cells.take (m * T.size))/\(∀g,v'.ownBlock=jT g->(ψ i).ownBlock=jT g)/\(∀g,Bz v'=jT g->Bz (ψ i)=jT g):=by
  obtain⟨ad,G⟩:=J;rcases G with⟨U,e2⟩|⟨g,cap,cur,U,e2,e3,e4,e5,e6,e7⟩
  ·have ab:m=0:=by omega
   subst ab;have Z:=TJ (P:=P) (w:=w) (a:=jS) (len:=0) (cap:=0) (l:=0) (m:=0) (lo:=jS) (hi:=q.map a.eval) (ES.eq (P:=P) (ty:=ty) (n:=n)) V (by rw[e2]at E;exact E) (jA _) (jA _);refine⟨.slice jS 0 0,?_,⟨by simp,.inl ⟨rfl,rfl⟩⟩,λg hg=>by simp[eF]at hg,λg hg=>by simp[Bz]at hg⟩;rw[U];simpa using Z
  ·have Z:=TJ (P:=P) (w:=w) (a:=jT ⟨g,0,jS⟩) (len:=l.length) (cap:=cap) (l:=0) (m:=m) (lo:=jS) (hi:=q.map a.eval) (ES.eq (P:=P) (ty:=ty) (n:=n)) V E (jN _) (by omega);refine⟨.slice (jT ⟨g,0,jS⟩) m cap,?_,⟨by rw[gX,ad];exact jE (jG _ h2),.inr ⟨g,cap,cur,rfl,e2,e3,by omega,e5,e6,?_⟩⟩,λg' hg=>by rw[U];exact hg,λg' hg=>by rw[U];exact hg⟩
   ·rw[U,Z];simp[add_plain]
   ·rw[<-e7,iT,jE (jG _ h2)]
 have X:Ext w S h ψ w S (h.set i (.row (ver+1) e T (l.take m))) (Bs ψ i v'):=Ext.set (λ_ _=>rfl) hi (λc' hc=>by
  simp only[ABlk.ver,jV]at hc;exact⟨ver,rfl,by omega,λe=>by omega⟩) λh=>by simp[Bd]at h
 have hB:H8 C.N w S (h.set i (.row (ver+1) e T (l.take m))) (Bs ψ i v') v' (.row (ver+1) e T (l.take m)):=by
  refine⟨cells.take (m * T.size),by rw[gX,jE h2];exact D,h0,λj d Y=>?_,λg hg=>af g (aa g hg)⟩;rw[gP]at Y;split at Y
  ·rename_i ag;have:=hR j d Y;have ac:(j+1) * T.size<=m * T.size:=jG _ (by omega);rw[iZ,jJ]at ac;rw[List.drop_take,iT,jE (by omega)];exact this
  ·cases Y
 unfold cD;simp only[eR,ho,hv,Option.map_none,I,cB,Functor.map,zaw];refine⟨_,hK,IK (s:=⟨t,h⟩) hi hd hl (H.set hi V ⟨rfl,rfl,rfl,jA _,λ_ _ _=>rfl⟩ X hB λg hg=>.inl (ae g hg)) X ?_⟩;unfold AV.rel;refine⟨by simp[(gJ.1 hi).1],λc' O=>?_⟩;rw[gO (gJ.1 hi).1]at O;simp only[ABlk.ver,jV]at O;exact⟨by omega,λ_=>by rw[Bo]⟩
theorem En{bytes:Nat}{K:St->Prop}[RT P ty e m bytes][TyOf P e α T](O:o.op= .makeSlice ty x y)(hs:T.size=m)(h0:0 < T.size)
 (hx:evA t x= .lit (.int k 0))(Y:evA t y= .lit (.int k' (n:Int)))(hb:bytes * n<=281474976710656)(U:n<=fB)(hK:K ⟨Br t o.dst (.own h.length 0),h++[.row 0 e T []]⟩):AOp P C o ⟨t,h⟩ K:=by
 rintro Q' a w ⟨hd,S,ψ,H,G⟩;refine⟨λc e=>(by rw[O]at e;cases e),?_⟩;have E:=BA G x;have D:=BA G y;rw[hx]at E;rw[Y]at D;unfold AV.rel at E D;obtain⟨h1,J,z,h2,h3,h4,h5,h6⟩:=Dk (RT.eq (P:=P) (ty:=ty) (e:=e) (n:=m) (bytes:=bytes));have I:(J.bytes:Int) *(n:Int)<=281474976710656:=by
  rw[h5];have h:((bytes * n:Nat):Int)<=281474976710656:=by omega
  rwa [Int.natCast_mul]at h
 have q:=run_make (P:=P) w ty e J z h1 h2 h3 k k' 0 n (by omega) (by omega) I (by unfold fB at U;omega);simp only[Int.toNat_natCast,Int.toNat_zero,h4]at q;unfold cD;refine AOp.newRow (s:=⟨t,h⟩) (T:=T) (l:=[]) (e:=e) (cells:=[]) (n:=0) (cap:=n) (w':=w.alloc (.cells (fA z.cells (n * m)) e)) hd H G ?_ ((dW _ _).alloc (jA _) _) ?_ h0 ?_ hK
 ·simp[eR,O,E,D,q]
 ·refine⟨by simp,.inr ⟨_,n,_,rfl,jN _,eY w _,jN _,U,by rw[hs];simp[fA],by simp⟩⟩
 ·intro j d Z;simp at Z
theorem Ab9{t:List AV}{h:List ABlk}{R:Res}(G:∀w S,R.R w S)(q:∀g,¬R.F g)(z:R.mrk= []):St.le C ⟨t,h⟩ ⟨t,h++[.res R]⟩:=λa w ⟨E,S,ψ,H,D⟩=>by
 have X:Ext w S h ψ w S (h++[.res R]) (Bs ψ h.length undef):=Ext.push _ _ λ_ _=>rfl
 have I:=H.push (b:=.res R) (v:=undef) (dW _ _) (show H8 _ _ _ _ _ _ (.res R)from⟨λg hg=>(q g hg).elim,G w S⟩) λg hg=>(q g hg).elim
 refine⟨?_,S,_,I,AE X _ _ D⟩;show a.defers=mkD (h++[.res R]);rw[Ip];show a.defers=R.mrk.map Kr++mkD h;rw[z];exact E
end
end Mu
namespace Mu
open Go Go.RowKit
variable{K':St->Prop}{g:Nat}{s:St}
section
variable{P:cG}{C:Ctx}{t t' t'':List AV}{h h' h'':List ABlk}{o:bZ}{r:AV}{ops:Array bZ}{rest:List bZ}{K:St->Prop}
theorem qt(hq:AX P C t h o r:=by(first
 |exact AX.move V (by(conv=>lhs;whnf);try rfl)
 |exact AX.assign V (by(conv=>lhs;whnf);try rfl)
 |exact Bu V V V
 |exact Cw V V
 |exact CQ V V V
 |exact DD V V
 |exact Bi V V V V
 |exact AI V V V
 |exact Bp V V V (by assumption) V
 |exact AW V V V V
 |exact D8 V V V
 |exact IG V V V V (by assumption)
 |exact H6 V V V V (by first|decide|omega) (by assumption)
 |exact JP V V V V V (by first|assumption|omega)
 |exact FW V V V V V (by first|decide|omega) (by first|assumption|omega)
 |exact Ki V V V (by first|assumption|omega)
 |exact AX.ln V V
 |exact Fq V V V
 |exact JO V V
 |exact El V V V (by omega)
 |exact EZ V V V (by omega)
 |exact H7 V V V V (by assumption)
 |exact CN V V V V
 |exact Cu V V
 |exact AX.pick V V (by(conv=>lhs;whnf);try rfl)
 |exact AX.extract V V V
 |exact Cm V V V (by rfl) (by decide) (by first|exact Fit.bool|exact Fit.bs|exact Fit.int (by assumption))
 |exact AX.max2 V V V
 |exact AX.min2 V V V
 |exact Bc (i:=1) V V V (by first|rfl|assumption) V
 |exact Bc (i:=2) V V V (by first|rfl|assumption) V
 |exact Bc (i:=3) V V V (by first|rfl|assumption) V
 |exact Bc (i:=4) V V V (by first|rfl|assumption) V
 |exact Bc (i:=5) V V V (by first|rfl|assumption) V
 |exact Bc (i:=6) V V V (by first|rfl|assumption) V
 |exact Bc (i:=7) V V V (by first|rfl|assumption) V
 |exact Bc (i:=8) V V V (by first|rfl|assumption) V
 |exact Ca (i:=1) V V V V V
 |exact Ca (i:=2) V V V V V
 |exact Ca (i:=3) V V V V V
 |exact Ca (i:=4) V V V V V
 |exact Ca (i:=5) V V V V V
 |exact Ca (i:=6) V V V V V
 |exact Ca (i:=7) V V V V V
 |exact Ca (i:=8) V V V V V)):AX P C t h o r:=hq
theorem sQ(hk:C4 P C ops K rest ⟨t',h⟩)(hq:AX P C t h o r:=by exact qt)(ht:Br t o.dst r=t':=by((try simp only[Br,zac]);exact V))(hg:gA ops t o=some true:=by rfl):C4 P C ops K (o::rest) ⟨t,h⟩:=by
 subst ht;exact Ait hg hq hk
theorem AR(hk:C4 P C ops K rest ⟨t',h⟩)(hg:gA ops t o=some false:=by rfl)(ht:Br t o.dst (.lit undef)=t':=by((try simp only[Br,zac]);exact V)):C4 P C ops K (o::rest) ⟨t,h⟩:=by
 subst ht;exact P4 hg hk
theorem Bt(hk:C4 P C ops K rest ⟨t',h'⟩)(hg:gA ops t o=some true:=by rfl)(hq:∀K':St->Prop,K' ⟨t'',h''⟩->AOp P C o ⟨t,h⟩ K':=by(intro K' q;(first
 |exact AOp.box V VN.agg q
 |exact Zm V q
 |exact CZ V V V (Nh V) V (Nat.le_of_ble_eq_true V) q
 |exact CZ (new:=[_]) V V V (Qd.one (One.lit V)) V (Nat.le_of_ble_eq_true V) q
 |exact Tf V V V V V (by first|assumption|(simp[maxLen];done)|(simp[maxLen];omega)) (by first|assumption|(simp;done)|(simp;omega)) q
 |exact CY V V V (by assumption) (by first|exact Fit.bool|exact Fit.bs|exact Fit.int (by assumption)) V q)))(ht:t''=t':=by((try simp only[Br,zac]);exact V))(hh:h''=h':=by((try simp only[Nat.reduceAdd,zab]);exact V)):C4 P C ops K (o::rest) ⟨t,h⟩:=by
 subst ht hh;exact Ay1 hg (hq _ hk)
theorem sNt(hk:C4 P C ops K rest ⟨t',h'⟩)(ht:t=t':=by((try simp only[Br,zac]);exact V))(hh:h=h':=by((try simp only[Nat.reduceAdd,zab]);exact V)):C4 P C ops K rest ⟨t,h⟩:=by
 subst ht hh;exact hk
theorem qQ{K:List AV->Prop}(hk:aQ P C ops h K rest t')(hq:AX P C t h o r:=by exact qt)(ht:Br t o.dst r=t':=by((try simp only[Br,zac]);exact V))(hg:gA ops t o=some true:=by rfl):aQ P C ops h K (o::rest) t:=by
 subst ht;exact AAu hg hq hk
theorem Hp{K:List AV->Prop}(hk:aQ P C ops h K rest t')(hg:gA ops t o=some false:=by rfl)(ht:Br t o.dst (.lit undef)=t':=by((try simp only[Br,zac]);exact V)):aQ P C ops h K (o::rest) t:=by
 subst ht;exact Ar8 hg hk
theorem oQ{K:St->Prop}(hk:K ⟨t',h⟩)(hq:AX P C t h o r:=by exact qt)(ht:Br t o.dst r=t':=by((try simp only[Br,zac]);exact V)):AOp P C o ⟨t,h⟩ K:=by
 subst ht;exact Ba hq hk
theorem Az3{K:St->Prop}(hk:K ⟨t',h'⟩)(hq:∀K':St->Prop,K' ⟨t'',h''⟩->AOp P C o ⟨t,h⟩ K':=by(intro K' q;(first
 |exact AOp.box V VN.agg q
 |exact Zm V q
 |exact CZ V V V (Nh V) V (Nat.le_of_ble_eq_true V) q
 |exact CZ (new:=[_]) V V V (Qd.one (One.lit V)) V (Nat.le_of_ble_eq_true V) q
 |exact Tf V V V V V (by first|assumption|(simp[maxLen];done)|(simp[maxLen];omega)) (by first|assumption|(simp;done)|(simp;omega)) q
 |exact CY V V V (by assumption) (by first|exact Fit.bool|exact Fit.bs|exact Fit.int (by assumption)) V q)))(ht:t''=t':=by((try simp only[Br,zac]);exact V))(hh:h''=h':=by((try simp only[Nat.reduceAdd,zab]);exact V)):AOp P C o ⟨t,h⟩ K:=by
 subst ht hh;exact hq _ hk
theorem nT{c:bA}{Q:bC->St->Prop}(hk:Awp P C c Q ⟨t',h'⟩)(ht:t=t':=by((try simp only[Br,zac]);exact V))(hh:h=h':=by((try simp only[Nat.reduceAdd,zab]);exact V)):Awp P C c Q ⟨t,h⟩:=by
 subst ht hh;exact hk
theorem B6(z:bdH h=true:=by rfl)(q:Fgt h.length t t':=by((try simp only[Br,zac]);repeat(first|exact Fgt.nil|refine Fgt.keep V ?_|refine Fgt.any ?_))):St.le C ⟨t,h⟩ ⟨t',h⟩:=XE z q
theorem Ky(hc:Cut h h')(D:bdH h'=true:=by rfl)(z:Fgt h'.length t t':=by((try simp only[Br,zac]);repeat(first|exact Fgt.nil|refine Fgt.keep V ?_|refine Fgt.any ?_)))(q:mkD h'=mkD h:=by rfl):St.le C ⟨t,h⟩ ⟨t',h'⟩:=Aiw hc D z q
theorem N7{id:Nat}{l z q:List bZ}{Q:bC->St->Prop}(n:Nat)(D:P.follows .mixedOrders=true:=by kernel_rfl)(E:Ac0 l.toArray n=true:=by kernel_rfl)(h1:l.take n=z:=by(simp only[zad];exact V))(h2:l.drop n=q:=by(simp only[zad];exact V))
 (hh:aQ P C l.toArray h (λt=>C4 P C l.toArray (Q .normal) q ⟨t,h⟩) z t):Awp P C (.region id l.toArray aP) Q ⟨t,h⟩:=by
 subst h1 h2;exact OC n D E hh
theorem BQ{listed:Array Bool}(rs:List Nat)(hh:Apb P C ops K g listed s rs)(z:Region.ready .any ops listed=rs:=by kernel_rfl)(q:rs≠[]:=by simp):V9 P C .any ops K (g+1) listed s:=Lx rs z q hh
theorem KM{listed:Array Bool}(hh:K s)(q:Region.ready .any ops listed= []:=by kernel_rfl):V9 P C .any ops K 0 listed s:=Tr q hh
theorem tC{i:Nat}{listed:Array Bool}{rs:List Nat}(h1:AOp P C o s (V9 P C .any ops K g (listed.setIfInBounds i aP)))(h2:Apb P C ops K g listed s rs)(q:ops[i]? =some o:=by(simp only[List.getElem?_cons_zero,zaq];exact V))(hg:gA ops s.t o=some true:=by rfl):Apb P C ops K g listed s (i::rs):=Ly q hg h1 h2
theorem tNt{listed:Array Bool}(hk:V9 P C .any ops K g listed ⟨t',h'⟩)(ht:t=t':=by((try simp only[Br,zac]);exact V))(hh:h=h':=by((try simp only[Nat.reduceAdd,zab]);exact V)):V9 P C .any ops K g listed ⟨t,h⟩:=by
 subst ht hh;exact hk
end
section
variable{P:cG}{C:Ctx}
theorem AOp.weak{o:bZ}{K:St->Prop}(hk:∀s,K s->K' s)(h:AOp P C o s K):AOp P C o s K':=λQ' a w H=>
 let ⟨h1,h2⟩:=h Q' a w H
 ⟨h1,cE (λ_ _ ⟨s',z,q⟩=>⟨s',hk _ z,q⟩) h2⟩
theorem DC{ops:Array bZ}{K K':St->Prop}(hk:∀s,K s->K' s):∀{l:List bZ} {s:St},C4 P C ops K l s->C4 P C ops K' l s
 | [],s,h=>hk s h
 |o::rest,s,h=>by
  obtain⟨b,hg,ht,q⟩:=h;exact⟨b,hg,λe=>(ht e).weak λs h=>DC hk h,λe=>DC hk (q e)⟩
theorem C1{ops:Array bZ}{s':St}(e:s=s'):C4 P C ops (λx=>x=s') [] s:=e
end
section
variable{P:cG}{C:Ctx}{id:Nat}{l:List bZ}{y:bA}{Q:bC->St->Prop}{t t':List AV}{h h':List ABlk}
theorem rR(hk:Q .normal ⟨t',h'⟩)(hx:C4 P C l.toArray (λs=>s=⟨t',h'⟩) l ⟨t,h⟩:=by((repeat(first|refine sQ ?_|refine AR ?_|refine Bt ?_));exact C1 V)):Awp P C (.region id l.toArray aM) Q ⟨t,h⟩:=Awp.region (DC (λs e=>by subst e;exact hk) hx)
theorem rRS(hk:Awp P C y Q ⟨t',h'⟩)(hx:C4 P C l.toArray (λs=>s=⟨t',h'⟩) l ⟨t,h⟩:=by((repeat(first|refine sQ ?_|refine AR ?_|refine Bt ?_));exact C1 V)):Awp P C (.seq (.region id l.toArray aM) y) Q ⟨t,h⟩:=Ae λ_ q=>Awp.region (DC (λs e=>by subst e;exact q _ hk) hx)
end
open Go.ChangeShapes Go.WideShapes
section
variable{P:cG}{C:Ctx}{t:List AV}{h:List ABlk}{o:bZ}
end
end Mu
namespace Mu
open Go Go.RowKit
variable{a b c:cF}{e g q:Bool}
section
variable{P:cG}{C:Ctx}{t t':List AV}{h:List ABlk}{o:bZ}{r:AV}{ops:Array bZ}{rest:List bZ}{K:St->Prop}
theorem Ayl{j:Nat}{z c:Bool}(D:o.guard=jT (j,z))(E:((ops[j]?).bind (·.dst)).bind (t[·]?)=jT (cond q (.lit (.bool c)) (.lit undef))):gA ops t o=jT (q&&(c ==z)):=by
 unfold gA;rw[D];simp only;rw[E];cases q <;> rfl
theorem ABc(hg:gA ops t o=jT g)(hq:g=aP->AX P C t h o r):Gj P C ops h o (cond g r (.lit undef)) t:=by
 cases g with
 |true=>exact .inl ⟨hg,hq V⟩
 |false=>exact .inr ⟨hg,rfl⟩
theorem sG(hk:C4 P C ops K rest ⟨t',h⟩)(hg:gA ops t o=some g:=by first|rfl|exact Ayl V V)(hq:g=true->AX P C t h o r:=by(intro hg;(try simp only[Bool.and_eq_true,beq_iff_eq]at hg);(try simp only[hg,Bool.true_and,zaj]);(first|exact AB V V V V|exact Ay V V V V|exact AX.pickOr' V V V V|exact AX.pickAnd' V V V V|exact qt)))(ht:Br t o.dst (cond g r (.lit undef))=t':=by((try simp only[Br,zac]);exact V)):C4 P C ops K (o::rest) ⟨t,h⟩:=by
 subst ht;cases g with
 |true=>exact Ait hg (hq V) hk
 |false=>exact P4 hg hk
theorem qG{K:List AV->Prop}(hk:aQ P C ops h K rest t')(hg:gA ops t o=some g:=by first|rfl|exact Ayl V V)(hq:g=true->AX P C t h o r:=by(intro hg;(try simp only[Bool.and_eq_true,beq_iff_eq]at hg);(try simp only[hg,Bool.true_and,zaj]);(first|exact AB V V V V|exact Ay V V V V|exact AX.pickOr' V V V V|exact AX.pickAnd' V V V V|exact qt)))(ht:Br t o.dst (cond g r (.lit undef))=t':=by((try simp only[Br,zac]);exact V)):aQ P C ops h K (o::rest) t:=by
 subst ht;exact⟨_,ABc hg hq,hk⟩
theorem AB(z:o.op= .pick c a b)(hc:evA t c= .lit (.bool q))(E:evA t a= .lit (.bool aP))(D:evA t b=cond (q ==aM) (.lit (.bool e)) (.lit undef)):AX P C t h o (.lit (.bool (q||e))):=by
 refine AX.pick z hc ?_;cases q
 ·exact D
 ·exact E
theorem Ay(z:o.op= .pick c a b)(hc:evA t c= .lit (.bool q))(E:evA t a=cond (q ==aP) (.lit (.bool e)) (.lit undef))(D:evA t b= .lit (.bool aM)):AX P C t h o (.lit (.bool (q&&e))):=by
 refine AX.pick z hc ?_;cases q
 ·exact D
 ·exact E
end
section
variable{P:cG}{C:Ctx}{id:Nat}{l:List bZ}{y:bA}{Q:bC->St->Prop}{t t':List AV}{h h':List ABlk}
theorem rC(hk:Q .normal ⟨t',h'⟩)(hx:C4 P C l.toArray (λs=>s=⟨t',h'⟩) l ⟨t,h⟩:=by((repeat(first|refine sQ ?_ (AB V V V V)|refine sQ ?_ (Ay V V V V)|refine sQ ?_|refine AR ?_|refine sG ?_|refine Bt ?_));exact C1 V)):Awp P C (.region id l.toArray aM) Q ⟨t,h⟩:=Awp.region (DC (λs e=>by subst e;exact hk) hx)
theorem rCS(hk:Awp P C y Q ⟨t',h'⟩)(hx:C4 P C l.toArray (λs=>s=⟨t',h'⟩) l ⟨t,h⟩:=by((repeat(first|refine sQ ?_ (AB V V V V)|refine sQ ?_ (Ay V V V V)|refine sQ ?_|refine AR ?_|refine sG ?_|refine Bt ?_));exact C1 V)):Awp P C (.seq (.region id l.toArray aM) y) Q ⟨t,h⟩:=Ae λ_ z=>Awp.region (DC (λs e=>by subst e;exact z _ hk) hx)
end
end Mu
