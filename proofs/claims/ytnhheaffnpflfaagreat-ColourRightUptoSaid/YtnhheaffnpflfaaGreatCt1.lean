/-
  Lemmas for S, part 1.
  Conditions: as each lemma says.
-/
import Derived.Lib.Hide
import Derived.ProofKit
import Derived.Test.YtnhheaffnpflfaaGreatRows
import Derived.StillTail
import Derived.Deep.AppendLies
import Derived.Deep.OwnRows
import Derived.Shelf.Small.Bits
import Derived.Shelf.Small.Wraps
import Derived.Shelf.Sort.Plain
import Derived.Shelf.Slices.Turned
import Derived.Shelf.Slices.Clone
import Derived.Shelf.Slices.SearchI
import Derived.Shelf.Slices.Cells
import Derived.Shelf.Slices.In.SortNone
import Derived.Sort.OwnSortedInts
import Derived.Deep.RegionHeld3
import Derived.Laws.AppendOwnNone
import Derived.WalkSpells
import Derived.RangeFuncNested
import Derived.RangeFuncBound
import Derived.Deep.Upon
set_option maxRecDepth 100000
set_option maxHeartbeats 2000000
set_option linter.unusedSimpArgs false
set_option linter.unusedVariables false
open Array renaming getD_eq_getD_getElem?->aA,getElem?_eq_getElem->aB,getElem?_eq_some_iff->aC,mem_append->aD,mem_toList_iff->aE,replicate->aF,setIfInBounds_comm->aG,toList_append->aH,toList_map->aI,toList_replicate->aJ,toList_setIfInBounds->aK
open Bool renaming and_eq_true->aL,false->aM,false_eq_true->aN,or_eq_true->aO,true->aP,true_eq_false->aR
open Classical renaming choose->aS,choose_spec->aT
open Decidable renaming decide->aU
open Go renaming Addr->aV,Calls->a8,Code->bA,Deferred->bB,Exit->bC,Func->bE,FuncId->bF,HeadInv->bG,IntKind->bR,LeavesInM->bS,LetsOut->bT,Oper->bZ,Operand->cF,Program->cG,Result->dV,TypeId->eA,TypeInfo->eB,Value->eC,World->eG,callFunc->eO,callsIn_wide->eP,calls_of_wp->eQ,execOp->eR,getD_both->eS,getD_in->eT,getD_replicate_false->eU,getD_set_ne->eV,getD_set_true->eW,grownBy_sortedI->eX,heap_alloc_new->eY,invoke->eZ,madeCells->fA,maxLen->fB,mem_ready->fC,ownsRow_sortedI->fD,ready_mono->fE,resolve->fF,results_tmp->fG,run_underlying->fH,setRow_heap->fI,setRow_other->fJ,sizeOf->fK,sliced->fL,typeInfo->fM,wpList->fN,zeroValue->fO
open Go.Addr renaming add->aW
open Go.Builtin renaming append_->aX,firstCells->aY,lenOf->aZ,len_->a6
open Go.Call renaming operands->a7
open Go.Fence renaming wide->bD
open Go.Instr renaming alloc->bH,buildSlice->bI,fieldAt->bJ,fill->bK,indexAt->bL,loadAt->bM,sliceAt->bN,storeAt->bO,sureAddr->bP
open Go.Lib renaming compact->bU,compactUpTo->bV,hid->bW,keeps->bX
open Go.Op renaming operands->bY
open Go.Oper renaming apart_spec->b9,semAt_eq->cA,upon->cB,uponIn->cC,wp->cD,wp_mono->cE
open Go.Proofs.Tryz renaming func44->cH,func60->cI,func61->cJ,func79->cL,isAgg0->cM,isAgg27->cN,isAgg3->cO,isAgg4->cP,ntmps44->cQ,ntmps60->cR,ntmps61->cT,ntmps79->cU,prog->cV,sizeOf0->cW,sizeOf27->cX,sizeOf3->cY,sizeOf4->cZ,underlying0->dA,underlying27->dB,underlying3->dC,underlying4->dD,underlying45->dE,underlying5->dF,underlying9->dG,zeroValue0->dH,zeroValue27->dI,zeroValue3->dJ,zeroValue4->dK
open Go.Region renaming Mode->dL,binds->dM,free->dN,free_spec->dO,lexHead->dP,noSelect->dQ,ready->dR,seqB->dT,wanted->dU
open Go.RowKit.Below renaming refl->dW
open Go.Sem renaming run_bind->dX,run_pure->dY
open Go.Shelf renaming Ren->dZ
open Go.Value renaming int->eD,oneCell'->eE,ownBlock->eF
open Go.World renaming cell?->eH,cell?_of_block->eI,ownsRow_nil->eM,putObj_heap_other->eN
open Go.World.grownBy renaming refl->eJ
open Go.World.ownsRow renaming cells->eK,lt->eL
open List renaming all_eq_true->fP,append_nil->fQ,cons_append->fS,drop_append_of_le_length->fT,drop_eq_nil_of_le->fU,drop_zero->fV,eq_nil_of_length_eq_zero->fW,eq_of_mem_replicate->fX,ext_getElem?->fY,filterMap_cons->fZ,getD->gB,getElem?_append_left->gC,getElem?_append_right->gD,getElem?_concat_length->gE,getElem?_cons_zero->gF,getElem?_drop->gG,getElem?_eq_getElem->gH,getElem?_eq_none->gI,getElem?_eq_some_iff->gJ,getElem?_map->gK,getElem?_replicate->gL,getElem?_set_ne->gN,getElem?_set_self->gO,getElem?_take->gP,getElem?_take_of_lt->gQ,getElem_mem->gR,length_append->gT,length_cons->gU,length_map->gV,length_nil->gW,length_take->gX,map_cons->gY,map_nil->gZ,mem_append->g8,mem_cons->g9,mem_cons_of_mem->hZ,mem_filter->iA,mem_iff_getElem?->iB,mem_map->iC,mem_of_getElem?->iD,mem_range->iE,mem_toArray->iF,nil_append->iG,not_mem_nil->iH,range->iI,replicate->iJ,set_cons_succ->iK,set_cons_zero->iL,size_toArray->iM,take_add_one->iN,take_append_drop->iO,take_append_of_le_length->iP,take_length->iQ,take_of_length_le->iR,take_succ_eq_append_getElem->iS,take_take->iT,take_zero->iU,toArray->iV,zipIdx_cons->iW
open List.cons renaming injEq->fR
open Nat renaming add_assoc->iX,add_comm->iY,add_mul->iZ,eq_zero_or_pos->i6,le_max_left->i7,le_max_right->i8,le_of_not_lt->i9,le_refl->jA,le_trans->jB,lt_of_lt_of_le->jC,lt_or_ge->jD,min_eq_left->jE,mul_le_mul_left->jF,mul_le_mul_right->jG,mul_one->jH,mul_pos->jI,one_mul->jJ,strongRecOn->jK,succ_mul->jL,zero_add->jM,zero_le->jN
open Ne renaming symm->jO
open Option renaming bind_eq_some_iff->jP,map_eq_some_iff->jQ,map_some->jR,none->jS,some->jT
open Option.some renaming inj->jU,injEq->jV
abbrev Mu.zax:=And.intro @Go.Value.slice.injEq (@and_true)
abbrev Mu.zas:=And.intro @aL (@Bool.not_eq_true')
abbrev Mu.zao.{u}:=And.intro @aH.{u} (And.intro @aJ.{u} (@iM.{u}))
abbrev Mu.zaa.{u}:=And.intro @gU.{u} (And.intro @gW.{u} (And.intro @List.replicate_succ.{u} (And.intro @List.replicate_zero.{u} (And.intro @fS.{u} (@iG.{u})))))
abbrev Mu.zam:=And.intro @Go.Sem.run_bind (And.intro @Go.Sem.run_pure (@Go.Result.andThen_ok))
abbrev Mu.zav:=And.intro @Go.Sem.run_bind (And.intro @Go.Result.andThen_ok (@Go.Sem.run_pure))
abbrev Mu.zar:=And.intro @Go.Sem.run_bind (And.intro @Go.run_program (And.intro @Go.Result.andThen_ok (@Go.Sem.run_pure)))
abbrev Mu.zak.{u}:=And.intro @g9.{u} (@iH.{u})
abbrev Mu.zaf:=And.intro @aL (@decide_eq_true_eq)
abbrev Mu.zat:=And.intro @aO (@decide_eq_true_eq)
abbrev Mu.zac.{u}:=And.intro @iL.{u} (@iK.{u})
abbrev Mu.zab.{u}:=And.intro @iG.{u} (And.intro @fS.{u} (And.intro @iL.{u} (And.intro @iK.{u} (And.intro @gW.{u} (@gU.{u})))))
abbrev Mu.zad.{u}:=And.intro @List.take_succ_cons.{u} (And.intro @iU.{u} (And.intro @List.drop_succ_cons.{u} (And.intro @fV.{u} (And.intro @List.take_nil.{u} (@List.drop_nil.{u})))))
abbrev Mu.zaq.{u}:=And.intro @List.getElem?_toArray.{u} (@List.getElem?_cons_succ.{u})
theorem Mu.V.{u}{α:Sort u}{a:α}:a=a:=rfl
namespace Mu
variable{c:Bool}{n:Nat}{p:Bool}
structure M(α:Type) where
 run:Nat->Option α
 mono:∀n a,run n=some a->run (n+1)=some a
namespace M
variable{α β σ ρ:Type}
def to(x:M α)(a:α):Prop:=∃n,x.run n=jT a
theorem le(x:M α){m:Nat}{a:α}(h:n<=m)(hx:x.run n=jT a):x.run m=jT a:=by
 induction h with
 |refl=>exact hx
 |step _ b=>exact x.mono _ _ b
theorem to_inj{x:M α}{a b:α}(h:x.to a)(k:x.to b):a=b:=by
 obtain⟨n,d⟩:=h;obtain⟨m,e⟩:=k;have h1:=x.le (i7 n m) d;have h2:=x.le (i8 n m) e;rw[h1]at h2;exact jU h2
def ok(a:α):M α:=⟨λ_=>jT a,λ_ _ h=>h⟩
def no:M α:=⟨λ_=>jS,λ_ _ h=>h⟩
def bnd(x:M α)(f:α->M β):M β:=⟨λn=>(x.run n).bind λa=>(f a).run n,λn b h=>by
 cases hx:x.run n with
 |none=>rw[hx]at h;cases h
 |some a=>
  rw[hx]at h;rw[x.mono _ _ hx];exact(f a).mono _ _ h⟩
def chk(p:Bool)(x:M α):M α:=bif p then x else no
def cnd(c:Bool)(x y:M α):M α:=bif c then x else y
def whn(c:Bool)(d:α)(x:M α):M α:=bif c then x else ok d
def els(x:M (α⊕β))(f:α->M β):M β:=bnd x fun| .inl a=>f a| .inr b=>ok b
def loopR(step:σ->M (σ⊕ρ))(n:Nat):Nat->σ->Option ρ
 |0,_=>jS
 |k+1,s=>((step s).run n).bind fun| .inl a=>loopR step n k a| .inr r=>jT r
theorem loopR_mono{step:σ->M (σ⊕ρ)}{n:Nat}{r:ρ}:∀{k:Nat} {s:σ},loopR step n k s=jT r->loopR step (n+1) (k+1) s=jT r
 |0,_,h=>by cases h
 |k+1,s,h=>by
  unfold loopR at h⊢;cases hx:(step s).run n with
  |none=>rw[hx]at h;cases h
  |some x=>
   rw[hx]at h;rw[(step s).mono _ _ hx];cases x with
   |inl a=>exact loopR_mono (k:=k) h
   |inr b=>exact h
def loop(step:σ->M (σ⊕ρ))(s:σ):M ρ:=⟨λn=>loopR step n n s,λ_ _ h=>loopR_mono h⟩
theorem to_ok{a b:α}:(ok a).to b↔a=b:=⟨λ⟨_,h⟩=>jU h,λh=>⟨0,congrArg jT h⟩⟩
theorem ok_to(a:α):(ok a).to a:=to_ok.2 V
theorem to_no{a:α}:¬(no:M α).to a:=λ⟨_,h⟩=>by cases h
theorem to_bnd{x:M α}{f:α->M β}{b:β}:(bnd x f).to b↔∃a,x.to a/\(f a).to b:=by
 constructor
 ·rintro⟨n,h⟩;have h:(x.run n).bind (λa=>(f a).run n)=jT b:=h;cases hx:x.run n with
  |none=>rw[hx]at h;cases h
  |some a=>
   rw[hx]at h;exact⟨a,⟨n,hx⟩,⟨n,h⟩⟩
 ·rintro⟨a,⟨n,d⟩,⟨m,e⟩⟩;refine⟨max n m,?_⟩;show(x.run (max n m)).bind _=_;rw[x.le (i7 n m) d];exact(f a).le (i8 n m) e
theorem bnd_to{x:M α}{f:α->M β}{a:α}{b:β}(h:x.to a)(k:(f a).to b):(bnd x f).to b:=to_bnd.2 ⟨a,h,k⟩
theorem to_chk{x:M α}{a:α}:(chk p x).to a↔p=aP/\x.to a:=by
 cases p
 ·exact⟨λh=>(to_no h).elim,λh=>by cases h.1⟩
 ·exact⟨λh=>⟨rfl,h⟩,λh=>h.2⟩
theorem chk_to{x:M α}{a:α}(h:p=aP)(k:x.to a):(chk p x).to a:=to_chk.2 ⟨h,k⟩
theorem to_t{x y:M α}{a:α}(hc:c=aP)(h:(cnd c x y).to a):x.to a:=by subst hc;exact h
theorem to_f{x y:M α}{a:α}(hc:c=aM)(h:(cnd c x y).to a):y.to a:=by subst hc;exact h
theorem t_to{x y:M α}{a:α}(hc:c=aP)(h:x.to a):(cnd c x y).to a:=by subst hc;exact h
theorem f_to{x y:M α}{a:α}(hc:c=aM)(h:y.to a):(cnd c x y).to a:=by subst hc;exact h
theorem to_whn{d:α}{x:M α}{a:α}(h:(whn c d x).to a)(hc:c=aP):x.to a:=by subst hc;exact h
theorem whn_t{d:α}{x:M α}{a:α}(hc:c=aP)(h:x.to a):(whn c d x).to a:=by subst hc;exact h
theorem whn_f{d:α}{x:M α}(hc:c=aM):(whn c d x).to d:=by subst hc;exact ok_to d
theorem to_els{x:M (α⊕β)}{f:α->M β}{b:β}(h:(els x f).to b):∃z,x.to z/\(∀a,z= .inl a->(f a).to b)/\∀b',z= .inr b'->b'=b:=by
 obtain⟨z,h1,h2⟩:=to_bnd.1 h;refine⟨z,h1,λa e=>?_,λb' e=>?_⟩
 ·subst e;exact h2
 ·subst e;exact to_ok.1 h2
theorem els_l{x:M (α⊕β)}{f:α->M β}{a:α}{b:β}(h:x.to (.inl a))(k:(f a).to b):(els x f).to b:=to_bnd.2 ⟨.inl a,h,k⟩
theorem els_r{x:M (α⊕β)}{f:α->M β}{b:β}(h:x.to (.inr b)):(els x f).to b:=to_bnd.2 ⟨.inr b,h,ok_to b⟩
inductive Rounds(step:σ->M (σ⊕ρ)):Nat->σ->ρ->Prop
 |out {k:Nat} {s:σ} {r:ρ}:(step s).to (.inr r)->Rounds step k s r
 |on {k:Nat} {s s':σ} {r:ρ}:(step s).to (.inl s')->Rounds step k s' r->Rounds step (k+1) s r
theorem rounds_of{step:σ->M (σ⊕ρ)}{n:Nat}{r:ρ}:∀{k:Nat} {s:σ},loopR step n k s=jT r->Rounds step k s r
 |0,_,h=>by cases h
 |k+1,s,h=>by
  unfold loopR at h;cases hx:(step s).run n with
  |none=>rw[hx]at h;cases h
  |some x=>
   rw[hx]at h;cases x with
   |inl a=>exact .on ⟨n,hx⟩ (rounds_of (k:=k) h)
   |inr b=>cases h;exact .out ⟨n,hx⟩
theorem loop_unf{step:σ->M (σ⊕ρ)}{s:σ}{r:ρ}{x:σ⊕ρ}(h:(step s).to x)(j:∀a,x= .inl a->(loop step a).to r)(i:∀b,x= .inr b->b=r):(loop step s).to r:=by
 obtain⟨n,hx⟩:=h;cases x with
 |inr b=>
  refine⟨n+1,?_⟩;show loopR step (n+1) (n+1) s=jT r;unfold loopR;rw[(step s).mono _ _ hx,<-i b V];rfl
 |inl a=>
  obtain⟨m,f⟩:=j a V;have f:loopR step m m a=jT r:=f;have up:∀d,loopR step (m+d) (m+d) a=jT r:=λd=>by
   induction d with
   |zero=>exact f
   |succ d e=>exact loopR_mono e
  refine⟨m+n+1,?_⟩;show loopR step (m+n+1) (m+n+1) s=jT r;unfold loopR;rw[(step s).le (by omega) hx];have g:∀{k q:Nat} {s:σ},loopR step q k s=jT r->loopR step (q+1) k s=jT r:=by
   intro k;induction k with
   |zero=>intro q s h;cases h
   |succ k e=>
    intro q s h;unfold loopR at h⊢;cases hx:(step s).run q with
    |none=>rw[hx]at h;cases h
    |some x=>
     rw[hx]at h;rw[(step s).mono _ _ hx];cases x with
     |inl a=>exact e h
     |inr b=>exact h
  exact g (up n)
theorem loop_in{step:σ->M (σ⊕ρ)}{s b:σ}{r:ρ}(h:(step s).to (.inl b))(k:(loop step b).to r):(loop step s).to r:=loop_unf h (λa e=>by cases e;exact k) λa e=>by cases e
theorem loop_out{step:σ->M (σ⊕ρ)}{s:σ}{r:ρ}(h:(step s).to (.inr r)):(loop step s).to r:=loop_unf h (λa e=>by cases e) λa e=>by cases e;rfl
theorem to_loop{step:σ->M (σ⊕ρ)}{s:σ}{r:ρ}:(loop step s).to r↔∃k,Rounds step k s r:=by
 constructor
 ·rintro⟨n,h⟩;exact⟨n,rounds_of h⟩
 ·rintro⟨k,h⟩;induction h with
  |out h=>exact loop_out h
  |on h _ a=>exact loop_in h a
theorem loop_for{step:σ->M (σ⊕ρ)}(F:Nat->σ)(n:Nat){r:ρ}(a:∀k,k < n->(step (F k)).to (.inl (F (k+1))))(b:(step (F n)).to (.inr r)):∀{j:Nat},j<=n->(loop step (F j)).to r:=by
 intro j g;obtain⟨d,rfl⟩:∃d,n=j+d:=⟨n - j,by omega⟩
 induction d generalizing j with
 |zero=>exact loop_out b
 |succ d f=>
  refine loop_in (a j (by omega)) (f (j:=j+1) ?_ ?_ ?_)
  ·intro k hk;exact a k (by omega)
  ·have e:j+1+d=j+(d+1):=by omega
   rw[e];exact b
  ·omega
theorem loop_inv{step:σ->M (σ⊕ρ)}(I:σ->Prop)(b:σ->Nat)(Q:ρ->Prop)(h:∀s,I s->∃x,(step s).to x/\(∀a,x= .inl a->I a/\b a < b s)/\∀r,x= .inr r->Q r):∀s,I s->∃r,(loop step s).to r/\Q r:=by
 intro s;generalize l:b s=n;induction n using jK generalizing s with
 |_ n e=>
  intro f;obtain⟨x,h1,h2,j⟩:=h s f;cases x with
  |inr r=>exact⟨r,loop_out h1,j r V⟩
  |inl a=>
   obtain⟨d,k⟩:=h2 a V;obtain⟨r,i,g⟩:=e (b a) (by omega) a V d;exact⟨r,loop_in h1 i,g⟩
end M
abbrev Ah:=@M.to_chk
abbrev Ad:=@M.to_ok
abbrev Aj:=@M.ok_to
abbrev Af:=@M.chk_to
abbrev Am:=@M.bnd_to
abbrev Aq:=@M.to_bnd
abbrev AI:=@M.t_to
abbrev AJ:=@M.f_to
abbrev AN:=@M.to_t
abbrev AO:=@M.to_f
abbrev BW:=@M.whn_t
abbrev Nw:=@M.to_loop
abbrev B9:=@M.loop_for
abbrev Xh:=@M.to_inj
abbrev CH:=@M.to_els
end Mu
namespace Mu
open Go Go.RowKit Go.ChangeShapes Go.WideShapes
variable{B:Nat}{P:cG}{S:Nat->Prop}{b:Nat}{cs:List eC}{fs:List Field}{o off:Nat}{t:eA}{w w':eG}
def M4(w:eG)(b o:Nat)(cs:List eC):Prop:=∀j u,cs[j]? =jT u->w.cell? ⟨b,o+j,jS⟩=jT u
theorem M4.keep(h:M4 w b o cs)(e:w'.heap[b]? =w.heap[b]?):M4 w' b o cs:=
 λj u d=>(eI (w:=w) (a:=⟨b,o+j,jS⟩) e).trans (h j u d)
structure Ty(α:Type) where
 size:Nat
 bulk:α->Nat
 RS:World->(Nat->Prop)->List Value->α->Prop
 len:∀{w S cs d},RS w S cs d->cs.length=size
 keepS:∀{w w':World} {S S':Nat->Prop} {cs d},RS w S cs d->(∀k,S k->w'.heap[k]? =w.heap[k]?)->(∀k,S k->S' k)->RS w' S' cs d
variable{α β:Type}
def Ty.R(T:Ty α)(w:eG)(B:Nat)(cs:List eC)(d:α):Prop:=T.RS w (λk=>k < B) cs d
theorem Ty.keep{T:Ty α}{a:Nat}{cs d}(h:T.R w B cs d)(e:∀k,k < B->w'.heap[k]? =w.heap[k]?)(f:B<=a):T.R w' a cs d:=
 T.keepS h e (λ_ hk=>jC hk f)
theorem Ayb{T:Ty α}{cs d}(h:T.RS w S cs d)(a:∀k,S k->k < B):T.R w B cs d:=T.keepS h (λ_ _=>rfl) a
theorem Ty.below{T:Ty α}{cs d}(h:T.R w B cs d)(a:Below B w w')(e:B<=w'.heap.size):T.R w' w'.heap.size cs d:=
 T.keep h a.block e
def Ty.AtS(T:Ty α)(w:eG)(S:Nat->Prop)(b o:Nat)(d:α):Prop:=S b/\∃cs,T.RS w S cs d/\M4 w b o cs
def Ty.At(T:Ty α)(w:eG)(B b o:Nat)(d:α):Prop:=T.AtS w (λk=>k < B) b o d
theorem Ty.AtS.keep{T:Ty α}{S':Nat->Prop}{d:α}(h:T.AtS w S b o d)(a:∀k,S k->w'.heap[k]? =w.heap[k]?)(e:∀k,S k->S' k):T.AtS w' S' b o d:=
 let ⟨h1,cs,h2,f⟩:=h
 ⟨e b h1,cs,T.keepS h2 a e,f.keep (a b h1)⟩
def Ty.int(k:bR):Ty Int where
 size:=1
 bulk:=λ_=>1
 RS:=λ_ _ cs d=>cs= [.int k d]/\(Lit.int k d).wf=aP
 len:=by rintro _ _ _ _ ⟨rfl,_⟩;rfl
 keepS:=λh _ _=>h
def Ty.bool:Ty Bool where
 size:=1
 bulk:=λ_=>1
 RS:=λ_ _ cs d=>cs= [.bool d]
 len:=by rintro _ _ _ _ rfl;rfl
 keepS:=λh _ _=>h
def Vl:Ty ByteArray where
 size:=1
 bulk:=λs=>s.size+1
 RS:=λ_ _ cs d=>cs= [.string d]/\d.size<=fB
 len:=by rintro _ _ _ _ ⟨rfl,_⟩;rfl
 keepS:=λh _ _=>h
def DU(f:α->Nat):List α->Nat
 | []=>0
 |x::l=>f x+DU f l
theorem U3(f:α->Nat)(l m:List α):DU f (l++m)=DU f l+DU f m:=by
 induction l with
 |nil=>simp[DU]
 |cons x l a=>simp only[fS,DU,a];omega
theorem U2{f:α->Nat}{l:List α}{x:α}(h:x∈l):f x<=DU f l:=by
 induction l with
 |nil=>cases h
 |cons y l a=>
  unfold DU;cases h with
  |head=>omega
  |tail _ h=>have:=a h;omega
theorem Ee{f:α->Nat}(a:∀x,1<=f x)(l:List α):l.length<=DU f l:=by
 induction l with
 |nil=>simp[DU]
 |cons y l d=>unfold DU;have:=a y;simp only[gU];omega
def Ty.slice(T:Ty α):Ty (List α) where
 size:=1
 bulk:=λds=>DU T.bulk ds+1
 RS:=λw S cs ds=>∃A c,cs= [.slice A ds.length c]/\ds.length<=c/\(c<=fB/\(A=jS->c=0))/\∀i d,ds[i]? =jT d->∃b o,A=jT ⟨b,o,jS⟩/\T.AtS w S b (o+i * T.size) d
 len:=by rintro _ _ _ _ ⟨A,c,rfl,_⟩;rfl
 keepS:=by
  rintro w w' S S' cs ds ⟨A,c,rfl,a,hc,hi⟩ f g;refine⟨A,c,rfl,a,hc,λi d e=>?_⟩;obtain⟨b,o,rfl,h⟩:=hi i d e;exact⟨b,o,rfl,h.keep f g⟩
theorem Ty.slice_nilS(T:Ty α)(w:eG)(S:Nat->Prop):T.slice.RS w S [.slice jS 0 0] []:=⟨jS,0,rfl,jA _,⟨jN _,λ_=>rfl⟩,by simp⟩
theorem Ty.slice_nil(T:Ty α)(w:eG)(B:Nat):T.slice.R w B [.slice jS 0 0] []:=T.slice_nilS w _
def Dj:Ty Unit where
 size:=0
 bulk:=λ_=>0
 RS:=λ_ _ cs _=>cs= []
 len:=by rintro _ _ _ _ rfl;rfl
 keepS:=λh _ _=>h
def Ty.cons(T:Ty α)(U:Ty β):Ty (α×β) where
 size:=T.size+U.size
 bulk:=λd=>T.bulk d.1+U.bulk d.2
 RS:=λw S cs d=>∃e a,cs=e++a/\T.RS w S e d.1/\U.RS w S a d.2
 len:=by
  rintro _ _ _ _ ⟨e,a,rfl,h1,h2⟩;rw[gT,T.len h1,U.len h2]
 keepS:=by
  rintro w w' S S' cs d ⟨e,a,rfl,h1,h2⟩ f g;exact⟨e,a,rfl,T.keepS h1 f g,U.keepS h2 f g⟩
def Ty.via(U:Ty β)(f:β->α)(g:α->β):Ty α where
 size:=U.size
 bulk:=λd=>U.bulk (g d)+1
 RS:=λw S cs d=>U.RS w S cs (g d)/\f (g d)=d
 len:=λh=>U.len h.1
 keepS:=λh a e=>⟨U.keepS h.1 a e,h.2⟩
def FA{H:Type}:DataW H->Nat
 | .lit (.string bytes)=>bytes.length+1
 | .slice e a=>go e+go a+1
 | .agg d=>go d+1
 |_=>1
where go:List (DataW H)->Nat
 | []=>0
 |d::r=>FA d+go r
theorem Pz{H:Type}(l m:List (DataW H)):FA.go (l++m)=FA.go l+FA.go m:=by
 induction l with
 |nil=>simp[FA.go]
 |cons x l a=>simp only[fS,FA.go,a];omega
structure Opens(P:Program)(t:TypeId)(T:Ty α):Prop where
 go:∀(H:Type) (enc:TypeId×Value->H) (w:World) (base:Nat) (spare:Nat->Bool) (held:Bool) (n:Nat) (cs:List Value) (x:DataW H×List MemPlace) (B:Nat),
  DataW.trod enc P w base spare held n t cs=some x->(∀p∈x.2,p.block < B)->∃d,T.R w B cs d/\T.bulk d<=FA x.1
theorem I8{k:bR}(ht:P.underlying t=jT (.int k)):Opens P t (Ty.int k):=by
 refine⟨λH enc=>?_⟩;intro w base a d n cs x B h _;obtain⟨m,rfl,rfl,e⟩:=DataW.trod_int ht h;exact⟨m,⟨rfl,e⟩,by simp[Ty.int,FA]⟩
theorem ZL(ht:P.underlying t=jT .bool):Opens P t Ty.bool:=by
 refine⟨λH enc=>?_⟩;intro w base a d n cs x B h _;obtain⟨m,rfl,rfl⟩:=DataW.trod_bool ht h;exact⟨m,rfl,by simp[Ty.bool,FA]⟩
theorem TX(ht:P.underlying t=jT .string):Opens P t Vl:=by
 refine⟨λH enc=>?_⟩;intro w base a d n cs x B h _;obtain⟨s,rfl,rfl,e⟩:=DataW.trod_string ht h;refine⟨s,⟨rfl,e⟩,?_⟩;have:s.data.toList.length=s.size:=by rw[Array.length_toList];rfl
 show s.size+1<=s.data.toList.length+1;omega
theorem MU{base n:Nat}{a:aV}(h:w.cells? base a n=jT cs)(m:0 < n):a.spot=jS/\M4 w a.block a.off cs:=by
 obtain⟨v,r,d⟩:=World.cells?_some h;have g:a.spot=jS:=by
  have h0:=d 0 m;rw[show a.add 0=a from by simp[aW]]at h0;have l:cs[0]? =jT (cs[0]'(by omega)):=gH (by omega);rw[l]at h0;unfold eH at h0;split at h0
  ·split at h0
   ·cases h0
   ·rename_i f;cases e:a.spot with
    |none=>rfl
    |some z=>simp[e]at f
  ·cases h0
 refine⟨g,λj u i=>?_⟩;have q:j < n:=by
  have:=(gJ.1 i).1;omega
 have:=d j q;rw[i]at this;rw[<-this];congr 1;obtain⟨b,o,s⟩:=a;simp only at g;subst g;unfold aW;by_cases k:j=0 <;> simp[k]
theorem H8{e:eA}{T:Ty α}(ht:P.underlying t=jT (.slice e))(hC:P.cellsOf e=T.size)(J:0 < T.size)(he:Opens P e T):Opens P t T.slice:=by
 refine⟨λH enc=>?_⟩;intro w base q C n cs x B h hB;rcases DataW.trod_slice ht h with⟨rfl,rfl⟩|⟨a,len,cap,f,u,m,_,rfl,rfl,hb,hl,hm,Z,W,aa,ab⟩
 ·exact⟨[],T.slice_nil w B,by simp[Ty.slice,DU,FA]⟩
 ·have z:∀i,i < len->∃d,(a.add (i * T.size)).spot=jS/\T.At w B (a.add (i * T.size)).block (a.add (i * T.size)).off d/\∃y,f[i]? =jT y/\T.bulk d<=FA y.1:=by
   intro i hi;have A:=W i hi;have I:f[i]? =jT (f[i]'(by omega)):=gH (by omega);rw[I,hC]at A;obtain⟨G,h1,h2⟩:=jP.1 A;obtain⟨Q,r⟩:=MU h1 J;obtain⟨d,K,F⟩:=he.go H enc w base q C m G _ B h2 (λp J=>hB p (by
    simp only[g8,List.mem_flatMap];exact .inr ⟨f[i]'(by omega),.inl (gR _),J⟩))
   refine⟨d,Q,⟨?_,G,K,r⟩,_,I,F⟩;have E:(a.add (i * T.size)).block=a.block:=by unfold aW;split <;> rfl
   rw[E];refine hB (.cell a.block a.off) ?_;simp only[g8];left;rw[hC];have v:0 < (f.length+u.length) * T.size:=jI (by omega) J;exact iC.2 ⟨0,by simpa using v,by simp⟩
  have L:∀k,k<=len->∃ds:List α,ds.length=k/\DU T.bulk ds<=FA.go ((f.take k).map (·.1))/\∀i d,ds[i]? =jT d->(a.add (i * T.size)).spot=jS/\T.At w B (a.add (i * T.size)).block (a.add (i * T.size)).off d:=by
   intro k;induction k with
   |zero=>exact λ_=>⟨[],rfl,by simp[DU],by simp⟩
   |succ k ih=>
    intro hk;obtain⟨ds,g,D,l⟩:=ih (by omega);obtain⟨d,Q,r,y,I,F⟩:=z k (by omega);refine⟨ds++[d],by simp[g],?_,?_⟩
    ·rw[iN,I,U3];simp only[Option.toList_some,List.map_append,Pz,gY,gZ,DU,FA.go];omega
    ·intro i d' j;by_cases hi:i < k
     ·exact l i d' (by rwa [gC (by omega)]at j)
     ·have U:i=k:=by
       have:=(gJ.1 j).1;simp[g]at this;omega
      subst U;rw[gD (by omega),g]at j;simp at j;subst j;exact⟨Q,r⟩
  obtain⟨ds,g,D,l⟩:=L len (jA _);refine⟨ds,⟨jT a,cap,by rw[g],by omega,⟨hm,λe=>by cases e⟩,λi d K=>?_⟩,?_⟩
  ·have h0:∃Y,ds[0]? =jT Y:=by
    have:=(gJ.1 K).1;exact⟨ds[0]'(by omega),gH (by omega)⟩
   obtain⟨Y,X⟩:=h0;have O:=(l 0 Y X).1;obtain⟨b,o,s⟩:=a;have:s=jS:=by simpa[aW]using O
   subst this;refine⟨b,o,rfl,?_⟩;have:=(l i d K).2;rwa [add_plain]at this
  ·have N:f.take len=f:=iR (by omega);rw[N]at D;simp only[Ty.slice,FA];omega
structure OpensF(P:Program)(fs:List Field)(off:Nat)(U:Ty β):Prop where
 go:∀(H:Type) (enc:TypeId×Value->H) (w:World) (base:Nat) (spare:Nat->Bool) (held:Bool) (n:Nat) (cs:List Value) (ys:List (DataW H×List MemPlace)) (B:Nat),
  cs.length=off+U.size->ys.length=fs.length->
  (∀(j:Nat) (f:Field),fs[j]? =some f->DataW.trod enc P w base spare held n f.type ((cs.drop f.offset).take (P.cellsOf f.type))=ys[j]?)->
  (∀p∈ys.flatMap (·.2),p.block < B)->∃d,U.R w B (cs.drop off) d/\U.bulk d<=FA.go (ys.map (·.1))
theorem JN:OpensF P [] off Dj:=by
 refine⟨λH enc=>?_⟩;intro w base a e n cs ys B d f _ _;refine⟨(),?_,jN _⟩;have:cs.length<=off:=by simp[Dj]at d;omega
 exact fU this
theorem BE{f:Field}{T:Ty α}{U:Ty β}(r:f.offset=off)(C:P.cellsOf f.type=T.size)(A:Opens P f.type T)(z:OpensF P fs (off+T.size) U):
 OpensF P (f::fs) off (T.cons U):=by
 refine⟨λH enc=>?_⟩;intro w base a h n cs ys B l i m q;match ys,i with
 |y::ys,i=>
  have h0:=m 0 f V;rw[r,C]at h0;simp only[gF]at h0;obtain⟨d,u,x⟩:=A.go H enc w base a h n _ y B h0 (λp k=>q p (by simp;exact .inl k));obtain⟨e,s,v⟩:=z.go H enc w base a h n cs ys B (by simp[Ty.cons]at l;omega) (by simpa using i)
   (λj g hg=>by have:=m (j+1) g (by simpa using hg);simpa using this) (λp k=>q p (by simp only[List.flatMap_cons,g8];exact .inr k))
  refine⟨(d,e),⟨_,_,?_,u,s⟩,?_⟩
  ·rw[<-List.drop_drop];exact(iO T.size (cs.drop off)).symm
  ·simp only[Ty.cons,gY,FA.go];omega
theorem Gm{U:Ty β}{f:β->α}{g:α->β}(ht:P.underlying t=jT (.struct fs.toArray))(y:P.cellsOf t=U.size)(u:OpensF P fs 0 U)(e:∀b,g (f b)=b):
 Opens P t (U.via f g):=by
 refine⟨λH enc=>?_⟩;intro w base a i n cs x B h v;obtain⟨ys,m,_,rfl,l,k,r⟩:=DataW.trod_struct ht h;obtain⟨d,q,s⟩:=u.go H enc w base a i m cs ys B (by omega) (by simpa using k) (λj g hg=>r j g (by simpa using hg)) v;refine⟨f d,⟨?_,by rw[e]⟩,?_⟩
 ·rw[e];rw[fV]at q;exact q
 ·simp only[Ty.via,e,FA];omega
end Mu
namespace Mu
open Go Go.RowKit
variable{A:Option aV}{B:Nat}{K K':Act->eG->Prop}{N:Nat->Prop}{Q':bC->Act->eG->Prop}{R:eC->eG->Prop}{α:Type}{T:Ty α}{a:Act}{c:bA}{cs:List eC}{ds:List α}{dst:Option Tmp}{e:eA}{f:bF}{g i id k:Nat}{o oi:bZ}{rd:Option Nat}{row:String}{tys:Array eA}{v:eC}{y:bA}{ρ:cF->eC}
structure Ins where
 op:Int
 d:Int
 a:Int
 b:Int
 n:Int
 f:Int
 args:List Int
 l1:Int
 l2:Int
structure Block where
 name:ByteArray
 ins:List Ins
structure Func where
 name:ByteArray
 args:Int
 regs:Int
 blocks:List Block
def tInt:Ty Int:=Ty.int .i64
def Ei:Ty Ins:=
 ((Ty.int .u8).cons (tInt.cons (tInt.cons (tInt.cons ((Ty.int .u32).cons (tInt.cons (tInt.slice.cons (tInt.cons (tInt.cons Dj))))))))).via
  (λx=>⟨x.1,x.2.1,x.2.2.1,x.2.2.2.1,x.2.2.2.2.1,x.2.2.2.2.2.1,x.2.2.2.2.2.2.1,x.2.2.2.2.2.2.2.1,x.2.2.2.2.2.2.2.2.1⟩)
  (λi=>(i.op,i.d,i.a,i.b,i.n,i.f,i.args,i.l1,i.l2,()))
def Cw:Ty Block:=(Vl.cons (Ei.slice.cons Dj)).via (λx=>⟨x.1,x.2.1⟩) (λb=>(b.name,b.ins,()))
def Dc:Ty Func:=(Vl.cons (tInt.cons (tInt.cons (Cw.slice.cons Dj)))).via (λx=>⟨x.1,x.2.1,x.2.2.1,x.2.2.2.1⟩) (λf=>(f.name,f.args,f.regs,f.blocks,()))
theorem Ac6:Ei.size=9:=rfl
theorem VS:Cw.size=2:=rfl
def wfI(k:bR)(n:Int):Prop:=(Lit.int k n).wf=aP
theorem Acq{n:Int}(h:wfI .u8 n):0<=n/\n<=255:=by simpa[wfI,Lit.wf,IntKind.min,IntKind.max,IntKind.signed,IntKind.bits]using h
theorem DJ{w:eG}{S:Nat->Prop}{d:Int}:tInt.RS w S cs d↔cs= [.int .i64 d]/\wfI .i64 d:=Iff.rfl
structure InsCells(w:World)(S:Nat->Prop)(cs:List Value)(x:Ins)(A:Option Addr)(c:Nat):Prop where
 cs:cs= [.int .u8 x.op,.int .i64 x.d,.int .i64 x.a,.int .i64 x.b,.int .u32 x.n,.int .i64 x.f,.slice A x.args.length c,.int .i64 x.l1,.int .i64 x.l2]
 op:wfI .u8 x.op
 d:wfI .i64 x.d
 a:wfI .i64 x.a
 b:wfI .i64 x.b
 n:wfI .u32 x.n
 f:wfI .i64 x.f
 l1:wfI .i64 x.l1
 l2:wfI .i64 x.l2
 args:tInt.slice.RS w S [.slice A x.args.length c] x.args
theorem IL{w:eG}{S:Nat->Prop}{x:Ins}:Ei.RS w S cs x↔∃A c,InsCells w S cs x A c:=by
 constructor
 ·rintro⟨⟨_,_,rfl,⟨rfl,h0⟩,_,_,rfl,⟨rfl,h1⟩,_,_,rfl,⟨rfl,h2⟩,_,_,rfl,⟨rfl,s⟩,_,_,rfl,⟨rfl,r⟩,_,_,rfl,⟨rfl,q⟩,_,_,rfl,d,_,_,rfl,⟨rfl,m⟩,_,_,rfl,⟨rfl,l⟩,rfl⟩,_⟩;have j:=d;obtain⟨A,c,rfl,_⟩:=d;exact⟨A,c,rfl,h0,h1,h2,s,r,q,m,l,j⟩
 ·rintro⟨A,c,h⟩;obtain⟨rfl,h0,h1,h2,s,r,q,m,l,d⟩:=h;exact⟨⟨[_],_,rfl,⟨rfl,h0⟩,[_],_,rfl,⟨rfl,h1⟩,[_],_,rfl,⟨rfl,h2⟩,[_],_,rfl,⟨rfl,s⟩,[_],_,rfl,⟨rfl,r⟩,[_],_,rfl,⟨rfl,q⟩,[_],_,rfl,d,[_],_,rfl,⟨rfl,m⟩,[_],_,rfl,⟨rfl,l⟩,rfl⟩,rfl⟩
theorem NT{w:eG}{S:Nat->Prop}{x:Block}:Cw.RS w S cs x↔∃A c,cs= [.string x.name,.slice A x.ins.length c]/\x.name.size<=fB/\Ei.slice.RS w S [.slice A x.ins.length c] x.ins:=by
 constructor
 ·rintro⟨⟨_,_,rfl,⟨rfl,h0⟩,_,_,rfl,d,rfl⟩,_⟩;have h:=d;obtain⟨A,c,rfl,_⟩:=d;exact⟨A,c,rfl,h0,h⟩
 ·rintro⟨A,c,rfl,h0,d⟩;exact⟨⟨[_],_,rfl,⟨rfl,h0⟩,[_],_,rfl,d,rfl⟩,rfl⟩
theorem Or{w:eG}{S:Nat->Prop}{x:Func}:Dc.RS w S cs x↔∃A c,cs= [.string x.name,.int .i64 x.args,.int .i64 x.regs,.slice A x.blocks.length c]/\x.name.size<=fB/\wfI .i64 x.args/\wfI .i64 x.regs/\Cw.slice.RS w S [.slice A x.blocks.length c] x.blocks:=by
 constructor
 ·rintro⟨⟨_,_,rfl,⟨rfl,h0⟩,_,_,rfl,⟨rfl,h1⟩,_,_,rfl,⟨rfl,h2⟩,_,_,rfl,d,rfl⟩,_⟩;have h:=d;obtain⟨A,c,rfl,_⟩:=d;exact⟨A,c,rfl,h0,h1,h2,h⟩
 ·rintro⟨A,c,rfl,h0,h1,h2,d⟩;exact⟨⟨[_],_,rfl,⟨rfl,h0⟩,[_],_,rfl,⟨rfl,h1⟩,[_],_,rfl,⟨rfl,h2⟩,[_],_,rfl,d,rfl⟩,rfl⟩
open Go.Proofs
theorem DB:Opens cV 3 tInt:=I8 dC
theorem ZK:Opens cV 27 tInt.slice:=H8 dB (by kernel_rfl) (by decide) DB
theorem ZJ:Opens cV 47 Ei:=
 Gm Tryz.underlying47 (by kernel_rfl)
  (BE V (by kernel_rfl) (I8 dF) (BE V (by kernel_rfl) DB (BE V (by kernel_rfl) DB (BE V (by kernel_rfl) DB
   (BE V (by kernel_rfl) (I8 dE) (BE V (by kernel_rfl) DB (BE V (by kernel_rfl) ZK (BE V (by kernel_rfl) DB
    (BE V (by kernel_rfl) DB JN))))))))) (λ_=>rfl)
theorem TV:Opens cV 63 Cw:=
 Gm Tryz.underlying63 (by kernel_rfl)
  (BE V (by kernel_rfl) (TX dG) (BE V (by kernel_rfl) (H8 Tryz.underlying48 (by kernel_rfl) (by decide) ZJ) JN)) (λ_=>rfl)
theorem Wo:Opens cV 24 Dc:=
 Gm Tryz.underlying24 (by kernel_rfl)
  (BE V (by kernel_rfl) (TX dG) (BE V (by kernel_rfl) DB (BE V (by kernel_rfl) DB
   (BE V (by kernel_rfl) (H8 Tryz.underlying22 (by kernel_rfl) (by decide) TV) JN)))) (λ_=>rfl)
theorem Lk{w:eG}{S:Nat->Prop}{n c:Nat}{x:α}(h:T.slice.RS w S [.slice A n c] ds)(hk:ds[k]? =jT x):
 ∃b o,A=jT ⟨b,o,jS⟩/\T.AtS w S b (o+k * T.size) x:=by
 obtain⟨j,d,e,_,_,hi⟩:=h;simp only[fR,zax]at e;obtain⟨rfl,_,_⟩:=e;exact hi k x hk
theorem Tl{w:eG}{S:Nat->Prop}{n c:Nat}(h:T.slice.RS w S [.slice A n c] ds):n=ds.length/\n<=c/\c<=fB:=by
 obtain⟨j,d,e,h1,h2,_⟩:=h;simp only[fR,zax]at e;obtain⟨_,rfl,rfl⟩:=e;exact⟨rfl,h1,h2.1⟩
theorem Ci{w:eG}{S:Nat->Prop}(h:T.slice.RS w S [v] ds):∃A c,v= .slice A ds.length c:=by
 obtain⟨j,d,e,h1,h2,_⟩:=h;simp only[fR,and_true]at e;exact⟨j,d,e⟩
theorem Tk{w:eG}{S:Nat->Prop}{n c:Nat}(h:T.slice.RS w S [.slice jS n c] ds):ds= []/\n=0/\c=0:=by
 obtain⟨j,d,e,h1,h2,_⟩:=h;simp only[fR,zax]at e;obtain⟨rfl,rfl,rfl⟩:=e;have:=h2.2 V;exact⟨fW (by omega),by omega,this⟩
theorem Py{w:eG}{b o:Nat}{l:List eC}(h:M4 w b o (v::l)):w.cell? ⟨b,o,jS⟩=jT v:=h 0 v V
theorem Ez{w:eG}{b o:Nat}(h:M4 w b o cs)(j:Nat)(d:cs[j]? =jT v):w.cell? ⟨b,o+j,jS⟩=jT v:=h j v d
theorem LT{w:eG}{S:Nat->Prop}{n c:Nat}{ds:List Int}{x:Int}{d:bR}(h:(Ty.int d).slice.RS w S [.slice A n c] ds)(hk:ds[k]? =jT x):
 ∃b o,A=jT ⟨b,o,jS⟩/\S b/\w.cell? ⟨b,o+k,jS⟩=jT (.int d x)/\wfI d x:=by
 obtain⟨b,o,rfl,l,cs,⟨rfl,j⟩,hc⟩:=Lk h hk;refine⟨b,o,rfl,l,?_,j⟩;have:=Py hc;rwa [show(Ty.int d).size=1 from V,jH]at this
structure InsAt(w:World)(S:Nat->Prop)(b o:Nat)(x:Ins)(A:Option Addr)(c:Nat):Prop where
 c0:w.cell? ⟨b,o,none⟩=some (.int .u8 x.op)
 c1:w.cell? ⟨b,o+1,none⟩=some (.int .i64 x.d)
 c2:w.cell? ⟨b,o+2,none⟩=some (.int .i64 x.a)
 c3:w.cell? ⟨b,o+3,none⟩=some (.int .i64 x.b)
 c4:w.cell? ⟨b,o+4,none⟩=some (.int .u32 x.n)
 c5:w.cell? ⟨b,o+5,none⟩=some (.int .i64 x.f)
 c6:w.cell? ⟨b,o+6,none⟩=some (.slice A x.args.length c)
 c7:w.cell? ⟨b,o+7,none⟩=some (.int .i64 x.l1)
 c8:w.cell? ⟨b,o+8,none⟩=some (.int .i64 x.l2)
 raw:InsCells w S [.int .u8 x.op,.int .i64 x.d,.int .i64 x.a,.int .i64 x.b,.int .u32 x.n,.int .i64 x.f,.slice A x.args.length c,.int .i64 x.l1,.int .i64 x.l2] x A c
theorem Af5{w:eG}{S:Nat->Prop}{n c:Nat}{ds:List Ins}{x:Ins}(h:Ei.slice.RS w S [.slice A n c] ds)(hk:ds[k]? =jT x):
 ∃b o j d,A=jT ⟨b,o,jS⟩/\S b/\InsAt w S b (o+k * 9) x j d:=by
 obtain⟨b,o,rfl,m,cs,q,hc⟩:=Lk h hk;obtain⟨j,d,l⟩:=IL.1 q;have e:=l.cs;subst e;rw[Ac6]at hc;exact⟨b,o,j,d,rfl,m,Py hc,Ez hc 1 V,Ez hc 2 V,Ez hc 3 V,Ez hc 4 V,Ez hc 5 V,Ez hc 6 V,Ez hc 7 V,Ez hc 8 V,l⟩
theorem YM{w:eG}{S:Nat->Prop}{n c:Nat}{ds:List Block}{x:Block}(h:Cw.slice.RS w S [.slice A n c] ds)(hk:ds[k]? =jT x):
 ∃b o j d,A=jT ⟨b,o,jS⟩/\S b/\w.cell? ⟨b,o+k * 2,jS⟩=jT (.string x.name)/\w.cell? ⟨b,o+k * 2+1,jS⟩=jT (.slice j x.ins.length d)/\x.name.size<=fB/\
  Ei.slice.RS w S [.slice j x.ins.length d] x.ins:=by
 obtain⟨b,o,rfl,l,cs,m,hc⟩:=Lk h hk;obtain⟨j,d,rfl,h1,h2⟩:=NT.1 m;rw[VS]at hc;exact⟨b,o,j,d,rfl,l,Py hc,Ez hc 1 V,h1,h2⟩
theorem C5{w:eG}{base:Nat}{cells:List eC}{S:Nat->Prop}(h:w.ownsRow base e T.size v ds.length cells)
 (hc:∀i d,ds[i]? =jT d->T.RS w S ((cells.drop (i * T.size)).take T.size) d)(z:∀g,v.ownBlock=jT g->S g):T.slice.RS w S [v] ds:=by
 rcases h.2 with⟨rfl,r⟩|⟨g,cap,cur,rfl,hg,hh,h1,h2,E,D⟩
 ·have:ds= []:=fW r;subst this;exact Ty.slice_nilS _ _ _
 ·refine⟨jT ⟨g,0,jS⟩,cap,rfl,h1,⟨h2,λe=>by cases e⟩,λi d x=>⟨g,0,rfl,z g V,_,hc i d x,?_⟩⟩;intro j u m;have s:j < T.size:=by
   have:=(gJ.1 m).1;rw[gX]at this;omega
  rw[gQ s,gG]at m;have l:=h.cells (g:=g) V (i * T.size+j) u m;have C:(⟨g,0,jS⟩:aV).add (i * T.size+j)=⟨g,0+i * T.size+j,jS⟩:=by
   unfold aW;by_cases q:i * T.size+j=0
   ·rw[if_pos q,show 0+i * T.size+j=0 from by omega]
   ·rw[if_neg q,show 0+i * T.size+j=0+(i * T.size+j)from by omega]
  rw[C]at l;exact l
theorem LB{w:eG}{base:Nat}{k:bR}{xs:List Int}(h:w.ownsRow base e 1 v xs.length (xs.map (eD k)))(l:∀x∈xs,wfI k x):
 (Ty.int k).slice.RS w (λb=>v.ownBlock=jT b) [v] xs:=by
 refine C5 (T:=Ty.int k) h (λi d j=>?_) (λg hg=>hg);have hi:i < xs.length:=(gJ.1 j).1;refine⟨?_,l d (iD j)⟩;show((xs.map (eD k)).drop (i * 1)).take 1=_;rw[jH,List.drop_eq_getElem_cons (by simpa using hi)];have:xs[i]=d:=by
  rw[gH hi]at j;injection j
 simp[this]
variable{P:cG}{Q:bC->Act->eG->Prop}{ops:Array bZ}{l n:Nat}
theorem Tp{args:Array eC}{w:eG}(h:Rows P row args w R):RowsIn (bD.inRound l) n P row args w R:=
 λc cs _=>let ⟨v,w',r,s⟩:=h c cs;⟨v,w',r,stepsIn_wide.2 s⟩
theorem Ri{args:Array eC}{w:eG}{R:Ending->eG->Prop}(h:a8 P f args w R):CallsIn (bD.inRound l) n P f args w R:=
 CallsIn.inRound l (eP.2 h)
theorem Acn{w:eG}(s:∀(o:bZ),ops[i]? =jT o->∀c,o.op≠.defer c)(u:¬bT Q)(d:∀a w,K a w->K' a w)(h:wpOp P ops Q i K a w):
 wpOpIn (bD.inRound l) n P ops Q i K' a w:=by
 unfold wpOpIn;unfold wpOp at h;cases hi:ops[i]? with
 |none=>rw[hi]at h;exact d _ _ h
 |some o=>
  simp only[hi]at h⊢;split
  ·rename_i m;rw[if_pos m]at h;rcases h with h|h
   ·refine⟨λ_ _=>trivial,?_⟩;rw[cA _ _ _ (s o hi)];unfold cD at h;generalize (eR a.eval o).run P w=r at *;cases r with
    |ok x w'=>
     cases x <;> simp only[cC,cB]at h⊢
     case value=>exact d _ _ h
     case skip=>exact d _ _ h
     case defer=>exact d _ _ h
     case enter=>exact⟨λh=>(by cases h),(Ri h).mono λe q j=>by cases e <;> first|exact d _ _ j|exact j⟩
     case row=>exact⟨λh=>(by cases h),(Tp h).mono λ_ _ j=>d _ _ j⟩
    |halt x w'=>cases x <;> simp only[cC,cB]at h⊢<;> exact h
   ·exact absurd h.2 u
  ·rename_i m;rw[if_neg m]at h;exact⟨λ_ _=>trivial,d _ _ h⟩
theorem QE{md:dL}(d:∀(i:Nat) (o:bZ),ops[i]? =jT o->∀c,o.op≠.defer c)(j:¬bT Q):∀(fuel:Nat) (listed:Array Bool) (a:Act) (w:eG),
 wpAny P md ops Q fuel listed a w->wpAnyIn (bD.inRound l) n P md ops Q fuel listed a w
 |0,_,_,_,h=>h
 |fuel+1,_,_,_,h=>⟨h.1,λi hi=>Acn (d i) j (λa w h=>QE d j fuel _ a w h) (h.2 i hi)⟩
def KI(ops:Array bZ):Bool:=ops.all λo=>match o.op with| .defer _=>aM|_=>aP
theorem T6(h:KI ops=aP):∀(i:Nat) (o:bZ),ops[i]? =jT o->∀c,o.op≠.defer c:=by
 intro i o hi c e;have:=Array.all_eq_true'.1 h o (Array.mem_of_getElem? hi);rw[e]at this;cases this
def Kb(D:Nat):bB:={target:=.collected D,args:=#[]}
inductive AV:Type 1
 |any
 |lit (v:Value)
 |bs {α:Type} (T:Ty α) (l:List α)
 |tv {α:Type} (T:Ty α) (d:α)
 |own (i ver:Nat)
 |ptr (i off:Nat)
 |rp (i ver k off:Nat)
 |bp {α:Type} (T:Ty α) (d:α) (off:Nat)
 |agg (l:List AV)
 |tup (l:List AV)
 |fn (f:FuncId) (l:List AV)
structure Res where
 mrk:List Nat
 F:Nat->Prop
 R:World->(Nat->Prop)->Prop
 keep:∀{w w':World} {S S':Nat->Prop},R w S->(∀k,F k->w'.heap[k]? =w.heap[k]?)->(∀k,S k->w'.heap[k]? =w.heap[k]?)->(∀k,S k->S' k)->R w' S'
inductive ABlk:Type 1
 |dead
 |box (cells:List AV)
 |row (ver:Nat) (e:TypeId) {α:Type} (T:Ty α) (l:List α)
 |res (R:Res)
def ABlk.mrk:ABlk->List bB
 | .res R=>R.mrk.map Kb
 |_=>[]
def mkD:List ABlk->List bB
 | []=>[]
 |b::h=>mkD h++b.mrk
theorem H9(h:List ABlk)(b:ABlk):mkD (h++[b])=b.mrk++mkD h:=by
 induction h with
 |nil=>simp[mkD]
 |cons c h d=>simp[mkD,d]
theorem DO{h:List ABlk}{b b':ABlk}(hi:h[i]? =jT b)(e:b'.mrk=b.mrk):mkD (h.set i b')=mkD h:=by
 induction h generalizing i with
 |nil=>simp at hi
 |cons c h d=>
  cases i with
  |zero=>
   simp at hi;subst hi;simp[mkD,e]
  |succ i=>
   simp only[iK,mkD];rw[d (by simpa using hi)]
def ABlk.ver:Option ABlk->Option Nat
 |some (.row ver _ _ _)=>jT ver
 |_=>jS
def Fo:Option ABlk->Nat
 |some (.row _ _ T _)=>T.size
 |_=>0
def AZ:Option ABlk->Bool
 |some (.box _)=>aP
 |_=>aM
def ABlk.live:Option ABlk->Bool
 |some (.box _)=>aP
 |some (.row _ _ _ _)=>aP
 |some (.res _)=>aP
 |_=>aM
def Bu:eC->Option Nat
 | .pointer (jT a)=>jT a.block
 | .slice (jT a) _ _=>jT a.block
 |_=>jS
def ftp:Option ABlk->eC->Nat->Prop
 |some (.res R),_,g=>R.F g
 |_,v,g=>Bu v=jT g
mutual
def AV.rel(w:eG)(S:Nat->Prop)(h:List ABlk)(ψ:Nat->eC):AV->eC->Prop
 | .any,_=>True
 | .lit u,v=>v=u
 | .bs T l,v=>T.slice.RS w S [v] l
 | .tv T d,v=>T.RS w S [v] d
 | .own i ver,v=>i < h.length/\∀c,ABlk.ver h[i]? =jT c->ver<=c/\(ver=c->v=ψ i)
 | .ptr i off,v=>i < h.length/\(AZ h[i]? =aP->∃g,ψ i= .pointer (jT ⟨g,0,jS⟩)/\v= .pointer (jT ⟨g,off,jS⟩))
 | .rp i ver k off,v=>i < h.length/\∀c,ABlk.ver h[i]? =jT c->ver<=c/\(ver=c->∃g n c,ψ i= .slice (jT ⟨g,0,jS⟩) n c/\v= .pointer (jT ⟨g,k * Fo h[i]?+off,jS⟩))
 | .bp T d off,v=>∃b o,v= .pointer (jT ⟨b,o+off,jS⟩)/\T.AtS w S b o d
 | .agg l,v=>∃cs:List eC,v= .agg cs.toArray/\Ae w S h ψ l cs
 | .tup l,v=>∃cs:List eC,v= .tuple cs.toArray/\Ae w S h ψ l cs
 | .fn f l,v=>∃cs:List eC,v= .func (.func f) #[] cs.toArray/\Ae w S h ψ l cs
def Ae(w:eG)(S:Nat->Prop)(h:List ABlk)(ψ:Nat->eC):List AV->List eC->Prop
 | [],cs=>cs= []
 |x::l,cs=>∃v vs,cs=v::vs/\AV.rel w S h ψ x v/\Ae w S h ψ l vs
end
structure Ext(w:World)(S:Nat->Prop)(h:List ABlk)(ψ:Nat->Value)(w':World)(S':Nat->Prop)(h':List ABlk)(ψ':Nat->Value):Prop where
 blk:∀k,S k->w'.heap[k]? =w.heap[k]?
 sub:∀k,S k->S' k
 len:h.length<=h'.length
 ver:∀i c',i < h.length->ABlk.ver h'[i]? =some c'->∃c,ABlk.ver h[i]? =some c/\c<=c'/\(c=c'->ψ' i=ψ i/\Fo h'[i]? =Fo h[i]?)
 box:∀i,i < h.length->AZ h'[i]? =true->AZ h[i]? =true/\ψ' i=ψ i
section
variable{w:eG}{S:Nat->Prop}{h:List ABlk}{ψ:Nat->eC}{w':eG}{S':Nat->Prop}{h':List ABlk}{ψ':Nat->eC}
mutual
theorem FN(X:Ext w S h ψ w' S' h' ψ'):∀(x:AV) (v:eC),AV.rel w S h ψ x v->AV.rel w' S' h' ψ' x v
 | .any,_,_=>by unfold AV.rel;trivial
 | .lit u,v,H=>by unfold AV.rel at H⊢;exact H
 | .bs T l,v,H=>by unfold AV.rel at H⊢;exact T.slice.keepS H X.blk X.sub
 | .tv T d,v,H=>by unfold AV.rel at H⊢;exact T.keepS H X.blk X.sub
 | .own i ver,v,H=>by
  unfold AV.rel at H⊢;refine⟨jC H.1 X.len,λc' hv=>?_⟩;obtain⟨c,h1,h2,h3⟩:=X.ver i c' H.1 hv;obtain⟨k1,k2⟩:=H.2 c h1;refine⟨jB k1 h2,λe=>?_⟩;have e1:c=c':=by omega
  rw[(h3 e1).1];exact k2 (by omega)
 | .ptr i off,v,H=>by
  unfold AV.rel at H⊢;refine⟨jC H.1 X.len,λhv=>?_⟩;obtain⟨h1,h2⟩:=X.box i H.1 hv;rw[h2];exact H.2 h1
 | .rp i ver k off,v,H=>by
  unfold AV.rel at H⊢;refine⟨jC H.1 X.len,λc' hv=>?_⟩;obtain⟨c,h1,h2,h3⟩:=X.ver i c' H.1 hv;obtain⟨k1,k2⟩:=H.2 c h1;refine⟨jB k1 h2,λe=>?_⟩;have e1:c=c':=by omega
  rw[(h3 e1).1,(h3 e1).2];exact k2 (by omega)
 | .bp T d off,v,H=>by
  unfold AV.rel at H⊢;obtain⟨b,o,e,hat⟩:=H;exact⟨b,o,e,hat.keep X.blk X.sub⟩
 | .agg l,v,H=>by
  unfold AV.rel at H⊢;obtain⟨cs,e,hl⟩:=H;exact⟨cs,e,Az X l cs hl⟩
 | .tup l,v,H=>by
  unfold AV.rel at H⊢;obtain⟨cs,e,hl⟩:=H;exact⟨cs,e,Az X l cs hl⟩
 | .fn f l,v,H=>by
  unfold AV.rel at H⊢;obtain⟨cs,e,hl⟩:=H;exact⟨cs,e,Az X l cs hl⟩
theorem Az(X:Ext w S h ψ w' S' h' ψ'):∀(l:List AV) (cs:List eC),Ae w S h ψ l cs->Ae w' S' h' ψ' l cs
 | [],cs,H=>by unfold Ae at H⊢;exact H
 |x::l,cs,H=>by
  unfold Ae at H⊢;obtain⟨v,vs,e,h1,h2⟩:=H;exact⟨v,vs,e,FN X x v h1,Az X l vs h2⟩
end
theorem Bw:∀{l:List AV} {cs:List eC},Ae w S h ψ l cs->cs.length=l.length
 | [],cs,H=>by unfold Ae at H;subst H;rfl
 |x::l,cs,H=>by
  unfold Ae at H;obtain⟨v,vs,rfl,_,h2⟩:=H;simp[Bw h2]
theorem BY:∀{l:List AV} {cs:List eC},Ae w S h ψ l cs->∀{i:Nat} {x:AV},l[i]? =jT x->∃v,cs[i]? =jT v/\AV.rel w S h ψ x v
 | [],cs,_,i,x,hx=>by simp at hx
 |y::l,cs,H,i,x,hx=>by
  unfold Ae at H;obtain⟨v,vs,rfl,h1,h2⟩:=H;cases i with
  |zero=>simp at hx;subst hx;exact⟨v,by simp,h1⟩
  |succ i=>simpa using BY h2 (i:=i) (by simpa using hx)
theorem DL:∀{l:List AV} {cs:List eC},cs.length=l.length->(∀(i:Nat) (x:AV) (v:eC),l[i]? =jT x->cs[i]? =jT v->AV.rel w S h ψ x v)->Ae w S h ψ l cs
 | [],cs,d,_=>by unfold Ae;exact fW d
 |y::l,v::vs,d,H=>by
  unfold Ae;exact⟨v,vs,rfl,H 0 y v V V,DL (by simpa using d) λi x u hx j=>H (i+1) x u (by simpa using hx) (by simpa using j)⟩
theorem HV{l:List AV}(H:Ae w S h ψ l cs)(i:Nat){x:AV}(r:AV.rel w S h ψ x v):Ae w S h ψ (l.set i x) (cs.set i v):=by
 refine DL (by simp[Bw H]) λj y u d m=>?_
 by_cases q:i=j
 ·subst q;have h1:i < l.length:=by
   rcases jD i l.length with h|h
   ·exact h
   ·simp[gI,h]at d
  rw[gO h1]at d;rw[gO (by rw[Bw H];exact h1)]at m;cases d;cases m;exact r
 ·rw[gN q]at d m;obtain⟨s,h1,h2⟩:=BY H d;rw[h1]at m;cases m;exact h2
theorem BK{l m:List AV}{ds:List eC}(H:Ae w S h ψ l cs)(G:Ae w S h ψ m ds):Ae w S h ψ (l++m) (cs++ds):=by
 refine DL (by simp[Bw H,Bw G]) λj y u q d=>?_
 by_cases r:j < l.length
 ·rw[gC r]at q;rw[gC (by rw[Bw H];exact r)]at d;obtain⟨s,h1,h2⟩:=BY H q;rw[h1]at d;cases d;exact h2
 ·rw[gD (by omega)]at q;rw[gD (by rw[Bw H];omega),Bw H]at d;obtain⟨s,h1,h2⟩:=BY G q;rw[h1]at d;cases d;exact h2
theorem Lo{l:List AV}(H:Ae w S h ψ l cs)(n:Nat):Ae w S h ψ (l.drop n) (cs.drop n):=by
 refine DL (by simp[Bw H]) λj y u m d=>?_
 rw[gG]at m d;obtain⟨q,h1,h2⟩:=BY H m;rw[h1]at d;cases d;exact h2
theorem Ln{l:List AV}(H:Ae w S h ψ l cs)(n:Nat):Ae w S h ψ (l.take n) (cs.take n):=by
 refine DL (by simp[Bw H]) λj y u d m=>?_
 rw[gP]at d m;split at d
 ·rename_i q;rw[if_pos q]at m;obtain⟨r,h1,h2⟩:=BY H d;rw[h1]at m;cases m;exact h2
 ·cases d
end
def Hv(N:Nat->Prop)(w:eG)(S:Nat->Prop)(h:List ABlk)(ψ:Nat->eC)(v:eC):ABlk->Prop
 | .dead=>True
 | .box cells=>∃g cs e,v= .pointer (jT ⟨g,0,jS⟩)/\¬N g/\¬S g/\w.heap[g]? =jT (.cells (iV cs) e (0,0))/\Ae w S h ψ cells cs
 | .row _ e T l=>∃cells,w.ownsRow 0 e T.size v l.length cells/\0 < T.size/\(∀i d,l[i]? =jT d->T.RS w S ((cells.drop (i * T.size)).take T.size) d)/\∀g,v.ownBlock=jT g->¬N g/\¬S g
 | .res R=>(∀g,R.F g->¬N g/\¬S g/\g < w.heap.size)/\R.R w S
structure Ctx where
 w0:World
 S0:Nat->Prop
 N:Nat->Prop
 rd:Option Nat
def Ctx.std(C:Ctx):Prop:=∀k,k < C.w0.heap.size->C.N k
structure Kp(N:Nat->Prop)(w w':World):Prop where
 os:w'.os=w.os
 tape:w'.tape=w.tape
 output:w'.output=w.output
 size:w.heap.size<=w'.heap.size
 block:∀k,N k->w'.heap[k]? =w.heap[k]?
theorem Kp.refl(N:Nat->Prop)(w:eG):Kp N w w:=⟨rfl,rfl,rfl,jA _,λ_ _=>rfl⟩
theorem Kp.trans{a b c:eG}(h:Kp N a b)(k:Kp N b c):Kp N a c:=
 ⟨k.os.trans h.os,k.tape.trans h.tape,k.output.trans h.output,jB h.size k.size,λi hi=>(k.block i hi).trans (h.block i hi)⟩
theorem PX{a b:eG}(h:Below B a b)(d:∀k,N k->k < B):Kp N a b:=⟨h.os,h.tape,h.output,h.size,λk hk=>h.block k (d k hk)⟩
theorem Kp.below{a b:eG}(h:Kp N a b)(d:∀k,k < B->N k):Below B a b:=⟨h.os,h.tape,h.output,h.size,λk hk=>h.block k (d k hk)⟩
structure HRel(C:Ctx)(h:List ABlk)(S:Nat->Prop)(ψ:Nat->Value)(w:World):Prop where
 bel:Kp C.N C.w0 w
 nlt:∀k,C.N k->k < C.w0.heap.size
 lt:∀k,S k->k < w.heap.size
 sub:∀k,C.S0 k->S k
 new:∀k,S k->C.S0 k\/C.w0.heap.size<=k
 blk:∀i b,h[i]? =some b->Hv C.N w S h ψ (ψ i) b
 dis:∀i j,i≠j->ABlk.live h[i]? =true->ABlk.live h[j]? =true->∀g,ftp h[i]? (ψ i) g->¬ftp h[j]? (ψ j) g
theorem AU(h:v.ownBlock=jT g):Bu v=jT g:=by
 cases v <;> simp[eF,Bu]at h⊢
 rename_i a _ _;cases a <;> simp[eF,Bu]at h⊢
 exact h
theorem Nf{w w':eG}{base:Nat}{size:Nat}{n:Nat}{xs:List eC}(h:w.ownsRow base e size v n xs)(d:∀g,Bu v=jT g->w'.heap[g]? =w.heap[g]?):w'.ownsRow base e size v n xs:=by
 obtain⟨h1,h2⟩:=h;refine⟨h1,?_⟩;rcases h2 with h2|⟨g,cap,cur,rfl,hg,hh,r⟩
 ·exact .inl h2
 ·exact .inr ⟨g,cap,cur,rfl,hg,(d g V).trans hh,r⟩
theorem Hv.keep{w w':eG}{S S':Nat->Prop}{h h':List ABlk}{ψ ψ':Nat->eC}{b:ABlk}(H:Hv N w S h ψ v b)(X:Ext w S h ψ w' S' h' ψ')
 (j:∀g,ftp (jT b) v g->w'.heap[g]? =w.heap[g]?/\(¬S g->¬S' g)):Hv N w' S' h' ψ' v b:=by
 cases b with
 |dead=>trivial
 |box cells=>
  obtain⟨g,cs,e,rfl,h1,h2,m,C⟩:=H;obtain⟨r,q⟩:=j g V;exact⟨g,cs,e,rfl,h1,q h2,r.trans m,Az X _ _ C⟩
 |row ver e T l=>
  obtain⟨cells,h1,h0,h2,m⟩:=H;refine⟨cells,Nf h1 λg hg=>(j g hg).1,h0,λi d z=>T.keepS (h2 i d z) X.blk X.sub,λg hg=>⟨(m g hg).1,(j g (AU hg)).2 (m g hg).2⟩⟩
 |res R=>
  obtain⟨h1,h2⟩:=H;refine⟨λg hg=>?_,R.keep h2 (λk hk=>(j k hk).1) X.blk X.sub⟩;obtain⟨r,q,x⟩:=h1 g hg;obtain⟨s,u⟩:=j g hg;refine⟨r,u q,?_⟩;rw[aB x]at s;exact(aC.1 s).1
theorem Hv.lt{w:eG}{S:Nat->Prop}{h:List ABlk}{ψ:Nat->eC}{b:ABlk}(H:Hv N w S h ψ v b)(s:ABlk.live (jT b)=aP):∀g,ftp (jT b) v g->¬N g/\g < w.heap.size/\¬S g:=by
 cases b with
 |dead=>simp[ABlk.live]at s
 |box cells=>
  obtain⟨g,cs,e,rfl,h1,h2,j,x⟩:=H;intro u hg;simp[ftp,Bu]at hg;subst hg;exact⟨h1,(aC.1 j).1,h2⟩
 |row ver e T l=>
  obtain⟨cells,h1,h0,h2,j⟩:=H;intro g hg;have d:v.ownBlock=jT g:=by
   rcases h1.2 with⟨rfl,_⟩|⟨u,cap,cur,rfl,_⟩
   ·simp[ftp,Bu]at hg
   ·simpa[ftp,Bu,eF]using hg
  obtain⟨q,m⟩:=eL h1 g d;exact⟨(j g d).1,m,(j g d).2⟩
 |res R=>
  intro g hg;obtain⟨q,m,r⟩:=H.1 g hg;exact⟨q,r,m⟩
theorem Ext.grow{w w':eG}{S S':Nat->Prop}(h:List ABlk)(ψ:Nat->eC)(m:∀k,S k->w'.heap[k]? =w.heap[k]?)(j:∀k,S k->S' k):Ext w S h ψ w' S' h ψ:=
 ⟨m,j,jA _,λ_ q _ d=>⟨q,d,jA _,λ_=>⟨rfl,rfl⟩⟩,λ_ _ d=>⟨d,rfl⟩⟩
theorem HRel.grow{C:Ctx}{h:List ABlk}{S S':Nat->Prop}{ψ:Nat->eC}{w w':eG}(H:HRel C h S ψ w)(m:Below w.heap.size w w')(q:∀k,S k->S' k)(r:∀k,S' k->S k\/w.heap.size<=k)(x:∀k,S' k->k < w'.heap.size):
 HRel C h S' ψ w':=by
 refine⟨H.bel.trans (PX m λk hk=>jC (H.nlt k hk) H.bel.size),H.nlt,x,λk hk=>q k (H.sub k hk),λk hk=>?_,λi b hi=>?_,H.dis⟩
 ·rcases r k hk with h1|h1
  ·exact H.new k h1
  ·exact .inr (jB H.bel.size h1)
 ·by_cases d:ABlk.live (jT b)=aP
  ·refine(H.blk i b hi).keep (Ext.grow h ψ (λk hk=>m.block k (H.lt k hk)) q) λg hg=>?_
   obtain⟨z,u,s⟩:=(H.blk i b hi).lt d g hg;refine⟨m.block g u,λ_ j=>?_⟩;rcases r g j with h1|h1
   ·exact s h1
   ·omega
  ·cases b <;> simp[ABlk.live]at d
   trivial
structure St where
 t:List AV
 h:List ABlk
def St.rel(C:Ctx)(s:St)(a:Act)(w:eG):Prop:=a.defers=mkD s.h/\∃S ψ,HRel C s.h S ψ w/\Ae w S s.h ψ s.t a.tmps.toList
def evA(t:List AV):cF->AV
 | .tmp i=>(t[i]?).getD (.lit undef)
 | .const v=>.lit v
 | .global g=>.lit (.pointer (jT ⟨g,0,jS⟩))
 | .func f=>.lit (.func (.func f) #[] #[])
def Bl(t:List AV)(dst:Option Tmp)(r:AV):List AV:=
 match dst with
 |some d=>t.set d r
 |none=>t
theorem Bv{w:eG}{S:Nat->Prop}{h:List ABlk}{ψ:Nat->eC}{t:List AV}(H:Ae w S h ψ t a.tmps.toList)(x:cF):AV.rel w S h ψ (evA t x) (a.eval x):=by
 cases x with
 |tmp i=>
  show AV.rel w S h ψ ((t[i]?).getD (.lit undef)) (a.tmps.getD i undef);rw[aA];cases hi:t[i]? with
  |none=>
   have:a.tmps[i]? =jS:=by
    rw[List.getElem?_eq_none_iff]at hi;have:=Bw H;simp at this;rw[Array.getElem?_eq_none_iff];omega
   rw[this];simp[AV.rel]
  |some x=>
   obtain⟨v,h1,h2⟩:=BY H hi;have:a.tmps[i]? =jT v:=by simpa using h1
   rw[this];exact h2
 |const v=>simp[evA,Act.eval,AV.rel]
 |global g=>simp[evA,Act.eval,AV.rel]
 |func f=>simp[evA,Act.eval,AV.rel]
theorem KE{w:eG}{S:Nat->Prop}{h:List ABlk}{ψ:Nat->eC}{t:List AV}(H:Ae w S h ψ t a.tmps.toList)(d:Option Tmp){r:AV}(j:AV.rel w S h ψ r v):Ae w S h ψ (Bl t d r) (a.put d v).tmps.toList:=by
 cases d with
 |none=>exact H
 |some d=>
  unfold Bl Act.put;simp only[aK];exact HV H d j
theorem put_defers(a:Act)(d:Option Tmp)(v:eC):(a.put d v).defers=a.defers:=by cases d <;> rfl
abbrev A2(l:List AV):List AV:=.any::.any::l
abbrev A3(l:List AV):List AV:=.any::.any::.any::l
abbrev A4(l:List AV):List AV:=.any::.any::.any::.any::l
abbrev A5(l:List AV):List AV:=.any::A4 l
abbrev A6(l:List AV):List AV:=.any::A5 l
abbrev A7(l:List AV):List AV:=.any::A6 l
abbrev A8(l:List AV):List AV:=A4 (A4 l)
abbrev A9(l:List AV):List AV:=.any::A8 l
abbrev A10(l:List AV):List AV:=.any::A9 l
abbrev A20(l:List AV):List AV:=A10 (A10 l)
abbrev A40(l:List AV):List AV:=A20 (A20 l)
abbrev A80(l:List AV):List AV:=A40 (A40 l)
section
variable{P:cG}{C:Ctx}
def fnc:Option Nat->Fence
 |none=>bD
 |some l=>bD.inRound l
theorem UB(rd:Option Nat)(f:bF):(fnc rd).fn f:=by cases rd <;> trivial
theorem Ale(rd:Option Nat)(n:Nat):(fnc rd).room n:=by cases rd <;> exact λ_ h=>by simp[fnc,bD,Fence.inRound]at h
theorem UC(rd:Option Nat):(fnc rd).depth=jS:=by cases rd <;> rfl
theorem Alf{n m:Nat}{Q:bC->Act->eG->Prop}{w:eG}(h:c.wpIn (fnc rd) n P Q a w):c.wpIn (fnc rd) m P Q a w:=λb k cs h1 h2 _=>h b k cs h1 h2 (Ale _ _)
theorem Agp{n:Nat}{args:Array eC}{w:eG}{R:Ending->eG->Prop}(h:a8 P f args w R):CallsIn (fnc rd) n P f args w R:=by
 cases rd with
 |none=>exact eP.2 h
 |some l=>exact Ri h
theorem Ald{n:Nat}{args:Array eC}{w:eG}(h:Rows P row args w R):RowsIn (fnc rd) n P row args w R:=by
 cases rd with
 |none=>exact λc cs _=>let ⟨v,w',r,s⟩:=h c cs;⟨v,w',r,stepsIn_wide.2 s⟩
 |some l=>exact Tp h
theorem Si{n:Nat}{w:eG}{Q:bC->Act->eG->Prop}(m:∀c,o.op≠.defer c)(q:¬bT Q)(h:o.wp P a w K Q):o.wpIn (fnc rd) n P a w K Q:=by
 refine⟨λ_ _=>UB _ _,?_⟩;rw[cA _ _ _ m];unfold cD at h;generalize (eR a.eval o).run P w=r at *;cases r with
 |ok x w'=>
  cases x <;> simp only[cC,cB]at h⊢
  case value=>exact h
  case skip=>exact h
  case defer=>exact h
  case enter=>exact⟨λh=>(by rw[UC]at h;cases h),(Agp h).mono λe j d=>by cases e <;> exact d⟩
  case row=>exact⟨λh=>(by rw[UC]at h;cases h),(Ald h).mono λ_ _ d=>d⟩
 |halt x w'=>cases x <;> simp only[cC,cB]at h⊢<;> exact h
theorem FI{n:Nat}{ops:Array bZ}{Q:bC->Act->eG->Prop}{w:eG}(d:P.follows .mixedOrders=aP)(j:KI ops=aP)
 (h:wpAny P .any ops (λe a w=>e= .normal/\Q e a w) ops.size (aF ops.size aM) a w.drew):(Code.region id ops aP).wpIn (fnc rd) n P Q a w:=by
 cases rd with
 |none=>exact wpIn_wide.2 (wp_mono (wp_region_any d h) λe a w h=>h.2)
 |some l=>exact wpIn_mono (wpIn_region_any d (QE (T6 j) (λ⟨_,_,h⟩=>by cases h.1) _ _ _ _ h)) λe a w h=>h.2
def Awp(P:cG)(C:Ctx)(c:bA)(Q:bC->St->Prop)(s:St):Prop:=
 ∀a w,s.rel C a w->c.wpIn (fnc C.rd) 4 P (λe a' w'=>∃d,Q e d/\d.rel C a' w') a w
theorem Awp.wp{Q:bC->St->Prop}{s:St}(j:C.rd=jS)(h:Awp P C c Q s){w:eG}(H:s.rel C a w):c.wp P (λe a' w'=>∃d,Q e d/\d.rel C a' w') a w:=by
 have:=h a w H;rw[j]at this;exact wpIn_wide.1 this
def Ke(K:St->Prop)(Q:bC->St->Prop):bC->St->Prop
 | .normal,s=>K s
 |e,s=>Q e s
def Jt(id:Nat)(Q:bC->St->Prop):bC->St->Prop
 | .exit i,s=>if i=id then Q .normal s else Q (.exit i) s
 |e,s=>Q e s
def Ax7(Q:bC->St->Prop):bC->St->Prop
 | .goto _,_=>False
 |e,s=>Q e s
def St.le(C:Ctx)(s d:St):Prop:=∀a w,s.rel C a w->d.rel C a w
theorem Awp.mono{Q Q':bC->St->Prop}{s:St}(h:Awp P C c Q s)(hq:∀e s,Q e s->Q' e s):Awp P C c Q' s:=
 λa w H=>wpIn_mono (h a w H) λe _ _ ⟨d,q,r⟩=>⟨d,hq e d q,r⟩
theorem Awp.le{Q:bC->St->Prop}{s d:St}(j:St.le C s d)(h:Awp P C c Q d):Awp P C c Q s:=λa w H=>h a w (j a w H)
theorem Al{Q:bC->St->Prop}{s:St}(h:Q .normal s):Awp P C .skip Q s:=λ_ _ H=>wpIn_skip ⟨s,h,H⟩
theorem Awp.label{l:Nat}{Q:bC->St->Prop}{s:St}(h:Q .normal s):Awp P C (.label l) Q s:=λ_ _ H=>wpIn_label ⟨s,h,H⟩
theorem Ay{Q:bC->St->Prop}{s:St}(h:Q (.exit id) s):Awp P C (.exit id) Q s:=λ_ _ H=>wpIn_exit ⟨s,h,H⟩
theorem Aw{Q:bC->St->Prop}{s:St}(h:Q .ret s):Awp P C .ret Q s:=λ_ _ H=>wpIn_ret ⟨s,h,H⟩
theorem Ab{x:bA}{Q:bC->St->Prop}{s:St}(h:∀K:St->Prop,(∀s,Awp P C y Q s->K s)->Awp P C x (Ke K Q) s):Awp P C (.seq x y) Q s:=λa w H=>
 wpIn_seq (wpIn_mono (h _ (λ_ h=>h) a w H) λe a' w' ⟨d,q,r⟩=>by
  cases e with
  |normal=>exact q a' w' r
  |_=>exact⟨d,q,r⟩)
theorem Ag{k:cF}{x:bA}{b:Bool}{Q:bC->St->Prop}{s:St}(hc:evA s.t k= .lit (.bool b))(ht:b=aP->Awp P C x Q s)(j:b=aM->Awp P C y Q s):Awp P C (.cond k x y) Q s:=λa w H=>by
 obtain⟨_,S,ψ,_,d⟩:=id H;have:=Bv d k;rw[hc]at this;unfold AV.rel at this;exact wpIn_cond_split this (λe=>ht e a w H) (λe=>j e a w H)
theorem Ac{Q:bC->St->Prop}{s:St}(h:Awp P C c (Jt id Q) s):Awp P C (.block id c) Q s:=λa w H=>
 wpIn_block (wpIn_mono (h a w H) λe a' w' ⟨d,q,r⟩=>by
  cases e with
  |exit i=>
   by_cases hi:i=id
   ·simp only[Jt,Exit.inBlock,hi,if_true]at q⊢;exact⟨d,q,r⟩
   ·simp only[Jt,Exit.inBlock,hi,if_false]at q⊢;exact⟨d,q,r⟩
  |_=>exact⟨d,q,r⟩)
theorem Kt{F:Fence}{n:Nat}{Q:bC->Act->eG->Prop}{w:eG}(h:c.wpIn F n P (Exit.noGoto Q) a w):(Code.scope c).wpIn F n P Q a w:=by
 intro b k cs s z x;obtain⟨e,j,d,hq,m⟩:=h b (.inScope c::k) cs s z x;have h0:(lone (b.atR a (.code (.scope c)::k)) cs w).fenced P F:=fenced_calm z x V;have q:step P (lone (b.atR a (.code (.scope c)::k)) cs w)= .next (lone (b.atR a (.code c::.inScope c::k)) cs w):=step_lone_go (by simp[stepG,stepG.exec,Frame.atR]);have D:step P (lone (b.atR j (.inScope c::k)) cs d)= .next (lone (b.atR j k) cs d):=step_lone_go (by simp[stepG,stepG.exec,Frame.atR]);have h1:(lone (b.atR j (.inScope c::k)) cs d).fenced P F:=fenced_calm z x V;cases e with
 |normal=>exact⟨.normal,j,d,hq,.head h0 q (StepsIn.trans m (.one h1 D))⟩
 |exit id=>
  refine⟨.exit id,j,d,hq,λE hk=>.head h0 q (m.1 E (by simp[exitTo,hk])),λu hk=>?_⟩;obtain⟨r,h2,G⟩:=m.2 u (by simp[exitTo,hk]);exact⟨r,h2,.head h0 q G⟩
 |goto l=>exact hq.elim
 |ret=>exact⟨_,j,d,hq,.of_steps (.one h0 q) m⟩
 |panic ch=>exact⟨_,j,d,hq,.of_steps (.one h0 q) m⟩
 |outgrown=>exact⟨_,j,d,hq,.of_steps (.one h0 q) m⟩
theorem Awp.scope{Q:bC->St->Prop}{s:St}(h:Awp P C c (Ax7 Q) s):Awp P C (.scope c) Q s:=λa w H=>
 Kt (wpIn_mono (h a w H) λe a' w' ⟨d,q,r⟩=>by
  cases e with
  |goto l=>exact q.elim
  |_=>exact⟨d,q,r⟩)
theorem Gt{p:Nat->Prop}(h:∃m,p m):∃m,p m/\∀k,p k->m<=k:=by
 obtain⟨m,s⟩:=h;induction m using jK with
 |_ m r=>
  by_cases hk:∃k,k < m/\p k
  ·obtain⟨k,q,d⟩:=hk;exact r k q d
  ·exact⟨m,s,λk d=>i9 λj=>hk ⟨k,j,d⟩⟩
theorem Awp.loop{Q:bC->St->Prop}{s:St}(J:Nat->St->Prop)(m:Nat)(h0:∃u,St.le C s u/\J m u)
 (X:∀m s,J m s->Awp P C c (Ke (λu=>∃D,D < m/\∃x,St.le C u x/\J D x) Q) s):Awp P C (.loop c) Q s:=λa w H=>by
 classical
 let O:Act->eG->Prop:=λa w=>∃m,∃s,J m s/\s.rel C a w
 let E:Act->eG->Nat:=λa w=>if h:∃m,∃s,J m s/\s.rel C a w then aS (Gt h)else 0
 obtain⟨u,G,hJ⟩:=h0;refine wpIn_loop O E ⟨m,u,hJ,G a w H⟩ λa w I=>?_
 have Z:=(aT (Gt I)).1;obtain⟨W,h1,h2⟩:=Z;have F:E a w=aS (Gt I):=dif_pos I;refine wpIn_mono (X _ W h1 a w h2) λe a' w' ⟨U,q,r⟩=>?_
 cases e with
 |normal=>
  obtain⟨D,Y,L,j,z⟩:=q;have d:O a' w':=⟨D,L,z,j a' w' r⟩
  refine⟨d,?_⟩;have:E a' w'=aS (Gt d):=dif_pos d;rw[this,F];exact Nat.lt_of_le_of_lt ((aT (Gt d)).2 _ ⟨L,z,j a' w' r⟩) Y
 |_=>exact⟨U,q,r⟩
def AOp(P:cG)(C:Ctx)(o:bZ)(s:St)(K:St->Prop):Prop:=
 ∀(Q':bC->Act->eG->Prop) a w,s.rel C a w->(∀c,o.op≠.defer c)/\o.wp P a w (λa' w'=>∃d,K d/\d.rel C a' w') Q'
def gA(ops:Array bZ)(t:List AV)(o:bZ):Option Bool:=
 match o.guard with
 |none=>jT aP
 |some (j,d)=>
  match((ops[j]?).bind (·.dst)).bind (t[·]?)with
  |some (.lit (.bool b))=>jT (b ==d)
  |some (.lit (.tuple _))=>jT aM
  |_=>jS
theorem DR{ops:Array bZ}{t:List AV}{b:Bool}{w:eG}{S:Nat->Prop}{h:List ABlk}{ψ:Nat->eC}(hg:gA ops t o=jT b)(z:Ae w S h ψ t a.tmps.toList):
 dU o (yielded ops a.tmps)=b:=by
 unfold gA at hg;unfold dU;cases s:o.guard with
 |none=>simpa[s]using hg
 |some p=>
  obtain⟨j,r⟩:=p;rw[s]at hg;simp only at hg⊢;unfold yielded;cases u:(ops[j]?).bind (·.dst)with
  |none=>rw[u]at hg;simp at hg
  |some d=>
   rw[u]at hg;simp only[Option.bind_some]at hg⊢;cases hx:t[d]? with
   |none=>rw[hx]at hg;simp at hg
   |some x=>
    rw[hx]at hg;obtain⟨v,h1,h2⟩:=BY z hx;have q:a.tmps[d]? =jT v:=by simpa using h1
    rw[q];split at hg
    ·rename_i b' m;cases m;unfold AV.rel at h2;subst h2;simpa using hg
    ·rename_i vs m;cases m;unfold AV.rel at h2;subst h2;simpa using hg
    ·cases hg
def CU(P:cG)(C:Ctx)(ops:Array bZ)(K:St->Prop):List bZ->St->Prop
 | [],s=>K s
 |o::d,s=>∃b,gA ops s.t o=jT b/\(b=aP->AOp P C o s (CU P C ops K d))/\(b=aM->CU P C ops K d ⟨Bl s.t o.dst (.lit undef),s.h⟩)
theorem FQ{s:St}{w:eG}(H:s.rel C a w)(d:Option Tmp):St.rel C ⟨Bl s.t d (.lit undef),s.h⟩ (a.put d undef) w:=by
 obtain⟨m,S,ψ,hh,j⟩:=H;exact⟨by rw[put_defers];exact m,S,ψ,hh,KE j d (by unfold AV.rel;rfl)⟩
theorem EU{ops:Array bZ}{K:St->Prop}{Q':bC->Act->eG->Prop}(j:∀s a w,K s->s.rel C a w->Q' .normal a w):∀(l:List bZ) (s:St) (a:Act) (w:eG),CU P C ops K l s->s.rel C a w->fN P ops Q' l a w
 | [],s,a,w,h,H=>j s a w h H
 |o::d,s,a,w,h,H=>by
  obtain⟨b,hg,ht,u⟩:=h;obtain⟨_,S,ψ,_,r⟩:=id H;have q:=DR hg r;unfold fN;rw[q];cases b with
  |true=>
   rw[if_pos V];exact .inl (cE (λa' w' ⟨m,h1,h2⟩=>EU j d m a' w' h1 h2) (ht V Q' a w H).2)
  |false=>
   rw[if_neg (by simp)];exact EU j d _ _ w (u V) (FQ H o.dst)
theorem Fh{rd:Option Nat}{ops:Array bZ}{K:St->Prop}{Q':bC->Act->eG->Prop}(j:¬bT Q')(m:∀s a w,K s->s.rel C a w->Q' .normal a w):∀(l:List bZ) (s:St) (a:Act) (w:eG),CU P C ops K l s->s.rel C a w->wpListIn (fnc rd) 4 P ops Q' l a w
 | [],s,a,w,h,H=>m s a w h H
 |o::d,s,a,w,h,H=>by
  obtain⟨b,hg,ht,x⟩:=h;obtain⟨_,S,ψ,_,u⟩:=id H;have r:=DR hg u;unfold wpListIn;rw[r];cases b with
  |true=>
   rw[if_pos V];exact Si (ht V Q' a w H).1 j (cE (λa' w' ⟨q,h1,h2⟩=>Fh j m d q a' w' h1 h2) (ht V Q' a w H).2)
  |false=>
   rw[if_neg (by simp)];exact⟨λ_ _=>UB _ _,Fh j m d _ _ w (x V) (FQ H o.dst)⟩
theorem Awp.region{l:List bZ}{Q:bC->St->Prop}{s:St}(h:CU P C l.toArray (Q .normal) l s):Awp P C (.region id l.toArray aM) Q s:=λa w H=>
 wpIn_mono (wpIn_region_lit (Fh (Q':=λe a' w'=>e= .normal/\∃d,Q e d/\d.rel C a' w') (λ⟨_,_,h⟩=>by cases h.1) (λs a w h H=>⟨rfl,s,h,H⟩) l s a w h H)) λ_ _ _ h=>h.2
def YZ(w:eG)(S:Nat->Prop)(h:List ABlk)(ψ:Nat->eC)(r:AV)(v:eC)(w':eG):Prop:=
 Below w.heap.size w w'/\∃S':Nat->Prop,(∀k,S k->S' k)/\(∀k,S' k->S k\/w.heap.size<=k)/\(∀k,S' k->k < w'.heap.size)/\AV.rel w' S' h ψ r v
def Wd(P:cG)(w:eG)(S:Nat->Prop)(h:List ABlk)(ψ:Nat->eC)(r:AV):dV Next->Prop
 | .ok (.value v) w'=>YZ w S h ψ r v w'
 | .ok .skip w'=>YZ w S h ψ r undef w'
 | .ok (.enter f args) d=>d=w/\a8 P f args w λe w'=>∃v,e= .returned v/\YZ w S h ψ r v w'
 |_=>False
def AT(P:cG)(C:Ctx)(t:List AV)(h:List ABlk)(o:bZ)(r:AV):Prop:=
 ∀S ψ w (ρ:cF->eC),HRel C h S ψ w->(∀x∈o.op.operands,AV.rel w S h ψ (evA t x) (ρ x))->Wd P w S h ψ r ((eR ρ o).run P w)
theorem YZ.same{w:eG}{S:Nat->Prop}{h:List ABlk}{ψ:Nat->eC}{r:AV}(j:∀k,S k->k < w.heap.size)(d:AV.rel w S h ψ r v):YZ w S h ψ r v w:=
 ⟨dW _ _,S,λ_ h=>h,λ_ h=>.inl h,j,d⟩
theorem Lc{s:St}{r:AV}{w:eG}{S:Nat->Prop}{ψ:Nat->eC}{res:dV Next}(z:a.defers=mkD s.h)(H:HRel C s.h S ψ w)(q:Ae w S s.h ψ s.t a.tmps.toList)
 (hq:Wd P w S s.h ψ r res)(D:∀a' w',St.rel C ⟨Bl s.t o.dst r,s.h⟩ a' w'->K a' w'):o.upon P a K Q' res:=by
 have d:∀v w',YZ w S s.h ψ r v w'->K (a.put o.dst v) w':=by
  rintro v w' ⟨m,S',h1,h2,F,E⟩;have X:Ext w S s.h ψ w' S' s.h ψ:=Ext.grow s.h ψ (λk hk=>m.block k (H.lt k hk)) h1;exact D _ _ ⟨by rw[put_defers];exact z,S',ψ,H.grow m h1 h2 F,KE (Az X _ _ q) o.dst E⟩
 cases res with
 |ok n w'=>
  cases n <;> simp only[Wd]at hq <;> simp only[cB]
  case value v=>exact d v w' hq
  case skip=>exact d undef w' hq
  case enter f args=>
   obtain⟨rfl,hc⟩:=hq;exact hc.mono λe j ⟨v,u,hg⟩=>by subst u;exact d v j hg
 |halt x w'=>simp only[Wd]at hq
theorem Lu{r:AV}{h:List ABlk}{w:eG}{S:Nat->Prop}{ψ:Nat->eC}(hq:Wd P w S h ψ r ((eR ρ o).run P w)):∀c,o.op≠.defer c:=λc e=>by
 simp only[eR,e,dX]at hq;generalize (fF ρ c o.type).run P w=x at hq;cases x with
 |ok d w'=>exact hq
 |halt x w'=>exact hq
theorem VF{s:St}{r:AV}{K:St->Prop}(hq:AT P C s.t s.h o r)(m:K ⟨Bl s.t o.dst r,s.h⟩):AOp P C o s K:=by
 rintro Q' a w ⟨j,S,ψ,H,d⟩;refine⟨Lu (hq S ψ w a.eval H λx _=>Bv d x),?_⟩;exact Lc j H d (hq S ψ w a.eval H λx _=>Bv d x) λa' w' h=>⟨_,m,h⟩
section
variable{ops:Array bZ}{md:dL}{h:List ABlk}
def F9(P:cG)(C:Ctx)(ops:Array bZ)(h:List ABlk)(o:bZ)(r:AV)(t:List AV):Prop:=
 (gA ops t o=jT aP/\AT P C t h o r)\/(gA ops t o=jT aM/\r= .lit undef)
def aOp(P:cG)(C:Ctx)(ops:Array bZ)(h:List ABlk)(i:Nat)(K:List AV->Prop)(t:List AV):Prop:=
 match ops[i]? with
 |none=>K t
 |some o=>∃r,F9 P C ops h o r t/\K (Bl t o.dst r)
theorem YV{t:List AV}{K K':List AV->Prop}(hk:∀t,K t->K' t)(hh:aOp P C ops h i K t):aOp P C ops h i K' t:=by
 unfold aOp at *;split
 ·exact hk _ (by simpa[*]using hh)
 ·rename_i o d;simp only[d]at hh;obtain⟨r,h1,h2⟩:=hh;exact⟨r,h1,hk _ h2⟩
def Ai0(P:cG)(C:Ctx)(md:dL)(ops:Array bZ)(h:List ABlk)(n:Nat)(L:Array Bool->List AV->Prop):Nat->Array Bool->List AV->Prop
 |0,listed,t=>L listed t
 |f+1,listed,t=>
  dR md ops listed≠[]/\∀i∈dR md ops listed,i < n/\aOp P C ops h i (Ai0 P C md ops h n L f (listed.setIfInBounds i aP)) t
theorem VQ{t:List AV}{w:eG}{K:List AV->Prop}(H:St.rel C ⟨t,h⟩ a w)(u:∀t a w,K t->St.rel C ⟨t,h⟩ a w->K' a w)
 (hh:aOp P C ops h i K t):wpOp P ops Q' i K' a w:=by
 unfold aOp at hh;unfold wpOp;split
 ·rename_i q;simp only[q]at hh;exact u _ _ _ hh H
 ·rename_i o q;simp only[q]at hh;obtain⟨r,z,hk⟩:=hh;obtain⟨D,S,ψ,d,j⟩:=id H;rcases z with⟨hg,hq⟩|⟨hg,rfl⟩
  ·have m:=DR hg j;rw[m,if_pos V];exact .inl (Lc (s:=⟨t,h⟩) D d j (hq S ψ w a.eval d λx _=>Bv j x) λa' w' h=>u _ _ _ hk h)
  ·have m:=DR hg j;rw[m,if_neg (by simp)];exact u _ _ _ hk (FQ H o.dst)
theorem JE{n g:Nat}{L:Array Bool->List AV->Prop}{Q':bC->Act->eG->Prop}(d:∀listed t a w,L listed t->St.rel C ⟨t,h⟩ a w->wpAny P md ops Q' g listed a w):
 ∀(f:Nat) (listed:Array Bool) (t:List AV) (a:Act) (w:eG),Ai0 P C md ops h n L f listed t->St.rel C ⟨t,h⟩ a w->wpAny P md ops Q' (f+g) listed a w
 |0,listed,t,a,w,hh,H=>by rw[jM];exact d _ _ _ _ hh H
 |f+1,listed,t,a,w,hh,H=>by
  rw[show f+1+g=(f+g)+1 by omega];exact⟨λh0=>absurd h0 hh.1,λi hi=>VQ H (λt' a' w' h' j=>JE d f _ t' a' w' h' j) (hh.2 i hi).2⟩
theorem Aqy{t:List AV}{r:AV}{x:cF}(hx:∀d,dst=jT d->x≠.tmp d):evA (Bl t dst r) x=evA t x:=by
 cases dst with
 |none=>rfl
 |some d=>
  cases x with
  |tmp i=>
   have:d≠i:=λe=>hx d V (by rw[e])
   simp[evA,Bl,gN this]
  |_=>rfl
theorem TH{t:List AV}{u r:AV}(m:∀d,dst=jT d->d∉o.looksAt ops):AT P C (Bl t dst u) h o r↔AT P C t h o r:=by
 have j:∀x∈o.op.operands,evA (Bl t dst u) x=evA t x:=λx hx=>Aqy λd s q=>m d s (by
  subst q;exact List.mem_append_left _ (List.mem_filterMap.2 ⟨.tmp d,by simpa using hx,rfl⟩))
 constructor
 ·intro H S ψ w ρ h1 h2;exact H S ψ w ρ h1 λx hx=>by rw[j x hx];exact h2 x hx
 ·intro H S ψ w ρ h1 h2;exact H S ψ w ρ h1 λx hx=>by rw[<-j x hx];exact h2 x hx
theorem An3{t:List AV}{u:AV}(m:∀d,dst=jT d->d∉o.looksAt ops):gA ops (Bl t dst u) o=gA ops t o:=by
 cases dst with
 |none=>rfl
 |some d=>
  unfold gA;cases hg:o.guard with
  |none=>rfl
  |some p=>
   obtain⟨j,q⟩:=p;simp only;cases r:(ops[j]?).bind (·.dst)with
   |none=>rfl
   |some k=>
    have:d≠k:=λe=>m d V (by
     subst e;unfold Oper.looksAt;rw[hg];simp only;rw[r];simp)
    simp[Bl,gN this]
theorem PK{t:List AV}{u r:AV}(j:∀d,dst=jT d->d∉o.looksAt ops):F9 P C ops h o r (Bl t dst u)↔F9 P C ops h o r t:=by
 unfold F9;rw[An3 j,TH j]
theorem TJ(t:List AV){x y:Option Tmp}(v u:AV)(j:∀d,x=jT d->y≠jT d):Bl (Bl t x v) y u=Bl (Bl t y u) x v:=by
 cases x with
 |none=>rfl
 |some d=>
  cases y with
  |none=>rfl
  |some e=>
   have:d≠e:=λh=>j d V (by rw[h])
   exact List.set_comm _ _ this
theorem Ah6{j:Nat}{m:bZ}{v:AV}(u:ops[j]? =jT m)(d:oi.apart ops m=aP){K:List AV->Prop}{t:List AV}(q:F9 P C ops h oi v t)(hh:aOp P C ops h j K (Bl t oi.dst v)):
 aOp P C ops h j (λt'=>F9 P C ops h oi v t'/\K (Bl t' oi.dst v)) t:=by
 obtain⟨h1,h2,x⟩:=b9 d;unfold aOp at *;simp only[u]at *;obtain⟨r,s,hk⟩:=hh;exact⟨r,(PK h1).1 s,(PK x).2 q,by rw[<-TJ t v r h2];exact hk⟩
theorem Rn{n:Nat}{v:AV}{L:Array Bool->List AV->Prop}(hi:ops[i]? =jT oi)
 (q:∀listed i,bG md ops n listed->i < n->listed.getD i aP=aM->∀t,n<=t->t∉dR md ops listed)(U:i < n)
 (F:∀listed t,L listed t->∀j∈dR md ops listed,n<=j):
 ∀(f:Nat) (listed:Array Bool) (t:List AV),bG md ops n listed->
  (∀j G,ops[j]? =jT G->j≠i->listed.getD j aP=aM->(∀e∈G.after,dM md e=aP->e.on≠i)->oi.apart ops G=aP)->
  i∈dR md ops listed->F9 P C ops h oi v t->
  Ai0 P C md ops h n L f (listed.setIfInBounds i aP) (Bl t oi.dst v)->Ai0 P C md ops h n L (f+1) listed t:=by
 intro f;induction f with
 |zero=>
  intro listed t s _ z X H;have m:=(fC.1 z).1;refine⟨λh=>(by rw[h]at z;cases z),λj E=>?_⟩;have u:j < n:=by
   rcases jD j n with h|h
   ·exact h
   ·exact absurd E (q _ i s U m j h)
  refine⟨u,?_⟩;by_cases d:j=i
  ·subst d;unfold aOp;simp only[hi];exact⟨v,X,H⟩
  ·have:=F _ _ H j (fE E d);omega
 |succ f ih=>
  intro listed t s r z X H;have m:=(fC.1 z).1;refine⟨λh=>(by rw[h]at z;cases z),λj E=>?_⟩;have u:j < n:=by
   rcases jD j n with h|h
   ·exact h
   ·exact absurd E (q _ i s U m j h)
  refine⟨u,?_⟩;by_cases d:j=i
  ·subst d;unfold aOp;simp only[hi];exact⟨v,X,H⟩
  ·have h1:=(H.2 j (fE E d)).2;obtain⟨D,G,I,W⟩:=fC.1 E;have J:∀e∈G.after,dM md e=aP->e.on≠i:=λe he hb aa=>by
    have h1:=W e he hb;rw[aa,eS m]at h1;cases h1
   have h2:=Ah6 I (r j G I d D J) X h1;have x:∀k ok,ops[k]? =jT ok->k≠i->(listed.setIfInBounds j aP).getD k aP=aM->
    (∀e∈ok.after,dM md e=aP->e.on≠i)->oi.apart ops ok=aP:=λk ok hk Z m Y=>by
    refine r k ok hk Z ?_ Y;by_cases O:j=k
    ·subst O;exact D
    ·rw[eV aP O]at m;exact m
   refine YV (λa' h3=>ih (listed.setIfInBounds j aP) a' (s.set E u) x (fE z (jO d)) h3.1 ?_) h2;rw[aG _ _ d];exact h3.2
def aQ(P:cG)(C:Ctx)(ops:Array bZ)(h:List ABlk)(K:List AV->Prop):List bZ->List AV->Prop
 | [],t=>K t
 |o::d,t=>∃r,F9 P C ops h o r t/\aQ P C ops h K d (Bl t o.dst r)
theorem SD{n g:Nat}{Lq:List AV->Prop}(m:∀listed i,bG md ops n listed->i < n->listed.getD i aP=aM->∀t,n<=t->t∉dR md ops listed):
 ∀(l:List bZ) (k:Nat) (listed:Array Bool) (t:List AV),(∀j,j < l.length->l[j]? =ops[k+j]?)->k+l.length=n->bG md ops n listed->
 dP md ops g l.length k listed=aP->aQ P C ops h Lq l t->
 Ai0 P C md ops h n (λd t'=>dT md ops g n d=aP/\Lq t') l.length listed t
 | [],k,listed,t,_,hk,_,u,hh=>by
  have:k=n:=by simpa using hk
  subst this;exact⟨by simpa[dP]using u,hh⟩
 |o::l,k,listed,t,z,hk,q,u,hh=>by
  have h0:ops[k]? =jT o:=by simpa using(z 0 (by simp)).symm
  simp only[gU,dP,aL]at u;obtain⟨⟨E,F⟩,x⟩:=u;have s:k < n:=by simp only[gU]at hk;omega
  have r:k∈dR md ops listed:=by simpa using E
  obtain⟨v,D,H⟩:=hh;exact Rn h0 m s (λd a' G=>seqB_ready G.1) l.length listed t q (dO h0 F) r D
   (SD m l (k+1) _ _ (λj I=>by have:=z (j+1) (by simp;omega);simpa[iX,iY 1 j]using this) (by simp only[gU]at hk;omega) (q.set r s) x H)
def Acd(ops:Array bZ)(n:Nat):Bool:=
 (dQ ops&&KI ops)&&aU (n<=ops.size)&&(n ==ops.size||(Region.sinkB .any ops n&&Region.chainB .any ops n))&&dP .any ops (ops.size - n) n 0 (aF ops.size aM)
end
theorem Ok{l:List bZ}{Q:bC->St->Prop}{s:St}(n:Nat)(hm:P.follows .mixedOrders=aP)(hB:Acd l.toArray n=aP)
 (hh:aQ P C l.toArray s.h (λt=>CU P C l.toArray (Q .normal) (l.drop n) ⟨t,s.h⟩) (l.take n) s.t):Awp P C (.region id l.toArray aP) Q s:=λa w H=>by
 simp only[Acd,aL,decide_eq_true_eq,aO,beq_iff_eq]at hB;obtain⟨⟨⟨⟨X,L⟩,hn⟩,D⟩,u⟩:=hB;have aa:n<=l.length:=by simpa using hn
 have d:(l.take n).length=n:=by simp;omega
 have z:(l.drop n).length=l.toArray.size - n:=by simp
 have r:bG .any l.toArray n (aF l.toArray.size aM):=
  ⟨by simp,λj oj _ E=>(by rw[eU]at E;cases E),λt _ ht=>eT (by simpa using ht) (eU _ _)⟩
 have m:∀(listed:Array Bool) (i:Nat),bG .any l.toArray n listed->i < n->listed.getD i aP=aM->∀t,n<=t->t∉dR .any l.toArray listed:=by
  intro listed i F hi G t ht;rcases D with D|⟨D,hc⟩
  ·intro I;obtain⟨_,o,J,_⟩:=fC.1 I;have:=(aC.1 J).1;omega
  ·by_cases O:n < l.toArray.size
   ·exact tail_waits D hc O F _ i V hi G t ht
   ·intro I;obtain⟨_,o,J,_⟩:=fC.1 I;have:=(aC.1 J).1;omega
 have HH:=SD (md:=.any) (g:=l.toArray.size - n) m (l.take n) 0 _ s.t (λj Y=>by
  have U:j < n:=by rw[d]at Y;exact Y
  simp[U]) (by simpa using d) r (by rw[d];exact u) hh
 refine FI hm L ?_;have W:St.rel C ⟨s.t,s.h⟩ a {w with drawn:=w.drawn+1}:=by
  obtain⟨hd,S,ψ,x,E⟩:=H;have hb:Below w.heap.size w {w with drawn:=w.drawn+1}:=⟨rfl,rfl,rfl,jA _,λ_ _=>rfl⟩
  exact⟨hd,S,ψ,x.grow hb (λ_ h=>h) (λ_ h=>.inl h) x.lt,Az (show Ext w S s.h ψ {w with drawn:=w.drawn+1} S s.h ψ from Ext.grow s.h ψ (λk hk=>rfl) λ_ h=>h) _ _ E⟩
 have:=JE (Q':=λe a' w'=>e= .normal/\∃q,Q e q/\q.rel C a' w') (g:=l.toArray.size - n) (λlisted t a' w' Z W=>by
  have:=wpAny_of_seq (md:=.any) (l.drop n) n listed a' w' (λj=>by simp[gG]) (by rw[z];exact Z.1) (EU (Q':=λe a' w'=>e= .normal/\∃q,Q e q/\q.rel C a' w') (λs a w h H=>⟨rfl,s,h,H⟩) _ _ _ _ Z.2 W);rwa [z]at this) _ _ _ _ _ HH W
 rw[d,show n+(l.toArray.size - n)=l.toArray.size by omega]at this;exact this
end
mutual
def AV.cl:AV->Bool
 | .own _ _=>aM
 | .ptr _ _=>aM
 | .rp _ _ _ _=>aM
 | .agg l=>Bh l
 | .tup l=>Bh l
 | .fn _ l=>Bh l
 |_=>aP
def Bh:List AV->Bool
 | []=>aP
 |x::l=>AV.cl x&&Bh l
end
section
variable{w:eG}{S:Nat->Prop}{h h':List ABlk}{ψ ψ':Nat->eC}
mutual
theorem Dv:∀(x:AV) (v:eC),AV.cl x=aP->AV.rel w S h ψ x v->AV.rel w S h' ψ' x v
 | .any,_,_,_=>by unfold AV.rel;trivial
 | .lit u,v,_,H=>by unfold AV.rel at H⊢;exact H
 | .bs T l,v,_,H=>by unfold AV.rel at H⊢;exact H
 | .tv T d,v,_,H=>by unfold AV.rel at H⊢;exact H
 | .own i ver,v,hc,H=>by simp[AV.cl]at hc
 | .ptr i off,v,hc,H=>by simp[AV.cl]at hc
 | .rp i ver k off,v,hc,H=>by simp[AV.cl]at hc
 | .bp T d off,v,_,H=>by unfold AV.rel at H⊢;exact H
 | .agg l,v,hc,H=>by
  unfold AV.cl at hc;unfold AV.rel at H⊢;obtain⟨cs,e,hl⟩:=H;exact⟨cs,e,Bi l cs hc hl⟩
 | .tup l,v,hc,H=>by
  unfold AV.cl at hc;unfold AV.rel at H⊢;obtain⟨cs,e,hl⟩:=H;exact⟨cs,e,Bi l cs hc hl⟩
 | .fn f l,v,hc,H=>by
  unfold AV.cl at hc;unfold AV.rel at H⊢;obtain⟨cs,e,hl⟩:=H;exact⟨cs,e,Bi l cs hc hl⟩
theorem Bi:∀(l:List AV) (cs:List eC),Bh l=aP->Ae w S h ψ l cs->Ae w S h' ψ' l cs
 | [],cs,_,H=>by unfold Ae at H⊢;exact H
 |x::l,cs,hc,H=>by
  unfold Bh at hc;rw[aL]at hc;unfold Ae at H⊢;obtain⟨v,vs,e,h1,h2⟩:=H;exact⟨v,vs,e,Dv x v hc.1 h1,Bi l vs hc.2 h2⟩
end
end
def ψ0:Nat->eC:=λ_=>undef
def Ca(P:cG)(f:bF):Bool:=
 match P.funcs[f]? with
 |some fn=>!(fn.name == "runtime.NumGoroutine")&&!fn.body.isNone
 |none=>aM
def Fn(P:cG)(f:bF)(args:List AV)(r:AV):Prop:=
 Ca P f=aP/\∀(w:eG) (S:Nat->Prop) (vs:List eC),(∀k,S k->k < w.heap.size)->Ae w S [] ψ0 args vs->
  a8 P f vs.toArray w λe w'=>∃v,e= .returned v/\YZ w S [] ψ0 r v w'
theorem VB{P:cG}{args:List AV}(h:Fn P f args (.lit (.slice jS 0 0))):Fn P f args (.bs T []):=
 ⟨h.1,λw S vs x r=>(h.2 w S vs x r).mono λe w' ⟨v,s,u,S',q,m,j,d⟩=>⟨v,s,u,S',q,m,j,by
  unfold AV.rel at d⊢;rw[d];exact T.slice_nilS _ _⟩⟩
theorem Cd{w:eG}{S:Nat->Prop}{h:List ABlk}{ψ:Nat->eC}{t:List AV}{ρ:cF->eC}:∀{l:List cF},(∀x∈l,AV.rel w S h ψ (evA t x) (ρ x))->Ae w S h ψ (l.map (evA t)) (l.map ρ)
 | [],_=>by unfold Ae;rfl
 |x::l,H=>by
  simp only[gY];unfold Ae;exact⟨_,_,rfl,H x (by simp),Cd λy d=>H y (by simp[d])⟩
theorem Cv{P:cG}{args:Array cF}(ho:o.op= .call {callee:=.value (.func f),args:=args,argTypes:=tys})(hE:Ca P f=aP)(ρ:cF->eC)(w:eG)(hρ:ρ (.func f)= .func (.func f) #[] #[]):
 (eR ρ o).run P w= .ok (.enter f (args.map ρ)) w:=by
 unfold Ca at hE;cases hf:P.funcs[f]? with
 |none=>rw[hf]at hE;cases hE
 |some fn=>
  rw[hf]at hE;simp only[zas]at hE;have h1:¬fn.name= "runtime.NumGoroutine" :=by simpa using hE.1
  have h2:¬fn.body=jS:=λe=>by have:=hE.2;rw[e]at this;cases this
  simp[eR,ho,fF,Deferred.ofValue,hρ,eZ,eO,hf,h1,h2]
theorem AT.call{P:cG}{C:Ctx}{t:List AV}{h:List ABlk}{args:Array cF}{xs:List AV}{r:AV}
 (m:o.op= .call {callee:=.value (.func f),args:=args,argTypes:=tys})(q:Fn P f xs r)(hx:args.toList.map (evA t)=xs)(hc:Bh xs=aP)(E:AV.cl r=aP):AT P C t h o r:=by
 intro S ψ w ρ H d;have h1:ρ (.func f)= .func (.func f) #[] #[]:=by
  have:=d (.func f) (by rw[m];exact aD.2 (.inl (by simp)));simpa[evA,AV.rel]using this
 rw[Cv m q.1 ρ w h1];refine⟨rfl,?_⟩;have h2:Ae w S h ψ xs (args.toList.map ρ):=by
  rw[<-hx];exact Cd λx j=>d x (by rw[m];exact aD.2 (.inr (aE.1 j)))
 have I:=q.2 w S (args.toList.map ρ) H.lt (Bi _ _ hc h2);rw[show(args.map ρ)=(args.toList.map ρ).toArray from(by rw[<-aI])];refine I.mono ?_;rintro e w' ⟨v,F,G,S',D,z,u,s⟩;exact⟨v,F,G,S',D,z,u,Dv _ _ E s⟩
inductive Lent(h:List ABlk):List AV->List AV->Prop
 |nil:Lent h [] []
 |cl {x:AV} {l l':List AV} (hx:AV.cl x=true) (hl:Lent h l l'):Lent h (x::l) (x::l')
 |own {i ver:Nat} {e:TypeId} {α:Type} {T:Ty α} {d:List α} {l l':List AV} (hi:h[i]? =some (.row ver e T d)) (hl:Lent h l l'):Lent h (.own i ver::l) (.bs T d::l')
theorem Lent.rel{C:Ctx}{w:eG}{S:Nat->Prop}{h:List ABlk}{ψ:Nat->eC}(H:HRel C h S ψ w):∀{l l':List AV} {vs:List eC},Lent h l l'->Ae w S h ψ l vs->Ae w (λk=>k < w.heap.size) [] ψ0 l' vs
 | [],_,vs,j,q=>by
  cases j;unfold Ae at q⊢;exact q
 |x::l,_,vs,j,q=>by
  have X:Ext w S h ψ w (λk=>k < w.heap.size) h ψ:=Ext.grow h ψ (λ_ _=>rfl) H.lt;unfold Ae at q;obtain⟨v,m,e,h1,h2⟩:=q;cases j with
  |cl hx j=>
   unfold Ae;exact⟨v,m,e,Dv _ _ hx (FN X _ _ h1),Lent.rel H j h2⟩
  |own hi j=>
   unfold Ae;refine⟨v,m,e,?_,Lent.rel H j h2⟩;unfold AV.rel at h1⊢;have u:=(h1.2 _ (by rw[hi];rfl)).2 V;subst u;obtain⟨cells,r,E,s,D⟩:=H.blk _ _ hi;exact C5 r (λi d z=>Ty.keepS _ (s i d z) (λ_ _=>rfl) H.lt) λg hg=>(eL r g hg).2
theorem J2{P:cG}{C:Ctx}{t:List AV}{h:List ABlk}{args:Array cF}{xs:List AV}{u:eC}
 (m:o.op= .call {callee:=.value (.func f),args:=args,argTypes:=tys})(s:Fn P f xs (.lit u))(hx:Lent h (args.toList.map (evA t)) xs):AT P C t h o (.lit u):=by
 intro S ψ w ρ H d;have h1:ρ (.func f)= .func (.func f) #[] #[]:=by
  have:=d (.func f) (by rw[m];exact aD.2 (.inl (by simp)));simpa[evA,AV.rel]using this
 rw[Cv m s.1 ρ w h1];refine⟨rfl,?_⟩;have h2:Ae w S h ψ (args.toList.map (evA t)) (args.toList.map ρ):=Cd λx j=>d x (by rw[m];exact aD.2 (.inr (aE.1 j)))
 have D:=s.2 w _ (args.toList.map ρ) (λ_ h=>h) (Lent.rel H hx h2);rw[show(args.map ρ)=(args.toList.map ρ).toArray from(by rw[<-aI])];refine D.mono ?_;rintro e w' ⟨v,z,r,S',G,F,E,q⟩;refine⟨v,z,r,S,λ_ h=>h,λ_ h=>.inl h,λk hk=>jC (H.lt k hk) r.size,?_⟩;unfold AV.rel at q⊢;exact q
def Fin(h:List ABlk)(x r:AV):Prop:=mkD h= []/\
 ∀(C:Ctx) (S:Nat->Prop) (ψ:Nat->eC) (w:eG) (v:eC),C.std->HRel C h S ψ w->AV.rel w S h ψ x v->
  ∃S':Nat->Prop,(∀k,S k->S' k)/\(∀k,S' k->S k\/C.w0.heap.size<=k)/\(∀k,S' k->k < w.heap.size)/\AV.rel w S' [] ψ0 r v
theorem Fin.cl{h:List ABlk}{r:AV}(j:AV.cl r=aP)(m:mkD h= []:=by rfl):Fin h r r:=⟨m,λC S ψ w v _ H d=>⟨S,λ_ h=>h,λ_ h=>.inl h,H.lt,Dv _ _ j d⟩⟩
theorem Fin.own{h:List ABlk}{ver:Nat}{l:List α}(hi:h[i]? =jT (.row ver e T l))(r:mkD h= []:=by rfl):Fin h (.own i ver) (.bs T l):=⟨r,λC S ψ w v u H q=>by
 unfold AV.rel at q;have j:=(q.2 _ (by rw[hi];rfl)).2 V;subst j;obtain⟨cells,h1,h0,h2,x⟩:=H.blk i _ hi;refine⟨λk=>S k\/(ψ i).ownBlock=jT k,λ_ h=>.inl h,λk hk=>?_,λk hk=>?_,?_⟩
 ·rcases hk with hk|hk
  ·exact .inl hk
  ·exact .inr (i9 λm=>(x k hk).1 (u k m))
 ·rcases hk with hk|hk
  ·exact H.lt k hk
  ·exact(eL h1 k hk).2
 ·unfold AV.rel;exact C5 h1 (λi d s=>T.keepS (h2 i d s) (λ_ _=>rfl) λ_ h=>.inl h) λg hg=>.inr hg⟩
def AAm(t:Tmp)(r:AV):bC->St->Prop:=λe s=>(e= .normal\/e= .ret)/\Fin s.h (evA s.t (.tmp t)) r
def Azs(t u:Tmp)(r q:AV):bC->St->Prop:=λe s=>(e= .normal\/e= .ret)/\∃d j,Fin s.h (.tup [evA s.t (.tmp t),evA s.t (.tmp u)]) (.tup [d,j])/\d=r/\j=q
theorem Dl{w:eG}{S:Nat->Prop}{args:List AV}{vs:List eC}{n:Nat}(q:∀k,S k->k < w.heap.size)(m:Ae w S [] ψ0 args vs):
 St.rel ⟨w,S,λk=>k < w.heap.size,jS⟩ ⟨args++iJ (n - args.length) (.lit undef),[]⟩ {tmps:=vs.toArray++aF (n - vs.toArray.size) undef,defers:=[]} w:=by
 refine⟨rfl,S,ψ0,⟨Kp.refl _ _,λ_ h=>h,q,λ_ h=>h,λ_ h=>.inl h,λi b hi=>by simp at hi,λi j _ hi=>by simp[ABlk.live]at hi⟩,?_⟩;simp only[zao];refine BK m (DL (by simp[Bw m]) λi x v hx d=>?_);rw[gL]at hx d;split at hx <;> cases hx
 split at d <;> cases d
 unfold AV.rel;rfl
theorem FE{w:eG}{S:Nat->Prop}{s:St}{w':eG}{x r:AV}{d:Nat->Prop}{ψ:Nat->eC}(H:HRel ⟨w,S,λk=>k < w.heap.size,jS⟩ s.h d ψ w')(D:Fin s.h x r)(z:AV.rel w' d s.h ψ x v):YZ w S [] ψ0 r v w':=by
 obtain⟨S',u,q,m,j⟩:=D.2 _ _ _ _ _ (λ_ h=>h) H z;refine⟨H.bel.below λ_ h=>h,S',λk hk=>u k (H.sub k hk),λk hk=>?_,m,j⟩;rcases q k hk with h1|h1
 ·exact H.new k h1
 ·exact .inr h1
theorem AQ{P:cG}{fn:bE}{args:List AV}{r:AV}{t:Tmp}{n:Nat}(E:P.funcs[f]? =jT fn)(G:fn.body=jT c)(J:Ca P f=aP)(m:fn.results= #[.tmp t])(z:fn.ntmps=n)
 (h:∀C:Ctx,C.std->Awp P C c (AAm t r) ⟨args++iJ (n - args.length) (.lit undef),[]⟩):Fn P f args r:=by
 refine⟨J,λw S vs I x=>eQ E G ?_⟩;rw[z];refine wp_mono ((h ⟨w,S,λk=>k < w.heap.size,jS⟩ (λ_ h=>h)).wp V (Dl I x)) ?_;rintro e a' w' ⟨s,⟨F,j⟩,q,L,ψ,H,D⟩;rw[j.1]at q;have u:=Bv D (.tmp t);have hg:=FE H j u;have d:(results fn a'.tmps).run P w'= .ok (a'.eval (.tmp t)) w':=fG m _ _ _;rcases F with rfl|rfl
 ·exact⟨q,_,d,_,rfl,hg⟩
 ·exact⟨q,_,d,_,rfl,hg⟩
theorem Abz{P:cG}{fn:bE}{args:List AV}{r q:AV}{t u:Tmp}{n:Nat}(G:P.funcs[f]? =jT fn)(J:fn.body=jT c)(O:Ca P f=aP)(m:fn.results= #[.tmp t,.tmp u])(F:fn.ntmps=n)
 (h:∀C:Ctx,C.std->Awp P C c (Azs t u r q) ⟨args++iJ (n - args.length) (.lit undef),[]⟩):Fn P f args (.tup [r,q]):=by
 refine⟨O,λw S vs L E=>eQ G J ?_⟩;rw[F];refine wp_mono ((h ⟨w,S,λk=>k < w.heap.size,jS⟩ (λ_ h=>h)).wp V (Dl L E)) ?_;rintro e a' w' ⟨s,⟨I,W,X,j,rfl,rfl⟩,x,U,ψ,H,z⟩;rw[j.1]at x;have D:AV.rel w' U s.h ψ (.tup [evA s.t (.tmp t),evA s.t (.tmp u)]) (.tuple #[a'.eval (.tmp t),a'.eval (.tmp u)]):=by
  unfold AV.rel;refine⟨[a'.eval (.tmp t),a'.eval (.tmp u)],rfl,?_⟩;unfold Ae;refine⟨_,_,rfl,Bv z (.tmp t),?_⟩;unfold Ae;refine⟨_,_,rfl,Bv z (.tmp u),?_⟩;unfold Ae;rfl
 have hg:=FE H j D;have d:(results fn a'.tmps).run P w'= .ok (.tuple #[a'.eval (.tmp t),a'.eval (.tmp u)]) w':=results_tmp2 m _ _ _;rcases I with rfl|rfl
 ·exact⟨x,_,d,_,rfl,hg⟩
 ·exact⟨x,_,d,_,rfl,hg⟩
theorem nS{P:cG}{C:Ctx}{h:List ABlk}{Q:bC->St->Prop}{t t':List AV}(hk:Awp P C c Q ⟨t',h⟩)(ht:t=t':=by(simp only[Nat.reduceAdd,Nat.reduceSub,zaa];exact V)):Awp P C c Q ⟨t,h⟩:=by
 subst ht;exact hk
end Mu
namespace Mu
open Go Go.RowKit Go.ChangeShapes Go.WideShapes
variable{α:Type}{T:Ty α}{a b:Int}{c:Nat}{cs:List eC}{d:α}{e:eA}{enc:α->List AV}{i:Nat}{ik:bR}{j:Nat}{k:bR}{l:List α}{n off:Nat}{r:AV}{st ty:eA}{tys:Array eA}{ver:Nat}{x:cF}{xt:eA}{y:cF}{yt:eA}
def Enc{α:Type}(T:Ty α)(enc:α->List AV):Prop:=∀(w:eG) (S:Nat->Prop) (h:List ABlk) (ψ:Nat->eC) (cs:List eC) (d:α),T.RS w S cs d->Ae w S h ψ (enc d) cs
section
variable{P:cG}{C:Ctx}{t:List AV}{h:List ABlk}{o:bZ}
variable{w:eG}{S:Nat->Prop}{ψ:Nat->eC}
theorem Aq4(k:bR):Enc (Ty.int k) λd=>[.lit (.int k d)]:=by
 rintro w S h ψ cs d ⟨rfl,_⟩;simp[Ae,AV.rel]
theorem Alk:Enc Ty.bool λd=>[.lit (.bool d)]:=by
 rintro w S h ψ cs d rfl;simp[Ae,AV.rel]
theorem UL(T:Ty α):Enc T.slice λl=>[.bs T l]:=by
 intro w S h ψ cs d H;obtain⟨A,c,rfl,_⟩:=id H;unfold Ae;refine⟨_,_,rfl,?_,?_⟩
 ·unfold AV.rel;exact H
 ·unfold Ae;rfl
theorem AL(H:∀S ψ w (ρ:cF->eC),HRel C h S ψ w->(∀x∈o.op.operands,AV.rel w S h ψ (evA t x) (ρ x))->∃v,(eR ρ o).run P w= .ok (.value v) w/\AV.rel w S h ψ r v):AT P C t h o r:=by
 intro S ψ w ρ h1 h2;obtain⟨v,e,m⟩:=H S ψ w ρ h1 h2;rw[e];exact YZ.same h1.lt m
theorem AT.move(q:o.op= .move x)(hx:evA t x=r):AT P C t h o r:=
 AL λS ψ w ρ _ m=>⟨ρ x,by simp[eR,q],by rw[<-hx];exact m x (by simp[q,bY])⟩
theorem AT.assign(q:o.op= .assign x)(hx:evA t x=r):AT P C t h o r:=
 AL λS ψ w ρ _ m=>⟨ρ x,by simp[eR,q],by rw[<-hx];exact m x (by simp[q,bY])⟩
theorem AT.pick{c a b:cF}{q:Bool}(s:o.op= .pick c a b)(hc:evA t c= .lit (.bool q))(u:(if q then evA t a else evA t b)=r):AT P C t h o r:=
 AL λS ψ w ρ _ m=>by
  have h1:=m c (by simp[s,bY]);have h2:=m a (by simp[s,bY]);have z:=m b (by simp[s,bY]);rw[hc]at h1;unfold AV.rel at h1;cases q
  ·exact⟨ρ b,by simp[eR,s,h1,asBool],by rw[<-u];exact z⟩
  ·exact⟨ρ a,by simp[eR,s,h1,asBool],by rw[<-u];exact h2⟩
theorem AT.extract{xs:List AV}(q:o.op= .extract x j)(hx:evA t x= .tup xs)(s:xs[j]? =jT r):AT P C t h o r:=
 AL λS ψ w ρ _ m=>by
  have h1:=m x (by simp[q,bY]);rw[hx]at h1;unfold AV.rel at h1;obtain⟨cs,e,u⟩:=h1;obtain⟨v,h2,z⟩:=BY u s;exact⟨v,by simp[eR,q,e,Instr.extract,h2],z⟩
def Ix(op:BinOp)(k:bR)(a b:Int):Option eC:=
 match op with
 | .add=>jT (.int k (k.wrap (a+b)))
 | .sub=>jT (.int k (k.wrap (a - b)))
 | .mul=>jT (.int k (k.wrap (a * b)))
 | .eql=>jT (.bool (a ==b))
 | .neq=>jT (.bool (a !=b))
 | .lss=>jT (.bool (aU (a < b)))
 | .leq=>jT (.bool (aU (a<=b)))
 | .gtr=>jT (.bool (aU (a > b)))
 | .geq=>jT (.bool (aU (a≥b)))
 | .quo=>if b=0 then jS else jT (.int k (k.wrap (a.tdiv b)))
 | .rem=>if b=0 then jS else jT (.int k (a.tmod b))
 |_=>jS
theorem CQ{op:BinOp}{v:eC}(s:o.op= .binOp op xt x y yt)(hx:evA t x= .lit (.int k a))(z:evA t y= .lit (.int k b))(m:Ix op k a b=jT v):AT P C t h o (.lit v):=
 AL λS ψ w ρ _ q=>by
  have h1:=q x (by simp[s,bY]);have h2:=q y (by simp[s,bY]);rw[hx]at h1;rw[z]at h2;unfold AV.rel at h1 h2;refine⟨v,?_,by unfold AV.rel;rfl⟩;cases op <;> simp only[Ix,jV,reduceCtorEq]at m
  case quo=>
   split at m <;> simp only[jV,reduceCtorEq]at m
   rename_i u;subst m;simp[eR,s,h1,h2,eqGuard,binOp,Op.intDiv,u]
  case rem=>
   split at m <;> simp only[jV,reduceCtorEq]at m
   rename_i u;subst m;simp[eR,s,h1,h2,eqGuard,binOp,Op.intDiv,u]
  all_goals
   subst m;simp[eR,s,h1,h2,eqGuard,binOp,Op.intArith,Op.intCmp]
theorem Ea(q:o.op= .binOp .add xt x y yt)(hx:evA t x= .lit (.int .i64 a))(m:evA t y= .lit (.int .i64 b))(s:-9223372036854775808<=a+b/\a+b<=9223372036854775807):AT P C t h o (.lit (.int .i64 (a+b))):=by
 have:=CQ (P:=P) (C:=C) (h:=h) q hx m (v:=.int .i64 (a+b)) (by simp only[Ix];rw[IntWalk.i64_in _ ⟨by omega,by omega⟩]);exact this
theorem EO(q:o.op= .binOp .sub xt x y yt)(hx:evA t x= .lit (.int .i64 a))(m:evA t y= .lit (.int .i64 b))(s:-9223372036854775808<=a - b/\a - b<=9223372036854775807):AT P C t h o (.lit (.int .i64 (a - b))):=by
 have:=CQ (P:=P) (C:=C) (h:=h) q hx m (v:=.int .i64 (a - b)) (by simp only[Ix];rw[IntWalk.i64_in _ ⟨by omega,by omega⟩]);exact this
theorem Co{b:Bool}(q:o.op= .unOp .not xt x)(hx:evA t x= .lit (.bool b)):AT P C t h o (.lit (.bool (!b))):=
 AL λS ψ w ρ _ m=>by
  have h1:=m x (by simp[q,bY]);rw[hx]at h1;unfold AV.rel at h1;exact⟨_,by simp[eR,q,h1,Op.unary];rfl,by unfold AV.rel;rfl⟩
def Rl(P:cG)(ty:eA):Option (Bool×Nat):=
 match P.underlying ty,P.info? ty with
 |some (.struct _),jT i=>jT (aP,i.size)
 |some (.array _ _),jT i=>jT (aP,i.size)
 |some _,jT i=>jT (aM,i.size)
 |_,_=>jS
theorem NJ{b o:Nat}(w:eG)(hc:∀j u,cs[j]? =jT u->w.cell? ⟨b,o+j,jS⟩=jT u):(loadCells ⟨b,o,jS⟩ cs.length).run P w= .ok cs.toArray w:=
 run_loadCells_list w _ cs λj v q=>by
  have:=hc j v q;unfold aW;split
  ·rename_i m;subst m;exact this
  ·exact this
theorem IY{b:Nat}{w:eG}(m:Rl P ty=jT (aP,n))(s:cs.length=n)(hc:∀j u,cs[j]? =jT u->w.cell? ⟨b,off+j,jS⟩=jT u):
 (bM ty (.pointer (jT ⟨b,off,jS⟩))).run P w= .ok (.agg cs.toArray) w:=by
 have q:=NJ (P:=P) w hc;rw[s]at q;unfold Rl at m;split at m <;> simp only[jV,Prod.mk.injEq,reduceCtorEq,aR,aN,false_and,true_and]at m
 ·rename_i h1 h2;simp[bM,bP,loadVar,isAgg,underlying,h1,fK,fM,h2,m,q]
 ·rename_i h1 h2;simp[bM,bP,loadVar,isAgg,underlying,h1,fK,fM,h2,m,q]
theorem IX{b:Nat}{u:eC}{w:eG}(m:Rl P ty=jT (aM,n))(hc:w.cell? ⟨b,off,jS⟩=jT u):
 (bM ty (.pointer (jT ⟨b,off,jS⟩))).run P w= .ok u w:=by
 unfold Rl at m;split at m <;> simp only[jV,Prod.mk.injEq,reduceCtorEq,aR,aN,false_and,true_and]at m
 rename_i d i q hi h1 h2;have:(isAgg ty).run P w= .ok aM w:=by
  unfold isAgg underlying;simp only[dX,run_program,Result.andThen_ok,h1];cases d <;> first|rfl|exact absurd V (q _)|exact absurd V (hi _ _)
 simp[bM,bP,loadVar,this,hc]
def KY(h:List ABlk)(x:AV)(cells:List AV):Prop:=∀(C:Ctx) (S:Nat->Prop) (ψ:Nat->eC) (w:eG) (v:eC),HRel C h S ψ w->AV.rel w S h ψ x v->
 ∃b off,v= .pointer (jT ⟨b,off,jS⟩)/\∀j y,cells[j]? =jT y->∃u,w.cell? ⟨b,off+j,jS⟩=jT u/\AV.rel w S h ψ y u
def Amg(h:List ABlk)(x:AV)(n:Nat)(y:AV):Prop:=∀(C:Ctx) (S:Nat->Prop) (ψ:Nat->eC) (w:eG) (v:eC),HRel C h S ψ w->AV.rel w S h ψ x v->
 ∃b off,v= .pointer (jT ⟨b,off,jS⟩)/\AV.rel w S h ψ y (.pointer (jT ⟨b,off+n,jS⟩))
theorem KY.ptr{cells:List AV}(hi:h[i]? =jT (.box cells)):KY h (.ptr i off) (cells.drop off):=λC S ψ w v H q=>by
 unfold AV.rel at q;obtain⟨g,h1,rfl⟩:=q.2 (by rw[hi];rfl);obtain⟨F,cs,e,h2,_,_,E,D⟩:=H.blk i _ hi;rw[h1]at h2;cases h2;refine⟨g,off,rfl,λj y m=>?_⟩;rw[gG]at m;obtain⟨u,z,s⟩:=BY D m;exact⟨u,by simp[eH,E,z],s⟩
theorem Amg.ptr{cells:List AV}(hi:h[i]? =jT (.box cells)):Amg h (.ptr i off) n (.ptr i (off+n)):=λC S ψ w v H m=>by
 unfold AV.rel at m⊢;obtain⟨g,h1,rfl⟩:=m.2 (by rw[hi];rfl);exact⟨g,off,rfl,m.1,λ_=>⟨g,h1,rfl⟩⟩
theorem KY.bp(E:Enc T enc):KY h (.bp T d off) ((enc d).drop off):=λC S ψ w v H q=>by
 unfold AV.rel at q;obtain⟨b,o,rfl,F,cs,s,hc⟩:=q;refine⟨b,o+off,rfl,λj y m=>?_⟩;rw[gG]at m;obtain⟨u,D,z⟩:=BY (E w S h ψ cs d s) m;exact⟨u,by rw[iX];exact hc _ _ D,z⟩
theorem Amg.bp:Amg h (.bp T d off) n (.bp T d (off+n)):=λC S ψ w v H q=>by
 unfold AV.rel at q;obtain⟨b,o,rfl,m⟩:=q;exact⟨b,o+off,rfl,by unfold AV.rel;exact⟨b,o,by rw[iX],m⟩⟩
theorem KY.rp{k:Nat}(hi:h[i]? =jT (.row ver e T l))(hk:l[k]? =jT d)(E:Enc T enc):KY h (.rp i ver k off) ((enc d).drop off):=λC S ψ w v H D=>by
 unfold AV.rel at D;obtain⟨g,n,c,h1,rfl⟩:=(D.2 _ (by rw[hi];rfl)).2 V;obtain⟨cells,h2,h0,L,_⟩:=H.blk i _ hi;rw[h1]at h2;refine⟨g,_,rfl,λj y z=>?_⟩;rw[gG]at z;obtain⟨u,q,J⟩:=BY (E w S h ψ _ d (L k d hk)) z;have I:off+j < T.size:=by
  have:=(gJ.1 q).1;simp at this;omega
 rw[gQ I,gG]at q;have G:k < l.length:=(gJ.1 hk).1;have F:k * T.size+(off+j) < n * T.size:=by
  have O:n=l.length:=by
   rcases h2.2 with⟨s,_⟩|⟨U,cap,cur,s,_⟩
   ·cases s
   ·cases s;rfl
  have:(k+1) * T.size<=n * T.size:=jG _ (by omega);rw[iZ,jJ]at this;omega
 refine⟨u,?_,J⟩;have m:=eK h2 (g:=g) V _ _ q;rw[hi];show w.cell? ⟨g,k * T.size+off+j,jS⟩=jT u;rw[add_plain,jM,<-iX]at m;exact m
theorem Amg.rp{k:Nat}(hi:h[i]? =jT (.row ver e T l)):Amg h (.rp i ver k off) n (.rp i ver k (off+n)):=λC S ψ w v H q=>by
 unfold AV.rel at q⊢;obtain⟨g,m,c,h1,rfl⟩:=(q.2 _ (by rw[hi];rfl)).2 V;exact⟨g,_,rfl,q.1,λu s=>⟨(q.2 u s).1,λ_=>⟨g,m,c,h1,by rw[iX]⟩⟩⟩
theorem D9{a:AV}{cells:List AV}(q:o.op= .load ty x)(D:Rl P ty=jT (aM,n))(hx:evA t x=a)(hc:KY h a cells)(s:cells[0]? =jT r):AT P C t h o r:=
 AL λS ψ w ρ H m=>by
  have h1:=m x (by simp[q,bY]);rw[hx]at h1;obtain⟨b,off,e,z⟩:=hc C S ψ w _ H h1;obtain⟨u,h2,E⟩:=z 0 r s;exact⟨u,by simp[eR,q,e,IX D (by simpa using h2)],E⟩
theorem Gc{a:AV}{cells rs:List AV}(J:o.op= .load ty x)(Y:Rl P ty=jT (aP,n))(hx:evA t x=a)(hc:KY h a cells)(U:cells.take n=rs)(hn:rs.length=n):AT P C t h o (.agg rs):=
 AL λS ψ w ρ H F=>by
  have h1:=F x (by simp[J,bY]);rw[hx]at h1;obtain⟨b,off,e,X⟩:=hc C S ψ w _ H h1;have E:∀m,m<=n->∃cs:List eC,cs.length=m/\Ae w S h ψ (rs.take m) cs/\∀j u,cs[j]? =jT u->w.cell? ⟨b,off+j,jS⟩=jT u:=by
   intro m;induction m with
   |zero=>exact λ_=>⟨[],rfl,by simp[Ae],by simp⟩
   |succ m L=>
    intro hm;obtain⟨cs,D,q,s⟩:=L (by omega);have O:rs[m]? =jT (rs[m]'(by omega)):=gH (by omega);have G:rs[m]? =cells[m]?:=by rw[<-U,gQ (by omega)]
    have I:cells[m]? =jT (rs[m]'(by omega)):=G.symm.trans O;obtain⟨u,h2,Z⟩:=X m _ I;refine⟨cs++[u],by simp[D],?_,λj v z=>?_⟩
    ·rw[iS (by omega)];refine BK q ?_;unfold Ae;refine⟨u,[],rfl,Z,?_⟩;unfold Ae;rfl
    ·by_cases W:j < m
     ·exact s j v (by rwa [gC (by omega)]at z)
     ·have:j=m:=by
       have:=(gJ.1 z).1;simp[D]at this;omega
      subst this;rw[gD (by omega),D]at z;simp at z;subst z;exact h2
  obtain⟨cs,D,q,s⟩:=E n (jA _);rw[iR (by omega)]at q;refine⟨.agg cs.toArray,by simp[eR,J,e,IY Y D s],?_⟩;unfold AV.rel;exact⟨cs,rfl,q⟩
def Oc(P:cG)(st:eA)(j:Nat):Option Nat:=
 match P.underlying st with
 |some (.struct fs)=>
  match fs[j]? with
  |some f=>match P.info? f.type with
   |some i=>if i.size=0 then jS else jT f.offset
   |none=>jS
  |none=>jS
 |_=>jS
theorem V1{b:Nat}{w:eG}(m:Oc P st j=jT n):(bJ st (.pointer (jT ⟨b,off,jS⟩)) j).run P w= .ok (.pointer (jT ⟨b,off+n,jS⟩)) w:=by
 unfold Oc at m;split at m <;> try(cases m;done)
 rename_i fs h1;split at m <;> try(cases m;done)
 rename_i f h2;split at m <;> try(cases m;done)
 rename_i i s;split at m <;> try(cases m;done)
 rename_i q;cases m;simp[bJ,underlying,h1,h2,bP,fieldPlace,fK,fM,s,q,add_plain]
theorem AT.fieldAddr{a:AV}(q:o.op= .fieldAddr st x j)(z:Oc P st j=jT n)(hx:evA t x=a)(s:Amg h a n r):AT P C t h o r:=
 AL λS ψ w ρ H m=>by
  have h1:=m x (by simp[q,bY]);rw[hx]at h1;obtain⟨b,off,e,u⟩:=s C S ψ w _ H h1;exact⟨_,by simp[eR,q,e,V1 z],u⟩
def Pu(P:cG)(ty:eA):Option Nat:=
 match P.underlying ty with
 |some (.slice e)=>(P.info? e).map (·.size)
 |_=>jS
theorem GE{sz b k:Nat}{w:eG}(m:Pu P ty=jT sz)(hk:k < n):(bL ty (.slice (jT ⟨b,off,jS⟩) n c) (.int ik (k:Int))).run P w= .ok (.pointer (jT ⟨b,off+k * sz,jS⟩)) w:=by
 unfold Pu at m;split at m <;> try(cases m;done)
 rename_i e h1;cases h2:P.info? e with
 |none=>rw[h2]at m;cases m
 |some i=>
  rw[h2]at m;simp only[jR,jV]at m;have q:(0:Int)<=(k:Int)/\(k:Int) < (n:Int):=by omega
  simp[bL,asIntOf,underlying,h1,fK,fM,h2,m,add_plain,hk]
theorem Ko{n:Int}(q:o.op= .indexAddr ty x y)(E:Pu P ty=jT T.size)(hx:evA t x= .bs T l)(D:evA t y= .lit (.int ik n))(h0:0<=n)(z:l[n.toNat]? =jT d):
 AT P C t h o (.bp T d 0):=
 AL λS ψ w ρ H m=>by
  have h1:=m x (by simp[q,bY]);have h2:=m y (by simp[q,bY]);rw[hx]at h1;rw[D]at h2;unfold AV.rel at h1 h2;obtain⟨A,c,e,hc,-,hi⟩:=h1;obtain⟨b,off,rfl,s⟩:=hi _ _ z;have hk:n.toNat < l.length:=(gJ.1 z).1;have F:n=(n.toNat:Int):=by omega
  simp only[fR,and_true]at e;have u:=GE (P:=P) (w:=w) (b:=b) (off:=off) (c:=c) (ik:=ik) E hk;rw[<-F]at u;refine⟨_,by simp[eR,q,e,h2,u];rfl,?_⟩;unfold AV.rel;exact⟨b,_,rfl,s⟩
theorem Jz{n:Int}(s:o.op= .indexAddr ty x y)(hx:evA t x= .own i ver)(hi:h[i]? =jT (.row ver e T l))(G:Pu P ty=jT T.size)
 (F:evA t y= .lit (.int ik n))(h0:0<=n)(hk:n.toNat < l.length):AT P C t h o (.rp i ver n.toNat 0):=
 AL λS ψ w ρ H m=>by
  have h1:=m x (by simp[s,bY]);have h2:=m y (by simp[s,bY]);rw[hx]at h1;rw[F]at h2;unfold AV.rel at h1 h2;have E:=(h1.2 _ (by rw[hi];rfl)).2 V;obtain⟨cells,q,J,-,-⟩:=H.blk i _ hi;rcases q.2 with⟨z,O⟩|⟨g,cap,cur,z,-⟩
  ·omega
  ·have I:n=(n.toNat:Int):=by omega
   have D:=GE (P:=P) (w:=w) (b:=g) (off:=0) (n:=l.length) (c:=cap) (ik:=ik) G hk;rw[<-I]at D;rw[z]at E;refine⟨_,by simp[eR,s,E,h2,D];rfl,?_⟩;unfold AV.rel;refine⟨h1.1,λL u=>⟨(h1.2 L u).1,λ_=>⟨g,l.length,cap,z,?_⟩⟩⟩;rw[hi];show _=Value.pointer (jT ⟨g,n.toNat * T.size+0,jS⟩);simp
def GG(P:cG)(ty:eA):Bool:=
 match P.underlying ty with
 |some (.slice _)=>aP
 |_=>aM
theorem RH{m:eA}{a:Option aV}{w:eG}(q:GG P ty=aP):(a6 #[ty] m #[.slice a n c]).run P w= .ok (.int .i64 (n:Int)) w:=by
 unfold GG at q;split at q <;> try(cases q;done)
 rename_i e h1;simp[a6,underlying,h1,goInt]
theorem Ny(q:o.op= .call {callee:=.builtin .len,args:=#[x],argTypes:=#[ty]})(s:GG P ty=aP)(hx:evA t x= .bs T l):AT P C t h o (.lit (.int .i64 (l.length:Int))):=
 AL λS ψ w ρ H m=>by
  have h1:=m x (by simp[q,bY,a7]);rw[hx]at h1;unfold AV.rel at h1;obtain⟨A,c,e,-⟩:=h1;simp only[fR,and_true]at e;refine⟨_,by simp[eR,q,fF,eZ,builtin,e,RH s];rfl,?_⟩;unfold AV.rel;rfl
theorem SG(u:o.op= .call {callee:=.builtin .len,args:=#[x],argTypes:=#[ty]})(hx:evA t x= .own i ver)(hi:h[i]? =jT (.row ver e T l))(D:GG P ty=aP):AT P C t h o (.lit (.int .i64 (l.length:Int))):=
 AL λS ψ w ρ H s=>by
  have h1:=s x (by simp[u,bY,a7]);rw[hx]at h1;unfold AV.rel at h1;have q:=(h1.2 _ (by rw[hi];rfl)).2 V;obtain⟨cells,m,E,-,-⟩:=H.blk i _ hi;rcases m.2 with⟨z,F⟩|⟨g,cap,cur,z,-⟩
  ·rw[z]at q;refine⟨_,by simp[eR,u,fF,eZ,builtin,q,RH D];rfl,?_⟩;unfold AV.rel;rw[F];rfl
  ·rw[z]at q;refine⟨_,by simp[eR,u,fF,eZ,builtin,q,RH D];rfl,?_⟩;unfold AV.rel;rfl
theorem SH{a:Option aV}(q:o.op= .call {callee:=.builtin .len,args:=#[x],argTypes:=#[ty]})(hx:evA t x= .lit (.slice a n c))(s:GG P ty=aP):AT P C t h o (.lit (.int .i64 (n:Int))):=
 AL λS ψ w ρ H m=>by
  have h1:=m x (by simp[q,bY,a7]);rw[hx]at h1;unfold AV.rel at h1;refine⟨_,by simp[eR,q,fF,eZ,builtin,h1,RH s];rfl,?_⟩;unfold AV.rel;rfl
theorem AT.max2(q:o.op= .call {callee:=.builtin .max,args:=#[x,y],argTypes:=tys})(hx:evA t x= .lit (.int k a))(s:evA t y= .lit (.int k b)):AT P C t h o (.lit (.int k (if b > a then b else a))):=
 AL λS ψ w ρ H m=>by
  have h1:=m x (by simp[q,bY,a7]);have h2:=m y (by simp[q,bY,a7]);rw[hx]at h1;rw[s]at h2;unfold AV.rel at h1 h2;refine⟨_,by simp[eR,q,fF,eZ,builtin,h1,h2,Builtin.max_,Builtin.max2];rfl,?_⟩;unfold AV.rel;rfl
theorem AT.min2(q:o.op= .call {callee:=.builtin .min,args:=#[x,y],argTypes:=tys})(hx:evA t x= .lit (.int k a))(s:evA t y= .lit (.int k b)):AT P C t h o (.lit (.int k (if b < a then b else a))):=
 AL λS ψ w ρ H m=>by
  have h1:=m x (by simp[q,bY,a7]);have h2:=m y (by simp[q,bY,a7]);rw[hx]at h1;rw[s]at h2;unfold AV.rel at h1 h2;refine⟨_,by simp[eR,q,fF,eZ,builtin,h1,h2,Builtin.min_,Builtin.min2];rfl,?_⟩;unfold AV.rel;rfl
end
end Mu
namespace Mu
open Go Go.RowKit
variable{A:Option aV}{B:Nat}{Q:bC->Act->eG->Prop}{S:Nat->Prop}{α:Type}{T:Ty α}{a:Act}{c:Nat}{cs:List eC}{ds:List α}{e:eA}{fr:Nat×Nat}{m n:Nat}{o:bZ}{sz:Nat}{t:eA}
theorem Aa8{cells:List eC}{i:Nat}(q:cells.length=m * sz)(hi:i < m):((cells++cs).drop (i * sz)).take sz=(cells.drop (i * sz)).take sz:=by
 have h1:(i+1) * sz<=m * sz:=Nat.mul_le_mul (by omega) (jA _);rw[jL]at h1;rw[fT (by omega),iP (by rw[List.length_drop];omega)]
theorem Aa9{cells:List eC}(q:cells.length=m * sz)(hc:cs.length=sz):((cells++cs).drop (m * sz)).take sz=cs:=by
 rw[<-q,List.drop_left,<-hc,iQ]
theorem VZ{w:eG}(h:T.slice.RS w S [.slice A n c] ds)(h1:∀cs d,T.RS w S cs d->∀u∈cs,u.oneCell'=aP):
 ∃cells:List eC,cells.length=n * T.size/\(∀b o,A=jT ⟨b,o,jS⟩->∀j u,cells[j]? =jT u->w.cell? ⟨b,o+j,jS⟩=jT u)/\
  (∀i d,ds[i]? =jT d->T.RS w S ((cells.drop (i * T.size)).take T.size) d)/\∀u∈cells,u.oneCell'=aP:=by
 obtain⟨L,_,_⟩:=Tl h;have E:∀m,m<=ds.length->∃cells:List eC,cells.length=m * T.size/\(∀b o,A=jT ⟨b,o,jS⟩->∀j u,cells[j]? =jT u->w.cell? ⟨b,o+j,jS⟩=jT u)/\
  (∀i d,i < m->ds[i]? =jT d->T.RS w S ((cells.drop (i * T.size)).take T.size) d)/\∀u∈cells,u.oneCell'=aP:=by
  intro m;induction m with
  |zero=>intro _;exact⟨[],by simp,by simp,by simp,by simp⟩
  |succ m J=>
   intro W;obtain⟨cells,s,hc,F,G⟩:=J (by omega);have z:ds[m]? =jT ds[m]:=gH (by omega);obtain⟨b,o,rfl,_,cs,H,O⟩:=Lk h z;have D:=T.len H;refine⟨cells++cs,by rw[gT,s,D,jL],?_,?_,?_⟩
   ·intro b' U e j u hu;cases e;rw[List.getElem?_append]at hu;by_cases I:j < cells.length
    ·rw[if_pos I]at hu;exact hc b o V j u hu
    ·rw[if_neg I]at hu;have:=O _ u hu;rw[show o+m * T.size+(j - cells.length)=o+j from by omega]at this;exact this
   ·intro i d hi q;by_cases e:i=m
    ·subst e;rw[z]at q;cases q;rw[Aa9 s D];exact H
    ·rw[Aa8 s (by omega)];exact F i d (by omega) q
   ·intro u hu;rcases g8.1 hu with hu|hu
    ·exact G u hu
    ·exact h1 _ _ H u hu
 obtain⟨cells,s,hc,F,G⟩:=E ds.length (jA _);exact⟨cells,by rw[L];exact s,hc,λi d z=>F i d (gJ.1 z).1 z,G⟩
structure Src(w:World)(size:Nat)(A:Option Addr)(m:Nat)(news:List Value):Prop where
 len:news.length=m * size
 cells:∀j u,news[j]? =some u->∃ad,A=some ad/\w.cell? (ad.add j)=some u
theorem Aop{w:eG}{cs:Array eC}{size:Nat}(h:w.heap[B]? =jT (.cells cs t fr))(s:cs.size=m * size):Src w size (jT ⟨B,0,jS⟩) m cs.toList:=
 ⟨by simpa using s,λj u q=>⟨_,rfl,World.news_of_block h j u q⟩⟩
section
variable{P:cG}{w:eG}
theorem Ll{base:Nat}{ty:eA}{i:eB}{z:eC}{size bytes:Nat}(ht:P.underlying t=jT (.slice e))(hi:P.info? e=jT i)(U:i.zero=jT z)
 (D:i.size=size)(L:i.bytes=bytes)(I:z.cells.size=size)(F:0 < size)
 {v:eC}{n:Nat}{xs:List eC}(q:w.ownsRow base e size v n xs){A:Option aV}{m c:Nat}{news:List eC}(G:Src w size A m news)(h1:∀u∈news,u.oneCell'=aP)
 (O:n+m<=fB)(s:(n+m) * bytes<=140737488355328)(E:base<=w.heap.size):
 ∃v' w',(aX #[t,t] ty #[v,.slice A m c]).run P w= .ok v' w'/\w'.ownsRow base e size v' (n+m) (xs++news)/\w.grownBy w' v.ownBlock/\(v'.ownBlock=v.ownBlock\/v'.ownBlock=jT w.heap.size):=by
 have H:∀c,(aX #[t,t] ty #[v,.slice jS 0 c]).run P w= .ok v w:=by
  intro c;rcases q.2 with⟨rfl,rfl⟩|⟨g,cap,cur,rfl,_,_,J,_⟩
  ·simp[aX,fH ht,fK,fM,hi,aZ,aY]
  ·simp[aX,fH ht,fK,fM,hi,aZ,aY,J,storeCells]
 rcases A with _|ad
 ·have Y:news= []:=by
   rcases news with _|⟨u,l⟩
   ·rfl
   ·obtain⟨ad,e,_⟩:=G.cells 0 u V;cases e
  subst Y;have Z:m=0:=by
   have:=G.len;rcases i6 m with h|h
   ·exact h
   ·have:=jI h F;simp at *;omega
  subst Z;exact⟨v,w,H c,by simpa using q,eJ w _,.inl V⟩
 ·obtain⟨v',w',X,h2,h3,_,h5⟩:=run_append_own_at (P:=P) w base t ty e i z size bytes ht hi U D L I F v n xs q ad m c news G.len
   (λj u W=>by obtain⟨aa,e',hc⟩:=G.cells j u W;cases e';exact hc) h1 O s E
  exact⟨v',w',X,h2,h3,h5⟩
theorem Acm{K:Act->eG->Prop}(s x:cF)(t:eA)
 (X:o.op= .call {callee:=.builtin .append,args:=#[s,x],argTypes:=#[t,t]})(base:Nat)(e:eA)(i:eB)(z:eC)(size bytes:Nat)
 (ht:P.underlying t=jT (.slice e))(hi:P.info? e=jT i)(O:i.zero=jT z)(D:i.size=size)(J:i.bytes=bytes)(H:z.cells.size=size)(I:0 < size)
 {v:eC}{n:Nat}{xs:List eC}(U:a.eval s=v)(G:w.ownsRow base e size v n xs){A:Option aV}{m c:Nat}{news:List eC}(hx:a.eval x= .slice A m c)
 (W:Src w size A m news)(h1:∀u∈news,u.oneCell'=aP)(L:n+m<=fB)(q:(n+m) * bytes<=140737488355328)(E:base<=w.heap.size)
 (h:∀v' w',w'.ownsRow base e size v' (n+m) (xs++news)->w.grownBy w' v.ownBlock->(v'.ownBlock=v.ownBlock\/v'.ownBlock=jT w.heap.size)->K (a.put o.dst v') w'):o.wp P a w K Q:=by
 obtain⟨v',w',F,h2,Z,Y⟩:=Ll (P:=P) (ty:=o.type) (c:=c) ht hi O D J H I G W h1 L q E;unfold cD eR;simp only[X,fF,eZ,builtin,List.map_toArray,gY,gZ,U,hx,F,zam];exact h v' w' h2 Z Y
theorem Afs{ops:Array bZ}{D:List bZ}(J:o.guard=jS)(s x:cF)(t:eA)
 (Y:o.op= .call {callee:=.builtin .append,args:=#[s,x],argTypes:=#[t,t]})(base:Nat)(e:eA)(i:eB)(z:eC)(size bytes:Nat)
 (ht:P.underlying t=jT (.slice e))(hi:P.info? e=jT i)(U:i.zero=jT z)(E:i.size=size)(L:i.bytes=bytes)(H:z.cells.size=size)(I:0 < size)
 {v:eC}{n:Nat}{xs:List eC}(W:a.eval s=v)(G:w.ownsRow base e size v n xs){A:Option aV}{m c:Nat}{news:List eC}(hx:a.eval x= .slice A m c)
 (X:Src w size A m news)(h1:∀u∈news,u.oneCell'=aP)(O:n+m<=fB)(q:(n+m) * bytes<=140737488355328)(F:base<=w.heap.size)
 (h:∀v' w',w'.ownsRow base e size v' (n+m) (xs++news)->w.grownBy w' v.ownBlock->(v'.ownBlock=v.ownBlock\/v'.ownBlock=jT w.heap.size)->fN P ops Q D (a.put o.dst v') w'):fN P ops Q (o::D) a w:=
 wpList_plain J λ_ Z=>Acm s x t Y base e i z size bytes ht hi U E L H I W G hx X h1 O q F λv' w' h2 h3 h4=>Z _ _ (h v' w' h2 h3 h4)
end
theorem RJ{w:eG}{base g:Nat}(hg:w.heap[g]? =jT (.cells cs.toArray e (0,0)))(u:base<=g)(q:cs.length=n * sz)(s:n<=fB):
 w.ownsRow base e sz (.slice (jT ⟨g,0,jS⟩) n n) n cs:=
 ⟨by simpa using q,.inr ⟨_,n,_,rfl,u,hg,jA _,s,by simp[q],by simp[<-q]⟩⟩
theorem Aho{w:eG}{c:Array eC}(h:w.heap[B]? =jT (.cells c t fr))(o:Obj):(w.alloc o).heap[B]? =jT (.cells c t fr):=
 (Below.heap_alloc w o B (by rcases jD B w.heap.size with q|hg;exact q;rw[Array.getElem?_eq_none hg]at h;cases h)).trans h
theorem Oe{w:eG}{j:Nat}{v:eC}(h:w.heap[B]? =jT (.cells cs.toArray t fr))(q:cs[j]? =jT v):w.cell? ⟨B,j,jS⟩=jT v:=by
 rw[cell_of_row w B j cs.toArray t fr h];simpa using q
theorem IU{w:eG}(h:T.slice.RS w S [.slice A n c] ds)(h1:∀cs d,T.RS w S cs d->∀u∈cs,u.oneCell'=aP):
 ∃cells:List eC,cells.length=n * T.size/\(∀w':eG,(∀k,S k->w'.heap[k]? =w.heap[k]?)->Src w' T.size A n cells)/\(∀i d,ds[i]? =jT d->T.RS w S ((cells.drop (i * T.size)).take T.size) d)/\∀u∈cells,u.oneCell'=aP:=by
 obtain⟨cells,q,hc,D,E⟩:=VZ h h1;refine⟨cells,q,λw' hk=>⟨q,λj u s=>?_⟩,D,E⟩;have z:j < n * T.size:=by
  rw[<-q];exact(gJ.1 s).1
 have F:0 < ds.length:=by
  rw[<-(Tl h).1];rcases i6 n with e|e
  ·rw[e]at z;simp at z
  ·exact e
 obtain⟨b,o,rfl,G,_⟩:=Lk h (gH F);refine⟨_,rfl,?_⟩;rw[Go.WideShapes.add_plain];exact(eI (w:=w) (a:=⟨b,o+j,jS⟩) (hk b G)).trans (hc b o V j u s)
section
variable{g:Nat}{w w1 w2:eG}
end
open Go.ChangeShapes Go.WideShapes
variable{Q':bC->Act->eG->Prop}{α:Type}{T:Ty α}{a:Act}{b b':ABlk}{c:Nat}{d d':α}{ds:List α}{dst:Option Tmp}{e:eA}{g i j k:Nat}{l:List α}{n:Nat}{new:List eC}{off:Nat}{r:AV}{sz:Nat}{t t':List AV}{ty:eA}{v v':eC}{x:cF}{xs:List cF}{y:cF}
section
variable{C:Ctx}{h:List ABlk}{S:Nat->Prop}{ψ:Nat->eC}{w w':eG}
def Bo(ψ:Nat->eC)(i:Nat)(v:eC):Nat->eC:=λj=>if j=i then v else ψ j
theorem Bj{ψ:Nat->eC}:Bo ψ i v i=v:=if_pos V
theorem BC{ψ:Nat->eC}(q:j≠i):Bo ψ i v j=ψ j:=if_neg q
theorem DQ{h:List ABlk}(q:ABlk.live h[i]? =aP):∃b,h[i]? =jT b:=by
 cases s:h[i]? with
 |none=>rw[s]at q;simp[ABlk.live]at q
 |some b=>exact⟨b,rfl⟩
theorem Ext.push(b:ABlk)(v:eC)(s:∀k,S k->w'.heap[k]? =w.heap[k]?):Ext w S h ψ w' S (h++[b]) (Bo ψ h.length v):=by
 refine⟨s,λ_ h=>h,by simp,λi u hi q=>?_,λi hi q=>?_⟩
 ·rw[gC hi]at q;refine⟨u,q,jA _,λ_=>⟨BC (by omega),?_⟩⟩;rw[gC hi]
 ·rw[gC hi]at q;exact⟨q,BC (by omega)⟩
theorem HRel.push(H:HRel C h S ψ w)(F:Below w.heap.size w w')(W:Hv C.N w' S (h++[b]) (Bo ψ h.length v) v b)(J:∀g,ftp (jT b) v g->w.heap.size<=g):
 HRel C (h++[b]) S (Bo ψ h.length v) w':=by
 have X:Ext w S h ψ w' S (h++[b]) (Bo ψ h.length v):=Ext.push b v λk hk=>F.block k (H.lt k hk)
 have s:∀i c,i < h.length->(h++[b])[i]? =jT c->h[i]? =jT c:=λi c hi hc=>by rwa [gC hi]at hc
 have z:∀i,i < h.length->ABlk.live h[i]? =aP->∀g,ftp h[i]? (ψ i) g->g < w.heap.size:=λi hi L g hg=>by
  obtain⟨c,hc⟩:=DQ L;rw[hc]at hg;exact((H.blk i c hc).lt (by rw[<-hc];exact L) g hg).2.1
 refine⟨H.bel.trans (PX F λk hk=>jC (H.nlt k hk) H.bel.size),H.nlt,λk hk=>jC (H.lt k hk) F.size,H.sub,H.new,λi c hc=>?_,λi j G hi D g hg q=>?_⟩
 ·by_cases hi:i < h.length
  ·have E:=s i c hi hc;rw[BC (by omega)];by_cases u:ABlk.live (jT c)=aP
   ·exact(H.blk i c E).keep X λg hg=>⟨F.block g ((H.blk i c E).lt u g hg).2.1,λh=>h⟩
   ·cases c <;> simp[ABlk.live]at u
    trivial
  ·have I:i=h.length:=by
    have:=(gJ.1 hc).1;simp at this;omega
   subst I;simp at hc;subst hc;rw[Bj];exact W
 ·have U:i < h.length+1:=by
   obtain⟨c,hc⟩:=DQ hi;have:=(gJ.1 hc).1;simpa using this
  have O:j < h.length+1:=by
   obtain⟨c,hc⟩:=DQ D;have:=(gJ.1 hc).1;simpa using this
  by_cases h1:i < h.length
  ·rw[BC (by omega),gC h1]at hg;rw[gC h1]at hi;by_cases h2:j < h.length
   ·rw[BC (by omega),gC h2]at q;rw[gC h2]at D;exact H.dis i j G hi D g hg q
   ·have:j=h.length:=by omega
    subst this;rw[Bj,gE]at q;have:=z i h1 hi g hg;have:=J g q;omega
  ·have:i=h.length:=by omega
   subst this;rw[Bj,gE]at hg;have h2:j < h.length:=by omega
   rw[BC (by omega),gC h2]at q;rw[gC h2]at D;have:=z j h2 D g q;have:=J g hg;omega
theorem Ext.set(F:∀k,S k->w'.heap[k]? =w.heap[k]?)(hi:h[i]? =jT b)
 (D:∀s,ABlk.ver (jT b')=jT s->∃c,ABlk.ver (jT b)=jT c/\c<=s/\(c=s->v'=ψ i/\Fo (jT b')=Fo (jT b)))
 (hx:AZ (jT b')=aP->AZ (jT b)=aP/\v'=ψ i):Ext w S h ψ w' S (h.set i b') (Bo ψ i v'):=by
 have u:=(gJ.1 hi).1;refine⟨F,λ_ h=>h,by simp,λj s E hc=>?_,λj E hc=>?_⟩
 ·by_cases q:j=i
  ·subst q;rw[gO u]at hc⊢;obtain⟨c,h1,h2,z⟩:=D s hc;rw[hi];exact⟨c,h1,h2,λe=>⟨by rw[Bj];exact(z e).1,(z e).2⟩⟩
  ·rw[gN (jO q)]at hc⊢;exact⟨s,hc,jA _,λ_=>⟨BC q,rfl⟩⟩
 ·by_cases q:j=i
  ·subst q;rw[gO u]at hc;rw[hi,Bj];exact hx hc
  ·rw[gN (jO q)]at hc;exact⟨hc,BC q⟩
structure Gr(F:Nat->Prop)(w w':World):Prop where
 os:w'.os=w.os
 tape:w'.tape=w.tape
 output:w'.output=w.output
 size:w.heap.size<=w'.heap.size
 block:∀k,k < w.heap.size->¬F k->w'.heap[k]? =w.heap[k]?
theorem Bs{w w':eG}{o:Option Nat}(h:w.grownBy w' o):Gr (λg=>o=jT g) w w':=⟨h.os,h.tape,h.output,h.size,λk hk q=>h.block k hk λe=>q e.symm⟩
theorem HRel.set(H:HRel C h S ψ w)(hi:h[i]? =jT b)(u:ABlk.live (jT b)=aP)(hg:Gr (ftp (jT b) (ψ i)) w w')(X:Ext w S h ψ w' S (h.set i b') (Bo ψ i v'))
 (W:Hv C.N w' S (h.set i b') (Bo ψ i v') v' b')(U:∀g,ftp (jT b') v' g->ftp (jT b) (ψ i) g\/w.heap.size<=g):HRel C (h.set i b') S (Bo ψ i v') w':=by
 have I:=(gJ.1 hi).1;have O:=(H.blk i b hi).lt u;refine⟨H.bel.trans ⟨hg.os,hg.tape,hg.output,hg.size,λk hk=>hg.block k (jC (H.nlt k hk) H.bel.size) λe=>(O k e).1 hk⟩,H.nlt,λk hk=>jC (H.lt k hk) hg.size,H.sub,H.new,λj c hc=>?_,λj k L E hk g s z=>?_⟩
 ·by_cases q:j=i
  ·subst q;rw[gO I]at hc;cases hc;rw[Bj];exact W
  ·rw[gN (jO q)]at hc;rw[BC q];by_cases F:ABlk.live (jT c)=aP
   ·refine(H.blk j c hc).keep X λg J=>⟨hg.block g ((H.blk j c hc).lt F g J).2.1 λe=>?_,λh=>h⟩
    exact H.dis j i q (by rw[hc];exact F) (by rw[hi];exact u) g (by rw[hc];exact J) (by rw[hi];exact e)
   ·cases c <;> simp[ABlk.live]at F
    trivial
 ·have G:∀j k,j≠i->k=i->ABlk.live (h.set i b')[j]? =aP->ftp (h.set i b')[j]? (Bo ψ i v' j) g->ftp (h.set i b')[k]? (Bo ψ i v' k) g->False:=by
   intro j k q D E s z;subst D;rw[BC q,gN (jO q)]at s;rw[Bj,gO I]at z;rw[gN (jO q)]at E;rcases U g z with h1|h1
   ·exact H.dis j k q E (by rw[hi];exact u) g s (by rw[hi];exact h1)
   ·obtain⟨c,hc⟩:=DQ E;rw[hc]at s;have:=((H.blk j c hc).lt (by rw[<-hc];exact E) g s).2.1;omega
  by_cases q:j=i
  ·exact G k j (by omega) q hk z s
  ·by_cases D:k=i
   ·exact G j k q D E s z
   ·rw[BC q,gN (jO q)]at s;rw[BC D,gN (jO D)]at z;rw[gN (jO q)]at E;rw[gN (jO D)]at hk;exact H.dis j k L E hk g s z
end
section
variable{P:cG}{C:Ctx}{s:St}{o:bZ}{K:St->Prop}
def PW(h:List ABlk)(x:AV)(cells:List AV):Prop:=∀(C:Ctx) (S:Nat->Prop) (ψ:Nat->eC) (w:eG) (v:eC),HRel C h S ψ w->AV.rel w S h ψ x v->
 Ae w S h ψ cells v.cells.toList/\∀u∈v.cells.toList,u.oneCell'=aP
def One(h:List ABlk)(x:AV):Prop:=∀(C:Ctx) (S:Nat->Prop) (ψ:Nat->eC) (w:eG) (v:eC),HRel C h S ψ w->AV.rel w S h ψ x v->v.oneCell'=aP
theorem Hl(q:v.oneCell'=aP):v.cells= #[v]:=by cases v <;> simp[Value.cells,eE]at q⊢
theorem One.lit{h:List ABlk}(z:v.oneCell'=aP):One h (.lit v):=λC S ψ w u H q=>by unfold AV.rel at q;rw[q];exact z
theorem One.bs{h:List ABlk}:One h (.bs T l):=λC S ψ w u H q=>by
 unfold AV.rel at q;obtain⟨A,c,e,_⟩:=q;simp only[fR,and_true]at e;rw[e];rfl
theorem One.own{h:List ABlk}{ver:Nat}(hi:h[i]? =jT (.row ver e T l)):One h (.own i ver):=λC S ψ w u H z=>by
 unfold AV.rel at z;have h1:=(z.2 _ (by rw[hi];rfl)).2 V;obtain⟨cells,q,_⟩:=H.blk i _ hi;rw[h1];rcases q.2 with⟨D,_⟩|⟨g,cap,cur,D,_⟩ <;> rw[D] <;> rfl
theorem PW.one{h:List ABlk}{x:AV}(hx:One h x):PW h x [x]:=λC S ψ w v H q=>by
 have h1:=hx C S ψ w v H q;rw[Hl h1];refine⟨?_,λu z=>?_⟩
 ·unfold Ae;refine⟨v,[],rfl,q,?_⟩;unfold Ae;rfl
 ·simp at z;subst z;exact h1
theorem PW.agg{h:List ABlk}{l:List AV}(hx:∀x∈l,One h x):PW h (.agg l) l:=λC S ψ w v H E=>by
 unfold AV.rel at E;obtain⟨cs,rfl,D⟩:=E;refine⟨D,λu F=>?_⟩;obtain⟨j,G⟩:=iB.1 F;have q:cs[j]? =jT u:=G;have z:j < l.length:=by rw[<-Bw D];exact(gJ.1 q).1
 obtain⟨I,h1,h2⟩:=BY D (gH z);rw[q]at h1;cases h1;exact hx _ (gR _) C S ψ w u H h2
def Vx(h:List ABlk)(x:AV)(cells:List AV):Prop:=∀(C:Ctx) (S:Nat->Prop) (ψ:Nat->eC) (w:eG) (v:eC),HRel C h S ψ w->AV.rel w S h ψ x v->Ae w S h ψ cells v.cells.toList
theorem PW.weak{h:List ABlk}{x:AV}{cells:List AV}(u:PW h x cells):Vx h x cells:=λC S ψ w v H q=>(u C S ψ w v H q).1
theorem Vx.agg{h:List ABlk}{l:List AV}:Vx h (.agg l) l:=λC S ψ w v H q=>by
 unfold AV.rel at q;obtain⟨cs,rfl,u⟩:=q;exact u
theorem Ow{w w':eG}{S:Nat->Prop}{ψ:Nat->eC}(D:a.defers=mkD s.h)(z:Ae w S s.h ψ s.t a.tmps.toList)(E:HRel C (s.h++[b]) S (Bo ψ s.h.length v) w')
 (X:Ext w S s.h ψ w' S (s.h++[b]) (Bo ψ s.h.length v))(q:AV.rel w' S (s.h++[b]) (Bo ψ s.h.length v) r v)(u:b.mrk= []:=by rfl):St.rel C ⟨Bl s.t dst r,s.h++[b]⟩ (a.put dst v) w':=
 ⟨by rw[put_defers,H9,u];exact D,S,_,E,KE (Az X _ _ z) dst q⟩
theorem P8{r:dV Next}{cs:List eC}{cells:List AV}{w:eG}{S:Nat->Prop}{ψ:Nat->eC}(E:a.defers=mkD s.h)(H:HRel C s.h S ψ w)(D:Ae w S s.h ψ s.t a.tmps.toList)
 (z:r= .ok (.value (.pointer (jT ⟨w.heap.size,0,jS⟩))) (w.alloc (.cells cs.toArray e)))(hc:Ae w S s.h ψ cells cs)(I:K ⟨Bl s.t o.dst (.ptr s.h.length 0),s.h++[.box cells]⟩):
 o.upon P a (λa' w'=>∃q,K q/\q.rel C a' w') Q' r:=by
 subst z;have u:Below w.heap.size w (w.alloc (.cells cs.toArray e)):=(dW _ _).alloc (jA _) _;have X:Ext w S s.h ψ (w.alloc (.cells cs.toArray e)) S (s.h++[.box cells]) (Bo ψ s.h.length (.pointer (jT ⟨w.heap.size,0,jS⟩))):=Ext.push _ _ λk hk=>u.block k (H.lt k hk)
 have J:Hv C.N (w.alloc (.cells cs.toArray e)) S (s.h++[.box cells]) (Bo ψ s.h.length (.pointer (jT ⟨w.heap.size,0,jS⟩))) (.pointer (jT ⟨w.heap.size,0,jS⟩)) (.box cells):=
  ⟨w.heap.size,cs,e,rfl,λG=>by have:=H.nlt _ G;have:=H.bel.size;omega,λF=>by have:=H.lt _ F;omega,eY w _,Az X _ _ hc⟩
 refine⟨_,I,Ow E D (H.push u J λg hg=>by simp[ftp,Bu]at hg;omega) X ?_⟩;unfold AV.rel;exact⟨by simp,λ_=>⟨w.heap.size,Bj,rfl⟩⟩
theorem AOp.box{q:eA}{cells:List AV}(u:o.op= .box q x)(D:Vx s.h (evA s.t x) cells)(F:K ⟨Bl s.t o.dst (.ptr s.h.length 0),s.h++[.box cells]⟩):AOp P C o s K:=by
 rintro Q' a w ⟨E,S,ψ,H,z⟩;refine⟨λc e=>(by rw[u]at e;cases e),?_⟩;have hx:=Bv z x;unfold cD;refine P8 (cs:=(a.eval x).cells.toList) (e:=q) E H z ?_ (D C S ψ w _ H hx) F;simp[eR,u,Instr.box,newVar,newRow]
theorem I0{w:eG}{S:Nat->Prop}{h:List ABlk}{ψ:Nat->eC}(l:List eC):Ae w S h ψ (l.map .lit) l:=
 DL (by simp) λi x v hx q=>by
  rw[gK,q]at hx;cases hx;unfold AV.rel;rfl
def Cx(P:cG)(t:eA):Option (List eC):=((P.info? t).bind (·.zero)).map λz=>z.cells.toList
theorem AOp.alloc{q:eA}{zs:List eC}(F:o.op= .alloc q)(E:Cx P q=jT zs)(J:K ⟨Bl s.t o.dst (.ptr s.h.length 0),s.h++[.box (zs.map .lit)]⟩):AOp P C o s K:=by
 rintro Q' a w ⟨I,S,ψ,H,G⟩;refine⟨λc e=>(by rw[F]at e;cases e),?_⟩;unfold Cx at E;obtain⟨z,D,rfl⟩:=jQ.1 E;obtain⟨i,hi,u⟩:=jP.1 D;unfold cD;refine P8 (cs:=z.cells.toList) (e:=q) I H G ?_ (I0 _) J;simp[eR,F,bH,fO,fM,hi,u,newVar,newRow]
end
section
variable{P:cG}{C:Ctx}{s:St}{o:bZ}{K:St->Prop}
theorem Iw{w w':eG}{S:Nat->Prop}{ψ:Nat->eC}(hi:s.h[i]? =jT b)(D:a.defers=mkD s.h)(z:Ae w S s.h ψ s.t a.tmps.toList)(E:HRel C (s.h.set i b') S (Bo ψ i v') w')
 (X:Ext w S s.h ψ w' S (s.h.set i b') (Bo ψ i v'))(q:AV.rel w' S (s.h.set i b') (Bo ψ i v') r v)(u:b'.mrk=b.mrk:=by rfl):St.rel C ⟨Bl s.t dst r,s.h.set i b'⟩ (a.put dst v) w':=
 ⟨by rw[put_defers,DO hi u];exact D,S,_,E,KE (Az X _ _ z) dst q⟩
theorem Cc(w:eG)(g:Nat)(cs:Array eC):w.grownBy (w.setRow g cs) (jT g):=
 ⟨rfl,rfl,rfl,by simp,λk _ hk=>fJ w g k cs λe=>hk (by rw[e])⟩
def Adu(P:cG)(ty:eA):Option Nat:=(P.info? ty).map (·.size)
theorem KA{cur:Array eC}{w:eG}(D:Adu P ty=jT v.cells.toList.length)(hg:w.heap[g]? =jT (.cells cur e (0,0)))(z:off+v.cells.toList.length<=cur.size)(h1:∀u∈v.cells.toList,u.oneCell'=aP):
 (bO ty (.pointer (jT ⟨g,off,jS⟩)) v).run P w= .ok () (w.setRow g (cur.toList.take off++v.cells.toList++cur.toList.drop (off+v.cells.toList.length)).toArray):=by
 unfold Adu at D;obtain⟨i,hi,q⟩:=jQ.1 D;have E:=run_storeCells_at (P:=P) g off e v.cells.toList 0 cur w hg (by simpa using z) h1;simp only[Nat.add_zero]at E;have F:v.cells.size=i.size:=by rw[q];simp
 simp[bO,bP,storeVar,fK,fM,hi,F,E]
theorem VE{cells new:List AV}(W:o.op= .store ty x y)(hx:evA s.t x= .ptr i off)(hi:s.h[i]? =jT (.box cells))(hp:PW s.h (evA s.t y) new)(hs:Adu P ty=jT new.length)(F:off+new.length<=cells.length)
 (hK:K ⟨Bl s.t o.dst (.lit undef),s.h.set i (.box (cells.take off++new++cells.drop (off+new.length)))⟩):AOp P C o s K:=by
 rintro Q' a w ⟨hd,S,ψ,H,G⟩;refine⟨λc e=>(by rw[W]at e;cases e),?_⟩;have q:=Bv G x;have E:=Bv G y;rw[hx]at q;unfold AV.rel at q;obtain⟨g,O,e2⟩:=q.2 (by rw[hi];rfl);obtain⟨g',cs,e,e3,hN,Z,hg,z⟩:=H.blk i _ hi;rw[O]at e3;cases e3;obtain⟨Y,h1⟩:=hp C S ψ w _ H E;have u:=Bw Y;have L:=Bw z;have U:=KA (P:=P) (ty:=ty) (v:=a.eval y) (off:=off) (w:=w) (by rw[hs,u]) hg (by rw[u,iM,L];exact F) h1;rw[u]at U;have I:=Cc w g (cs.take off++(a.eval y).cells.toList++cs.drop (off+new.length)).toArray;have D:∀k,S k->(w.setRow g (cs.take off++(a.eval y).cells.toList++cs.drop (off+new.length)).toArray).heap[k]? =w.heap[k]?:=λk hk=>fJ _ _ _ _ λe=>Z (by rw[<-e];exact hk)
 have X:Ext w S s.h ψ _ S (s.h.set i (.box (cells.take off++new++cells.drop (off+new.length)))) (Bo ψ i (ψ i)):=Ext.set D hi (λc' hc=>by simp[ABlk.ver]at hc) λ_=>⟨rfl,rfl⟩
 have hB:Hv C.N (w.setRow g (cs.take off++(a.eval y).cells.toList++cs.drop (off+new.length)).toArray) S (s.h.set i (.box (cells.take off++new++cells.drop (off+new.length)))) (Bo ψ i (ψ i)) (ψ i) (.box (cells.take off++new++cells.drop (off+new.length))):=
  ⟨g,_,e,O,hN,Z,fI w g _ _ e _ hg,Az X _ _ (BK (BK (Ln z off) Y) (Lo z _))⟩
 unfold cD;simp only[eR,W,e2,U,cB,zav];refine⟨_,hK,Iw hi hd G (H.set hi V (by rw[O];exact Bs I) X hB λg' J=>.inl J) X ?_⟩;unfold AV.rel;rfl
def Ah9(h:List ABlk){α:Type}(T:Ty α)(d:α)(off:Nat)(x:AV)(n:Nat)(d':α):Prop:=
 ∀(C:Ctx) (S:Nat->Prop) (ψ:Nat->eC) (w:eG) (v:eC) (cs:List eC),HRel C h S ψ w->AV.rel w S h ψ x v->T.RS w S cs d->
  v.cells.toList.length=n/\off+n<=T.size/\(∀u∈v.cells.toList,u.oneCell'=aP)/\T.RS w S (cs.take off++v.cells.toList++cs.drop (off+n)) d'
theorem Adj{cells:List eC}(E:new.length=n)(D:off+n<=sz)(hk:k * sz+sz<=cells.length):
 (((cells.take (k * sz+off)++new++cells.drop (k * sz+off+n)).drop (k * sz)).take sz)=((cells.drop (k * sz)).take sz).take off++new++((cells.drop (k * sz)).take sz).drop (off+n):=by
 apply fY;intro j;have u:(cells.take (k * sz+off)).length=k * sz+off:=by simp;omega
 have q:(((cells.drop (k * sz)).take sz).take off).length=off:=by simp;omega
 by_cases z:j < sz
 ·rw[gQ z,gG];by_cases h1:j < off
  ·rw[gC (by simp;omega),gC (by omega),gC (by simp;omega),gC (by omega),gQ (by omega),gQ h1,gQ z,gG]
  ·by_cases h2:j < off+n
   ·rw[gC (by simp;omega),gD (by omega),gC (by simp;omega),gD (by omega),u,q];congr 1;omega
   ·rw[gD (by simp;omega),gD (by simp;omega),gG,gG,gQ (by simp;omega),gG];congr 1;simp;omega
 ·rw[gI (by simp;omega),gI (by simp;omega)]
theorem Adi{cells:List eC}(D:new.length=n)(z:off+n<=sz)(hk:k * sz+sz<=cells.length)(hi:i≠k):
 (((cells.take (k * sz+off)++new++cells.drop (k * sz+off+n)).drop (i * sz)).take sz)=((cells.drop (i * sz)).take sz):=by
 apply fY;intro j;have u:(cells.take (k * sz+off)).length=k * sz+off:=by simp;omega
 by_cases q:j < sz
 ·rw[gQ q,gQ q,gG,gG];have:i * sz+j < k * sz+off\/k * sz+off+n<=i * sz+j:=by
   rcases Nat.lt_or_gt_of_ne hi with h1|h1
   ·left;have:(i+1) * sz<=k * sz:=jG _ h1;rw[iZ,jJ]at this;omega
   ·right;have:(k+1) * sz<=i * sz:=jG _ h1;rw[iZ,jJ]at this;omega
  rcases this with h1|h1
  ·rw[gC (by simp;omega),gC (by omega),gQ h1]
  ·rw[gD (by simp;omega),gG];congr 1;simp;omega
 ·rw[gI (by simp;omega),gI (by simp;omega)]
theorem NG{ver:Nat}(ho:o.op= .store ty x y)(hx:evA s.t x= .rp i ver k off)(hi:s.h[i]? =jT (.row ver e T l))(hk:l[k]? =jT d)
 (hu:Ah9 s.h T d off (evA s.t y) n d')(hs:Adu P ty=jT n)(hK:K ⟨Bl s.t o.dst (.lit undef),s.h.set i (.row ver e T (l.set k d'))⟩):AOp P C o s K:=by
 rintro Q' a w ⟨hd,S,ψ,H,hl⟩;refine⟨λc e=>(by rw[ho]at e;cases e),?_⟩;have J:=Bv hl x;have ab:=Bv hl y;rw[hx]at J;unfold AV.rel at J;obtain⟨g,n0,c0,U,e2⟩:=(J.2 _ (by rw[hi];rfl)).2 V;obtain⟨cells,G,h0,hR,aj⟩:=H.blk i _ hi;obtain⟨hN,hS⟩:=aj g (by rw[U];rfl);rw[hi]at e2;simp only[Fo]at e2;have aa:k < l.length:=(gJ.1 hk).1;obtain⟨E,Z,h1,I⟩:=hu C S ψ w _ _ H ab (hR k d hk);have Y:(k+1) * T.size<=l.length * T.size:=jG _ aa;rw[iZ,jJ]at Y;rcases G.2 with⟨O,_⟩|⟨g',cap,cur,O,am,hg,W,ah,u,ad⟩
 ·rw[U]at O;cases O
 rw[U]at O;simp only[Value.slice.injEq,jV,Addr.mk.injEq]at O;obtain⟨⟨rfl,-,-⟩,rfl,rfl⟩:=O;have q:min l.length c0=l.length:=by omega
 have ak:l.length * T.size<=c0 * T.size:=jG _ W;have hr:=KA (P:=P) (ty:=ty) (v:=a.eval y) (off:=k * T.size+off) (w:=w) (by rw[hs,E]) hg (by rw[E,u];omega) h1;rw[E]at hr;obtain⟨vs,ac⟩:∃vs:List eC,vs=(a.eval y).cells.toList:=⟨_,rfl⟩
 rw[<-ac]at E h1 I hr;have ag:=Cc w g (cur.toList.take (k * T.size+off)++vs++cur.toList.drop (k * T.size+off+n)).toArray;have z:∀j,S j->(w.setRow g (cur.toList.take (k * T.size+off)++vs++cur.toList.drop (k * T.size+off+n)).toArray).heap[j]? =w.heap[j]?:=λj D=>fJ _ _ _ _ λe=>hS (by rw[<-e];exact D)
 have X:Ext w S s.h ψ _ S (s.h.set i (.row ver e T (l.set k d'))) (Bo ψ i (ψ i)):=Ext.set z hi (λc' hc=>⟨c',hc,jA _,λ_=>⟨rfl,rfl⟩⟩) λh=>by simp[AZ]at h
 have ai:cells.length=l.length * T.size:=G.1;have hB:Hv C.N (w.setRow g (cur.toList.take (k * T.size+off)++vs++cur.toList.drop (k * T.size+off+n)).toArray) S (s.h.set i (.row ver e T (l.set k d'))) (Bo ψ i (ψ i)) (ψ i) (.row ver e T (l.set k d')):=by
  refine⟨cells.take (k * T.size+off)++vs++cells.drop (k * T.size+off+n),⟨by simp[E,ai];omega,.inr ⟨g,c0,_,by rw[U];simp,jN _,fI w g _ _ e _ hg,by simpa using W,ah,by simp[E,u,q];omega,?_⟩⟩,h0,λj d1 D=>?_,λg' F=>?_⟩
  ·simp only[List.length_set];rw[<-ad];apply fY;intro j;have af:(cur.toList.take (k * T.size+off)).length=k * T.size+off:=by simp[u,q];omega
   have ae:((cur.toList.take (l.length * T.size)).take (k * T.size+off)).length=k * T.size+off:=by simp[u,q];omega
   by_cases D:j < l.length * T.size
   ·rw[gQ D];by_cases h2:j < k * T.size+off
    ·rw[gC (by simp[u,q];omega),gC (by omega),gC (by simp[u,q];omega),gC (by omega),gQ h2,gQ h2,gQ D]
    ·by_cases h3:j < k * T.size+off+n
     ·rw[gC (by simp[u,q];omega),gD (by omega),gC (by simp[u,q];omega),gD (by omega),af,ae]
     ·rw[gD (by simp[u,q];omega),gD (by simp[u,q];omega),gG,gG,gQ (by simp[u,q];omega)];congr 1;simp[u,q];omega
   ·rw[gI (by simp;omega),gI (by simp[E,u,q];omega)]
  ·have al:=D;by_cases L:j=k
   ·subst L;rw[gO aa]at D;cases D;rw[Adj E Z (by omega)];exact T.keepS I z λ_ h=>h
   ·rw[gN (jO L)]at D;rw[Adi E Z (by omega) L];exact T.keepS (hR j d1 D) z λ_ h=>h
  ·rw[U]at F;cases F;exact⟨hN,hS⟩
 unfold cD;simp only[eR,ho,e2,hr,cB,zav];refine⟨_,hK,Iw hi hd hl (H.set hi V (by rw[U];exact Bs ag) X hB λg' F=>.inl F) X ?_⟩;unfold AV.rel;rfl
end
section
variable{P:cG}{C:Ctx}{s:St}{o:bZ}{K:St->Prop}
def SK{α:Type}(T:Ty α):Prop:=∀(w:eG) (S:Nat->Prop) (cs:List eC) (d:α),T.RS w S cs d->∀u∈cs,u.oneCell'=aP
theorem JP{k:bR}:SK (Ty.int k):=by
 rintro w S cs d ⟨rfl,_⟩ u q;simp at q;subst q;rfl
theorem Ae7:SK Ty.bool:=by
 rintro w S cs d rfl u q;simp at q;subst q;rfl
theorem one1_slice:SK T.slice:=by
 rintro w S cs d ⟨A,c,rfl,_⟩ u q;simp at q;subst q;rfl
theorem D4{enc:α->List AV}(E:Enc T enc)(h:∀d x,x∈enc d->(∃v:eC,x= .lit v/\v.oneCell'=aP)\/∃(β:Type) (U:Ty β) (l:List β),x= .bs U l):SK T:=by
 intro w S cs d H u I;have z:=E w S [] ψ0 cs d H;obtain⟨j,D⟩:=iB.1 I;have q:j < (enc d).length:=by rw[<-Bw z];exact(gJ.1 D).1
 obtain⟨J,h1,h2⟩:=BY z (gH q);rw[D]at h1;cases h1;rcases h d _ (gR q)with⟨v,e,G⟩|⟨β,U,l,e⟩
 ·rw[e]at h2;unfold AV.rel at h2;rw[h2];exact G
 ·rw[e]at h2;unfold AV.rel at h2;obtain⟨A,c,F,_⟩:=h2;simp only[fR,and_true]at F;rw[F];rfl
def NK(P:cG)(ty:eA):Option (eA×Nat×Nat):=
 match P.underlying ty with
 |some (.slice e)=>(P.info? e).bind λi=>i.zero.bind λz=>if z.cells.size=i.size then jT (e,i.size,i.bytes)else jS
 |_=>jS
theorem C9{bytes:Nat}(h:NK P ty=jT (e,sz,bytes)):P.underlying ty=jT (.slice e)/\∃i z,P.info? e=jT i/\i.zero=jT z/\i.size=sz/\i.bytes=bytes/\z.cells.size=sz:=by
 unfold NK at h;split at h <;> try(cases h;done)
 rename_i E h1;obtain⟨i,hi,h2⟩:=jP.1 h;obtain⟨z,u,q⟩:=jP.1 h2;split at q <;> try(cases q;done)
 rename_i D;cases q;exact⟨h1,i,z,hi,u,rfl,rfl,D⟩
theorem Ul{cells news:List eC}(hc:cells.length=n * sz)(hi:i < n):(((cells++news).drop (i * sz)).take sz)=(cells.drop (i * sz)).take sz:=by
 have:(i+1) * sz<=n * sz:=jG _ hi;rw[iZ,jJ]at this;rw[fT (by omega),iP (by simp;omega)]
theorem MH{cells news:List eC}(hc:cells.length=n * sz):(((cells++news).drop ((n+j) * sz)).take sz)=(news.drop (j * sz)).take sz:=by
 rw[iZ,<-hc,List.drop_append,fU (by omega)];simp
theorem AOp.append{ver:Nat}{bytes:Nat}{I:List α}(ho:o.op= .call {callee:=.builtin .append,args:=#[x,y],argTypes:=#[ty,ty]})(hT:NK P ty=jT (e,T.size,bytes))
 (hx:evA s.t x= .own i ver)(hi:s.h[i]? =jT (.row ver e T l))(hy:evA s.t y= .bs T I)(ai:SK T)(W:l.length+I.length<=fB)(F:(l.length+I.length) * bytes<=140737488355328)
 (hK:K ⟨Bl s.t o.dst (.own i (ver+1)),s.h.set i (.row (ver+1) e T (l++I))⟩):AOp P C o s K:=by
 rintro Q' a w ⟨hd,S,ψ,H,hl⟩;refine⟨λc e=>(by rw[ho]at e;cases e),?_⟩;have J:=Bv hl x;have u:=Bv hl y;rw[hx]at J;rw[hy]at u;unfold AV.rel at J u;have hv:=(J.2 _ (by rw[hi];rfl)).2 V;obtain⟨cells,q,h0,hR,ad⟩:=H.blk i _ hi;obtain⟨h1,ti,z,h2,h3,h4,h5,h6⟩:=C9 hT;obtain⟨A,c,O⟩:=Ci u;rw[O]at u;obtain⟨news,aj,U,ae,af⟩:=IU u λcs d ag=>ai _ _ _ _ ag
 refine Acm (P:=P) x y ty ho 0 e ti z T.size bytes h1 h2 h3 h4 h5 h6 h0 hv q O (U w λ_ _=>rfl) af W F (jN _) λv' w' D Z ab=>?_
 have ah:∀g,Bu v'=jT g->v'.ownBlock=jT g:=λg hg=>by
  rcases D.2 with⟨e1,_⟩|⟨g',cap,cur,e1,_⟩
  ·rw[e1]at hg;simp[Bu]at hg
  ·rw[e1]at hg⊢;simpa[Bu,eF]using hg
 have G:(ψ i).ownBlock=Bu (ψ i):=by
  rcases q.2 with⟨e1,_⟩|⟨g',cap,cur,e1,_⟩ <;> rw[e1] <;> rfl
 have E:∀k,S k->w'.heap[k]? =w.heap[k]?:=λk hk=>Z.block k (H.lt k hk) λe=>(ad k e.symm).2 hk
 have X:Ext w S s.h ψ w' S (s.h.set i (.row (ver+1) e T (l++I))) (Bo ψ i v'):=Ext.set E hi (λc' hc=>by
  simp only[ABlk.ver,jV]at hc;exact⟨ver,rfl,by omega,λe=>by omega⟩) λh=>by simp[AZ]at h
 have ac:∀g,v'.ownBlock=jT g->¬C.N g/\¬S g:=λg hg=>by
  rcases ab with e1|e1
  ·rw[e1]at hg;exact ad g hg
  ·rw[e1]at hg;cases hg;exact⟨λhN=>by have:=H.nlt _ hN;have:=H.bel.size;omega,λhS=>by have:=H.lt _ hS;omega⟩
 have hB:Hv C.N w' S (s.h.set i (.row (ver+1) e T (l++I))) (Bo ψ i v') v' (.row (ver+1) e T (l++I)):=by
  refine⟨cells++news,by rw[gT];exact D,h0,λj d hj=>?_,ac⟩;by_cases Y:j < l.length
  ·rw[gC Y]at hj;rw[Ul q.1 Y];exact T.keepS (hR j d hj) E λ_ h=>h
  ·rw[gD (by omega)]at hj;obtain⟨m,rfl⟩:∃m,j=l.length+m:=⟨j - l.length,by omega⟩
   rw[MH q.1];exact T.keepS (ae m d (by simpa using hj)) E λ_ h=>h
 refine⟨_,hK,Iw hi hd hl (H.set hi V (Bs (by rw[<-G];exact Z)) X hB λg hg=>?_) X ?_⟩
 ·have L:=ah g hg;rcases ab with e1|e1
  ·left;show Bu (ψ i)=jT g;rw[<-G,<-e1];exact L
  ·right;rw[e1]at L;cases L;exact jA _
 ·unfold AV.rel;refine⟨by simp[(gJ.1 hi).1],λc' aa=>?_⟩;rw[gO (gJ.1 hi).1]at aa;simp only[ABlk.ver,jV]at aa;exact⟨by omega,λ_=>by rw[Bj]⟩
theorem AOp.newRow{r:dV Next}{cap:Nat}{cells:List eC}{w w':eG}{S:Nat->Prop}{ψ:Nat->eC}(G:a.defers=mkD s.h)(H:HRel C s.h S ψ w)(F:Ae w S s.h ψ s.t a.tmps.toList)
 (E:r= .ok (.value (.slice (jT ⟨w.heap.size,0,jS⟩) n cap)) w')(D:Below w.heap.size w w')(q:w'.ownsRow 0 e T.size (.slice (jT ⟨w.heap.size,0,jS⟩) n cap) l.length cells)(h0:0 < T.size)
 (J:∀i d,l[i]? =jT d->T.RS w' S ((cells.drop (i * T.size)).take T.size) d)(O:K ⟨Bl s.t o.dst (.own s.h.length 0),s.h++[.row 0 e T l]⟩):
 o.upon P a (λa' w'=>∃z,K z/\z.rel C a' w') Q' r:=by
 subst E;have X:Ext w S s.h ψ w' S (s.h++[.row 0 e T l]) (Bo ψ s.h.length (.slice (jT ⟨w.heap.size,0,jS⟩) n cap)):=Ext.push _ _ λk hk=>D.block k (H.lt k hk)
 have U:Hv C.N w' S (s.h++[.row 0 e T l]) (Bo ψ s.h.length (.slice (jT ⟨w.heap.size,0,jS⟩) n cap)) (.slice (jT ⟨w.heap.size,0,jS⟩) n cap) (.row 0 e T l):=
  ⟨cells,q,h0,J,λg hg=>by
   obtain rfl:w.heap.size=g:=by simpa[eF]using hg
   exact⟨λL=>by have:=H.nlt _ L;have:=H.bel.size;omega,λI=>by have:=H.lt _ I;omega⟩⟩
 refine⟨_,O,Ow G F (H.push D U λg hg=>by simp[ftp,Bu]at hg;omega) X ?_⟩;unfold AV.rel;refine⟨by simp,λW u=>?_⟩;rw[gD (jA _)]at u;simp[ABlk.ver]at u;exact⟨by omega,λ_=>Bj.symm⟩
def GB(P:cG)(ty:eA):Option (eA×eC×Nat):=
 match P.underlying ty with
 |some (.slice e)=>(P.info? e).bind λi=>i.zero.bind λz=>if i.size=1/\z.oneCell'=aP then jT (e,z,i.bytes)else jS
 |_=>jS
theorem Pc(z:eC)(n:Nat):fA #[z] n=(iJ n z).toArray:=by
 apply Array.ext
 ·simp[fA]
 ·intro i h1 h2;simp[fA,Nat.mod_one]
theorem Amq{k U:bR}{z:eC}{bytes:Nat}(W:o.op= .makeSlice ty x y)(E:GB P ty=jT (e,z,bytes))(Y:T.size=1)(L:∀w S,T.RS w S [z] d)
 (hx:evA s.t x= .lit (.int k (n:Int)))(hy:evA s.t y= .lit (.int U (n:Int)))(hb:bytes * n<=281474976710656)(X:n<=fB)
 (hK:K ⟨Bl s.t o.dst (.own s.h.length 0),s.h++[.row 0 e T (iJ n d)]⟩):AOp P C o s K:=by
 rintro Q' a w ⟨hd,S,ψ,H,I⟩;refine⟨λc e=>(by rw[W]at e;cases e),?_⟩;have D:=Bv I x;have u:=Bv I y;rw[hx]at D;rw[hy]at u;unfold AV.rel at D u;unfold GB at E;split at E <;> try(cases E;done)
 rename_i e' h1;obtain⟨i,hi,h2⟩:=jP.1 E;obtain⟨z',G,O⟩:=jP.1 h2;split at O <;> try(cases O;done)
 rename_i Z;cases O;have F:=Hl Z.2;have q:=run_make_row' (P:=P) ty e z i.bytes h1 (by rw[hi];simp[G,Z.1]) F k U n hb (by unfold fB at X;omega) w;unfold cD;rw[Pc]at q;refine AOp.newRow (T:=T) (l:=iJ n d) (e:=e) (cells:=iJ n z) (n:=n) (cap:=n) (w':=w.alloc (.cells (iJ n z).toArray e)) hd H I ?_ ((dW _ _).alloc (jA _) _) ?_ (by omega) ?_ hK
 ·simp[eR,W,D,u,q]
 ·rw[List.length_replicate,Y];refine⟨by simp,.inr ⟨_,n,_,rfl,jN _,eY w _,jA _,X,by simp,by simp⟩⟩
 ·intro j d' J;rw[gL]at J;split at J <;> cases J
  rename_i aa;rw[Y,jH,List.drop_replicate,List.take_replicate];have:min 1 (n - j)=1:=by omega
  rw[this];exact L _ _
def Fit(h:List ABlk){α:Type}(T:Ty α)(x:AV)(d:α):Prop:=∀(C:Ctx) (S:Nat->Prop) (ψ:Nat->eC) (w:eG) (v:eC),HRel C h S ψ w->AV.rel w S h ψ x v->T.RS w S v.cells.toList d
theorem Fit.int{h:List ABlk}{k:bR}{n:Int}(u:wfI k n):Fit h (Ty.int k) (.lit (.int k n)) n:=λC S ψ w v H q=>by
 unfold AV.rel at q;subst q;exact⟨rfl,u⟩
theorem Fit.bool{h:List ABlk}{b:Bool}:Fit h Ty.bool (.lit (.bool b)) b:=λC S ψ w v H q=>by
 unfold AV.rel at q;subst q;rfl
theorem Fit.bs{h:List ABlk}:Fit h T.slice (.bs T l) l:=λC S ψ w v H q=>by
 unfold AV.rel at q;obtain⟨A,c,e,_⟩:=id q;simp only[fR,and_true]at e;subst e;exact q
theorem Abp{h:List ABlk}{x:AV}(E:Fit h T x d')(h1:SK T):Ah9 h T d 0 x T.size d':=λC S ψ w v cs H z u=>by
 have q:=E C S ψ w v H z;have D:=T.len q;refine⟨D,by omega,h1 _ _ _ _ q,?_⟩;rw[iU,iG,fU (by rw[T.len u];omega),fQ];exact q
inductive Fits(h:List ABlk){α:Type}(T:Ty α):List AV->List α->Prop
 |nil:Fits h T [] []
 |cons {x:AV} {d:α} {xs:List AV} {ds:List α} (hx:Fit h T x d) (hs:Fits h T xs ds):Fits h T (x::xs) (d::ds)
theorem Adx:∀(vs:List eC) (A M B:List eC) (off k:Nat),M.length=vs.length->off+k=A.length->
 (vs.zipIdx k).foldl (λ(cs:Array eC) (p:eC×Nat)=>cs.setIfInBounds (off+p.2) p.1) (A++M++B).toArray=(A++vs++B).toArray
 | [],A,M,B,off,k,q,hk=>by
  have:M= []:=fW (by simpa using q);subst this;simp
 |v::vs,A,m::M,B,off,k,q,hk=>by
  have u:=Adx vs (A++[v]) M B off (k+1) (by simpa using q) (by simp;omega);simp only[iW,List.foldl_cons];rw[show((A++(m::M)++B).toArray.setIfInBounds (off+k) v)=(A++[v]++M++B).toArray from by
   rw[List.setIfInBounds_toArray,hk];congr 1;simp]
  rw[u];simp
theorem Yx{sz:Nat}:∀(vs:List eC) (k:Nat) (A B:List eC),A.length=k * sz->B.length=vs.length * sz->(∀v∈vs,v.cells.size=sz)->
 bK (λi=>jT (i * sz,sz)) (A++B).toArray ((vs.zipIdx k).map λp=>(p.2,p.1))=jT (A++vs.flatMap λv=>v.cells.toList).toArray
 | [],k,A,B,E,z,_=>by
  have:B= []:=fW (by simpa using z);subst this;simp[bK]
 |v::vs,k,A,B,E,z,D=>by
  have h1:=D v (by simp);have q:B.length=sz+vs.length * sz:=by rw[z,gU,iZ,jJ];omega
  simp only[iW,gY,bK];have hc:¬((aU (v.cells.size≠sz)||decide (k * sz+v.cells.size > (A++B).toArray.size))=aP):=by
   simp[h1];omega
  rw[if_neg hc];have e:(A++B)=A++B.take sz++B.drop sz:=by rw[List.append_assoc,iO]
  have H:=Adx v.cells.toList A (B.take sz) (B.drop sz) (k * sz) 0 (by simp[h1];omega) (by omega);have F:v.cells.zipIdx.foldl (λcs (c,j)=>cs.setIfInBounds (k * sz+j) c) (A++B).toArray=(A++v.cells.toList++B.drop sz).toArray:=by
   rw[e,<-H,<-Array.foldl_toList,Array.toList_zipIdx]
  rw[F,Yx vs (k+1) (A++v.cells.toList) (B.drop sz) (by simp[h1,E,iZ]) (by simp[q]) λu G=>D u (by simp[G])];simp
def Gp(xs:List cF):Array (Nat×cF):=(xs.zipIdx.map λp=>(p.2,p.1)).toArray
theorem Ad1{bytes:Nat}{vs:List eC}{w:eG}(F:NK P ty=jT (e,sz,bytes))(I:vs.length * sz<=16777216)(E:∀v∈vs,v.cells.size=sz):
 (bI ty vs.length (vs.zipIdx.map λp=>(p.2,p.1)).toArray).run P w= .ok (.slice (jT ⟨w.heap.size,0,jS⟩) vs.length vs.length) (w.alloc (.cells (vs.flatMap λv=>v.cells.toList).toArray e)):=by
 obtain⟨h1,i,z,h2,H,G,L,J⟩:=C9 F;have q:∀c:Array eC,c.size=vs.length * sz->bK (λi=>jT (i * sz,sz)) c (vs.zipIdx.map λp=>(p.2,p.1))=jT (vs.flatMap λv=>v.cells.toList).toArray:=λc hc=>by
  have:=Yx (sz:=sz) vs 0 [] c.toList (by simp) (by simpa using hc) E;simpa using this
 have D:¬vs.length * sz > 2 ^ 24:=by simp;omega
 unfold bI;simp only[underlying,h1,fK,fM,h2,G,D,if_false,zar];by_cases u:vs.length * sz=0
 ·simp only[u,if_true,pure_bind];rw[q _ (by simp[u])];simp[newRow]
 ·simp only[u,if_false,fO,fM,h2,H,zar];rw[q _ (by simp)];simp[newRow]
theorem MP{h:List ABlk}{α:Type}{T:Ty α}{C:Ctx}{S:Nat->Prop}{ψ:Nat->eC}{w:eG}(H:HRel C h S ψ w):∀{xs:List AV} {ds:List α} {vs:List eC},Fits h T xs ds->Ae w S h ψ xs vs->
 vs.length=ds.length/\(∀v∈vs,v.cells.size=T.size)/\(vs.flatMap λv=>v.cells.toList).length=ds.length * T.size/\∀i d,ds[i]? =jT d->T.RS w S (((vs.flatMap λv=>v.cells.toList).drop (i * T.size)).take T.size) d
 | [],ds,vs,F,D=>by
  cases F;unfold Ae at D;subst D;simp
 |x::xs,ds,vs,F,D=>by
  cases F with
  |cons hx W=>
   unfold Ae at D;obtain⟨v,z,rfl,h1,h2⟩:=D;obtain⟨U,O,L,J⟩:=MP H W h2;have I:=hx C S ψ w v H h1;have q:v.cells.size=T.size:=by have:=T.len I;simpa using this
   have E:((v::z).flatMap λv=>v.cells.toList)=v.cells.toList++z.flatMap λv=>v.cells.toList:=by simp
   rw[E];refine⟨by simp[U],λu hu=>?_,by simp[q,L,iZ];omega,λi d G=>?_⟩
   ·rcases g9.1 hu with rfl|hu
    ·exact q
    ·exact O u hu
   ·cases i with
    |zero=>
     simp only[gF,jV]at G;subst G;rw[Nat.zero_mul,fV,iP (by simp[q]),iR (by simp[q])];exact I
    |succ i=>
     have:=MH (news:=z.flatMap λv=>v.cells.toList) (n:=1) (j:=i) (sz:=T.size) (cells:=v.cells.toList) (by simp[q]);rw[show(i+1) * T.size=(1+i) * T.size from by rw[iY],this];exact J i d (by simpa using G)
theorem OG{ρ:cF->eC}{w:eG}(q:o.op= .buildSlice ty xs.length (Gp xs)):(eR ρ o).run P w=((bI ty (xs.map ρ).length ((xs.map ρ).zipIdx.map λp=>(p.2,p.1)).toArray).run P w).andThen λv w'=>.ok (.value v) w':=by
 have e:(Gp xs).map (λp:Nat×cF=>(p.1,ρ p.2))=((xs.map ρ).zipIdx.map λp=>(p.2,p.1)).toArray:=by
  unfold Gp;simp[List.zipIdx_map]
 simp only[eR,q,dX,dY,gV];rw[<-e]
theorem AT.lit{h:List ABlk}{bytes:Nat}{q:Array (Nat×cF)}(G:o.op= .buildSlice ty n q)(W:q=Gp xs)(X:n=xs.length)
 (hT:NK P ty=jT (e,T.size,bytes))(h0:0 < T.size)(E:n * T.size<=16777216)(Z:Fits h T (xs.map (evA t)) ds):AT P C t h o (.bs T ds):=by
 subst W X;intro S ψ w ρ H D;have u:Ae w S h ψ (xs.map (evA t)) (xs.map ρ):=Cd λx hx=>D x (by
  rw[G];simp only[bY,Gp,List.map_map];refine iF.2 (iC.2 ?_);obtain⟨j,Y⟩:=iB.1 hx;exact⟨(x,j),by rw[List.mem_zipIdx_iff_getElem?];exact Y,rfl⟩)
 obtain⟨U,O,L,J⟩:=MP H Z u;have z:ds.length=xs.length:=by rw[<-U];simp
 rw[OG G,Ad1 hT (by rw[gV];exact E) O];have I:Below w.heap.size w (w.alloc (.cells ((xs.map ρ).flatMap λv=>v.cells.toList).toArray e)):=(dW _ _).alloc (jA _) _;refine⟨I,λk=>S k\/k=w.heap.size,λk hk=>.inl hk,λk hk=>hk.imp id λe=>by omega,λk hk=>?_,?_⟩
 ·rcases hk with hk|hk
  ·have:=H.lt k hk;simp;omega
  ·simp;omega
 ·unfold AV.rel;have F:xs.length<=fB:=by
   have:xs.length * 1<=xs.length * T.size:=jF _ h0;unfold fB;omega
  refine C5 (base:=0) (e:=e) (cells:=(xs.map ρ).flatMap λv=>v.cells.toList) ?_ (λi d hd=>T.keepS (J i d hd) (λk hk=>I.block k (H.lt k hk)) λ_ h=>.inl h) λg hg=>.inr (by simpa[eF]using hg.symm)
  rw[z];exact RJ (eY w _) (jN _) (by rw[L,z]) F |> λh=>by simpa using h
theorem AOp.lit{bytes:Nat}{q:Array (Nat×cF)}(G:o.op= .buildSlice ty n q)(X:q=Gp xs)(Y:n=xs.length)
 (hT:NK P ty=jT (e,T.size,bytes))(h0:0 < T.size)(D:n * T.size<=16777216)(Z:Fits s.h T (xs.map (evA s.t)) ds)(hK:K ⟨Bl s.t o.dst (.own s.h.length 0),s.h++[.row 0 e T ds]⟩):AOp P C o s K:=by
 subst X Y;rintro Q' a w ⟨F,S,ψ,H,I⟩;refine⟨λc e=>(by rw[G]at e;cases e),?_⟩;have u:Ae w S s.h ψ (xs.map (evA s.t)) (xs.map a.eval):=Cd λx _=>Bv I x
 obtain⟨W,U,O,L⟩:=MP H Z u;have z:ds.length=xs.length:=by rw[<-W];simp
 unfold cD;rw[OG G,Ad1 hT (by rw[gV];exact D) U];have J:Below w.heap.size w (w.alloc (.cells ((xs.map a.eval).flatMap λv=>v.cells.toList).toArray e)):=(dW _ _).alloc (jA _) _;have E:xs.length<=fB:=by
  have:xs.length * 1<=xs.length * T.size:=jF _ h0;unfold fB;omega
 refine AOp.newRow (T:=T) (l:=ds) (e:=e) (cells:=(xs.map a.eval).flatMap λv=>v.cells.toList) (n:=xs.length) (cap:=xs.length) (w':=w.alloc (.cells ((xs.map a.eval).flatMap λv=>v.cells.toList).toArray e)) F H I ?_ J ?_ h0 (λi d F=>T.keepS (L i d F) (λk hk=>J.block k (H.lt k hk)) λ_ h=>h) hK
 ·simp
 ·rw[z];exact RJ (eY w _) (jN _) (by rw[O,z]) E
end
theorem St.le.refl{C:Ctx}{s:St}:St.le C s s:=λ_ _ h=>h
theorem St.le.trans{C:Ctx}{s u q:St}(h:St.le C s u)(h':St.le C u q):St.le C s q:=λa w H=>h' a w (h a w H)
mutual
def AV.bd(n:Nat):AV->Bool
 | .own i _=>decide (i < n)
 | .ptr i _=>decide (i < n)
 | .rp i _ _ _=>decide (i < n)
 | .agg l=>Mi n l
 | .tup l=>Mi n l
 | .fn _ l=>Mi n l
 |_=>aP
def Mi(n:Nat):List AV->Bool
 | []=>aP
 |x::l=>AV.bd n x&&Mi n l
end
structure Cut(h h':List ABlk):Prop where
 len:h'.length<=h.length
 blk:∀(i:Nat) (b:ABlk),h'[i]? =some b->b= .dead\/h[i]? =some b
section
variable{w:eG}{S:Nat->Prop}{h h':List ABlk}{ψ:Nat->eC}
theorem Cut.ver(hc:Cut h h')(q:ABlk.ver h'[i]? =jT c):ABlk.ver h[i]? =jT c/\Fo h'[i]? =Fo h[i]?:=by
 cases u:h'[i]? with
 |none=>rw[u]at q;simp[ABlk.ver]at q
 |some b=>
  rcases hc.blk i b u with rfl|h1
  ·rw[u]at q;simp[ABlk.ver]at q
  ·rw[h1,<-u];exact⟨q,rfl⟩
theorem Cut.box(hc:Cut h h')(q:AZ h'[i]? =aP):AZ h[i]? =aP:=by
 cases u:h'[i]? with
 |none=>rw[u]at q;simp[AZ]at q
 |some b=>
  rcases hc.blk i b u with rfl|h1
  ·rw[u]at q;simp[AZ]at q
  ·rw[h1,<-u];exact q
theorem Cut.live(hc:Cut h h')(q:ABlk.live h'[i]? =aP):ABlk.live h[i]? =aP:=by
 cases u:h'[i]? with
 |none=>rw[u]at q;simp[ABlk.live]at q
 |some b=>
  rcases hc.blk i b u with rfl|h1
  ·rw[u]at q;simp[ABlk.live]at q
  ·rw[h1,<-u];exact q
theorem Cut.same(hc:Cut h h')(q:ABlk.live h'[i]? =aP):h'[i]? =h[i]?:=by
 cases u:h'[i]? with
 |none=>rw[u]at q;simp[ABlk.live]at q
 |some b=>
  rcases hc.blk i b u with rfl|h1
  ·rw[u]at q;simp[ABlk.live]at q
  ·rw[h1]
mutual
theorem Ry(hc:Cut h h'):∀(x:AV) (v:eC),AV.bd h'.length x=aP->AV.rel w S h ψ x v->AV.rel w S h' ψ x v
 | .any,_,_,_=>by unfold AV.rel;trivial
 | .lit u,v,_,H=>by unfold AV.rel at H⊢;exact H
 | .bs T l,v,_,H=>by unfold AV.rel at H⊢;exact H
 | .tv T d,v,_,H=>by unfold AV.rel at H⊢;exact H
 | .own i ver,v,hb,H=>by
  unfold AV.bd at hb;unfold AV.rel at H⊢;exact⟨by simpa using hb,λc hv=>H.2 c (hc.ver hv).1⟩
 | .ptr i off,v,hb,H=>by
  unfold AV.bd at hb;unfold AV.rel at H⊢;exact⟨by simpa using hb,λhv=>H.2 (hc.box hv)⟩
 | .rp i ver k off,v,hb,H=>by
  unfold AV.bd at hb;unfold AV.rel at H⊢;refine⟨by simpa using hb,λc hv=>?_⟩;rw[(hc.ver hv).2];exact H.2 c (hc.ver hv).1
 | .bp T d off,v,_,H=>by unfold AV.rel at H⊢;exact H
 | .agg l,v,hb,H=>by
  unfold AV.bd at hb;unfold AV.rel at H⊢;obtain⟨cs,e,hl⟩:=H;exact⟨cs,e,ET hc l cs hb hl⟩
 | .tup l,v,hb,H=>by
  unfold AV.bd at hb;unfold AV.rel at H⊢;obtain⟨cs,e,hl⟩:=H;exact⟨cs,e,ET hc l cs hb hl⟩
 | .fn f l,v,hb,H=>by
  unfold AV.bd at hb;unfold AV.rel at H⊢;obtain⟨cs,e,hl⟩:=H;exact⟨cs,e,ET hc l cs hb hl⟩
theorem ET(hc:Cut h h'):∀(l:List AV) (cs:List eC),Mi h'.length l=aP->Ae w S h ψ l cs->Ae w S h' ψ l cs
 | [],cs,_,H=>by unfold Ae at H⊢;exact H
 |x::l,cs,hb,H=>by
  unfold Mi at hb;rw[aL]at hb;unfold Ae at H⊢;obtain⟨v,vs,e,h1,h2⟩:=H;exact⟨v,vs,e,Ry hc x v hb.1 h1,ET hc l vs hb.2 h2⟩
end
end
def Al1(n:Nat):ABlk->Bool
 | .box cells=>Mi n cells
 |_=>aP
inductive Fgt(n:Nat):List AV->List AV->Prop
 |nil:Fgt n [] []
 |any {x:AV} {t t':List AV} (h:Fgt n t t'):Fgt n (x::t) (.any::t')
 |keep {x:AV} {t t':List AV} (hx:AV.bd n x=true) (h:Fgt n t t'):Fgt n (x::t) (x::t')
theorem Fgt.rel{w:eG}{S:Nat->Prop}{h h':List ABlk}{ψ:Nat->eC}(hc:Cut h h')(u:Fgt h'.length t t'):∀{cs:List eC},Ae w S h ψ t cs->Ae w S h' ψ t' cs:=by
 induction u with
 |nil=>intro cs H;unfold Ae at H⊢;exact H
 |any _ q=>
  intro cs H;unfold Ae at H⊢;obtain⟨v,vs,e,_,h2⟩:=H;exact⟨v,vs,e,by unfold AV.rel;trivial,q h2⟩
 |keep hx _ q=>
  intro cs H;unfold Ae at H⊢;obtain⟨v,vs,e,h1,h2⟩:=H;exact⟨v,vs,e,Ry hc _ _ hx h1,q h2⟩
theorem Vo{C:Ctx}{h h':List ABlk}(hc:Cut h h')(U:∀b∈h',Al1 h'.length b=aP)(L:Fgt h'.length t t')(I:mkD h'=mkD h:=by rfl):St.le C ⟨t,h⟩ ⟨t',h'⟩:=λa w ⟨O,S,ψ,H,J⟩=>by
 refine⟨O.trans I.symm,S,ψ,⟨H.bel,H.nlt,H.lt,H.sub,H.new,λi b hi=>?_,λi j q h1 h2=>by rw[hc.same h1,hc.same h2];exact H.dis i j q (hc.live h1) (hc.live h2)⟩,L.rel hc J⟩;rcases hc.blk i b hi with rfl|h1
 ·trivial
 ·have u:=H.blk i b h1;cases b with
  |dead=>trivial
  |box cells=>
   obtain⟨g,cs,e,G,F,E,D,z⟩:=u;exact⟨g,cs,e,G,F,E,D,ET hc _ _ (U _ (iD hi)) z⟩
  |row ver e T l=>exact u
  |res R=>exact u
theorem Cut.refl(h:List ABlk):Cut h h:=⟨jA _,λ_ _ h=>.inr h⟩
theorem Cut.cons{h h':List ABlk}(hc:Cut h h'):Cut (b::h) (b::h'):=⟨by have:=hc.len;simp;omega,λi c hi=>by
 cases i with
 |zero=>exact .inr hi
 |succ i=>exact hc.blk i c (by simpa using hi)⟩
theorem Cut.dead{h h':List ABlk}(hc:Cut h h'):Cut (b::h) (.dead::h'):=⟨by have:=hc.len;simp;omega,λi c hi=>by
 cases i with
 |zero=>exact .inl (by simpa using hi.symm)
 |succ i=>exact hc.blk i c (by simpa using hi)⟩
theorem Cut.nil(h:List ABlk):Cut h []:=⟨jN _,λi c hi=>by simp at hi⟩
theorem Cz{C:Ctx}{h:List ABlk}(j:Nat)(e:eA)(T:Ty α)(E:t[j]? =jT (.lit (.slice jS 0 0)))(h0:0 < T.size):St.le C ⟨t,h⟩ ⟨t.set j (.own h.length 0),h++[.row 0 e T []]⟩:=λa w ⟨F,S,ψ,H,z⟩=>by
 have X:Ext w S h ψ w S (h++[.row 0 e T []]) (Bo ψ h.length (.slice jS 0 0)):=Ext.push _ _ λ_ _=>rfl
 have G:Hv C.N w S (h++[.row 0 e T []]) (Bo ψ h.length (.slice jS 0 0)) (.slice jS 0 0) (.row 0 e T []):=
  ⟨[],eM _ _ _ _,h0,λi d hi=>by simp at hi,λg hg=>by simp[eF]at hg⟩
 obtain⟨v,h1,h2⟩:=BY z E;unfold AV.rel at h2;subst h2;refine⟨by rw[F];show mkD h=mkD (h++[_]);rw[H9];rfl,S,_,H.push (dW _ _) G (λg hg=>by simp[ftp,Bu]at hg),?_⟩;have D:=HV (Az X _ _ z) j (x:=.own h.length 0) (v:=.slice jS 0 0) (by
  unfold AV.rel;refine⟨by simp,λJ q=>?_⟩;rw[gD (jA _)]at q;simp[ABlk.ver]at q;exact⟨by omega,λ_=>Bj.symm⟩)
 have I:a.tmps.toList.set j (.slice jS 0 0)=a.tmps.toList:=by
  have u:=(gJ.1 h1).1;apply fY;intro k;by_cases hk:j=k
  ·subst hk;rw[gO u,h1]
  ·rw[gN hk]
 rw[I]at D;exact D
mutual
def AV.fz(i ver:Nat)(r:AV):AV->AV
 | .own j v=>if j=i/\v=ver then r else .own j v
 | .agg l=>.agg (Eh i ver r l)
 | .tup l=>.tup (Eh i ver r l)
 | .fn f l=>.fn f (Eh i ver r l)
 |x=>x
def Eh(i ver:Nat)(r:AV):List AV->List AV
 | []=>[]
 |x::l=>AV.fz i ver r x::Eh i ver r l
end
def ABlk.fz(i ver:Nat)(r:AV):ABlk->ABlk
 | .box cells=>.box (Eh i ver r cells)
 |b=>b
def fzH(i ver:Nat)(r:AV)(h:List ABlk):List ABlk:=(h.map (ABlk.fz i ver r)).set i .dead
section
variable{w:eG}{S:Nat->Prop}{h:List ABlk}{ψ:Nat->eC}
theorem WF{ver:Nat}(q:ABlk.ver (fzH i ver r h)[j]? =jT c):j≠i/\ABlk.ver h[j]? =jT c/\Fo (fzH i ver r h)[j]? =Fo h[j]?:=by
 unfold fzH at *;by_cases u:j=i
 ·subst u;exfalso;by_cases z:j < (h.map (ABlk.fz j ver r)).length
  ·rw[gO z]at q;simp[ABlk.ver]at q
  ·rw[gI (by simpa using z)]at q;simp[ABlk.ver]at q
 ·rw[gN (jO u),gK]at q⊢;cases D:h[j]? with
  |none=>rw[D]at q;simp[ABlk.ver]at q
  |some b=>rw[D]at q;cases b <;> simp[ABlk.fz,ABlk.ver,Fo]at q⊢<;> exact⟨u,q⟩
theorem Aqt{ver:Nat}(q:AZ (fzH i ver r h)[j]? =aP):AZ h[j]? =aP:=by
 unfold fzH at q;by_cases z:j=i
 ·subst z;exfalso;by_cases u:j < (h.map (ABlk.fz j ver r)).length
  ·rw[gO u]at q;simp[AZ]at q
  ·rw[gI (by simpa using u)]at q;simp[AZ]at q
 ·rw[gN (jO z),gK]at q;cases D:h[j]? with
  |none=>rw[D]at q;simp[AZ]at q
  |some b=>rw[D]at q;cases b <;> simp[ABlk.fz,AZ]at q⊢
theorem Agm{ver:Nat}(q:ABlk.live (fzH i ver r h)[j]? =aP)(hg:ftp (fzH i ver r h)[j]? v g):ftp h[j]? v g:=by
 unfold fzH at q hg;by_cases z:j=i
 ·subst z;exfalso;by_cases u:j < (h.map (ABlk.fz j ver r)).length
  ·rw[gO u]at q;simp[ABlk.live]at q
  ·rw[gI (by simpa using u)]at q;simp[ABlk.live]at q
 ·rw[gN (jO z),gK]at q hg;cases D:h[j]? with
  |none=>rw[D]at q;simp[ABlk.live]at q
  |some b=>rw[D]at hg;cases b <;> simpa[ABlk.fz,ftp]using hg
theorem Axv{ver:Nat}(hi:h[i]? =jT b)(u:b.mrk= []):mkD (fzH i ver r h)=mkD h:=by
 have e:∀l:List ABlk,mkD (l.map (ABlk.fz i ver r))=mkD l:=λl=>by
  induction l with
  |nil=>rfl
  |cons c l q=>
   simp only[gY,mkD,q];cases c <;> rfl
 unfold fzH;rw[DO (b:=b.fz i ver r) (by rw[gK,hi];rfl) (by cases b <;> simp_all[ABlk.fz,ABlk.mrk]),e]
theorem WG{ver:Nat}:(fzH i ver r h).length=h.length:=by simp[fzH]
mutual
theorem Ail{i ver:Nat}{r:AV}{S':Nat->Prop}(hS:∀k,S k->S' k)(hr:∀v,AV.rel w S h ψ (.own i ver) v->AV.rel w S' (fzH i ver r h) ψ r v):∀(x:AV) (v:eC),AV.rel w S h ψ x v->AV.rel w S' (fzH i ver r h) ψ (AV.fz i ver r x) v
 | .any,_,_=>by unfold AV.fz AV.rel;trivial
 | .lit u,v,H=>by unfold AV.fz;unfold AV.rel at H⊢;exact H
 | .bs T l,v,H=>by unfold AV.fz;unfold AV.rel at H⊢;exact T.slice.keepS H (λ_ _=>rfl) hS
 | .tv T d,v,H=>by unfold AV.fz;unfold AV.rel at H⊢;exact T.keepS H (λ_ _=>rfl) hS
 | .own j c,v,H=>by
  unfold AV.fz;split
  ·rename_i e;obtain⟨rfl,rfl⟩:=e;exact hr v H
  ·unfold AV.rel at H⊢;exact⟨by rw[WG];exact H.1,λc' hv=>H.2 c' (WF hv).2.1⟩
 | .ptr j off,v,H=>by
  unfold AV.fz;unfold AV.rel at H⊢;exact⟨by rw[WG];exact H.1,λhv=>H.2 (Aqt hv)⟩
 | .rp j c k off,v,H=>by
  unfold AV.fz;unfold AV.rel at H⊢;refine⟨by rw[WG];exact H.1,λc' hv=>?_⟩;rw[(WF hv).2.2];exact H.2 c' (WF hv).2.1
 | .bp T d off,v,H=>by
  unfold AV.fz;unfold AV.rel at H⊢;obtain⟨b,o,e,hat⟩:=H;exact⟨b,o,e,hat.keep (λ_ _=>rfl) hS⟩
 | .agg l,v,H=>by
  unfold AV.fz;unfold AV.rel at H⊢;obtain⟨cs,e,hl⟩:=H;exact⟨cs,e,FP hS hr l cs hl⟩
 | .tup l,v,H=>by
  unfold AV.fz;unfold AV.rel at H⊢;obtain⟨cs,e,hl⟩:=H;exact⟨cs,e,FP hS hr l cs hl⟩
 | .fn f l,v,H=>by
  unfold AV.fz;unfold AV.rel at H⊢;obtain⟨cs,e,hl⟩:=H;exact⟨cs,e,FP hS hr l cs hl⟩
theorem FP{i ver:Nat}{r:AV}{S':Nat->Prop}(hS:∀k,S k->S' k)(hr:∀v,AV.rel w S h ψ (.own i ver) v->AV.rel w S' (fzH i ver r h) ψ r v):∀(l:List AV) (cs:List eC),Ae w S h ψ l cs->Ae w S' (fzH i ver r h) ψ (Eh i ver r l) cs
 | [],cs,H=>by unfold Eh;unfold Ae at H⊢;exact H
 |x::l,cs,H=>by
  unfold Eh;unfold Ae at H⊢;obtain⟨v,vs,e,h1,h2⟩:=H;exact⟨v,vs,e,Ail hS hr x v h1,FP hS hr l vs h2⟩
end
end
theorem Oi{C:Ctx}(hC:C.std){h:List ABlk}(i:Nat){ver:Nat}(hi:h[i]? =jT (.row ver e T l)):St.le C ⟨t,h⟩ ⟨Eh i ver (.bs T l) t,fzH i ver (.bs T l) h⟩:=λa w ⟨U,S,ψ,H,hl⟩=>by
 obtain⟨cells,F,h0,hR,ad⟩:=H.blk i _ hi;have O:=(gJ.1 hi).1;have X:∀k,S k->(S k\/(ψ i).ownBlock=jT k):=λk hk=>.inl hk
 have hr:∀v,AV.rel w S h ψ (.own i ver) v->AV.rel w (λk=>S k\/(ψ i).ownBlock=jT k) (fzH i ver (.bs T l) h) ψ (.bs T l) v:=λv hv=>by
  unfold AV.rel at hv⊢;have:=(hv.2 _ (by rw[hi];rfl)).2 V;subst this;exact C5 F (λi d U=>T.keepS (hR i d U) (λ_ _=>rfl) X) λg hg=>.inr hg
 have W:∀g,(ψ i).ownBlock=jT g->Bu (ψ i)=jT g:=λg hg=>AU hg
 refine⟨U.trans (Axv hi V).symm,λk=>S k\/(ψ i).ownBlock=jT k,ψ,⟨H.bel,H.nlt,λk hk=>?_,λk hk=>.inl (H.sub k hk),λk hk=>?_,λj b q=>?_,λj k ac q hk=>?_⟩,FP X hr _ _ hl⟩
 ·rcases hk with hk|hk
  ·exact H.lt k hk
  ·exact(eL F k hk).2
 ·rcases hk with hk|hk
  ·exact H.new k hk
  ·exact .inr (i9 λab=>(ad k hk).1 (hC k ab))
 ·by_cases z:j=i
  ·subst z;unfold fzH at q;rw[gO (by simpa using O)]at q;cases q;trivial
  ·have G:=q;unfold fzH at G;rw[gN (jO z),gK]at G;obtain⟨Z,I,rfl⟩:=jQ.1 G;have hB:=H.blk j Z I;have D:ABlk.live (jT Z)=aP->∀g,ftp (jT Z) (ψ j) g->(ψ i).ownBlock≠jT g:=λaa g hg e=>H.dis j i z (by rw[I];exact aa) (by rw[hi];rfl) g (by rw[I];exact hg) (by rw[hi];exact W g e)
   cases Z with
   |dead=>trivial
   |box u=>
    obtain⟨g,cs,e',E,L,k3,Y,k5⟩:=hB;exact⟨g,cs,e',E,L,λhk=>hk.elim k3 (D V g (by rw[E];rfl)),Y,FP X hr _ _ k5⟩
   |row v' e' T' l'=>
    obtain⟨u,E,L,k3,Y⟩:=hB;exact⟨u,E,L,λi d U=>T'.keepS (k3 i d U) (λ_ _=>rfl) X,λg hg=>⟨(Y g hg).1,λhk=>hk.elim (Y g hg).2 (D V g (AU hg))⟩⟩
   |res R=>
    obtain⟨E,L⟩:=hB;exact⟨λg hg=>⟨(E g hg).1,λhk=>hk.elim (E g hg).2.1 (D V g hg),(E g hg).2.2⟩,R.keep L (λ_ _=>rfl) (λ_ _=>rfl) X⟩
 ·have J:∀j,ABlk.live (fzH i ver (.bs T l) h)[j]? =aP->ABlk.live h[j]? =aP:=λj q=>by
   unfold fzH at q;by_cases z:j=i
   ·subst z;rw[gO (by simpa using O)]at q;simp[ABlk.live]at q
   ·rw[gN (jO z),gK]at q;cases hb:h[j]? with
    |none=>rw[hb]at q;simp[ABlk.live]at q
    |some b=>rw[hb]at q;cases b <;> simp[ABlk.fz,ABlk.live]at q⊢
  exact λg h1 h2=>H.dis j k ac (J j q) (J k hk) g (Agm q h1) (Agm hk h2)
open Go.Proofs
variable{Q:bC->St->Prop}{α:Type}{T:Ty α}{c:bA}{d:α}{e:eA}{enc:α->List AV}{h':List ABlk}{i:Nat}{ik:bR}{j k:Nat}{l:List α}{m:Int}{n off:Nat}{r:AV}{st:eA}{t':List AV}{ty:eA}{ver:Nat}{x y:cF}
class AG(P:Program)(ty:TypeId)(b:outParam Bool)(n:outParam Nat):Prop where
 eq:Rl P ty=some (b,n)
class FO(P:Program)(st:TypeId)(j:Nat)(n:outParam Nat):Prop where
 eq:Oc P st j=some n
class ES(P:Program)(ty:TypeId)(n:outParam Nat):Prop where
 eq:Pu P ty=some n
class SL(P:Program)(ty:TypeId):Prop where
 eq:GG P ty=true
class RT(P:Program)(ty:TypeId)(e:outParam TypeId)(n bytes:outParam Nat):Prop where
 eq:NK P ty=some (e,n,bytes)
class SZ(P:Program)(ty:TypeId)(n:outParam Nat):Prop where
 eq:Adu P ty=some n
class TyOf(P:Program)(e:TypeId)(α:outParam Type)(T:outParam (Ty α)):Prop where
 eq:True
class ZC(P:Program)(ty:TypeId)(zs:outParam (List Value)):Prop where
 eq:Cx P ty=some zs
class EncOf{α:Type}(T:Ty α)(enc:outParam (α->List AV)):Prop where
 ok:Enc T enc
 one:SK T
 pos:0 < T.size
section
variable{P:cG}{C:Ctx}{s:St}{o:bZ}{K:St->Prop}{t:List AV}{h:List ABlk}{ops:Array bZ}{rest:List bZ}
theorem Ah5{K:St->Prop}(hg:gA ops t o=jT aP)(hq:AT P C t h o r)(hk:CU P C ops K rest ⟨Bl t o.dst r,h⟩):CU P C ops K (o::rest) ⟨t,h⟩:=
 ⟨aP,hg,λ_=>VF hq hk,λe=>by cases e⟩
theorem Aya{K:St->Prop}(hg:gA ops t o=jT aP)(hq:AOp P C o ⟨t,h⟩ (CU P C ops K rest)):CU P C ops K (o::rest) ⟨t,h⟩:=
 ⟨aP,hg,λ_=>hq,λe=>by cases e⟩
theorem PL{K:St->Prop}(hg:gA ops t o=jT aM)(hk:CU P C ops K rest ⟨Bl t o.dst (.lit undef),h⟩):CU P C ops K (o::rest) ⟨t,h⟩:=
 ⟨aM,hg,(λe=>by cases e),λ_=>hk⟩
theorem AC{K:St->Prop}{s:St}(hg:gA ops s.t o=jT aP)(hq:AOp P C o s (CU P C ops K rest)):CU P C ops K (o::rest) s:=
 ⟨aP,hg,λ_=>hq,λe=>by cases e⟩
theorem AX{K:St->Prop}(hq:AT P C t h o r)(hk:K ⟨Bl t o.dst r,h⟩):AOp P C o ⟨t,h⟩ K:=VF hq hk
theorem Arf{K:St->Prop}{l:List bZ}(ht:t=t')(hh:h=h')(hk:CU P C ops K l ⟨t',h'⟩):CU P C ops K l ⟨t,h⟩:=by subst ht hh;exact hk
def QOp(P:cG)(C:Ctx)(o:bZ)(t:List AV)(h:List ABlk)(K:List AV->Prop):Prop:=∃r,AT P C t h o r/\K (Bl t o.dst r)
theorem EQ{K:List AV->Prop}(hq:AT P C t h o r)(hk:K (Bl t o.dst r)):QOp P C o t h K:=⟨r,hq,hk⟩
theorem Au{K:St->Prop}{s:St}(hk:K s):CU P C ops K [] s:=hk
theorem Az3{K:List AV->Prop}(hg:gA ops t o=jT aP)(hq:AT P C t h o r)(hk:aQ P C ops h K rest (Bl t o.dst r)):aQ P C ops h K (o::rest) t:=⟨r,.inl ⟨hg,hq⟩,hk⟩
theorem Arh{K:List AV->Prop}(hg:gA ops t o=jT aM)(hk:aQ P C ops h K rest (Bl t o.dst (.lit undef))):aQ P C ops h K (o::rest) t:=⟨_,.inr ⟨hg,rfl⟩,hk⟩
theorem Fc{K:List AV->Prop}(hk:K t):aQ P C ops h K [] t:=hk
theorem C3{t:List AV}{h:List ABlk}(ht:t=t')(hh:h=h')(hk:Awp P C c Q ⟨t',h'⟩):Awp P C c Q ⟨t,h⟩:=by subst ht hh;exact hk
theorem SO{x y:bA}{s:St}(M:St)(h1:Awp P C x (Ke (λq=>St.le C q M) λ_ _=>False) s)(h2:Awp P C y Q M):Awp P C (.seq x y) Q s:=
 Ab λK u=>h1.mono λe q hq=>by
  cases e with
  |normal=>exact u _ (h2.le hq)
  |_=>exact hq.elim
theorem AE{s:St}(M:St)(h1:St.le C s M)(h2:Awp P C c Q M):Awp P C c Q s:=h2.le h1
theorem Hu{op:BinOp}{xt yt:eA}{k:bR}{a b:Int}{c q:Bool}(D:o.op= .binOp op xt x y yt)(hx:evA t x= .lit (.int k a))(u:evA t y= .lit (.int k b))(z:Ix op k a b=jT (.bool c))(hc:c=q):AT P C t h o (.lit (.bool q)):=by
 subst hc;exact CQ D hx u z
def Wx:AV->Bool
 | .lit v=>v.oneCell'
 | .bs _ _=>aP
 |_=>aM
theorem Mf{x:AV}(hx:Mu.Wx x=aP):One h x:=by
 cases x <;> simp[Mu.Wx]at hx
 ·exact One.lit hx
 ·exact One.bs
theorem M0{l:List AV}(q:l.all Mu.Wx=aP):PW h (.agg l) l:=PW.agg λx hx=>Mf (fP.1 q x hx)
theorem Aip{k u:bR}{z:eC}{bytes:Nat}{K:St->Prop}(d:α)(F:o.op= .makeSlice ty x y)(D:GB P ty=jT (e,z,bytes))(I:T.size=1)(q:∀w S,T.RS w S [z] d)
 (hx:evA t x= .lit (.int k (n:Int)))(E:evA t y= .lit (.int u (n:Int)))(H:bytes * n<=281474976710656)(G:n<=fB)(J:K ⟨Bl t o.dst (.own h.length 0),h++[.row 0 e T (iJ n d)]⟩):AOp P C o ⟨t,h⟩ K:=
 Amq (s:=⟨t,h⟩) F D I q hx E H G J
theorem Y3{q:eA}{zs:List eC}{K:St->Prop}[ZC P q zs](u:o.op= .alloc q)(z:K ⟨Bl t o.dst (.ptr h.length 0),h++[.box (zs.map .lit)]⟩):AOp P C o ⟨t,h⟩ K:=AOp.alloc (s:=⟨t,h⟩) u ZC.eq z
theorem An{K:St->Prop}{s:St}(hk:K s):Ke K Q .normal s:=hk
def bdH(h:List ABlk):Bool:=h.all (Al1 h.length)
theorem Xl{t:List AV}{h:List ABlk}(z:bdH h=aP)(u:Fgt h.length t t'):St.le C ⟨t,h⟩ ⟨t',h⟩:=Vo (Cut.refl h) (λb q=>fP.1 z b q) u V
theorem Ah8{t:List AV}{h:List ABlk}(hc:Cut h h')(z:bdH h'=aP)(u:Fgt h'.length t t')(q:mkD h'=mkD h:=by rfl):St.le C ⟨t,h⟩ ⟨t',h'⟩:=Vo hc (λb q=>fP.1 z b q) u q
theorem AB{s:St}{β:Type}(F:β->St)(I:β->Prop)(q:β->Nat)(u:β)(J:I u)(h0:St.le C s (F u))
 (E:∀b,I b->Awp P C c (Ke (λz=>∃b',I b'/\q b' < q b/\St.le C z (F b')) Q) (F b)):Awp P C (.loop c) Q s:=
 Awp.loop (λm s=>∃b,I b/\m=q b/\s=F b) (q u) ⟨_,h0,u,J,rfl,rfl⟩ λm s ⟨b,H,G,D⟩=>by
  subst G D;refine(E b H).mono λe z hq=>?_
  cases e with
  |normal=>
   obtain⟨b',h1,h2,L⟩:=hq;exact⟨q b',h2,F b',L,b',h1,rfl,rfl⟩
  |_=>exact hq
theorem Bf{cells:List AV}[AG P ty aM n](u:o.op= .load ty x)(hx:evA t x= .ptr i off)(hi:h[i]? =jT (.box cells))(q:(cells.drop off)[0]? =jT r):AT P C t h o r:=
 D9 u AG.eq hx (KY.ptr hi) q
theorem AA[AG P ty aM n][EncOf T enc](u:o.op= .load ty x)(hx:evA t x= .bp T d off)(q:((enc d).drop off)[0]? =jT r):AT P C t h o r:=
 D9 u AG.eq hx (KY.bp EncOf.ok) q
theorem Bq[AG P ty aM n][EncOf T enc](u:o.op= .load ty x)(hx:evA t x= .rp i ver k off)(hi:h[i]? =jT (.row ver e T l))(hk:l[k]? =jT d)
 (q:((enc d).drop off)[0]? =jT r):AT P C t h o r:=
 D9 u AG.eq hx (KY.rp hi hk EncOf.ok) q
theorem AR{cells:List AV}[AG P ty aP n](q:o.op= .load ty x)(hx:evA t x= .ptr i off)(hi:h[i]? =jT (.box cells))(u:((cells.drop off).take n).length=n):AT P C t h o (.agg ((cells.drop off).take n)):=
 Gc q AG.eq hx (KY.ptr hi) V u
theorem DW[AG P ty aP n][EncOf T enc](q:o.op= .load ty x)(hx:evA t x= .bp T d off)(u:(((enc d).drop off).take n).length=n):AT P C t h o (.agg (((enc d).drop off).take n)):=
 Gc q AG.eq hx (KY.bp EncOf.ok) V u
theorem Br{cells:List AV}[FO P st j n](q:o.op= .fieldAddr st x j)(hx:evA t x= .ptr i off)(hi:h[i]? =jT (.box cells)):AT P C t h o (.ptr i (off+n)):=
 AT.fieldAddr q FO.eq hx (Amg.ptr hi)
theorem Cq[FO P st j n](q:o.op= .fieldAddr st x j)(hx:evA t x= .bp T d off):AT P C t h o (.bp T d (off+n)):=
 AT.fieldAddr q FO.eq hx Amg.bp
theorem CI[FO P st j n](q:o.op= .fieldAddr st x j)(hx:evA t x= .rp i ver k off)(hi:h[i]? =jT (.row ver e T l)):AT P C t h o (.rp i ver k (off+n)):=
 AT.fieldAddr q FO.eq hx (Amg.rp hi)
theorem Is[ES P ty n](z:o.op= .indexAddr ty x y)(hx:evA t x= .bs T l)(q:evA t y= .lit (.int ik (k:Int)))(u:T.size=n)(D:l[k]? =jT d):AT P C t h o (.bp T d 0):=
 Ko z (by rw[u];exact ES.eq) hx q (by omega) (by simpa using D)
theorem Ht[ES P ty n](z:o.op= .indexAddr ty x y)(hx:evA t x= .bs T l)(q:evA t y= .lit (.int ik m))(u:T.size=n)(h0:0<=m)(D:l[m.toNat]? =jT d):AT P C t h o (.bp T d 0):=
 Ko z (by rw[u];exact ES.eq) hx q h0 D
theorem Jy[ES P ty n](z:o.op= .indexAddr ty x y)(hx:evA t x= .own i ver)(hi:h[i]? =jT (.row ver e T l))(q:evA t y= .lit (.int ik (k:Int)))(u:T.size=n)(hk:k < l.length):
 AT P C t h o (.rp i ver k 0):=by
 have:=Jz (P:=P) (C:=C) (h:=h) z hx hi (by rw[u];exact ES.eq) q (by omega) (by simpa using hk);simpa using this
theorem FL[ES P ty n](z:o.op= .indexAddr ty x y)(hx:evA t x= .own i ver)(hi:h[i]? =jT (.row ver e T l))(q:evA t y= .lit (.int ik m))(u:T.size=n)(h0:0<=m)(hk:m.toNat < l.length):
 AT P C t h o (.rp i ver m.toNat 0):=Jz z hx hi (by rw[u];exact ES.eq) q h0 hk
theorem AT.ln[SL P ty](q:o.op= .call {callee:=.builtin .len,args:=#[x],argTypes:=#[ty]})(hx:evA t x= .bs T l):AT P C t h o (.lit (.int .i64 (l.length:Int))):=Ny q SL.eq hx
theorem Gd[SL P ty](q:o.op= .call {callee:=.builtin .len,args:=#[x],argTypes:=#[ty]})(hx:evA t x= .own i ver)(hi:h[i]? =jT (.row ver e T l)):AT P C t h o (.lit (.int .i64 (l.length:Int))):=SG q hx hi SL.eq
theorem Jw{a:Option aV}{c:Nat}[SL P ty](q:o.op= .call {callee:=.builtin .len,args:=#[x],argTypes:=#[ty]})(hx:evA t x= .lit (.slice a n c)):AT P C t h o (.lit (.int .i64 (n:Int))):=SH q hx SL.eq
theorem CR{cells new:List AV}[SZ P ty n](D:o.op= .store ty x y)(hx:evA t x= .ptr i off)(hi:h[i]? =jT (.box cells))(z:PW h (evA t y) new)(u:n=new.length)(q:off+new.length<=cells.length)
 (E:K ⟨Bl t o.dst (.lit undef),h.set i (.box (cells.take off++new++cells.drop (off+new.length)))⟩):AOp P C o ⟨t,h⟩ K:=VE (s:=⟨t,h⟩) D hx hi z (by rw[<-u];exact SZ.eq) q E
theorem Dx{d':α}[SZ P ty n][EncOf T enc](u:o.op= .store ty x y)(hx:evA t x= .rp i ver k 0)(hi:h[i]? =jT (.row ver e T l))(hk:l[k]? =jT d)
 (z:Fit h T (evA t y) d')(q:T.size=n)(D:K ⟨Bl t o.dst (.lit undef),h.set i (.row ver e T (l.set k d'))⟩):AOp P C o ⟨t,h⟩ K:=NG (s:=⟨t,h⟩) u hx hi hk (Abp z EncOf.one) (by rw[q];exact SZ.eq) D
theorem SS{bytes:Nat}{z:List α}[RT P ty e n bytes][EncOf T enc](F:o.op= .call {callee:=.builtin .append,args:=#[x,y],argTypes:=#[ty,ty]})
 (hx:evA t x= .own i ver)(hi:h[i]? =jT (.row ver e T l))(D:evA t y= .bs T z)(E:T.size=n)(u:l.length+z.length<=fB)(q:(l.length+z.length) * bytes<=140737488355328)
 (G:K ⟨Bl t o.dst (.own i (ver+1)),h.set i (.row (ver+1) e T (l++z))⟩):AOp P C o ⟨t,h⟩ K:=AOp.append (s:=⟨t,h⟩) F (by rw[E];exact RT.eq) hx hi D EncOf.one u q G
theorem AT.lt{bytes m:Nat}{q:Array (Nat×cF)}{xs:List cF}{ds:List α}[RT P ty e m bytes][EncOf T enc](E:o.op= .buildSlice ty n q)(D:q=Gp xs)(F:n=xs.length)
 (z:T.size=m)(u:n * T.size<=16777216)(G:Fits h T (xs.map (evA t)) ds):AT P C t h o (.bs T ds):=AT.lit E D F (by rw[z];exact RT.eq) (EncOf.pos (T:=T) (enc:=enc)) u G
end
section
variable{P:cG}{C:Ctx}{o:bZ}{t:List AV}{h:List ABlk}
theorem Cg{bytes m:Nat}{q:Array (Nat×cF)}[RT P ty e m bytes][TyOf P e α T][EncOf T enc](F:o.op= .buildSlice ty n q)(E:q= #[(0,x)])(u:n=1)
 (D:T.size=m)(z:T.size<=16777216)(G:Fit h T (evA t x) d):AT P C t h o (.bs T [d]):=AT.lt (xs:=[x]) F E u D (by subst u;omega) (.cons G .nil)
end
instance Aug:EncOf tInt λd=>[.lit (.int .i64 d)]:=⟨Aq4 .i64,JP,by decide⟩
instance Auf:EncOf Ty.bool λd=>[.lit (.bool d)]:=⟨Alk,Ae7,by decide⟩
instance Apt{α:Type}(T:Ty α):EncOf T.slice λl=>[.bs T l]:=⟨UL T,one1_slice,Nat.zero_lt_one⟩
@[reducible] def BV(x:Ins):List AV:=[.lit (.int .u8 x.op),.lit (.int .i64 x.d),.lit (.int .i64 x.a),.lit (.int .i64 x.b),.lit (.int .u32 x.n),.lit (.int .i64 x.f),.bs tInt x.args,.lit (.int .i64 x.l1),.lit (.int .i64 x.l2)]
@[reducible] def D1(x:Block):List AV:=[.lit (.string x.name),.bs Ei x.ins]
@[reducible] def Ak(x:Func):List AV:=[.lit (.string x.name),.lit (.int .i64 x.args),.lit (.int .i64 x.regs),.bs Cw x.blocks]
theorem Ag1:Enc Ei BV:=by
 intro w S h ψ cs d H;obtain⟨A,c,q⟩:=IL.1 H;rw[q.cs];have u:=q.args;simp only[BV,Ae,AV.rel];exact⟨_,_,rfl,rfl,_,_,rfl,rfl,_,_,rfl,rfl,_,_,rfl,rfl,_,_,rfl,rfl,_,_,rfl,rfl,_,_,rfl,u,_,_,rfl,rfl,_,_,rfl,rfl,rfl⟩
theorem UM:Enc Cw D1:=by
 intro w S h ψ cs d H;obtain⟨A,c,rfl,_,q⟩:=NT.1 H;simp only[D1,Ae,AV.rel];exact⟨_,_,rfl,rfl,_,_,rfl,q,rfl⟩
theorem YA:Enc Dc Ak:=by
 intro w S h ψ cs d H;obtain⟨A,c,rfl,_,_,_,q⟩:=Or.1 H;simp only[Ak,Ae,AV.rel];exact⟨_,_,rfl,rfl,_,_,rfl,rfl,_,_,rfl,rfl,_,_,rfl,q,rfl⟩
theorem Akd:SK Ei:=D4 Ag1 λd x hx=>by
 simp only[BV,or_false,zak]at hx;rcases hx with rfl|rfl|rfl|rfl|rfl|rfl|rfl|rfl|rfl <;> first|exact .inl ⟨_,rfl,rfl⟩|exact .inr ⟨_,_,_,rfl⟩
theorem ZM:SK Cw:=D4 UM λd x hx=>by
 simp only[D1,or_false,zak]at hx;rcases hx with rfl|rfl <;> first|exact .inl ⟨_,rfl,rfl⟩|exact .inr ⟨_,_,_,rfl⟩
theorem Ae6:SK Dc:=D4 YA λd x hx=>by
 simp only[Ak,or_false,zak]at hx;rcases hx with rfl|rfl|rfl|rfl <;> first|exact .inl ⟨_,rfl,rfl⟩|exact .inr ⟨_,_,_,rfl⟩
instance Aue:EncOf Ei BV:=⟨Ag1,Akd,by decide⟩
instance Aud:EncOf Cw D1:=⟨UM,ZM,by decide⟩
instance Auc:EncOf Dc Ak:=⟨YA,Ae6,by decide⟩
instance Aub:AG cV 3 aM 1:=⟨by kernel_rfl⟩
instance Aua:SZ cV 3 1:=⟨by kernel_rfl⟩
instance Asz:AG cV 4 aM 1:=⟨by kernel_rfl⟩
instance Asy:SZ cV 4 1:=⟨by kernel_rfl⟩
instance Asx:AG cV 5 aM 1:=⟨by kernel_rfl⟩
instance Asw:AG cV 27 aM 1:=⟨by kernel_rfl⟩
instance Asv:ES cV 27 1:=⟨by kernel_rfl⟩
instance Asu:SL cV 27:=⟨by kernel_rfl⟩
instance Ast:RT cV 27 3 1 8:=⟨by kernel_rfl⟩
instance Ass:AG cV 99 aM 1:=⟨by kernel_rfl⟩
instance Asr:ES cV 99 1:=⟨by kernel_rfl⟩
instance Asq:AG cV 48 aM 1:=⟨by kernel_rfl⟩
instance Asp:ES cV 48 9:=⟨by kernel_rfl⟩
instance Aso:SL cV 48:=⟨by kernel_rfl⟩
instance Asn:AG cV 22 aM 1:=⟨by kernel_rfl⟩
instance Asm:ES cV 22 2:=⟨by kernel_rfl⟩
instance Asl:SL cV 22:=⟨by kernel_rfl⟩
instance Ask:RT cV 66 27 1 24:=⟨by kernel_rfl⟩
instance Asj:ES cV 98 1:=⟨by kernel_rfl⟩
instance Asi:RT cV 98 99 1 24:=⟨by kernel_rfl⟩
instance Ash:RT cV 59 66 1 24:=⟨by kernel_rfl⟩
instance Asg:AG cV 47 aP 9:=⟨by kernel_rfl⟩
instance Asf:SZ cV 47 9:=⟨by kernel_rfl⟩
instance Ase:AG cV 63 aP 2:=⟨by kernel_rfl⟩
instance Asd:AG cV 24 aP 4:=⟨by kernel_rfl⟩
instance Asb:SZ cV 24 4:=⟨by kernel_rfl⟩
instance Asa:TyOf cV 3 _ tInt:=⟨trivial⟩
instance Ar9:TyOf cV 27 _ tInt.slice:=⟨trivial⟩
instance Ar8:TyOf cV 99 _ Ty.bool.slice:=⟨trivial⟩
instance Ar7:TyOf cV 66 _ tInt.slice.slice:=⟨trivial⟩
instance Ar6:ZC cV 47 [.int .u8 0,.int .i64 0,.int .i64 0,.int .i64 0,.int .u32 0,.int .i64 0,.slice jS 0 0,.int .i64 0,.int .i64 0]:=⟨by kernel_rfl⟩
instance Ar5:ZC cV 63 [.string ⟨#[]⟩,.slice jS 0 0]:=⟨by kernel_rfl⟩
instance Ar4:ZC cV 24 [.string ⟨#[]⟩,.int .i64 0,.int .i64 0,.slice jS 0 0]:=⟨by kernel_rfl⟩
instance Ar3:FO cV 47 0 0:=⟨by kernel_rfl⟩
instance Ar2:FO cV 47 1 1:=⟨by kernel_rfl⟩
instance Ar1:FO cV 47 2 2:=⟨by kernel_rfl⟩
instance Ar0:FO cV 47 3 3:=⟨by kernel_rfl⟩
instance Arz:FO cV 47 6 6:=⟨by kernel_rfl⟩
instance Ary:FO cV 47 7 7:=⟨by kernel_rfl⟩
instance Arx:FO cV 47 8 8:=⟨by kernel_rfl⟩
instance Arw:FO cV 63 1 1:=⟨by kernel_rfl⟩
instance Arv:FO cV 24 1 1:=⟨by kernel_rfl⟩
instance Aru:FO cV 24 2 2:=⟨by kernel_rfl⟩
instance Art:FO cV 24 3 3:=⟨by kernel_rfl⟩
end Mu
section
namespace Go.Proofs
open Go.Shelf
def Tryz.lays189_ren:dZ:=⟨fun|189=>62|125=>99|257=>98|128=>126|129=>127|294=>118|295=>119|296=>120|297=>121|298=>122|299=>123|216=>73|300=>124|301=>125|328=>145|329=>146|330=>147|331=>148|332=>149|215=>107|343=>163|n=>n,fun|28=>27|3=>3|46=>104|0=>0|51=>45|53=>151|4=>4|183=>144|182=>143|131=>68|5=>5|9=>9|218=>166|222=>170|228=>185|229=>186|n=>n,fun|n=>n⟩
theorem Tryz.lays189:Go.Proofs.Lays.n189 cV Tryz.lays189_ren:={
 mixed:=by kernel_rfl
 f125:=Tryz.func99.trans (congrArg jT (by kernel_rfl))
 f128:=Tryz.func126.trans (congrArg jT (by kernel_rfl))
 f129:=Tryz.func127.trans (congrArg jT (by kernel_rfl))
 f189:=Tryz.func62.trans (congrArg jT (by kernel_rfl))
 f215:=Tryz.func107.trans (congrArg jT (by kernel_rfl))
 f216:=Tryz.func73.trans (congrArg jT (by kernel_rfl))
 f257:=Tryz.func98.trans (congrArg jT (by kernel_rfl))
 f294:=Tryz.func118.trans (congrArg jT (by kernel_rfl))
 f295:=Tryz.func119.trans (congrArg jT (by kernel_rfl))
 f296:=Tryz.func120.trans (congrArg jT (by kernel_rfl))
 f297:=Tryz.func121.trans (congrArg jT (by kernel_rfl))
 f298:=Tryz.func122.trans (congrArg jT (by kernel_rfl))
 f299:=Tryz.func123.trans (congrArg jT (by kernel_rfl))
 f300:=Tryz.func124.trans (congrArg jT (by kernel_rfl))
 f301:=Tryz.func125.trans (congrArg jT (by kernel_rfl))
 f328:=Tryz.func145.trans (congrArg jT (by kernel_rfl))
 f329:=Tryz.func146.trans (congrArg jT (by kernel_rfl))
 f330:=Tryz.func147.trans (congrArg jT (by kernel_rfl))
 f331:=Tryz.func148.trans (congrArg jT (by kernel_rfl))
 f332:=Tryz.func149.trans (congrArg jT (by kernel_rfl))
 f343:=Tryz.func163.trans (congrArg jT (by kernel_rfl))
 t0:=dA
 a0:=cM
 z0:=cW
 v0:=dH
 t3:=dC
 a3:=cO
 z3:=cY
 v3:=dJ
 t4:=dD
 a4:=cP
 z4:=cZ
 v4:=dK
 t5:=dF
 a5:=Tryz.isAgg5
 z5:=Tryz.sizeOf5
 v5:=Tryz.zeroValue5
 t9:=dG
 a9:=Tryz.isAgg9
 z9:=Tryz.sizeOf9
 v9:=Tryz.zeroValue9
 t28:=dB
 a28:=cN
 z28:=cX
 v28:=dI
 t46:=Tryz.underlying104
 a46:=Tryz.isAgg104
 z46:=Tryz.sizeOf104
 v46:=Tryz.zeroValue104
 t51:=dE
 a51:=Tryz.isAgg45
 z51:=Tryz.sizeOf45
 v51:=Tryz.zeroValue45
 t53:=Tryz.underlying151
 a53:=Tryz.isAgg151
 z53:=Tryz.sizeOf151
 v53:=Tryz.zeroValue151
 t131:=Tryz.underlying68
 a131:=Tryz.isAgg68
 z131:=Tryz.sizeOf68
 v131:=Tryz.zeroValue68
 t182:=Tryz.underlying143
 a182:=Tryz.isAgg143
 z182:=Tryz.sizeOf143
 v182:=Tryz.zeroValue143
 t183:=Tryz.underlying144
 a183:=Tryz.isAgg144
 z183:=Tryz.sizeOf144
 v183:=Tryz.zeroValue144
 t218:=Tryz.underlying166
 a218:=Tryz.isAgg166
 z218:=Tryz.sizeOf166
 v218:=Tryz.zeroValue166
 t222:=Tryz.underlying170
 a222:=Tryz.isAgg170
 z222:=Tryz.sizeOf170
 v222:=Tryz.zeroValue170
 t228:=Tryz.underlying185
 a228:=Tryz.isAgg185
 z228:=Tryz.sizeOf185
 v228:=Tryz.zeroValue185
 t229:=Tryz.underlying186
 a229:=Tryz.isAgg186
 z229:=Tryz.sizeOf186
 v229:=Tryz.zeroValue186}
open Go.Sort Go.RowKit in
theorem Tryz.slices_Sort_int(q off cap:Nat)(zs:List Int)(w:eG)(D:Holds (eD .i64) w q off zs.toArray)(u:q < w.heap.size)(z:zs.length < 4611686018427387904):
 a8 cV 62 #[.slice (jT ⟨q,off,jS⟩) zs.length cap] w λe w'=>
  e= .returned (.tuple #[])/\∃n os,w'=grow (putRow (eD .i64) (Sort.ahead w n) q off (zs.mergeSort λx y=>decide (x<=y)).toArray) os:=Any.slices_Sort_int Tryz.lays189 q off cap zs w D u z
def Tryz.lays107_ren:dZ:=⟨fun|107=>39|108=>75|n=>n,fun|28=>27|3=>3|4=>4|0=>0|n=>n,fun|n=>n⟩
theorem Tryz.lays107:Go.Proofs.Lays.n107 cV Tryz.lays107_ren:={
 mixed:=by kernel_rfl
 f107:=Tryz.func39.trans (congrArg jT (by kernel_rfl))
 f108:=Tryz.func75.trans (congrArg jT (by kernel_rfl))
 t0:=dA
 a0:=cM
 z0:=cW
 v0:=dH
 t3:=dC
 a3:=cO
 z3:=cY
 v3:=dJ
 t4:=dD
 a4:=cP
 z4:=cZ
 v4:=dK
 t28:=dB
 a28:=cN
 z28:=cX
 v28:=dI}
open Go.Lib in
theorem Tryz.slices_Contains_int(b off n c:Nat)(zs:List Int)(x:Int)(w:eG)(u:n<=zs.length)(q:n<=9223372036854775807)(hc:∀j,j < zs.length->w.cell? ⟨b,off+j,jS⟩=jT (.int .i64 (zs.getD j 0))):
 a8 cV 39 #[.slice (jT ⟨b,off,jS⟩) n c,.int .i64 x] w λe w'=>e= .returned (.bool ((zs.take n).contains x))/\w'=w:=Any.slices_Contains_int Tryz.lays107 b off n c zs x w u q hc
open Go.Lib in
theorem Tryz.slices_Contains_int_empty(a:Option aV)(c:Nat)(x:Int)(w:eG):
 a8 cV 39 #[.slice a 0 c,.int .i64 x] w λe w'=>e= .returned (.bool aM)/\w'=w:=Any.slices_Contains_int_empty Tryz.lays107 a c x w
def Tryz.laysNm215_ren:dZ:=⟨fun|15=>92|n=>n,fun|22=>27|3=>3|4=>4|n=>n,fun|n=>n⟩
theorem Tryz.laysNm215:Go.Proofs.Lays2.n15 cV Tryz.laysNm215_ren:={
 mixed:=by kernel_rfl
 f15:=Tryz.func92.trans (congrArg jT (by kernel_rfl))
 t3:=dC
 a3:=cO
 z3:=cY
 v3:=dJ
 t4:=dD
 a4:=cP
 z4:=cZ
 v4:=dK
 t22:=dB
 a22:=cN
 z22:=cX
 v22:=dI
 i3:=by kernel_rfl}
open Go.RowKit Go.Lib in
theorem Tryz.slices_Clone_int(b off n c:Nat)(zs:List Int)(w:eG)(u:n<=zs.length)(q:n * 8<=140737488355328)(hc:∀j,j < zs.length->w.cell? ⟨b,off+j,jS⟩=jT (.int .i64 (zs.getD j 0))):
 a8 cV 92 #[.slice (jT ⟨b,off,jS⟩) n c] w λe w'=>∃v',e= .returned v'/\w'.ownsRow w.heap.size 3 1 v' n ((zs.take n).map (eD .i64))/\v'≠.slice jS 0 0/\Below w.heap.size w w':=Any.slices_Clone_int Tryz.laysNm215 b off n c zs w u q hc
open Go.RowKit Go.Lib in
theorem Tryz.slices_Clone_int_nil(n c:Nat)(w:eG):
 a8 cV 92 #[.slice jS n c] w λe w'=>e= .returned (.slice jS 0 0)/\w'=w:=Any.slices_Clone_int_nil Tryz.laysNm215 n c w
open Go.RowKit Go.Lib in
theorem Tryz.slices_Clone_int_zero(a:aV)(c:Nat)(w:eG):
 a8 cV 92 #[.slice (jT a) 0 c] w λe w'=>∃v',e= .returned v'/\w'.ownsRow w.heap.size 3 1 v' 0 []/\v'≠.slice jS 0 0/\Below w.heap.size w w':=Any.slices_Clone_int_zero Tryz.laysNm215 a c w
def Tryz.laysNm220_ren:dZ:=⟨fun|20=>63|n=>n,fun|22=>27|3=>3|4=>4|0=>0|n=>n,fun|n=>n⟩
theorem Tryz.laysNm220:Go.Proofs.Lays2.n20 cV Tryz.laysNm220_ren:={
 mixed:=by kernel_rfl
 f20:=Tryz.func63.trans (congrArg jT (by kernel_rfl))
 t0:=dA
 a0:=cM
 z0:=cW
 v0:=dH
 t3:=dC
 a3:=cO
 z3:=cY
 v3:=dJ
 t4:=dD
 a4:=cP
 z4:=cZ
 v4:=dK
 t22:=dB
 a22:=cN
 z22:=cX
 v22:=dI
 i3:=by kernel_rfl}
open Go.RowKit Go.Lib Go.Sort in
theorem Tryz.slices_Compact_int(u off cap:Nat)(zs:List Int)(w:eG)(E:Holds (eD .i64) w u off zs.toArray)(D:zs.length<=9223372036854775807)(z:zs.length<=cap):
 a8 cV 63 #[.slice (jT ⟨u,off,jS⟩) zs.length cap] w λe w'=>e= .returned (.slice (jT ⟨u,off,jS⟩) (bU zs).length cap)/\∃q,w'=putRow (eD .i64) (Sort.ahead w q) u off (bU zs++iJ (zs.length - (bU zs).length) 0).toArray:=Any.slices_Compact_int Tryz.laysNm220 u off cap zs w E D z
open Go.RowKit Go.Lib Go.Sort in
theorem Tryz.slices_Compact_int_empty(a:Option aV)(cap:Nat)(w:eG):
 a8 cV 63 #[.slice a 0 cap] w λe w'=>e= .returned (.slice a 0 cap)/\w'=w:=Any.slices_Compact_int_empty Tryz.laysNm220 a cap w
open Go.RowKit Go.Sort in
theorem Tryz.slices_Sort_int_none(p:Option aV)(cap:Nat)(w:eG):
 a8 cV 62 #[.slice p 0 cap] w λe w'=>e= .returned (.tuple #[])/\w'=w:=Any.slices_Sort_int_none Tryz.lays189 p cap w
end Go.Proofs
end
namespace Mu
open Go Go.RowKit Go.Proofs Go.Sort
variable{l:List Int}{v:eC}{w:eG}{zs:List Int}
theorem JU{g:Nat}{e:eA}{cur:Array eC}(u:w.heap[g]? =jT (.cells cur e (0,0)))(E:cur.toList.take (zs.length * 1)=zs.map (eD .i64)):
 Holds (eD .i64) w g 0 zs.toArray:=by
 intro j z;have q:j < zs.length:=by simpa using z
 have D:cur[j]? =jT (.int .i64 zs[j]):=by
  have:(cur.toList.take (zs.length * 1))[j]? =jT (.int .i64 zs[j]):=by rw[E];simp[q]
  rw[gQ (by omega)]at this;simpa using this
 refine⟨?_,by simp[World.frozen?,u]⟩;have F:zs.toArray[j]! =zs[j]:=by simp[getElem!_pos,q]
 rw[F,jM];simp[eH,u,D]
def Gf(w:eG)(base:Nat)(v:eC)(l:List Int):Prop:=w.ownsRow base 3 1 v l.length (l.map (eD .i64))
theorem Gf.of{base n:Nat}{cs:List eC}(h:w.ownsRow base 3 1 v n cs)(q:n=l.length)(hc:cs=l.map (eD .i64)):Gf w base v l:=by
 subst q hc;exact h
theorem Gf.nil(w:eG)(base:Nat):Gf w base (.slice jS 0 0) []:=eM _ _ _ _
theorem Gf.base{base q:Nat}(h:Gf w base v l)(z:q<=base):Gf w q v l:=by
 obtain⟨h1,h2⟩:=h;refine⟨h1,?_⟩;rcases h2 with h2|⟨g,cap,cur,u,hg,r⟩
 ·exact .inl h2
 ·exact .inr ⟨g,cap,cur,u,by omega,r⟩
theorem Gf.lt{base:Nat}(h:Gf w base v l):∀k,v.ownBlock=jT k->base<=k/\k < w.heap.size:=eL h
theorem Aky:(cV.info? 3).map (λi=>(i.zero,i.size,i.bytes))=jT (jT (.int .i64 0),1,8):=by kernel_rfl
theorem U0{xs:List Int}(h:(Ty.int .i64).slice.R w w.heap.size [v] xs)(J:xs.length<=2147483648):
 a8 cV 92 #[v] w λe w'=>∃v',e= .returned v'/\Gf w' w.heap.size v' xs/\Below w.heap.size w w':=by
 obtain⟨A,c,rfl⟩:=Ci h;rcases A with _|ad
 ·obtain⟨rfl,_,rfl⟩:=Tk h;refine(Tryz.slices_Clone_int_nil _ _ _).mono λe w' ⟨u,G⟩=>?_
  subst G;exact⟨_,u,Gf.nil _ _,dW _ _⟩
 ·by_cases E:xs= []
  ·subst E;refine(Tryz.slices_Clone_int_zero ad c w).mono λe w' ⟨v',u,z,_,D⟩=>?_
   exact⟨v',u,z,D⟩
  ·have q:0 < xs.length:=List.length_pos_iff.2 E;obtain⟨b,o,e,_⟩:=LT h (gH q);cases e;refine(Tryz.slices_Clone_int b o xs.length c xs w (jA _) (by omega) (λj F=>?_)).mono λe w' ⟨v',u,z,_,D⟩=>?_
   ·obtain⟨b',I,H,_,hc,_⟩:=LT h (gH F);cases H;rw[hc];simp[gB,F]
   ·rw[iQ]at z;exact⟨v',u,z,D⟩
theorem Aje{base:Nat}(q:Gf w base v zs)(J:zs.length<=2147483648):
 a8 cV 62 #[v] w λe w'=>e= .returned (.tuple #[])/\Gf w' base v (zs.mergeSort λx y=>decide (x<=y))/\w.grownBy w' v.ownBlock:=by
 rcases q.2 with⟨rfl,h0⟩|⟨g,cap,cur,rfl,u,F,h1,h2,H,G⟩
 ·have:zs= []:=fW h0;subst this;refine(Tryz.slices_Sort_int_none _ _ _).mono λe w' ⟨E,z⟩=>?_
  subst z;exact⟨E,by simpa using q,eJ _ _⟩
 ·have D:g < w.heap.size:=(aC.1 F).1;refine(Tryz.slices_Sort_int g 0 cap zs w (JU F G) D (by omega)).mono λe w' ⟨E,I,os,z⟩=>?_
  subst z;exact⟨E,.of (fD (by simp) u F h1 h2 H) (by simp) V,eX _⟩
theorem WU{base:Nat}(q:Gf w base v zs)(hn:zs.length<=2147483648):
 a8 cV 63 #[v] w λe w'=>∃v',e= .returned v'/\Gf w' base v' (bU zs)/\w.grownBy w' v.ownBlock/\v'.ownBlock=v.ownBlock:=by
 rcases q.2 with⟨rfl,h0⟩|⟨g,cap,cur,rfl,u,L,h1,h2,h3,h4⟩
 ·have:zs= []:=fW h0;subst this;refine(Tryz.slices_Compact_int_empty _ _ _).mono λe w' ⟨H,E⟩=>?_
  subst E;exact⟨_,H,by simpa[bU,bV]using q,eJ _ _,rfl⟩
 ·have z:(bU zs).length<=zs.length:=by
   unfold bU bV;rw[gV];exact jB (List.length_filter_le _ _) (by simp)
  refine(Tryz.slices_Compact_int g 0 cap zs w (JU L h4) (by omega) h1).mono λe w' ⟨H,I,E⟩=>?_
  subst E;refine⟨_,H,?_,?_,rfl⟩
  ·have J:=fD (os:=#[]) (n:=I) (ts:=bU zs++iJ (zs.length - (bU zs).length) 0) (ss:=zs) (by simp;omega) u L h1 h2 h3;rw[grow_empty]at J;rcases J.2 with⟨h0,_⟩|⟨g',U,D,Z,G,F,k1,Y,X,W⟩
   ·cases h0
   ·cases Z;refine⟨by simp,.inr ⟨g,cap,D,rfl,G,F,by omega,Y,X,?_⟩⟩;have O:=congrArg (List.take (bU zs).length) W;rw[iT,jH,jE z,<-List.map_take,List.take_left' V]at O;rw[jH];exact O
  ·have hg:=eX (w:=w) (g:=g) (n:=I) (os:=#[]) (bU zs++iJ (zs.length - (bU zs).length) 0).toArray;rw[grow_empty]at hg;exact hg
end Mu
namespace Mu
variable{succ:Nat->List Nat}
section
variable{n:Nat}(hs:∀k l,l∈succ k->l < n)
include hs
end
section
variable{n:Nat}(hs:∀k l,l∈succ k->l < n)
include hs
end
section
variable{n:Nat}
end
end Mu
namespace Mu
open Go
theorem GL{zs:List Int}(h:zs.Pairwise (·<=·)):(bU zs).Pairwise (· < ·)/\∀z,z∈bU zs↔z∈zs:=by
 have q:∀j,j < zs.length->zs.toArray[j]! =zs.getD j 0:=λj u=>by simp[getElem!_pos,u]
 have E:∀i j,i<=j->j < zs.length->zs.getD i 0<=zs.getD j 0:=λi j L u=>by
  rcases Nat.eq_or_lt_of_le L with e|hlt
  ·subst e;exact Int.le_refl _
  ·have:=List.pairwise_iff_getElem.1 h i j (by omega) u hlt;simpa[gB,show i < zs.length by omega,u]using this
 have D:∀j,j < zs.length->(bX zs.toArray j=aP↔j=0\/zs.getD (j - 1) 0 < zs.getD j 0):=by
  intro j u;unfold bX;rw[q j u,q (j - 1) (by omega)];by_cases I:j=0
  ·simp[I]
  ·have:=E (j - 1) j (by omega) u;simp only[I,false_or,ne_eq,decide_eq_true_eq];omega
 constructor
 ·unfold bU bV;rw[List.pairwise_map];refine List.Pairwise.imp_of_mem ?_ (List.Pairwise.filter _ List.pairwise_lt_range);intro a b Z X Y;obtain⟨H,_⟩:=iA.1 Z;obtain⟨G,O⟩:=iA.1 X;simp only[iE]at H G;rw[q a H,q b G];rcases(D b G).1 O with e|e
  ·omega
  ·have:=E a (b - 1) (by omega) (by omega);omega
 ·intro z;unfold bU bV;rw[iC];constructor
  ·rintro⟨j,u,rfl⟩;obtain⟨F,_⟩:=iA.1 u;simp only[iE]at F;rw[q j F];simp[gB,F]
  ·intro I;have J:∀j,j < zs.length->∃i,i<=j/\bX zs.toArray i=aP/\zs.getD i 0=zs.getD j 0:=by
    intro j;induction j with
    |zero=>intro u;exact⟨0,jA _,(D 0 u).2 (.inl V),rfl⟩
    |succ j W=>
     intro u;by_cases hlt:zs.getD j 0 < zs.getD (j+1) 0
     ·exact⟨j+1,jA _,(D _ u).2 (.inr (by simpa using hlt)),rfl⟩
     ·obtain⟨i,h1,h2,U⟩:=W (by omega);have:=E j (j+1) (by omega) u;exact⟨i,by omega,h2,by omega⟩
   obtain⟨j,u,rfl⟩:=List.getElem_of_mem I;obtain⟨i,h1,h2,U⟩:=J j u;refine⟨i,iA.2 ⟨by simp;omega,h2⟩,?_⟩;rw[q i (by omega),U];simp[gB,u]
theorem Fi(zs:List Int):(zs.mergeSort λx y=>decide (x<=y)).Pairwise (·<=·):=by
 have:=List.pairwise_mergeSort (le:=λx y:Int=>decide (x<=y)) (λa b c h1 h2=>by simp at *;omega) (λa b=>by simp;omega) zs;exact this.imp (by simp)
open Go.RowKit
theorem Wp(x:Int):1<=tInt.bulk x:=jA _
theorem Ae3(x:Ins):1<=Ei.bulk x:=by simp only[Ei,Ty.via];omega
theorem Ae4(x:Block):1<=Cw.bulk x:=by simp only[Cw,Ty.via];omega
theorem L7(p:Func):Dc.bulk p=p.name.size+DU Cw.bulk p.blocks+5:=by
 simp only[Dc,Ty.via,Ty.cons,Ty.slice,tInt,Ty.int,Dj,Vl];omega
theorem Hm(p:Block):Cw.bulk p=p.name.size+DU Ei.bulk p.ins+3:=by
 simp only[Cw,Ty.via,Ty.cons,Ty.slice,Dj,Vl];omega
theorem Sr(p:Ins):Ei.bulk p=DU tInt.bulk p.args+10:=by
 simp only[Ei,Ty.via,Ty.cons,Ty.slice,tInt,Ty.int,Dj];omega
theorem GI(p:Func):p.blocks.length<=Dc.bulk p:=by
 have:=Ee Ae4 p.blocks;rw[L7];omega
theorem Fw{p:Func}{b:Block}(h:b∈p.blocks):Cw.bulk b<=Dc.bulk p:=by
 have:=U2 (f:=Cw.bulk) h;rw[L7];omega
theorem Jq(p:Block):p.ins.length<=Cw.bulk p:=by
 have:=Ee Ae3 p.ins;rw[Hm];omega
theorem W8{p:Block}{x:Ins}(h:x∈p.ins):Ei.bulk x<=Cw.bulk p:=by
 have:=U2 (f:=Ei.bulk) h;rw[Hm];omega
theorem Azh{B:Nat}{a w:eG}(h:Below B a w)(n:Nat):Below B a (w.drewN n):=⟨h.os,h.tape,h.output,h.size,h.block⟩
theorem DA{a b:Bool}(h:a=b):Ending.returned (.bool a)= .returned (.bool b):=by rw[h]
theorem U4{w q:eG}{cs:List eC}{T:eA}(h:Below (w.heap.size+1) (w.alloc (.cells cs.toArray T)) q):
 (∀a:aV,a.block < w.heap.size->q.cell? a=w.cell? a)/\(∀j v,cs[j]? =jT v->q.cell? ⟨w.heap.size,j,jS⟩=jT v)/\w.heap.size < q.heap.size/\Below w.heap.size w q:=by
 have h0:Below w.heap.size w (w.alloc (.cells cs.toArray T)):=(dW _ _).alloc (jA _) _;have u:Below w.heap.size w q:=h0.trans (h.mono (by omega));refine⟨λa D=>u.cell D,λj v z=>?_,?_,u⟩
 ·rw[h.cell (p:=⟨w.heap.size,j,jS⟩) (by show w.heap.size < _;omega)];have e:=cell_of_row _ _ j _ _ _ (eY w (.cells cs.toArray T));rw[e];simpa using z
 ·have h1:(w.alloc (.cells cs.toArray T)).heap.size=w.heap.size+1:=by simp
  have:=h.size;omega
open Go.Proofs
theorem Ng{w w':eG}{base n size:Nat}{e:eA}{v:eC}{xs:List eC}(h:w.ownsRow base e size v n xs)(hk:∀g,v.ownBlock=jT g->w'.heap[g]? =w.heap[g]?):w'.ownsRow base e size v n xs:=by
 obtain⟨h1,h2⟩:=h;refine⟨h1,?_⟩;rcases h2 with h2|⟨g,cap,cur,rfl,hg,hh,r⟩
 ·exact .inl h2
 ·exact .inr ⟨g,cap,cur,rfl,hg,(hk g V).trans hh,r⟩
end Mu
namespace Mu
open Go Go.RowKit
variable{α:Type}
section
variable{T:Ty α}{e:eA}{w w' w2 X:eG}{base:Nat}{v v':eC}{ds:List α}{S S':Nat->Prop}
end
open Go.Proofs
variable{j:Nat}{l:List Int}{n:Int}{v:eC}{x:Ins}{xs:List Int}
def HC(op:Int):List UInt8:=
 if op=0 then [100,110]else if op=1 then [100,97,98,110]else if op=2 then [100,97]else if op=3 then [100,97]else if op=4 then [97,98]else if op=5 then [100,102,120]
 else if op=6 then [97]else if op=7 then []else if op=8 then [108]else if op=9 then [97,108,109]else if op=10 then [97]else []
def readsC(x:Ins):List Int:=(if(HC x.op).contains 97 then [x.a]else [])++(if(HC x.op).contains 98 then [x.b]else [])++(if(HC x.op).contains 120 then x.args else [])
def Axt(s:ByteArray)(c:UInt8):Bool:=s.data.toList.contains c
def Bd(x:Ins):Bool:=(HC x.op).contains 100
theorem Aed(op:Int)(w:eG)(h0:0<=op)(h1:op<=255):
 a8 cV 79 #[.int .u8 op] w λe w'=>e= .returned (.string ⟨(HC op).toArray⟩)/\Below w.heap.size w w':=by
 have hc:op=0\/op=1\/op=2\/op=3\/op=4\/op=5\/op=6\/op=7\/op=8\/op=9\/op=10\/11<=op:=by omega
 rcases hc with rfl|rfl|rfl|rfl|rfl|rfl|rfl|rfl|rfl|rfl|rfl|h
 case inr.inr.inr.inr.inr.inr.inr.inr.inr.inr.inr=>
  have hd:aU (11<=op)=aP:=decide_eq_true h;have hs:Hid (HC op= []):=by
   unfold HC;show _=_;repeat rw[if_neg (by omega)]
  go_enter cL,cU
  go_wp2_with fail
  go_ret
  exact⟨by rw[hs.out];rfl,(dW _ _).alloc (jA _) _⟩
 all_goals
  go_enter cL,cU
  go_wp2_with fail
  go_ret
  exact⟨rfl,(dW _ _).alloc (jA _) _⟩
theorem XT(s:ByteArray)(c:UInt8)(w:eG)(hs:s.size<=65536):
 a8 cV 80 #[.string s,.int .u8 c.toNat] w λe w'=>e= .returned (.bool (Axt s c))/\w=w':=by
 go_enter Tryz.func80,Tryz.ntmps80
 go_wp2_with fail
 go_loop [5] (λi=>∃k:Nat,k<=s.size/\i= .int .i64 k/\Hid ((s.data.toList.take k).contains c=aM)) (λi=>s.size - (RowKit.intOf i).toNat)
 case atStart=>exact⟨0,jN _,rfl,by simp[Hid]⟩
 case round=>
  obtain⟨k,hk,rfl,hno⟩:=hrel;by_cases hlt:k < s.size
  ·have hts:Hid (s.data.toList.take (k+1)=s.data.toList.take k++[s[k]]):=by
    show _=_;rw[iS (by simpa using hlt)];rfl
   by_cases he:s[k]=c
   ·have hfin:Hid (Axt s c=aP):=by
     show s.data.toList.contains c=aP;rw[List.contains_iff_mem];have:s[k]∈s.data.toList:=by
      have h1:s.data.toList[k]? =jT s[k]:=by
       rw[gH (by simpa using hlt)];rfl
      exact iD h1
     rwa [he]at this
    have hb:((s[k].toNat:Int) ==(c.toNat:Int))=aP:=by rw[he];simp
    clear hts hno he
    go_wp2_with fail
    go_ret
    exact⟨DA hfin.out.symm,rfl⟩
   ·have hb:((s[k].toNat:Int) ==(c.toNat:Int))=aM:=by
     rw[beq_eq_false_iff_ne];intro h;exact he (UInt8.toNat_inj.1 (by omega))
    have hno2:Hid ((s.data.toList.take (k+1)).contains c=aM):=by
     show _=_;rw[hts.out];have:=hno.out;simp only[List.contains_eq_mem,decide_eq_false_iff_not,g8,List.mem_singleton,not_or]at this⊢;exact⟨this,λh=>he h.symm⟩
    clear hts hno he
    go_wp2_with fail
    go_round
    case rel=>exact⟨k+1,by omega,by go_num,hno2⟩
    case measure=>simp[RowKit.intOf];omega
  ·obtain rfl:k=s.size:=by omega
   have hfin:Hid (Axt s c=aM):=by
    have:=hno.out;rw[iR (by simp)]at this;exact this
   clear hno
   go_wp2_with fail
   go_ret
   exact⟨DA hfin.out.symm,rfl⟩
theorem Agj(op:Int)(c:UInt8):Axt ⟨(HC op).toArray⟩ c=(HC op).contains c:=rfl
theorem Ak7(op:Int):(HC op).length<=4:=by
 unfold HC
 repeat' split
 all_goals simp
theorem Uu(op:Int):(⟨(HC op).toArray⟩:ByteArray).size<=65536:=by
 have:=Ak7 op;show(HC op).toArray.size<=_;rw[iM];omega
def Bx(w0:eG)(cs:List eC)(T:eA)(w':eG):Prop:=Below (w0.heap.size+1) (w0.alloc (.cells cs.toArray T)) w'
section
variable{w0 w' w'':eG}{cs:List eC}{T:eA}
theorem Bx.refl:Bx w0 cs T (w0.alloc (.cells cs.toArray T)):=dW _ _
theorem Bx.cell(h:Bx w0 cs T w')(q:cs[j]? =jT v):w'.cell? ⟨w0.heap.size,j,jS⟩=jT v:=(U4 h).2.1 j v q
theorem Bx.lt(h:Bx w0 cs T w'):w0.heap.size < w'.heap.size:=(U4 h).2.2.1
theorem Bx.below(h:Bx w0 cs T w'):Below w0.heap.size w0 w':=(U4 h).2.2.2
theorem Bx.call(h:Bx w0 cs T w')(q:Below w'.heap.size w' w''):Bx w0 cs T w'':=Below.trans h (q.mono h.lt)
end
theorem Ae2:1<=fB:=by decide
theorem Dp{a b c:eG}{row:Option Nat}(h:a.grownBy b row)(k:b.grownBy c row):a.grownBy c row:=
 ⟨k.os.trans h.os,k.tape.trans h.tape,k.output.trans h.output,jB h.size k.size,λi hi q=>(k.block i (jC hi h.size) q).trans (h.block i hi q)⟩
theorem X0{w:eG}{base:Nat}(h:Gf w base v l):∃A c,v= .slice A l.length c:=by
 rcases h.2 with⟨rfl,h0⟩|⟨g,cap,cur,rfl,_⟩
 ·rw[h0];exact⟨_,_,rfl⟩
 ·exact⟨_,_,rfl⟩
theorem X3{w:eG}{base g cap n:Nat}{i:Nat}{z:Int}(h:Gf w base (.slice (jT ⟨g,0,jS⟩) n cap) l)(q:l[i]? =jT z):w.cell? ⟨g,i,jS⟩=jT (.int .i64 z):=by
 have hi:=(gJ.1 q).1;rcases h.2 with⟨h0,_⟩|⟨G,u,cur,e,_,hh,_,_,_,F⟩
 ·cases h0
 ·cases e;have D:=h.cells (g:=g) V i (.int .i64 z) (by simp[q]);have E:(⟨g,0,jS⟩:aV).add i=⟨g,i,jS⟩:=by
   unfold aW;by_cases q:i=0 <;> simp[q]
  rwa [E]at D
theorem TU{w:eG}{base:Nat}(h:Gf w base v l)(q:0 < l.length):∃g c,v= .slice (jT ⟨g,0,jS⟩) l.length c/\base<=g/\g < w.heap.size:=by
 rcases h.2 with⟨rfl,h0⟩|⟨g,cap,cur,rfl,hg,hh,_⟩
 ·omega
 ·exact⟨g,cap,rfl,hg,(aC.1 hh).1⟩
def II(x:Ins):eC:=if Bd x then .tuple #[.int .i64 x.d,.bool aP]else .tuple #[.int .i64 0,.bool aM]
section
variable{w w':eG}{cs:List eC}{T:eA}
theorem An8(op:Int)(h0:0<=op)(h1:op<=255)(h:Bx w cs T w'):
 a8 cV 79 #[.int .u8 op] w' λe w''=>e= .returned (.string ⟨(HC op).toArray⟩)/\Bx w cs T w'':=
 (Aed op w' h0 h1).mono λ_ _ q=>⟨q.1,h.call q.2⟩
theorem YL(op:Int){b:Bool}(u:(HC op).contains 100=b)(w':eG):
 a8 cV 80 #[.string ⟨(HC op).toArray⟩,.int .u8 100] w' λe w''=>e= .returned (.bool b)/\w'=w'':=
 (XT ⟨(HC op).toArray⟩ 100 w' (Uu op)).mono λ_ _ q=>⟨by rw[q.1,Agj,u],q.2⟩
end
theorem Ks(h:Bd x=aP):II x= .tuple #[.int .i64 x.d,.bool aP]:=by unfold II;rw[if_pos h]
theorem Ml(h:Bd x=aM):II x= .tuple #[.int .i64 0,.bool aM]:=by unfold II;rw[if_neg (by simp[h])]
theorem Zw(x:Ins)(w:eG)(cs:List eC)(hR:Ei.R w w.heap.size cs x):
 a8 cV 44 #[.agg cs.toArray] w λe w'=>e= .returned (II x)/\Below w.heap.size w w':=by
 obtain⟨A,c,hI⟩:=IL.1 hR;obtain⟨rfl,hop,_,_,_,_,_,_,_,_⟩:=hI;obtain⟨h0,h255⟩:=Acq hop;obtain⟨cs,hcs⟩:∃cs:List eC,cs= [.int .u8 x.op,.int .i64 x.d,.int .i64 x.a,.int .i64 x.b,.int .u32 x.n,.int .i64 x.f,.slice A x.args.length c,.int .i64 x.l1,.int .i64 x.l2]:=⟨_,rfl⟩
 have q1:∀w',Bx w cs 47 w'->w'.cell? ⟨w.heap.size,1,jS⟩=jT (.int .i64 x.d):=λw' h=>h.cell (by rw[hcs];rfl)
 have hstart:Hid (Bx w cs 47 (w.alloc (.cells #[.int .u8 x.op,.int .i64 x.d,.int .i64 x.a,.int .i64 x.b,.int .u32 x.n,.int .i64 x.f,.slice A x.args.length c,.int .i64 x.l1,.int .i64 x.l2] 47))):=by
  have h:=Bx.refl (w0:=w) (cs:=cs) (T:=47);rw[hcs]at h;rw[hcs];exact h
 clear hcs hR;rcases hq:Bd x with _|_
 ·have HQ:=bW hq;clear hq
  go_enter cH,cQ
  go_wp2_with fail
  refine(An8 x.op h0 h255 hstart.out).mono ?_;rintro e w1 ⟨rfl,hx1⟩
  go_wp2_with fail
  refine(YL x.op HQ.out w1).mono ?_;rintro e w' ⟨rfl,rfl⟩
  go_wp2_with fail
  go_ret2
  exact⟨by rw[Ml HQ.out];rfl,hx1.below⟩
 ·have HQ:=bW hq;clear hq
  go_enter cH,cQ
  go_wp2_with fail
  refine(An8 x.op h0 h255 hstart.out).mono ?_;rintro e w1 ⟨rfl,hx1⟩
  go_wp2_with fail
  refine(YL x.op HQ.out w1).mono ?_;rintro e w' ⟨rfl,rfl⟩
  go_wp2_with fail
  go_ret2
  exact⟨by rw[Ks HQ.out];rfl,hx1.below⟩
theorem Na(x:Ins)(w:eG)(cs:List eC)(hR:Ei.R w w.heap.size cs x):
 a8 cV 61 #[.agg cs.toArray] w λe w'=>e= .returned (II x)/\Below w.heap.size w w':=by
 obtain⟨A,c,hI⟩:=IL.1 hR;obtain⟨rfl,hop,_,_,_,_,_,_,_,_⟩:=hI;obtain⟨h0,h255⟩:=Acq hop;clear hR;have hc:(x.op=0\/x.op=1\/x.op=2\/x.op=3\/x.op=5)\/(x.op≠0/\x.op≠1/\x.op≠2/\x.op≠3/\x.op≠5):=by omega
 rcases hc with hc|⟨n0,n1,n2,n3,n5⟩
 ·have HQ:Hid (Bd x=aP):=by
   show _=_;unfold Bd HC;rcases hc with h|h|h|h|h <;> rw[h] <;> decide
  rcases hc with h|h|h|h|h
  all_goals
   rw[h]
   go_enter cJ,cT
   go_wp2_with fail
   go_ret2
   exact⟨by rw[Ks HQ.out];rfl,(dW _ _).alloc (jA _) _⟩
 ·have HQ:Hid (Bd x=aM):=by
   show _=_;unfold Bd HC;rw[if_neg n0,if_neg n1,if_neg n2,if_neg n3];by_cases h4:x.op=4
   ·rw[h4];decide
   ·rw[if_neg h4,if_neg n5]
    repeat' split
    all_goals decide
  have e0:(x.op ==0)=aM:=beq_eq_false_iff_ne.2 n0;have e1:(x.op ==1)=aM:=beq_eq_false_iff_ne.2 n1;have e2:(x.op ==2)=aM:=beq_eq_false_iff_ne.2 n2;have e3:(x.op ==3)=aM:=beq_eq_false_iff_ne.2 n3;have e5:(x.op ==5)=aM:=beq_eq_false_iff_ne.2 n5;clear n0 n1 n2 n3 n5
  go_enter cJ,cT
  go_wp2_with fail
  go_ret2
  exact⟨by rw[Ml HQ.out];rfl,(dW _ _).alloc (jA _) _⟩
theorem Apb(w:eG)(o:Obj)(a:eC):((w.alloc o).alloc (.cells #[a] 3)).ownsRow (w.heap.size+1) 3 1 (.slice (jT ⟨w.heap.size+1,0,jS⟩) 1 1) 1 [a]:=by
 have h:=eY (w.alloc o) (.cells #[a] 3);rw[show(w.alloc o).heap.size=w.heap.size+1 from by simp]at h;exact RJ (cs:=[a]) h (jA _) V Ae2
theorem XC(w:eG)(o:Obj)(a b:eC):(((w.alloc o).alloc (.cells #[b] 3)).alloc (.cells #[a] 3)).ownsRow (w.heap.size+1) 3 1 (.slice (jT ⟨w.heap.size+1+1,0,jS⟩) 1 1) 1 [a]/\
 Src (((w.alloc o).alloc (.cells #[b] 3)).alloc (.cells #[a] 3)) 1 (jT ⟨w.heap.size+1,0,jS⟩) 1 [b]:=by
 have h:=eY ((w.alloc o).alloc (.cells #[b] 3)) (.cells #[a] 3);rw[show((w.alloc o).alloc (.cells #[b] 3)).heap.size=w.heap.size+1+1 from by simp]at h;have h2:=eY (w.alloc o) (.cells #[b] 3);rw[show(w.alloc o).heap.size=w.heap.size+1 from by simp]at h2;exact⟨RJ (cs:=[a]) h (by omega) V Ae2,Aop (cs:=#[b]) (Aho h2 _) V⟩
theorem HI(x:Ins)(w:eG)(cs:List eC)(hR:Ei.R w w.heap.size cs x)(hl:x.args.length<=2097152):
 a8 cV 60 #[.agg cs.toArray] w λe w'=>∃v,e= .returned v/\Gf w' w.heap.size v (readsC x)/\Below w.heap.size w w':=by
 obtain⟨A,c,hI⟩:=IL.1 hR;obtain⟨rfl,hop,_,_,_,_,_,_,_,hA⟩:=hI;obtain⟨h0,h255⟩:=Acq hop;obtain⟨i0,hi,hz0,hz1,hz2⟩:=info_parts Aky;have hb0:Hid (Below w.heap.size w (w.alloc (.cells #[.int .u8 x.op,.int .i64 x.d,.int .i64 x.a,.int .i64 x.b,.int .u32 x.n,.int .i64 x.f,.slice A x.args.length c,.int .i64 x.l1,.int .i64 x.l2] 47))):=(dW _ _).alloc (jA _) _;have HA:Hid (tInt.slice.R (w.alloc (.cells #[.int .u8 x.op,.int .i64 x.d,.int .i64 x.a,.int .i64 x.b,.int .u32 x.n,.int .i64 x.f,.slice A x.args.length c,.int .i64 x.l1,.int .i64 x.l2] 47)) (w.alloc (.cells #[.int .u8 x.op,.int .i64 x.d,.int .i64 x.a,.int .i64 x.b,.int .u32 x.n,.int .i64 x.f,.slice A x.args.length c,.int .i64 x.l1,.int .i64 x.l2] 47)).heap.size [.slice A x.args.length c] x.args):=Ty.below hA hb0.out hb0.out.size;clear hR hA;have hc:(x.op=1\/x.op=4)\/(x.op=2\/x.op=3\/x.op=6\/x.op=9\/x.op=10)\/x.op=5\/(x.op=0\/x.op=7\/x.op=8)\/11<=x.op:=by omega
 rcases hc with hc|hc|hc|hc|hc
 ·have HQ:Hid (readsC x= [x.a,x.b]):=by
   show _=_;unfold readsC HC;rcases hc with h|h <;> rw[h] <;> rfl
  rcases hc with h|h
  all_goals
   rw[h]at hb0 HA⊢
   go_enter cI,cR
   go_wp2_with (at_builtin;refine Afs V (.tmp 22) (.tmp 23) _ V (w.heap.size+1) 3 i0 _ 1 8 dB hi hz0 hz1 hz2 V (by decide) V (XC _ _ _ _).1 V (XC _ _ _ _).2 (by simp[eE]) (by unfold fB;omega) (by omega) (by simp) ?_)
   intro v2 w2 ho2 hg2 _;have hbn:Hid (Below w.heap.size w w2):=((hb0.out.alloc (by simp) _).alloc (by simp;omega) _).grown hg2 (by simp;omega) (λq hq=>by simp[eF]at hq;omega);have HO:=bW ho2;clear ho2 hg2
   go_wp2_with fail
   go_ret
   exact⟨_,rfl,by rw[HQ.out];exact Gf.base (Gf.of HO.out V V) (by omega),hbn.out⟩
 ·have HQ:Hid (readsC x= [x.a]):=by
   show _=_;unfold readsC HC;rcases hc with h|h|h|h|h <;> rw[h] <;> rfl
  rcases hc with h|h|h|h|h
  all_goals
   rw[h]at hb0 HA⊢
   go_enter cI,cR
   have hbn:Hid (Below w.heap.size w _):=hb0.out.alloc (by simp) (.cells #[.int .i64 x.a] 3)
   go_wp2_with fail
   go_ret
   exact⟨_,rfl,by rw[HQ.out];exact Gf.base (Gf.of (Apb _ _ _) V V) (by omega),hbn.out⟩
 ·have HQ:Hid (readsC x=x.args):=by
   show _=_;unfold readsC HC;rw[hc];rfl
  rw[hc]at hb0 HA⊢
  go_enter cI,cR
  go_wp2_with fail
  refine(U0 HA.out (by omega)).mono ?_;rintro e w1 ⟨v,rfl,ho,hb⟩;have HO:=bW ho;have HB:=bW hb;clear ho hb
  go_wp2_with fail
  go_ret
  exact⟨_,rfl,by rw[HQ.out];exact HO.out.base (by simp),hb0.out.trans (HB.out.mono hb0.out.size)⟩
 ·have HQ:Hid (readsC x= []):=by
   show _=_;unfold readsC HC;rcases hc with h|h|h <;> rw[h] <;> rfl
  rcases hc with h|h|h
  all_goals
   rw[h]at hb0 HA⊢
   go_enter cI,cR
   go_wp2_with fail
   go_ret
   exact⟨_,rfl,by rw[HQ.out];exact Gf.nil _ _,hb0.out⟩
 ·have HQ:Hid (readsC x= []):=by
   show _=_;have e:HC x.op= []:=by
    unfold HC;repeat rw[if_neg (by omega)]
   unfold readsC;rw[e];rfl
  have e1:(x.op ==1)=aM:=beq_eq_false_iff_ne.2 (by omega);have e2:(x.op ==2)=aM:=beq_eq_false_iff_ne.2 (by omega);have e3:(x.op ==3)=aM:=beq_eq_false_iff_ne.2 (by omega);have e4:(x.op ==4)=aM:=beq_eq_false_iff_ne.2 (by omega);have e5:(x.op ==5)=aM:=beq_eq_false_iff_ne.2 (by omega);have e6:(x.op ==6)=aM:=beq_eq_false_iff_ne.2 (by omega);have e9:(x.op ==9)=aM:=beq_eq_false_iff_ne.2 (by omega);have e10:(x.op ==10)=aM:=beq_eq_false_iff_ne.2 (by omega)
  go_enter cI,cR
  go_wp2_with fail
  go_ret
  exact⟨_,rfl,by rw[HQ.out];exact Gf.nil _ _,hb0.out⟩
theorem far{B:Nat}{w q:eG}(h:Below B w q):∀a:aV,a.block < B->q.cell? a=w.cell? a:=λ_ u=>h.cell u
theorem Aps{x:Int}(hx:xs[j]? =jT x)(h:¬x=n)(hs:(xs.take j).contains n=aM):Hid ((xs.take (j+1)).contains n=aM):=by
 show _=_;rw[List.contains_eq_any_beq]at hs⊢;rw[iN,hx,List.any_append,hs];simpa using λe=>h e.symm
theorem At9{x:Int}(hx:xs[j]? =jT x)(h:x=n):aP=xs.contains n:=by
 subst h;simpa using(iD hx)
theorem Ajv(xs:List Int)(n:Int)(va:eC)(w:eG)(hA:tInt.slice.R w w.heap.size [va] xs)(hx:xs.length<=2097152):
 a8 cV 100 #[va,.int .i64 n] w λe w'=>e= .returned (.bool (xs.contains n))/\Below w.heap.size w w':=by
 obtain⟨A,c,rfl⟩:=Ci hA;have HA:=bW hA;clear hA
 go_enter Tryz.func100,Tryz.ntmps100
 go_wp2
 go_loopw [5] (λi wr=>∃j:Nat,j<=xs.length/\i= .int .i64 j/\Hid ((xs.take j).contains n=aM)/\Below w.heap.size w wr) (λi _=>xs.length - (RowKit.intOf i).toNat)
 case atStart=>exact⟨0,jN _,rfl,rfl,dW _ _⟩
 case round=>
  obtain⟨j,hj,rfl,hs,hbe⟩:=hrel;have HBE:=bW hbe;have hfar:=far hbe;clear hbe;by_cases hlt:j < xs.length
  ·obtain⟨x,hx1⟩:∃x,xs[j]? =jT x:=⟨_,gH hlt⟩
   obtain⟨b1,o1,rfl,hb1,e1,_⟩:=LT HA.out hx1;have HX:=bW hx1;clear hx1;by_cases hxy:x=n
   ·have d:(x ==n)=aP:=by simp[hxy]
    have HXY:=bW hxy;clear hxy
    go_wp2
    go_ret
    exact⟨DA (At9 HX.out HXY.out),HBE.out⟩
   ·have d:(x ==n)=aM:=by simp[hxy]
    have HXY:=bW hxy;clear hxy
    go_wp2
    go_roundw
    case rel=>exact⟨j+1,by omega,by go_num,Aps HX.out HXY.out hs.out,HBE.out⟩
    case measure=>simp[RowKit.intOf];omega
  ·obtain rfl:j=xs.length:=by omega
   go_wp2
   go_ret
   have hs':=hs.out;rw[iQ]at hs';exact⟨DA hs'.symm,HBE.out⟩
end Mu
namespace Mu
open Go
variable{bl:Block}{f:Func}
abbrev Blk(f:Func):={k:Nat // k < f.blocks.length}
def Ac2(f:Func)(k:Int):Option (Blk f):=if h:0<=k/\k < f.blocks.length then jT ⟨k.toNat,by omega⟩else jS
def Ali(f:Func)(l:List Int):List (Blk f):=l.filterMap (Ac2 f)
def HW(x:Ins):List Int:=if x.op=9 then [x.l1,if x.l2=x.l1 then -1 else x.l2]else if x.op=8 then [x.l1,-1]else []
def RY(f:Func)(b:Block):List (Blk f):=
 match b.ins.getLast? with
 |none=>[]
 |some x=>Ali f (HW x)
def G6(f:Func)(b:Int):List (Blk f):=
 if 0<=b then
  match f.blocks[b.toNat]? with
  |none=>[]
  |some bl=>RY f bl
 else []
theorem Ac1{m:Nat}(h:m < f.blocks.length):Ac2 f (m:Int)=jT ⟨m,h⟩:=by
 unfold Ac2;rw[dif_pos ⟨by omega,by omega⟩];simp
theorem Ai6{k:Int}(h:¬(0<=k/\k < f.blocks.length)):Ac2 f k=jS:=by
 unfold Ac2;rw[dif_neg h]
theorem V8(x:Ins):(HW x).length<=2:=by
 unfold HW
 repeat' split
 all_goals simp
theorem Agz(f:Func)(l:List Int):(Ali f l).length<=l.length:=List.length_filterMap_le _ _
theorem Afe(f:Func)(b:Block):(RY f b).length<=2:=by
 unfold RY;split
 ·simp
 ·exact jB (Agz _ _) (V8 _)
theorem LI(f:Func)(b:Int):(G6 f b).length<=2:=by
 unfold G6
 repeat' split
 ·simp
 ·exact Afe _ _
 ·simp
def Fm{f:Func}(x:Blk f):Int:=((x.1:Nat):Int)
def nextL(f:Func)(b:Int):List Int:=(G6 f b).map Fm
theorem T7{b:Int}(h:¬(0<=b/\b < f.blocks.length)):nextL f b= []:=by
 unfold nextL G6;split
 ·rw[gI (by omega)];rfl
 ·rfl
theorem RX{k:Nat}(h:f.blocks[k]? =jT bl):nextL f (k:Int)=(RY f bl).map Fm:=by
 unfold nextL G6;rw[if_pos (by omega)];simp[h]
theorem T9(h:bl.ins= []):(RY f bl).map Fm= []:=by
 unfold RY;rw[h];rfl
def inB(f:Func)(k:Int):Bool:=aU (k≥0)&&aU (k < (f.blocks.length:Int))
def QF(f:Func)(x:Ins):Bool:=((x.op ==8)||(x.op ==9))&&inB f x.l1
def Ai3(f:Func)(x:Ins):Bool:=(x.op ==9)&&(x.l2 !=x.l1)&&inB f x.l2
theorem UK(f:Func)(l:List Int):(Ali f l).map Fm=l.filter (inB f):=by
 unfold Ali;induction l with
 |nil=>rfl
 |cons k l q=>
  by_cases h:0<=k/\k < f.blocks.length
  ·obtain⟨m,rfl⟩:=Int.eq_ofNat_of_zero_le h.1;have u:m < f.blocks.length:=by omega
   rw[fZ,Ac1 u,gY,q,List.filter_cons_of_pos (by simp[inB];omega)];rfl
  ·rw[fZ,Ai6 h,q,List.filter_cons_of_neg (by simp[inB];omega)]
theorem ZV{x:Ins}(h:bl.ins.getLast? =jT x):(RY f bl).map Fm=(if QF f x then [x.l1]else [])++if Ai3 f x then [x.l2]else []:=by
 unfold RY;rw[h];simp only;rw[UK];unfold HW QF Ai3;have q:inB f (-1)=aM:=by simp[inB]
 by_cases u:x.op=9
 ·rw[if_pos u];by_cases z:x.l2=x.l1
  ·rw[if_pos z];cases h1:inB f x.l1 <;> simp[u,z,h1,q]
  ·rw[if_neg z];cases h1:inB f x.l1 <;> cases h2:inB f x.l2 <;> simp[u,z,h1,h2]
 ·rw[if_neg u];by_cases D:x.op=8
  ·rw[if_pos D];cases h1:inB f x.l1 <;> simp[D,h1,q]
  ·rw[if_neg D];simp[D,u]
open Go.RowKit Go.Proofs Go.Shelf
variable{S:Nat->Prop}{W:eG}
structure KS(S:Nat->Prop)(W W':World):Prop where
 size:W.heap.size<=W'.heap.size
 block:∀k,S k->W'.heap[k]? =W.heap[k]?
theorem KS.refl:KS S W W:=⟨jA _,λ_ _=>rfl⟩
theorem KS.trans{A B C:eG}(h:KS S A B)(k:KS S B C):KS S A C:=⟨jB h.size k.size,λi hi=>(k.block i hi).trans (h.block i hi)⟩
theorem KS.cell{W':eG}(h:KS S W W'){a:aV}{v:eC}(q:S a.block)(hc:W.cell? a=jT v):W'.cell? a=jT v:=(eI (h.block a.block q)).trans hc
end Mu
namespace Mu
open Go Go.RowKit Go.Proofs
variable{α:Type}{T:Ty α}{f:bF}{l:List α}{pl:List (Nat×Nat)}{ty:eA}{u v:eC}{vs:List eC}{x:Ins}
def Bg(l:List Int):Prop:=∀x∈l,wfI .i64 x
structure okIns(x:Ins):Prop where
 op:wfI .u8 x.op
 d:wfI .i64 x.d
 a:wfI .i64 x.a
 b:wfI .i64 x.b
 n:wfI .u32 x.n
 f:wfI .i64 x.f
 l1:wfI .i64 x.l1
 l2:wfI .i64 x.l2
 args:Bg x.args
structure okBlock(b:Block):Prop where
 name:b.name.size<=maxLen
 ins:∀x∈b.ins,okIns x
structure okFunc(f:Func):Prop where
 name:f.name.size<=maxLen
 args:wfI .i64 f.args
 regs:wfI .i64 f.regs
 blocks:∀b∈f.blocks,okBlock b
section
variable{w:eG}{S:Nat->Prop}{cs:List eC}
theorem RV{p:α->Prop}(z:∀cs d,T.RS w S cs d->p d)(h:T.slice.RS w S cs l):∀x∈l,p x:=by
 obtain⟨A,c,rfl,_,_,hi⟩:=h;intro x hx;obtain⟨j,D⟩:=iB.1 hx;obtain⟨b,o,_,_,q,h1,_⟩:=hi j x D;exact z q x h1
theorem Ape{l:List Int}(h:tInt.slice.RS w S cs l):Bg l:=RV (T:=tInt) (p:=wfI .i64) (λ_ _ h=>(DJ.1 h).2) h
theorem At4(h:Ei.RS w S cs x):okIns x:=by
 obtain⟨A,c,q⟩:=IL.1 h;exact⟨q.op,q.d,q.a,q.b,q.n,q.f,q.l1,q.l2,Ape q.args⟩
theorem Akf{x:Block}(h:Cw.RS w S cs x):okBlock x:=by
 obtain⟨A,c,_,h1,h2⟩:=NT.1 h;exact⟨h1,RV (λ_ _ h=>At4 h) h2⟩
theorem Apf{x:Func}(h:Dc.RS w S cs x):okFunc x:=by
 obtain⟨A,c,_,h1,h2,z,q⟩:=Or.1 h;exact⟨h1,h2,z,RV (λ_ _ h=>Akf h) q⟩
variable{h:List ABlk}{ψ:Nat->eC}
theorem My(q:okIns x)(H:Ae w S h ψ (BV x) cs):Ei.RS w S cs x:=by
 simp only[BV,Ae,AV.rel]at H;obtain⟨_,_,rfl,rfl,_,_,rfl,rfl,_,_,rfl,rfl,_,_,rfl,rfl,_,_,rfl,rfl,_,_,rfl,rfl,_,_,rfl,z,_,_,rfl,rfl,_,_,rfl,rfl,rfl⟩:=H;obtain⟨A,c,rfl⟩:=Ci z;exact IL.2 ⟨A,c,rfl,q.op,q.d,q.a,q.b,q.n,q.f,q.l1,q.l2,z⟩
theorem Aeo{x:Block}(z:x.name.size<=fB)(H:Ae w S h ψ (D1 x) cs):Cw.RS w S cs x:=by
 simp only[D1,Ae,AV.rel]at H;obtain⟨_,_,rfl,rfl,_,_,rfl,q,rfl⟩:=H;obtain⟨A,c,rfl⟩:=Ci q;exact NT.2 ⟨A,c,rfl,z,q⟩
theorem RQ{x:Func}(q:okFunc x)(H:Ae w S h ψ (Ak x) cs):Dc.RS w S cs x:=by
 simp only[Ak,Ae,AV.rel]at H;obtain⟨_,_,rfl,rfl,_,_,rfl,rfl,_,_,rfl,rfl,_,_,rfl,z,rfl⟩:=H;obtain⟨A,c,rfl⟩:=Ci z;exact Or.2 ⟨A,c,rfl,q.name,q.args,q.regs,z⟩
end
section
variable{P:cG}
theorem JB{args:List AV}(F:Ca P f=aP)(h:∀(w:eG) (vs:List eC),Ae w (λk=>k < w.heap.size) [] ψ0 args vs->a8 P f vs.toArray w λe w'=>e= .returned v/\Below w.heap.size w w'):Fn P f args (.lit v):=
 ⟨F,λw S vs z D=>(h w vs (Az (Ext.grow [] ψ0 (λ_ _=>rfl) z) _ _ D)).mono λe w' ⟨E,q⟩=>⟨v,E,q,S,λ_ h=>h,λ_ h=>.inl h,λk hk=>jC (z k hk) q.size,by unfold AV.rel;rfl⟩⟩
theorem Rw{args:List AV}(F:Ca P f=aP)(h:∀(w:eG) (vs:List eC),Ae w (λk=>k < w.heap.size) [] ψ0 args vs->a8 P f vs.toArray w λe w'=>e= .returned (.tuple #[v,u])/\Below w.heap.size w w'):Fn P f args (.tup [.lit v,.lit u]):=
 ⟨F,λw S vs z D=>(h w vs (Az (Ext.grow [] ψ0 (λ_ _=>rfl) z) _ _ D)).mono λe w' ⟨E,q⟩=>⟨_,E,q,S,λ_ h=>h,λ_ h=>.inl h,λk hk=>jC (z k hk) q.size,by
  unfold AV.rel;exact⟨[v,u],rfl,by simp[Ae,AV.rel]⟩⟩⟩
theorem Aby{args:List AV}{l:List Int}(H:Ca P f=aP)(F:Bg l)(h:∀(w:eG) (vs:List eC),Ae w (λk=>k < w.heap.size) [] ψ0 args vs->a8 P f vs.toArray w λe w'=>∃v,e= .returned v/\Gf w' w.heap.size v l/\Below w.heap.size w w'):Fn P f args (.bs tInt l):=
 ⟨H,λw S vs D E=>(h w vs (Az (Ext.grow [] ψ0 (λ_ _=>rfl) D) _ _ E)).mono λe w' ⟨v,G,q,z⟩=>by
  refine⟨v,G,z,λk=>S k\/v.ownBlock=jT k,λ_ h=>.inl h,λk hk=>hk.imp id λe=>(q.lt k e).1,λk hk=>?_,?_⟩
  ·rcases hk with hk|hk
   ·exact jC (D k hk) z.size
   ·exact(q.lt k hk).2
  ·unfold AV.rel;exact tInt.slice.keepS (LB q F) (λ_ _=>rfl) λk hk=>.inr hk⟩
theorem Ach{w:eG}{S:Nat->Prop}{h:List ABlk}{ψ:Nat->eC}{x:AV}(H:Ae w S h ψ [x] vs):∃v,vs= [v]/\AV.rel w S h ψ x v:=by
 simp only[Ae]at H;obtain⟨v,_,rfl,h1,rfl⟩:=H;exact⟨v,rfl,h1⟩
theorem Ay3{w:eG}{S:Nat->Prop}{h:List ABlk}{ψ:Nat->eC}{x y:AV}(H:Ae w S h ψ [x,y] vs):∃v u,vs= [v,u]/\AV.rel w S h ψ x v/\AV.rel w S h ψ y u:=by
 simp only[Ae]at H;obtain⟨v,_,rfl,h1,u,_,rfl,h2,rfl⟩:=H;exact⟨v,u,rfl,h1,h2⟩
theorem IZ{w:eG}{S:Nat->Prop}{h:List ABlk}{ψ:Nat->eC}{l:List AV}(H:AV.rel w S h ψ (.agg l) v):∃cs,v= .agg cs.toArray/\Ae w S h ψ l cs:=by unfold AV.rel at H;exact H
theorem OI{w:eG}{S:Nat->Prop}{h:List ABlk}{ψ:Nat->eC}(H:AV.rel w S h ψ (.lit u) v):v=u:=by unfold AV.rel at H;exact H
theorem Aty{w:eG}{S:Nat->Prop}{h:List ABlk}{ψ:Nat->eC}(H:AV.rel w S h ψ (.bs T l) v):T.slice.RS w S [v] l:=by unfold AV.rel at H;exact H
end
theorem FU(h:okIns x):Bg (readsC x):=by
 intro r hr;unfold readsC at hr;simp only[g8]at hr;rcases hr with(hr|hr)|hr <;> split at hr <;> first|(simp at hr;done)|(simp at hr;subst hr;first|exact h.a|exact h.b)|exact h.args r hr
theorem Fu(x:Ins)(D:okIns x):Fn cV 44 [.agg (BV x)] (.tup [.lit (.int .i64 (if Bd x then x.d else 0)),.lit (.bool (Bd x))]):=
 Rw (by kernel_rfl) λw vs z=>by
  obtain⟨v,rfl,q⟩:=Ach z;obtain⟨cs,rfl,hc⟩:=IZ q;refine(Zw x w cs (My D hc)).mono λe w' ⟨E,F⟩=>⟨?_,F⟩
  rw[E];unfold II;cases Bd x <;> rfl
theorem WD(xs:List Int)(n:Int)(hx:xs.length<=2097152):Fn cV 100 [.bs tInt xs,.lit (.int .i64 n)] (.lit (.bool (xs.contains n))):=
 JB (by kernel_rfl) λw vs D=>by
  obtain⟨v,u,rfl,q,z⟩:=Ay3 D;obtain rfl:=OI z;exact(Ajv xs n v w (Aty q) hx).mono λe w' h=>by first|exact h|exact⟨h.1,by rw[<-h.2];exact dW _ _⟩|exact⟨h.1,by rw[h.2];exact dW _ _⟩
section
variable{P:cG}
def N4(P:cG):List Field->Option (List (Nat×Nat))
 | []=>jT []
 |f::fs=>
  match P.info? f.type with
  |some i=>(N4 P fs).map λl=>(f.offset,i.size)::l
  |none=>jS
def Eq(P:cG)(t:eA):Option (List (Nat×Nat)):=
 match P.underlying t with
 |some (.struct fs)=>N4 P fs.toList
 |_=>jS
theorem QM(w:eG):∀(fs:List Field) (l:List (Nat×Nat)),N4 P fs=jT l->(fs.mapM (m:=Sem) λf=>do pure (f.offset,<-fK f.type)).run P w= .ok l w
 | [],l,h=>by cases h;rfl
 |f::fs,l,h=>by
  unfold N4 at h;split at h <;> try(cases h;done)
  rename_i i hi;obtain⟨l',h1,rfl⟩:=jQ.1 h;have q:=QM w fs l' h1;have h0:(do pure (f.offset,<-fK f.type):Sem (Nat×Nat)).run P w= .ok (f.offset,i.size) w:=by simp[fK,fM,hi]
  rw[List.mapM_cons,dX,h0];simp only[Result.andThen_ok,dX,q,dY]
def putCells(pl:List (Nat×Nat)):List AV->List (Nat×AV)->Option (List AV)
 |cs,[]=>jT cs
 |cs,(j,x)::ps=>
  match pl[j]? with
  |some (off,1)=>if off < cs.length then putCells pl (cs.set off x) ps else jS
  |_=>jS
theorem Yv{w:eG}{S:Nat->Prop}{h:List ABlk}{ψ:Nat->eC}{pl:List (Nat×Nat)}:∀(ps:List (Nat×AV)) (cs rs:List AV) (vs:List (Nat×eC)) (E:List eC),putCells pl cs ps=jT rs->Ae w S h ψ cs E->
 vs.map (·.1)=ps.map (·.1)->(∀(j:Nat) (p:Nat×AV) (v:Nat×eC),ps[j]? =jT p->vs[j]? =jT v->AV.rel w S h ψ p.2 v.2/\v.2.oneCell'=aP)->
 ∃z,bK (λi=>pl[i]?) E.toArray vs=jT z.toArray/\Ae w S h ψ rs z
 | [],cs,rs,vs,E,q,H,F,_=>by
  cases q;have:vs= []:=by simpa using F
  subst this;exact⟨E,rfl,H⟩
 |(j,x)::ps,cs,rs,vs,E,q,H,F,D=>by
  cases vs with
  |nil=>simp at F
  |cons v vs=>
   simp only[gY,fR]at F;obtain⟨G,I⟩:=F;unfold putCells at q;split at q <;> try(cases q;done)
   rename_i off J;split at q <;> try(cases q;done)
   rename_i L;obtain⟨h1,h2⟩:=D 0 _ _ V V;have U:=Bw H;obtain⟨z,O,Y⟩:=Yv ps (cs.set off x) rs vs (E.set off v.2) q (HV H off h1) I λj p v q F=>D (j+1) p v (by simpa using q) (by simpa using F)
   refine⟨z,?_,Y⟩;obtain⟨i,v⟩:=v;dsimp only at G h1 h2 O;subst G;unfold bK;simp only[J,Hl h2];have hc:¬((aU ((#[v]:Array eC).size≠1)||decide (off+(#[v]:Array eC).size > E.toArray.size))=aP):=by
    simp;omega
   rw[if_neg hc];simpa using O
theorem AT.build{C:Ctx}{t:List AV}{h:List ABlk}{o:bZ}{D:Array (Nat×cF)}{zs:List eC}{rs:List AV}(ho:o.op= .build ty D)(hz:Cx P ty=jT zs)(E:Eq P ty=jT pl)
 (hr:putCells pl (zs.map .lit) (D.toList.map λp=>(p.1,evA t p.2))=jT rs)(h1:∀p∈D.toList,One h (evA t p.2)):AT P C t h o (.agg rs):=
 AL λS ψ w ρ H L=>by
  unfold Cx at hz;obtain⟨z,U,rfl⟩:=jQ.1 hz;obtain⟨i,hi,O⟩:=jP.1 U;unfold Eq at E;split at E <;> try(cases E;done)
  rename_i fs hu;have Z:=QM (P:=P) w fs.toList pl E;have F:∀p∈D.toList,AV.rel w S h ψ (evA t p.2) (ρ p.2):=λp J=>L p.2 (by rw[ho];exact iF.2 (iC.2 ⟨p,J,rfl⟩))
  obtain⟨G,h3,h4⟩:=Yv (w:=w) (S:=S) (h:=h) (ψ:=ψ) _ _ rs (D.toList.map λp=>(p.1,ρ p.2)) z.cells.toList hr (I0 _) (by simp) λj p v J Y=>by
   rw[gK]at J Y;obtain⟨q,hq,rfl⟩:=jQ.1 J;rw[hq]at Y;cases Y;have I:=iD hq;exact⟨F q I,h1 q I C S ψ w _ H (F q I)⟩
  refine⟨.agg G.toArray,?_,by unfold AV.rel;exact⟨G,rfl,h4⟩⟩;have aa:(fs.mapM (m:=Sem) λf=>do pure (f.offset,<-fK f.type)).run P w= .ok pl.toArray w:=by
   rw[<-Array.toArray_toList (xs:=fs),List.mapM_toArray,Sem.run_map,Z];rfl
  have hf:bK (λi=>pl.toArray[i]?) z.cells (D.map λp=>(p.1,ρ p.2)).toList=jT G.toArray:=by simpa using h3
  simp only[eR,ho,Instr.build,fO,fM,underlying,hi,O,hu,aa,hf,zar]
def Azr(t:Tmp)(r:AV):bC->St->Prop:=λe s=>(e= .normal\/e= .ret)/\∃i cells,evA s.t (.tmp t)= .ptr i 0/\s.h[i]? =jT (.box cells)/\Fin s.h (.agg cells) r
theorem J4{fn:bE}{c:bA}{args:List AV}{r:AV}{t:Tmp}{n m:Nat}(hf:P.funcs[f]? =jT fn)(hb:fn.body=jT c)(hE:Ca P f=aP)(E:fn.results= #[.cell t ty])(ha:Rl P ty=jT (aP,m))(Z:fn.ntmps=n)
 (h:∀C:Ctx,C.std->Awp P C c (λe s=>Azr t r e s/\∀i cells,evA s.t (.tmp t)= .ptr i 0->s.h[i]? =jT (.box cells)->cells.length=m) ⟨args++iJ (n - args.length) (.lit undef),[]⟩):Fn P f args r:=by
 refine⟨hE,λw S vs hS Y=>eQ hf hb ?_⟩;rw[Z];refine wp_mono ((h ⟨w,S,λk=>k < w.heap.size,jS⟩ (λ_ h=>h)).wp V (Dl hS Y)) ?_;rintro e a' w' ⟨s,⟨⟨he,i,cells,G,hi,D⟩,F⟩,J,S1,ψ,H,hl⟩;rw[D.1]at J;have hm:=F i cells G hi;have I:=Bv hl (.tmp t);rw[G]at I;unfold AV.rel at I;obtain⟨g,h1,h2⟩:=I.2 (by rw[hi];rfl);obtain⟨g',cs,e',O,_,_,h4,L⟩:=H.blk i _ hi;rw[h1]at O;cases O;have hc:∀j u,cs[j]? =jT u->w'.cell? ⟨g,0+j,jS⟩=jT u:=λj u U=>by simp[eH,h4,U]
 have q:=IY (P:=P) (ty:=ty) (b:=g) (off:=0) ha (by rw[Bw L];exact hm) hc;have z:(results fn a'.tmps).run P w'= .ok (.agg cs.toArray) w':=by
  have e1:(a'.tmps[t]?).getD undef= .pointer (jT ⟨g,0,jS⟩):=by rw[<-aA];exact h2
  unfold bM bP at q;simp only[zam]at q;simp[results,E,e1,asAddr,q]
 have hg:=FE H D (by unfold AV.rel;exact⟨cs,rfl,L⟩);rcases he with rfl|rfl
 ·exact⟨J,_,z,_,rfl,hg⟩
 ·exact⟨J,_,z,_,rfl,hg⟩
end
end Mu
namespace Mu
open Go Go.RowKit
variable{F:Nat->Prop}{K':Act->eG->Prop}{L:Array Bool->List AV->Prop}{Q:bC->St->Prop}{Q':bC->Act->eG->Prop}{R:Res}{α:Type}{T:Ty α}{a:Act}{c:bA}{e:eA}{f:bF}{fn:bE}{i id j:Nat}{l:List bZ}{l':List α}{off:Nat}{oi:bZ}{r:AV}{t':List AV}{ty:eA}{tys:Array eA}{v:eC}{x:cF}{xs:List AV}
mutual
def Ge(p:Nat):AV->Bool
 | .own i _=>i !=p
 | .ptr i _=>i !=p
 | .rp i _ _ _=>i !=p
 | .agg l=>Dw p l
 | .tup l=>Dw p l
 | .fn _ l=>Dw p l
 |_=>aP
def Dw(p:Nat):List AV->Bool
 | []=>aP
 |x::l=>Ge p x&&Dw p l
end
def nrB(p:Nat):ABlk->Bool
 | .box cells=>Dw p cells
 |_=>aP
section
variable{w:eG}{S:Nat->Prop}{h:List ABlk}{ψ ψ':Nat->eC}{p:Nat}{b:ABlk}
mutual
theorem JC(hψ:∀i,i≠p->ψ' i=ψ i):∀(x:AV) (v:eC),Ge p x=aP->AV.rel w S h ψ x v->AV.rel w S (h.set p b) ψ' x v
 | .any,_,_,_=>by unfold AV.rel;trivial
 | .lit u,v,_,H=>by unfold AV.rel at H⊢;exact H
 | .bs T l,v,_,H=>by unfold AV.rel at H⊢;exact H
 | .tv T d,v,_,H=>by unfold AV.rel at H⊢;exact H
 | .own i ver,v,hn,H=>by
  have hi:i≠p:=by simpa[Ge]using hn
  unfold AV.rel at H⊢;rw[gN (jO hi),hψ i hi];exact⟨by simpa using H.1,H.2⟩
 | .ptr i off,v,hn,H=>by
  have hi:i≠p:=by simpa[Ge]using hn
  unfold AV.rel at H⊢;rw[gN (jO hi),hψ i hi];exact⟨by simpa using H.1,H.2⟩
 | .rp i ver k off,v,hn,H=>by
  have hi:i≠p:=by simpa[Ge]using hn
  unfold AV.rel at H⊢;rw[gN (jO hi),hψ i hi];exact⟨by simpa using H.1,H.2⟩
 | .bp T d off,v,_,H=>by unfold AV.rel at H⊢;exact H
 | .agg l,v,hn,H=>by
  unfold Ge at hn;unfold AV.rel at H⊢;obtain⟨cs,e,hl⟩:=H;exact⟨cs,e,DI hψ l cs hn hl⟩
 | .tup l,v,hn,H=>by
  unfold Ge at hn;unfold AV.rel at H⊢;obtain⟨cs,e,hl⟩:=H;exact⟨cs,e,DI hψ l cs hn hl⟩
 | .fn f l,v,hn,H=>by
  unfold Ge at hn;unfold AV.rel at H⊢;obtain⟨cs,e,hl⟩:=H;exact⟨cs,e,DI hψ l cs hn hl⟩
theorem DI(hψ:∀i,i≠p->ψ' i=ψ i):∀(l:List AV) (cs:List eC),Dw p l=aP->Ae w S h ψ l cs->Ae w S (h.set p b) ψ' l cs
 | [],cs,_,H=>by unfold Ae at H⊢;exact H
 |x::l,cs,hn,H=>by
  unfold Dw at hn;rw[aL]at hn;unfold Ae at H⊢;obtain⟨v,vs,e,h1,h2⟩:=H;exact⟨v,vs,e,JC hψ x v hn.1 h1,DI hψ l vs hn.2 h2⟩
end
variable{h':List ABlk}
mutual
theorem KZ(hc:Cut h h')(hl:h'.length=h.length):∀(x:AV) (v:eC),AV.rel w S h ψ x v->AV.rel w S h' ψ x v
 | .any,_,_=>by unfold AV.rel;trivial
 | .lit u,v,H=>by unfold AV.rel at H⊢;exact H
 | .bs T l,v,H=>by unfold AV.rel at H⊢;exact H
 | .tv T d,v,H=>by unfold AV.rel at H⊢;exact H
 | .own i ver,v,H=>by
  unfold AV.rel at H⊢;exact⟨by omega,λc hv=>H.2 c (hc.ver hv).1⟩
 | .ptr i off,v,H=>by
  unfold AV.rel at H⊢;exact⟨by omega,λhv=>H.2 (hc.box hv)⟩
 | .rp i ver k off,v,H=>by
  unfold AV.rel at H⊢;refine⟨by omega,λc hv=>?_⟩;rw[(hc.ver hv).2];exact H.2 c (hc.ver hv).1
 | .bp T d off,v,H=>by unfold AV.rel at H⊢;exact H
 | .agg l,v,H=>by
  unfold AV.rel at H⊢;obtain⟨cs,e,hL⟩:=H;exact⟨cs,e,Fg hc hl l cs hL⟩
 | .tup l,v,H=>by
  unfold AV.rel at H⊢;obtain⟨cs,e,hL⟩:=H;exact⟨cs,e,Fg hc hl l cs hL⟩
 | .fn f l,v,H=>by
  unfold AV.rel at H⊢;obtain⟨cs,e,hL⟩:=H;exact⟨cs,e,Fg hc hl l cs hL⟩
theorem Fg(hc:Cut h h')(hl:h'.length=h.length):∀(l:List AV) (cs:List eC),Ae w S h ψ l cs->Ae w S h' ψ l cs
 | [],cs,H=>by unfold Ae at H⊢;exact H
 |x::l,cs,H=>by
  unfold Ae at H⊢;obtain⟨v,vs,e,h1,h2⟩:=H;exact⟨v,vs,e,KZ hc hl x v h1,Fg hc hl l vs h2⟩
end
theorem HRel.cute{C:Ctx}(H:HRel C h S ψ w)(hc:Cut h h')(O:h'.length=h.length):HRel C h' S ψ w:=
 ⟨H.bel,H.nlt,H.lt,H.sub,H.new,λi b hi=>by
  rcases hc.blk i b hi with rfl|h1
  ·trivial
  ·have z:=H.blk i b h1;cases b with
   |dead=>trivial
   |box cells=>
    obtain⟨g,cs,e,J,I,G,E,D⟩:=z;exact⟨g,cs,e,J,I,G,E,Fg hc O _ _ D⟩
   |row ver e T l=>exact z
   |res R=>exact z,λi j q h1 h2=>by rw[hc.same h1,hc.same h2];exact H.dis i j q (hc.live h1) (hc.live h2)⟩
theorem Ab1(z:h[p]? =jT .dead):Cut (h.set p b) h:=⟨by simp,λi c hi=>by
 by_cases q:i=p
 ·subst q;rw[z]at hi;exact .inl (by injection hi with e;exact e.symm)
 ·exact .inr (by rw[gN (jO q)];exact hi)⟩
theorem AT.up{P:cG}{C:Ctx}{t:List AV}{o:bZ}(Y:h[p]? =jT .dead)(U:Ge p r=aP)(hq:AT P C t h o r):AT P C t (h.set p b) o r:=by
 intro S ψ w ρ H hx;have hc:Cut (h.set p b) h:=Ab1 Y;have E:h.length=(h.set p b).length:=by simp
 have h1:=hq S ψ w ρ (H.cute hc E) λx D=>KZ hc E _ _ (hx x D)
 have z:∀v w',YZ w S h ψ r v w'->YZ w S (h.set p b) ψ r v w':=λv w' ⟨hb,S',O,J,I,G⟩=>⟨hb,S',O,J,I,JC (λ_ _=>rfl) r v U G⟩
 cases q:(eR ρ o).run P w with
 |ok n w'=>
  rw[q]at h1;cases n <;> simp only[Wd]at h1⊢
  case value v=>exact z _ _ h1
  case skip=>exact z _ _ h1
  case enter f args=>exact⟨h1.1,h1.2.mono λe w'' ⟨v,Z,hg⟩=>⟨v,Z,z _ _ hg⟩⟩
 |halt x w'=>rw[q]at h1;simp only[Wd]at h1
theorem HRel.revive{C:Ctx}{w':eG}(H:HRel C h S ψ w)(hp:h[p]? =jT .dead)(hn:h.all (nrB p)=aP)(hb:Below w.heap.size w w')(hB:Hv C.N w' S (h.set p b) (Bo ψ p v) v b)(hg:∀g,ftp (jT b) v g->w.heap.size<=g):
 HRel C (h.set p b) S (Bo ψ p v) w':=by
 have D:=(gJ.1 hp).1;have G:=H.grow (S':=S) hb (λ_ h=>h) (λ_ h=>.inl h) λk hk=>jC (H.lt k hk) hb.size
 have I:∀i,ABlk.live h[i]? =aP->∀g,ftp h[i]? (ψ i) g->g < w.heap.size:=λi Z g O=>by
  obtain⟨c,hc⟩:=DQ Z;rw[hc]at O;exact((H.blk i c hc).lt (by rw[<-hc];exact Z) g O).2.1
 refine⟨G.bel,G.nlt,G.lt,G.sub,G.new,λi c hi=>?_,λi j J hi U g h1 h2=>?_⟩
 ·by_cases q:i=p
  ·subst q;rw[gO D]at hi;cases hi;rw[Bj];exact hB
  ·rw[gN (jO q)]at hi;rw[BC q];have hc:=G.blk i c hi;have Y:=fP.1 hn c (iD hi);cases c with
   |dead=>trivial
   |box cells=>
    obtain⟨g,cs,e,k1,k2,k3,k4,k5⟩:=hc;exact⟨g,cs,e,k1,k2,k3,k4,DI (λi hi=>BC hi) _ _ Y k5⟩
   |row ver e T l=>exact hc
   |res R=>exact hc
 ·by_cases q:i=p
  ·subst q;rw[Bj,gO D]at h1;have E:j≠i:=jO J;rw[BC E,gN (jO E)]at h2;rw[gN (jO E)]at U;have:=I j U g h2;have:=hg g h1;omega
  ·rw[BC q,gN (jO q)]at h1;rw[gN (jO q)]at hi;by_cases z:j=p
   ·subst z;rw[Bj,gO D]at h2;have:=I i hi g h1;have:=hg g h2;omega
   ·rw[BC z,gN (jO z)]at h2;rw[gN (jO z)]at U;exact H.dis i j J hi U g h1 h2
end
section
variable{P:cG}{C:Ctx}{ops:Array bZ}{md:dL}{h:List ABlk}{p ip:Nat}{zs:List eC}{elem:eA}
def Anb(o:bZ):Bool:=
 match o.op with
 | .alloc _=>aP
 |_=>aM
def Js(P:cG)(C:Ctx)(ops:Array bZ)(h:List ABlk)(p:Nat)(zs:List eC)(o:bZ)(r:AV)(t:List AV):Prop:=
 (Anb o=aM/\gA ops t o=jT aP/\AT P C t h o r/\Ge p r=aP)\/(Anb o=aM/\gA ops t o=jT aM/\r= .lit undef)\/(Anb o=aP/\o.guard=jS/\r= .ptr p 0/\∃elem,o.op= .alloc elem/\Cx P elem=jT zs)
def bOp(P:cG)(C:Ctx)(ops:Array bZ)(h:List ABlk)(p ip:Nat)(zs:List eC)(i:Nat)(K:List AV->Prop)(t:List AV):Prop:=
 match ops[i]? with
 |none=>K t
 |some o=>∃r,Js P C ops h p zs o r t/\Anb o=aU (i=ip)/\K (Bl t o.dst r)
theorem Al7{t:List AV}{K K':List AV->Prop}(hk:∀t,K t->K' t)(hh:bOp P C ops h p ip zs i K t):bOp P C ops h p ip zs i K' t:=by
 unfold bOp at *;split
 ·exact hk _ (by simpa[*]using hh)
 ·rename_i o q;simp only[q]at hh;obtain⟨r,h1,h2,z⟩:=hh;exact⟨r,h1,h2,hk _ z⟩
def Ax5(P:cG)(C:Ctx)(md:dL)(ops:Array bZ)(h:List ABlk)(p ip:Nat)(zs:List eC)(n:Nat)(L:Array Bool->List AV->Prop):Nat->Array Bool->List AV->Prop
 |0,listed,t=>L listed t
 |f+1,listed,t=>
  dR md ops listed≠[]/\∀i∈dR md ops listed,i < n/\bOp P C ops h p ip zs i (Ax5 P C md ops h p ip zs n L f (listed.setIfInBounds i aP)) t
def hcur(h:List ABlk)(p ip:Nat)(zs:List eC)(listed:Array Bool):List ABlk:=if listed.getD ip aM=aP then h.set p (.box (zs.map .lit))else h
theorem Agh{listed:Array Bool}(hi:i≠ip):hcur h p ip zs (listed.setIfInBounds i aP)=hcur h p ip zs listed:=by
 unfold hcur;rw[eV aM hi]
theorem Aqp{listed:Array Bool}:hcur h p ip zs listed=h\/hcur h p ip zs listed=h.set p (.box (zs.map .lit)):=by
 unfold hcur;split
 ·exact .inr V
 ·exact .inl V
theorem Aph{t:List AV}{d:Option Tmp}(ht:Dw p t=aP)(z:Ge p r=aP):Dw p (Bl t d r)=aP:=by
 cases d with
 |none=>exact ht
 |some d=>
  unfold Bl;simp only;induction t generalizing d with
  |nil=>exact ht
  |cons x t q=>
   unfold Dw at ht;rw[aL]at ht;cases d with
   |zero=>unfold List.set Dw;rw[z,ht.2];rfl
   |succ d=>unfold List.set Dw;rw[ht.1,q ht.2];rfl
theorem VP{t:List AV}{w:eG}{K:List AV->Prop}{listed:Array Bool}(hp:h[p]? =jT .dead)(hn:h.all (nrB p)=aP)(U:listed.getD ip aM=aM->Dw p t=aP)
 (Z:ip < listed.size)(hr:i∈dR md ops listed)(H:St.rel C ⟨t,hcur h p ip zs listed⟩ a w)
 (hK:∀t a w,K t->((listed.setIfInBounds i aP).getD ip aM=aM->Dw p t=aP)->St.rel C ⟨t,hcur h p ip zs (listed.setIfInBounds i aP)⟩ a w->K' a w)
 (hh:bOp P C ops h p ip zs i K t):wpOp P ops Q' i K' a w:=by
 obtain⟨ad,o,ho,-⟩:=fC.1 hr;unfold bOp at hh;unfold wpOp;simp only[ho]at hh⊢;obtain⟨r,hy,D,hk⟩:=hh;obtain⟨hd,S,ψ,q,E⟩:=id H;have Y:∀{r:AV},i≠ip->Ge p r=aP->((listed.setIfInBounds i aP).getD ip aM=aM->Dw p (Bl t o.dst r)=aP):=λhi hr E=>by
  rw[eV aM hi]at E;exact Aph (U E) hr
 rcases hy with⟨ha,hg,hq,O⟩|⟨ha,hg,rfl⟩|⟨ha,aj,rfl,el,ag,hz⟩
 ·have I:=DR hg E;rw[I,if_pos V];have hi:i≠ip:=λe=>by rw[ha]at D;simp[e]at D
  refine .inl ?_;have af:AT P C t (hcur h p ip zs listed) o r:=by
   rcases Aqp (h:=h) (p:=p) (ip:=ip) (zs:=zs) (listed:=listed)with e|e <;> rw[e]
   ·exact hq
   ·exact hq.up hp O
  exact Lc (s:=⟨t,hcur h p ip zs listed⟩) hd q E (af S ψ w a.eval q λx _=>Bv E x) λa' w' h'=>hK _ _ _ hk (Y hi O) (by rw[Agh hi];exact h')
 ·have I:=DR hg E;rw[I,if_neg (by simp)];have hi:i≠ip:=λe=>by rw[ha]at D;simp[e]at D
  exact hK _ _ _ hk (Y hi V) (by rw[Agh hi];exact FQ H o.dst)
 ·have hi:i=ip:=by rw[ha]at D;simpa using D.symm
  subst hi;have I:dU o (yielded ops a.tmps)=aP:=by unfold dU;rw[aj]
  rw[I,if_pos V];refine .inl ?_;have G:listed.getD i aM=aM:=eS ad;have aa:hcur h p i zs listed=h:=by unfold hcur;rw[if_neg (by simp[G])]
  have ak:hcur h p i zs (listed.setIfInBounds i aP)=h.set p (.box (zs.map .lit)):=by
   unfold hcur;rw[if_pos (by simp[aA,Z])]
  rw[aa]at q E;unfold Cx at hz;obtain⟨z,ac,rfl⟩:=jQ.1 hz;obtain⟨ti,ae,ab⟩:=jP.1 ac;have J:(eR a.eval o).run P w= .ok (.value (.pointer (jT ⟨w.heap.size,0,jS⟩))) (w.alloc (.cells z.cells el)):=by
   simp[eR,ag,bH,fO,fM,ae,ab,newVar,newRow]
  unfold cD;rw[J];have hb:Below w.heap.size w (w.alloc (.cells z.cells el)):=(dW _ _).alloc (jA _) _;have hB:Hv C.N (w.alloc (.cells z.cells el)) S (h.set p (.box (z.cells.toList.map .lit))) (Bo ψ p (.pointer (jT ⟨w.heap.size,0,jS⟩))) (.pointer (jT ⟨w.heap.size,0,jS⟩)) (.box (z.cells.toList.map .lit)):=
   ⟨w.heap.size,z.cells.toList,el,rfl,λhN=>by have:=q.nlt _ hN;have:=q.bel.size;omega,λhS=>by have:=q.lt _ hS;omega,by simpa using eY w (.cells z.cells el),I0 _⟩
  have H1:=q.revive hp hn hb hB λg hg=>by simp[ftp,Bu]at hg;omega
  have ai:=Az (Ext.grow h ψ (λk hk=>hb.block k (q.lt k hk)) λ_ h=>h) _ _ E;have ah:=DI (b:=.box (z.cells.toList.map .lit)) (ψ':=Bo ψ p (.pointer (jT ⟨w.heap.size,0,jS⟩))) (λi hi=>BC hi) _ _ (U G) ai;refine hK _ _ _ hk (λE=>?_) ?_
  ·simp[aA,Z]at E
  ·rw[ak];refine⟨by rw[put_defers,hd];show mkD (hcur _ _ _ _ _)=mkD (h.set p _);rw[aa];exact(DO (b':=.box (z.cells.toList.map .lit)) hp V).symm,S,_,H1,KE ah o.dst ?_⟩;unfold AV.rel;exact⟨by simpa using(gJ.1 hp).1,λ_=>⟨w.heap.size,Bj,rfl⟩⟩
theorem QD{n g:Nat}{L:Array Bool->List AV->Prop}{Q':bC->Act->eG->Prop}(E:h[p]? =jT .dead)(G:h.all (nrB p)=aP)(I:∀listed t a w,L listed t->St.rel C ⟨t,hcur h p ip zs listed⟩ a w->wpAny P md ops Q' g listed a w):
 ∀(f:Nat) (listed:Array Bool) (t:List AV) (a:Act) (w:eG),ip < listed.size->(listed.getD ip aM=aM->Dw p t=aP)->Ax5 P C md ops h p ip zs n L f listed t->St.rel C ⟨t,hcur h p ip zs listed⟩ a w->wpAny P md ops Q' (f+g) listed a w
 |0,listed,t,a,w,_,_,hh,H=>by rw[jM];exact I _ _ _ _ hh H
 |f+1,listed,t,a,w,z,D,hh,H=>by
  rw[show f+1+g=(f+g)+1 by omega];exact⟨λh0=>absurd h0 hh.1,λi hi=>VP E G D z hi H (λt' a' w' h' q J=>QD E G I f _ t' a' w' (by simpa using z) q h' J) (hh.2 i hi).2⟩
theorem PD{o:bZ}{t:List AV}{dst:Option Tmp}{u:AV}(q:∀d,dst=jT d->d∉o.looksAt ops):Js P C ops h p zs o r (Bl t dst u)↔Js P C ops h p zs o r t:=by
 unfold Js;rw[An3 q,TH q]
theorem Aq9{z:bZ}{v:AV}(G:ops[j]? =jT z)(q:oi.apart ops z=aP){K:List AV->Prop}{t:List AV}(D:Js P C ops h p zs oi v t)(hh:bOp P C ops h p ip zs j K (Bl t oi.dst v)):
 bOp P C ops h p ip zs j (λt'=>Js P C ops h p zs oi v t'/\K (Bl t' oi.dst v)) t:=by
 obtain⟨h1,h2,I⟩:=b9 q;unfold bOp at *;simp only[G]at *;obtain⟨r,E,H,hk⟩:=hh;exact⟨r,(PD h1).1 E,H,(PD I).2 D,by rw[<-TJ t v r h2];exact hk⟩
theorem Abi{n:Nat}{v:AV}(hi:ops[i]? =jT oi)(Y:Anb oi=aU (i=ip))
 (D:∀listed i,bG md ops n listed->i < n->listed.getD i aP=aM->∀t,n<=t->t∉dR md ops listed)(ae:i < n)
 (aa:∀listed t,L listed t->∀j∈dR md ops listed,n<=j):
 ∀(f:Nat) (listed:Array Bool) (t:List AV),bG md ops n listed->
  (∀j oj,ops[j]? =jT oj->j≠i->listed.getD j aP=aM->(∀e∈oj.after,dM md e=aP->e.on≠i)->oi.apart ops oj=aP)->
  i∈dR md ops listed->Js P C ops h p zs oi v t->
  Ax5 P C md ops h p ip zs n L f (listed.setIfInBounds i aP) (Bl t oi.dst v)->Ax5 P C md ops h p ip zs n L (f+1) listed t:=by
 intro f;induction f with
 |zero=>
  intro listed t G _ O hy H;have z:=(fC.1 O).1;refine⟨λh=>(by rw[h]at O;cases O),λj Z=>?_⟩;have I:j < n:=by
   rcases jD j n with h|h
   ·exact h
   ·exact absurd Z (D _ i G ae z j h)
  refine⟨I,?_⟩;by_cases q:j=i
  ·subst q;unfold bOp;simp only[hi];exact⟨v,hy,Y,H⟩
  ·have:=aa _ _ H j (fE Z q);omega
 |succ f ih=>
  intro listed t G E O hy H;have z:=(fC.1 O).1;refine⟨λh=>(by rw[h]at O;cases O),λj Z=>?_⟩;have I:j < n:=by
   rcases jD j n with h|h
   ·exact h
   ·exact absurd Z (D _ i G ae z j h)
  refine⟨I,?_⟩;by_cases q:j=i
  ·subst q;unfold bOp;simp only[hi];exact⟨v,hy,Y,H⟩
  ·have h1:=(H.2 j (fE Z q)).2;obtain⟨U,oj,ab,af⟩:=fC.1 Z;have ac:∀e∈oj.after,dM md e=aP->e.on≠i:=λe he hb ai=>by
    have h1:=af e he hb;rw[ai,eS z]at h1;cases h1
   have h2:=Aq9 ab (E j oj ab q U ac) hy h1;have J:∀k ok,ops[k]? =jT ok->k≠i->(listed.setIfInBounds j aP).getD k aP=aM->
    (∀e∈ok.after,dM md e=aP->e.on≠i)->oi.apart ops ok=aP:=λk ok hk ah z ag=>by
    refine E k ok hk ah ?_ ag;by_cases ad:j=k
    ·subst ad;exact U
    ·rw[eV aP ad]at z;exact z
   refine Al7 (λa' h3=>ih (listed.setIfInBounds j aP) a' (G.set Z I) J (fE O (jO q)) h3.1 ?_) h2;rw[aG _ _ q];exact h3.2
def bQ(P:cG)(C:Ctx)(ops:Array bZ)(h:List ABlk)(p ip:Nat)(zs:List eC)(K:List AV->Prop):Nat->List bZ->List AV->Prop
 |_,[],t=>K t
 |k,o::rest,t=>∃r,Js P C ops h p zs o r t/\Anb o=aU (k=ip)/\bQ P C ops h p ip zs K (k+1) rest (Bl t o.dst r)
theorem YQ{n g:Nat}{Lq:List AV->Prop}(z:∀listed i,bG md ops n listed->i < n->listed.getD i aP=aM->∀t,n<=t->t∉dR md ops listed)(E:ip < n):
 ∀(l:List bZ) (k:Nat) (listed:Array Bool) (t:List AV),(∀j,j < l.length->l[j]? =ops[k+j]?)->k+l.length=n->bG md ops n listed->(∀j,j < k->listed.getD j aM=aP)->
 dP md ops g l.length k listed=aP->bQ P C ops h p ip zs Lq k l t->
 Ax5 P C md ops h p ip zs n (λq t'=>dT md ops g n q=aP/\q.getD ip aM=aP/\Lq t') l.length listed t
 | [],k,listed,t,_,hk,_,D,J,hh=>by
  have:k=n:=by simpa using hk
  subst this;exact⟨by simpa[dP]using J,D ip E,hh⟩
 |o::l,k,listed,t,Z,hk,G,D,J,hh=>by
  have h0:ops[k]? =jT o:=by simpa using(Z 0 (by simp)).symm
  simp only[gU,dP,aL]at J;obtain⟨⟨hr,hf⟩,Y⟩:=J;have I:k < n:=by simp only[gU]at hk;omega
  have H:k∈dR md ops listed:=by simpa using hr
  obtain⟨v,hy,ha,hK⟩:=hh;have O:k < listed.size:=by rw[G.size];exact(aC.1 h0).1
  refine Abi h0 ha z I (λq a' hL=>seqB_ready hL.1) l.length listed t G (dO h0 hf) H hy
   (YQ z E l (k+1) _ _ (λj hj=>by have:=Z (j+1) (by simp;omega);simpa[iX,iY 1 j]using this) (by simp only[gU]at hk;omega) (G.set H I) (λj hj=>?_) Y hK)
  by_cases U:k=j
  ·subst U;simp[aA,O]
  ·exact eW (D j (by omega))
end
theorem Ro{C:Ctx}{t:List AV}{h:List ABlk}:St.le C ⟨t,h⟩ ⟨t,h++[.dead]⟩:=λa w ⟨z,S,ψ,H,q⟩=>by
 have X:Ext w S h ψ w S (h++[.dead]) (Bo ψ h.length (.slice jS 0 0)):=Ext.push _ _ λ_ _=>rfl
 exact⟨by rw[z];show mkD h=mkD (h++[_]);rw[H9];rfl,S,_,H.push (dW _ _) trivial (λg hg=>by simp[ftp,Bu]at hg),Az X _ _ q⟩
theorem Aik{P:cG}{C:Ctx}{t:List AV}{h:List ABlk}{zs:List eC}(n ip:Nat)(hm:P.follows .mixedOrders=aP)(hB:Acd l.toArray n=aP)(ai:aU (ip < n)=aP)
 (hn:Dw h.length t=aP)(ac:h.all (nrB h.length)=aP)
 (hh:bQ P C l.toArray (h++[.dead]) h.length ip zs (λt=>CU P C l.toArray (Q .normal) (l.drop n) ⟨t,h++[.box (zs.map .lit)]⟩) 0 (l.take n) t):Awp P C (.region id l.toArray aP) Q ⟨t,h⟩:=λa w H0=>by
 have H:=Ro a w H0;have J:ip < n:=by simpa using ai
 simp only[Acd,aL,decide_eq_true_eq,aO,beq_iff_eq]at hB;obtain⟨⟨⟨⟨aj,ad⟩,af⟩,hs⟩,I⟩:=hB;have ak:n<=l.length:=by simpa using af
 have q:(l.take n).length=n:=by simp;omega
 have U:(l.drop n).length=l.toArray.size - n:=by simp
 have E:bG .any l.toArray n (aF l.toArray.size aM):=
  ⟨by simp,λj oj _ Y=>(by rw[eU]at Y;cases Y),λt _ ht=>eT (by simpa using ht) (eU _ _)⟩
 have z:∀(listed:Array Bool) (i:Nat),bG .any l.toArray n listed->i < n->listed.getD i aP=aM->∀t,n<=t->t∉dR .any l.toArray listed:=by
  intro listed i aa hi ab t ht;rcases hs with hs|⟨hs,hc⟩
  ·intro hr;obtain⟨_,o,ho,_⟩:=fC.1 hr;have:=(aC.1 ho).1;omega
  ·by_cases ag:n < l.toArray.size
   ·exact tail_waits hs hc ag aa _ i V hi ab t ht
   ·intro hr;obtain⟨_,o,ho,_⟩:=fC.1 hr;have:=(aC.1 ho).1;omega
 have HH:=YQ (md:=.any) (g:=l.toArray.size - n) z J (l.take n) 0 _ t (λj hj=>by
  have ah:j < n:=by rw[q]at hj;exact hj
  simp[ah]) (by simpa using q) E (λj hj=>by omega) (by rw[q];exact I) hh
 refine FI hm ad ?_;have hp:(h++[ABlk.dead])[h.length]? =jT .dead:=by simp
 have ae:(h++[ABlk.dead]).all (nrB h.length)=aP:=by rw[List.all_append,ac];rfl
 have G:(h++[ABlk.dead]).set h.length (.box (zs.map .lit))=h++[.box (zs.map .lit)]:=by simp
 have Z:St.rel C ⟨t,hcur (h++[.dead]) h.length ip zs (aF l.toArray.size aM)⟩ a {w with drawn:=w.drawn+1}:=by
  obtain⟨hd,S,ψ,O,Y⟩:=H;have hb:Below w.heap.size w {w with drawn:=w.drawn+1}:=⟨rfl,rfl,rfl,jA _,λ_ _=>rfl⟩
  have e:hcur (h++[.dead]) h.length ip zs (aF l.toArray.size aM)=h++[.dead]:=by unfold hcur;rw[eU];rfl
  rw[e];exact⟨hd,S,ψ,O.grow hb (λ_ h=>h) (λ_ h=>.inl h) O.lt,Az (show Ext w S (h++[.dead]) ψ {w with drawn:=w.drawn+1} S (h++[.dead]) ψ from Ext.grow _ ψ (λk hk=>rfl) λ_ h=>h) _ _ Y⟩
 have:=QD (Q':=λe a' w'=>e= .normal/\∃D,Q e D/\D.rel C a' w') (g:=l.toArray.size - n) hp ae (λlisted t a' w' hL Z=>by
  have hc:hcur (h++[.dead]) h.length ip zs listed=h++[.box (zs.map .lit)]:=by unfold hcur;rw[if_pos hL.2.1];exact G
  rw[hc]at Z;have:=wpAny_of_seq (md:=.any) (l.drop n) n listed a' w' (λj=>by simp[gG]) (by rw[U];exact hL.1) (EU (Q':=λe a' w'=>e= .normal/\∃D,Q e D/\D.rel C a' w') (λs a w h H=>⟨rfl,s,h,H⟩) _ _ _ _ hL.2.2 Z);rwa [U]at this) _ _ _ _ _ (by simp;omega) (λ_=>hn) HH Z
 rw[q,show n+(l.toArray.size - n)=l.toArray.size by omega]at this;exact this
section
variable{P:cG}{C:Ctx}{ops:Array bZ}{h:List ABlk}{p ip k:Nat}{zs:List eC}{K:List AV->Prop}{o:bZ}{rest:List bZ}{t:List AV}
theorem Aij(elem:eA)[ZC P elem zs](n ip:Nat)(E:P.follows .mixedOrders=aP)(G:Acd l.toArray n=aP)(z:aU (ip < n)=aP)
 (D:Dw h.length t=aP)(q:h.all (nrB h.length)=aP)
 (hh:bQ P C l.toArray (h++[.dead]) h.length ip zs (λt=>CU P C l.toArray (Q .normal) (l.drop n) ⟨t,h++[.box (zs.map .lit)]⟩) 0 (l.take n) t):Awp P C (.region id l.toArray aP) Q ⟨t,h⟩:=Aik n ip E G z D q hh
def BOp(P:cG)(C:Ctx)(o:bZ)(t:List AV)(h:List ABlk)(p:Nat)(K:List AV->Prop):Prop:=∃r,AT P C t h o r/\Ge p r=aP/\K (Bl t o.dst r)
theorem ER{K:List AV->Prop}(hq:AT P C t h o r)(hk:Ge p r=aP/\K (Bl t o.dst r)):BOp P C o t h p K:=⟨r,hq,hk.1,hk.2⟩
theorem AAj(q:Anb o=aM)(hi:aU (k=ip)=aM)(hg:gA ops t o=jT aP)(hq:BOp P C o t h p (bQ P C ops h p ip zs K (k+1) rest)):bQ P C ops h p ip zs K k (o::rest) t:=
 let ⟨r,h1,h2,z⟩:=hq;⟨r,.inl ⟨q,hg,h1,h2⟩,by rw[q,hi],z⟩
theorem Azj{elem:eA}[ZC P elem zs](z:Anb o=aP)(hi:aU (k=ip)=aP)(q:o.guard=jS)(D:o.op= .alloc elem)(hk:bQ P C ops h p ip zs K (k+1) rest (Bl t o.dst (.ptr p 0))):bQ P C ops h p ip zs K k (o::rest) t:=⟨_,.inr (.inr ⟨z,q,rfl,elem,D,ZC.eq⟩),by rw[z,hi],hk⟩
theorem Azi(ht:t=t')(hk:bQ P C ops h p ip zs K k l t'):bQ P C ops h p ip zs K k l t:=by subst ht;exact hk
theorem Ax4(hk:K t):bQ P C ops h p ip zs K k [] t:=hk
end
def Amm(P:cG)(f:bF)(e:eA){α:Type}(T:Ty α)(l l':List α):Prop:=
 Ca P f=aP/\∀(N S:Nat->Prop) (w:eG) (v:eC),(∀k,N k->k < w.heap.size)->(∀k,S k->k < w.heap.size)->Hv N w S [] ψ0 v (.row 0 e T l)->
  a8 P f #[v] w λx w'=>∃v',x= .returned v'/\w.grownBy w' (Bu v)/\Hv N w' S [] ψ0 v' (.row 0 e T l')/\∀g,Bu v'=jT g->Bu v=jT g\/w.heap.size<=g
def Aib(t:Tmp)(e:eA){α:Type}(T:Ty α)(l':List α):bC->St->Prop:=λx s=>(x= .normal\/x= .ret)/\∃i ver,evA s.t (.tmp t)= .own i ver/\s.h[i]? =jT (.row ver e T l')/\mkD s.h= []
theorem Vz{P:cG}{l:List α}{t:Tmp}{n:Nat}(hf:P.funcs[f]? =jT fn)(hb:fn.body=jT c)(hE:Ca P f=aP)(G:fn.results= #[.tmp t])(hn:fn.ntmps=n)(E:∀w S S' cs d,T.RS w S cs d->T.RS w S' cs d)
 (h:∀C:Ctx,Awp P C c (Aib t e T l') ⟨[.own 0 0]++iJ (n - 1) (.lit undef),[.row 0 e T l]⟩):Amm P f e T l l':=by
 refine⟨hE,λN S w v hN hS hB=>eQ hf hb ?_⟩;rw[hn];have ae:=hB.lt V;have ab:St.rel ⟨w,S,λk=>k < w.heap.size/\Bu v≠jT k,jS⟩ ⟨[.own 0 0]++iJ (n - 1) (.lit undef),[.row 0 e T l]⟩ {tmps:=#[v]++aF (n - (#[v]:Array eC).size) undef,defers:=[]} w:=by
  refine⟨rfl,S,λ_=>v,⟨Kp.refl _ _,λk hk=>hk.1,hS,λ_ h=>h,λ_ h=>.inl h,λi b hi=>?_,λi j ag hi hj=>?_⟩,?_⟩
  ·cases i with
   |zero=>
    simp only[gF,jV]at hi;subst hi;obtain⟨cells,k1,Z,Y,U⟩:=hB;exact⟨cells,k1,Z,Y,λg hg=>⟨λhc=>hc.2 (AU hg),(U g hg).2⟩⟩
   |succ i=>simp at hi
  ·cases i with
   |zero=>cases j with
    |zero=>exact absurd V ag
    |succ j=>simp[ABlk.live]at hj
   |succ i=>simp[ABlk.live]at hi
  ·simp only[aH,aJ];refine BK ?_ (DL (by simp) λi x u hx hu=>?_)
   ·unfold Ae;refine⟨v,[],rfl,?_,by unfold Ae;rfl⟩;unfold AV.rel;refine⟨by simp,λc hc=>?_⟩;simp[ABlk.ver]at hc;exact⟨by omega,λ_=>rfl⟩
   ·rw[gL]at hx hu;split at hx <;> cases hx
    split at hu <;> cases hu
    unfold AV.rel;rfl
 refine wp_mono ((h ⟨w,S,λk=>k < w.heap.size/\Bu v≠jT k,jS⟩).wp V ab) ?_;rintro x a' w' ⟨s,⟨hx,i,ver,ah,hi,ad⟩,hd,S1,ψ,H,hl⟩;rw[ad]at hd;have hv:=Bv hl (.tmp t);rw[ah]at hv;unfold AV.rel at hv;have aa:=(hv.2 _ (by rw[hi];rfl)).2 V;have O:=H.blk i _ hi;have af:=O.lt V;have q:(results fn a'.tmps).run P w'= .ok (a'.eval (.tmp t)) w':=fG G _ _ _;have hg:w.grownBy w' (Bu v):=⟨H.bel.os,H.bel.tape,H.bel.output,H.bel.size,λk hk ac=>H.bel.block k ⟨hk,λe=>ac e.symm⟩⟩
 have D:∃v',Ending.returned (a'.eval (.tmp t))= .returned v'/\w.grownBy w' (Bu v)/\Hv N w' S [] ψ0 v' (.row 0 e T l')/\∀g,Bu v'=jT g->Bu v=jT g\/w.heap.size<=g:=by
  have I:∀g,Bu (ψ i)=jT g->Bu v=jT g\/w.heap.size<=g:=λg z=>by
   have:=(af g z).1;by_cases hc:Bu v=jT g
   ·exact .inl hc
   ·exact .inr (i9 λh=>this ⟨h,hc⟩)
  obtain⟨cells,k1,Z,Y,U⟩:=O;rw[aa];refine⟨_,rfl,hg,⟨cells,k1,Z,?_,λg z=>?_⟩,I⟩
  ·intro j d hj;exact E _ _ _ _ _ (Y j d hj)
  ·refine⟨λJ=>?_,λai=>(U g z).2 (H.sub g ai)⟩;rcases I g (AU z)with h1|h1
   ·exact(ae g h1).1 J
   ·have:=hN g J;omega
 rcases hx with rfl|rfl
 ·exact⟨hd,_,q,D⟩
 ·exact⟨hd,_,q,D⟩
theorem P7{P:cG}{C:Ctx}{o:bZ}{t:List AV}{h:List ABlk}{K:St->Prop}{ver:Nat}{l:List α}
 (U:o.op= .call {callee:=.value (.func f),args:=#[x],argTypes:=tys})(Z:Amm P f e T l l')(hx:evA t x= .own i ver)(hi:h[i]? =jT (.row ver e T l))
 (hK:K ⟨Bl t o.dst (.own i (ver+1)),h.set i (.row (ver+1) e T l')⟩):AOp P C o ⟨t,h⟩ K:=by
 rintro Q' a w ⟨hd,S,ψ,H,Y⟩;refine⟨λc e=>(by rw[U]at e;cases e),?_⟩;have q:=Bv Y x;rw[show evA (St.mk t h).t x= .own i ver from hx]at q;unfold AV.rel at q;have hv:=(q.2 _ (by rw[hi];rfl)).2 V;have G:=H.blk i _ hi;have J:=G.lt V;unfold cD;rw[Cv U Z.1 a.eval w V];simp only[cB];have hc:=Z.2 C.N S w (ψ i) (λk hk=>jC (H.nlt k hk) H.bel.size) H.lt G;rw[show(#[x].map a.eval)= #[ψ i]from by simp[hv]];refine hc.mono ?_;rintro r w' ⟨v',rfl,z,O,I⟩;have E:∀k,S k->w'.heap[k]? =w.heap[k]?:=λk hk=>z.block k (H.lt k hk) λe=>(J k e.symm).2.2 hk
 have X:Ext w S h ψ w' S (h.set i (.row (ver+1) e T l')) (Bo ψ i v'):=Ext.set E hi (λc' hc=>by
  simp only[ABlk.ver,jV]at hc;exact⟨ver,rfl,by omega,λe=>by omega⟩) λh=>by simp[AZ]at h
 refine⟨_,hK,Iw (s:=⟨t,h⟩) hi hd Y (H.set hi V (Bs z) X O I) X ?_⟩;unfold AV.rel;refine⟨by simp[(gJ.1 hi).1],λc' D=>?_⟩;rw[gO (gJ.1 hi).1]at D;simp only[ABlk.ver,jV]at D;exact⟨by omega,λ_=>by rw[Bj]⟩
section
variable{P:cG}{C:Ctx}{ops:Array bZ}{md:dL}{h:List ABlk}{K:St->Prop}
def tOp(P:cG)(C:Ctx)(ops:Array bZ)(i:Nat)(K:St->Prop)(s:St):Prop:=
 match ops[i]? with
 |none=>K s
 |some o=>∃b,gA ops s.t o=jT b/\(b=aP->AOp P C o s K)/\(b=aM->K ⟨Bl s.t o.dst (.lit undef),s.h⟩)
def VT(P:cG)(C:Ctx)(md:dL)(ops:Array bZ)(K:St->Prop):Nat->Array Bool->St->Prop
 |0,listed,s=>dR md ops listed= []/\K s
 |f+1,listed,s=>(dR md ops listed= []->K s)/\∀i∈dR md ops listed,tOp P C ops i (VT P C md ops K f (listed.setIfInBounds i aP)) s
theorem VO{s:St}{w:eG}(H:s.rel C a w)(z:∀s a w,K s->s.rel C a w->K' a w)(hh:tOp P C ops i K s):wpOp P ops Q' i K' a w:=by
 unfold tOp at hh;unfold wpOp;split
 ·rename_i q;simp only[q]at hh;exact z _ _ _ hh H
 ·rename_i o q;simp only[q]at hh;obtain⟨b,hg,ht,G⟩:=hh;obtain⟨_,S,ψ,_,E⟩:=id H;rw[DR hg E];cases b with
  |true=>
   rw[if_pos V];exact .inl (cE (λa' w' ⟨D,h1,h2⟩=>z D a' w' h1 h2) (ht V Q' a w H).2)
  |false=>
   rw[if_neg (by simp)];exact z _ _ _ (G V) (FQ H o.dst)
theorem HE{Q':bC->Act->eG->Prop}(q:∀s a w,K s->s.rel C a w->Q' .normal a w):∀(f:Nat) (listed:Array Bool) (s:St) (a:Act) (w:eG),VT P C md ops K f listed s->s.rel C a w->wpAny P md ops Q' f listed a w
 |0,_,s,a,w,hh,H=>⟨hh.1,q s a w hh.2 H⟩
 |f+1,_,s,a,w,hh,H=>⟨λh0=>q s a w (hh.1 h0) H,λi hi=>VO H (λz a' w' h' D=>HE q f _ z a' w' h' D) (hh.2 i hi)⟩
def Akr(ops:Array bZ)(n:Nat):Nat->Nat->Array Bool->Bool
 |0,_,listed=>(dR .any ops listed).all λj=>decide (n<=j)
 |f+1,k,listed=>(dR .any ops listed).contains k&&dN .any ops listed k&&Akr ops n f (k+1) (listed.setIfInBounds k aP)
def Azu(ops:Array bZ)(n:Nat):Bool:=
 (dQ ops&&KI ops)&&aU (n<=ops.size)&&((iI ops.size).all λt=>decide (t < n)||(iI n).all λi=>Region.waitsFor .any ops t i)&&Akr ops n n 0 (aF ops.size aM)
def GF(sz:Nat):Nat->Array Bool
 |0=>aF sz aM
 |k+1=>(GF sz k).setIfInBounds k aP
theorem Vk{n sz:Nat}{Lq:List AV->Prop}(z:∀listed i,bG .any ops n listed->i < n->listed.getD i aP=aM->∀t,n<=t->t∉dR .any ops listed):
 ∀(l:List bZ) (k:Nat) (t:List AV),(∀j,j < l.length->l[j]? =ops[k+j]?)->k+l.length=n->bG .any ops n (GF sz k)->
 Akr ops n l.length k (GF sz k)=aP->aQ P C ops h Lq l t->
 Ai0 P C .any ops h n (λq t'=>(∀j∈dR .any ops q,n<=j)/\q=GF sz n/\Lq t') l.length (GF sz k) t
 | [],k,t,_,hk,_,H,hh=>by
  have:k=n:=by simpa using hk
  subst this;exact⟨λj O=>of_decide_eq_true (fP.1 H j O),rfl,hh⟩
 |o::l,k,t,J,hk,D,H,hh=>by
  have h0:ops[k]? =jT o:=by simpa using(J 0 (by simp)).symm
  simp only[gU,Akr,aL]at H;obtain⟨⟨Y,Z⟩,I⟩:=H;have G:k < n:=by simp only[gU]at hk;omega
  have E:k∈dR .any ops (GF sz k):=by simpa using Y
  obtain⟨v,U,hK⟩:=hh;exact Rn h0 z G (λq a' hL=>hL.1) l.length _ t D (dO h0 Z) E U
   (Vk z l (k+1) _ (λj O=>by have:=J (j+1) (by simp;omega);simpa[iX,iY 1 j]using this) (by simp only[gU]at hk;omega) (D.set E G) I hK)
end
theorem Aih{P:cG}{C:Ctx}{s:St}(n:Nat)(hm:P.follows .mixedOrders=aP)(hB:Azu l.toArray n=aP)
 (hh:aQ P C l.toArray s.h (λt=>VT P C .any l.toArray (Q .normal) (l.length - n) (GF l.length n) ⟨t,s.h⟩) (l.take n) s.t):Awp P C (.region id l.toArray aP) Q s:=λa w H=>by
 simp only[Azu,zaf]at hB;obtain⟨⟨⟨⟨ad,ab⟩,hn⟩,hs⟩,I⟩:=hB;have af:n<=l.length:=by simpa using hn
 have q:(l.take n).length=n:=by simp;omega
 have D:bG .any l.toArray n (aF l.toArray.size aM):=
  ⟨by simp,λj oj _ U=>(by rw[eU]at U;cases U),λt _ ht=>eT (by simpa using ht) (eU _ _)⟩
 have z:∀(listed:Array Bool) (i:Nat),bG .any l.toArray n listed->i < n->listed.getD i aP=aM->∀t,n<=t->t∉dR .any l.toArray listed:=by
  intro listed i ae hi Y t ht hr;obtain⟨_,ot,G,O⟩:=fC.1 hr;have E:t < l.toArray.size:=(aC.1 G).1;have h1:=fP.1 hs t (iE.2 E);simp only[zat]at h1;rcases h1 with h1|h1
  ·omega
  ·obtain⟨oj,aa,e,he,hb,Z⟩:=Region.waitsFor_spec (fP.1 h1 i (iE.2 hi));have:oj=ot:=jU (aa.symm.trans G);subst this;have h2:=O e he hb;rw[Z,eS Y]at h2;cases h2
 have HH:=Vk (P:=P) (C:=C) (h:=s.h) (sz:=l.length) (Lq:=λt=>VT P C .any l.toArray (Q .normal) (l.length - n) (GF l.length n) ⟨t,s.h⟩) z (l.take n) 0 s.t (λj hj=>by
  have ac:j < n:=by rw[q]at hj;exact hj
  simp[ac]) (by simpa using q) (by simpa[GF]using D) (by rw[q];simpa[GF]using I) hh
 refine FI hm ab ?_;have H':St.rel C ⟨s.t,s.h⟩ a {w with drawn:=w.drawn+1}:=by
  obtain⟨hd,S,ψ,J,U⟩:=H;have hb:Below w.heap.size w {w with drawn:=w.drawn+1}:=⟨rfl,rfl,rfl,jA _,λ_ _=>rfl⟩
  exact⟨hd,S,ψ,J.grow hb (λ_ h=>h) (λ_ h=>.inl h) J.lt,Az (show Ext w S s.h ψ {w with drawn:=w.drawn+1} S s.h ψ from Ext.grow s.h ψ (λk hk=>rfl) λ_ h=>h) _ _ U⟩
 have:=JE (Q':=λe a' w'=>e= .normal/\∃s',Q e s'/\s'.rel C a' w') (g:=l.length - n) (λlisted t a' w' hL H'=>by
  rw[hL.2.1];exact HE (λs a w h H=>⟨rfl,s,h,H⟩) _ _ _ _ _ hL.2.2 H') _ _ _ _ _ HH H'
 rw[q,show n+(l.length - n)=l.toArray.size by simp;omega]at this;exact this
section
variable{P:cG}{C:Ctx}{ops:Array bZ}{K:St->Prop}{listed:Array Bool}{g:Nat}{s:St}{t:List AV}{h:List ABlk}
def Aom(P:cG)(C:Ctx)(ops:Array bZ)(K:St->Prop)(g:Nat)(listed:Array Bool)(s:St)(rs:List Nat):Prop:=∀i∈rs,tOp P C ops i (VT P C .any ops K g (listed.setIfInBounds i aP)) s
theorem Lg(rs:List Nat)(z:dR .any ops listed=rs)(q:rs≠[])(hh:Aom P C ops K g listed s rs):VT P C .any ops K (g+1) listed s:=⟨λh0=>absurd (z▸h0) q,z▸hh⟩
theorem S8(q:dR .any ops listed= [])(hh:K s):VT P C .any ops K 0 listed s:=⟨q,hh⟩
theorem AP:Aom P C ops K g listed s []:=λi hi=>by cases hi
theorem Lh{rs:List Nat}{o:bZ}(q:ops[i]? =jT o)(hg:gA ops s.t o=jT aP)(h1:AOp P C o s (VT P C .any ops K g (listed.setIfInBounds i aP)))(h2:Aom P C ops K g listed s rs):Aom P C ops K g listed s (i::rs):=λj hj=>by
 rcases g9.1 hj with rfl|hj
 ·unfold tOp;simp only[q];exact⟨aP,hg,λ_=>h1,λe=>by cases e⟩
 ·exact h2 j hj
end
section
variable{P:cG}{C:Ctx}{ops:Array bZ}{md:dL}{h:List ABlk}{Inv:Array Bool->Prop}{n:Nat}
theorem Xk{v:AV}(aa:∀listed i,Inv listed->i∈dR md ops listed->i < n->Inv (listed.setIfInBounds i aP))(hi:ops[i]? =jT oi)
 (D:∀listed i,Inv listed->i < n->listed.getD i aP=aM->∀t,n<=t->t∉dR md ops listed)(ae:i < n)
 (Z:∀listed t,L listed t->∀j∈dR md ops listed,n<=j):
 ∀(f:Nat) (listed:Array Bool) (t:List AV),Inv listed->
  (∀j oj,ops[j]? =jT oj->j≠i->listed.getD j aP=aM->(∀e∈oj.after,dM md e=aP->e.on≠i)->oi.apart ops oj=aP)->
  i∈dR md ops listed->F9 P C ops h oi v t->
  Ai0 P C md ops h n L f (listed.setIfInBounds i aP) (Bl t oi.dst v)->Ai0 P C md ops h n L (f+1) listed t:=by
 intro f;induction f with
 |zero=>
  intro listed t G _ O hy H;have z:=(fC.1 O).1;refine⟨λh=>(by rw[h]at O;cases O),λj Y=>?_⟩;have I:j < n:=by
   rcases jD j n with h|h
   ·exact h
   ·exact absurd Y (D _ i G ae z j h)
  refine⟨I,?_⟩;by_cases q:j=i
  ·subst q;unfold aOp;simp only[hi];exact⟨v,hy,H⟩
  ·have:=Z _ _ H j (fE Y q);omega
 |succ f ih=>
  intro listed t G E O hy H;have z:=(fC.1 O).1;refine⟨λh=>(by rw[h]at O;cases O),λj Y=>?_⟩;have I:j < n:=by
   rcases jD j n with h|h
   ·exact h
   ·exact absurd Y (D _ i G ae z j h)
  refine⟨I,?_⟩;by_cases q:j=i
  ·subst q;unfold aOp;simp only[hi];exact⟨v,hy,H⟩
  ·have h1:=(H.2 j (fE Y q)).2;obtain⟨U,oj,ab,af⟩:=fC.1 Y;have ac:∀e∈oj.after,dM md e=aP->e.on≠i:=λe he hb ai=>by
    have h1:=af e he hb;rw[ai,eS z]at h1;cases h1
   have h2:=Ah6 ab (E j oj ab q U ac) hy h1;have J:∀k ok,ops[k]? =jT ok->k≠i->(listed.setIfInBounds j aP).getD k aP=aM->
    (∀e∈ok.after,dM md e=aP->e.on≠i)->oi.apart ops ok=aP:=λk ok hk ah z ag=>by
    refine E k ok hk ah ?_ ag;by_cases ad:j=k
    ·subst ad;exact U
    ·rw[eV aP ad]at z;exact z
   refine YV (λa' h3=>ih (listed.setIfInBounds j aP) a' (aa _ _ G Y I) J (fE O (jO q)) h3.1 ?_) h2;rw[aG _ _ q];exact h3.2
def aQo(P:cG)(C:Ctx)(ops:Array bZ)(h:List ABlk)(K:List AV->Prop):List Nat->List AV->Prop
 | [],t=>K t
 |i::rest,t=>∃o r,ops[i]? =jT o/\F9 P C ops h o r t/\aQo P C ops h K rest (Bl t o.dst r)
def GW:List Nat->Array Bool->Array Bool
 | [],l=>l
 |i::is,l=>GW is (l.setIfInBounds i aP)
def Ayj(ops:Array bZ)(n:Nat):List Nat->Array Bool->Bool
 | [],listed=>(dR .any ops listed).all λj=>decide (n<=j)
 |i::is,listed=>decide (i < n)&&(dR .any ops listed).contains i&&dN .any ops listed i&&Ayj ops n is (listed.setIfInBounds i aP)
theorem YW{Lq:List AV->Prop}(D:∀listed i,Inv listed->i∈dR .any ops listed->i < n->Inv (listed.setIfInBounds i aP))
 (z:∀listed i,Inv listed->i < n->listed.getD i aP=aM->∀t,n<=t->t∉dR .any ops listed):
 ∀(l:List Nat) (listed:Array Bool) (t:List AV),Inv listed->Ayj ops n l listed=aP->aQo P C ops h Lq l t->
 Ai0 P C .any ops h n (λq t'=>(∀j∈dR .any ops q,n<=j)/\q=GW l listed/\Lq t') l.length listed t
 | [],listed,t,_,I,hh=>⟨λj Y=>of_decide_eq_true (fP.1 I j Y),rfl,hh⟩
 |i::l,listed,t,E,I,hh=>by
  obtain⟨o,v,h0,O,hK⟩:=hh;simp only[Ayj,zaf]at I;obtain⟨⟨⟨H,U⟩,Z⟩,J⟩:=I;have G:i∈dR .any ops listed:=by simpa using U
  exact Xk D h0 z H (λq a' hL=>hL.1) l.length _ t E (dO h0 Z) G O (YW D z l _ _ (D _ _ E G H) J hK)
def X8(ops:Array bZ):List Nat->List AV->Option (List AV)
 | [],t=>jT t
 |i::is,t=>
  match ops[i]? with
  |some ⟨dst,.move x,_,_,_,jS⟩=>X8 ops is (Bl t dst (evA t x))
  |_=>jS
def Aaf(ops:Array bZ):List Nat->Array Bool->Bool
 | [],_=>aP
 |i::is,listed=>(dR .any ops listed).contains i&&dN .any ops listed i&&Aaf ops is (listed.setIfInBounds i aP)
theorem Om{Q:bC->Act->eG->Prop}(z:dQ ops=aP)(J:∀c a w,¬Q (.panic c) a w):∀(is:List Nat) (q:Nat) (listed:Array Bool) (t t':List AV) (a:Act) (w:eG),Aaf ops is listed=aP->X8 ops is t=jT t'->St.rel C ⟨t,h⟩ a w->
 (∀a',St.rel C ⟨t',h⟩ a' w->wpAny P .any ops Q q (GW is listed) a' w)->wpAny P .any ops Q (q+is.length) listed a w
 | [],q,listed,t,t',a,w,_,D,H,hk=>by
  cases D;exact hk a H
 |i::is,q,listed,t,t',a,w,O,D,H,hk=>by
  unfold X8 at D;split at D <;> try(cases D;done)
  rename_i dst x ty E af Z;simp only[Aaf,aL]at O;obtain⟨⟨Y,hf⟩,G⟩:=O;obtain⟨hd,S,ψ,hh,I⟩:=id H;have U:Yields P ops ⟨dst,.move x,ty,E,af,jS⟩ (a.eval x) a:=.inl ⟨by simp[dU],λw=>by simp[eR]⟩;rw[show q+(i::is).length=(q+is.length)+1 from by simp;omega];refine wpAny_take Z z hf Y (λc a w hq=>absurd hq (J c _ w)) U ?_;exact Om z J is q _ _ t' _ w G D ⟨by rw[put_defers];exact hd,S,ψ,hh,KE I dst (Bv I x)⟩ hk
end
def Ai4(ops:Array bZ):Nat->Nat->Nat->Bool
 |0,_,_=>aM
 |f+1,j,i=>
  match ops[j]? with
  |some q=>q.after.any λe=>dM .any e&&(e.on ==i||Ai4 ops f e.on i)
  |none=>aM
theorem M7{ops:Array bZ}{n:Nat}{listed:Array Bool}(q:bG .any ops n listed):∀(f j i:Nat),(∀z,ops[j]? =jT z->∀e∈z.after,dM .any e=aP->listed.getD e.on aM=aP)->Ai4 ops f j i=aP->listed.getD i aM=aP
 |0,j,i,_,h=>by cases h
 |f+1,j,i,U,h=>by
  unfold Ai4 at h;cases G:ops[j]? with
  |none=>rw[G]at h;cases h
  |some z=>
   rw[G]at h;obtain⟨e,Y,J⟩:=Array.any_eq_true'.1 h;simp only[aL,aO,beq_iff_eq]at J;have O:=U z G e Y J.1;rcases J.2 with h1|h1
   ·rw[<-h1];exact O
   ·exact M7 q f e.on i (λD E Z H I=>q.closed e.on D E O Z H I) h1
def Azv(ops:Array bZ)(n:Nat)(fs is:List Nat):Bool:=
 (dQ ops&&KI ops)&&aU (n<=ops.size)&&(fs.all λi=>decide (i < n))&&Aaf ops fs (aF ops.size aM)&&Ayj ops n is (GW fs (aF ops.size aM))&&((iI ops.size).all λt=>decide (t < n)||(iI n).all λi=>fs.contains i||Ai4 ops ops.size t i)
theorem OC:∀(l:List Nat) (a:Array Bool) (j:Nat),a.getD j aM=aP->(GW l a).getD j aM=aP
 | [],a,j,h=>h
 |i::l,a,j,h=>OC l _ j (eW h)
theorem QL:∀(l:List Nat) (a:Array Bool) (j:Nat),j∈l->j < a.size->(GW l a).getD j aM=aP
 | [],a,j,h,_=>by cases h
 |i::l,a,j,h,hs=>by
  unfold GW;rcases g9.1 h with rfl|h
  ·exact OC l _ _ (by simp[aA,hs])
  ·exact QL l _ j h (by simpa using hs)
theorem Pk{ops:Array bZ}{n:Nat}:∀(fs:List Nat) (listed:Array Bool),bG .any ops n listed->(fs.all λi=>decide (i < n))=aP->Aaf ops fs listed=aP->bG .any ops n (GW fs listed)
 | [],listed,q,_,_=>q
 |i::fs,listed,q,z,D=>by
  simp only[List.all_cons,zaf]at z;simp only[Aaf,aL]at D;exact Pk fs _ (q.set (by simpa using D.1.1) z.1) z.2 D.2
theorem Aii{P:cG}{C:Ctx}{s:St}(n:Nat)(fs is:List Nat){t1:List AV}(hm:P.follows .mixedOrders=aP)(hB:Azv l.toArray n fs is=aP)(hl:fs.length+is.length=n/\n<=l.length)(ah:X8 l.toArray fs s.t=jT t1)
 (hh:aQo P C l.toArray s.h (λt=>VT P C .any l.toArray (Q .normal) (l.length - n) (GW is (GW fs (aF l.length aM))) ⟨t,s.h⟩) is t1):Awp P C (.region id l.toArray aP) Q s:=λa w H=>by
 simp only[Azv,zaf]at hB;obtain⟨⟨⟨⟨⟨⟨Z,ag⟩,hn⟩,ad⟩,z⟩,ab⟩,hs⟩:=hB;have J:bG .any l.toArray n (aF l.toArray.size aM):=
  ⟨by simp,λj oj _ hl=>(by rw[eU]at hl;cases hl),λt _ ht=>eT (by simpa using ht) (eU _ _)⟩
 let Inv:Array Bool->Prop:=λlisted=>bG .any l.toArray n listed/\∀j∈fs,listed.getD j aM=aP
 have Y:∀listed i,Inv listed->i∈dR .any l.toArray listed->i < n->Inv (listed.setIfInBounds i aP):=λlisted i q hr hi=>⟨q.1.set hr hi,λj hj=>eW (q.2 j hj)⟩
 have D:∀(listed:Array Bool) (i:Nat),Inv listed->i < n->listed.getD i aP=aM->∀t,n<=t->t∉dR .any l.toArray listed:=by
  intro listed i q hi O t ht hr;obtain⟨_,ot,aa,ae⟩:=fC.1 hr;have U:t < l.toArray.size:=(aC.1 aa).1;have h1:=fP.1 hs t (iE.2 U);simp only[zat]at h1;rcases h1 with h1|h1
  ·omega
  ·have h2:=fP.1 h1 i (iE.2 hi);simp only[aO]at h2;rcases h2 with h2|h2
   ·have:=q.2 i (by simpa using h2);rw[eS O]at this;cases this
   ·have h3:=M7 q.1 _ t i (λoj af e he hb=>by
     have:oj=ot:=jU (af.symm.trans aa);subst this;exact ae e he hb) h2
    rw[eS O]at h3;cases h3
 have I:Inv (GW fs (aF l.toArray.size aM)):=⟨Pk fs _ J ad z,λj hj=>QL fs _ j hj (by
  have:=fP.1 ad j hj;simp only[decide_eq_true_eq]at this;simp;omega)⟩
 have HH:=YW (P:=P) (C:=C) (h:=s.h) (Inv:=Inv) (Lq:=λt=>VT P C .any l.toArray (Q .normal) (l.length - n) (GW is (GW fs (aF l.length aM))) ⟨t,s.h⟩) Y D is _ t1 I ab hh;have H':St.rel C ⟨s.t,s.h⟩ a {w with drawn:=w.drawn+1}:=by
  obtain⟨hd,S,ψ,ac,hl⟩:=H;have hb:Below w.heap.size w {w with drawn:=w.drawn+1}:=⟨rfl,rfl,rfl,jA _,λ_ _=>rfl⟩
  exact⟨hd,S,ψ,ac.grow hb (λ_ h=>h) (λ_ h=>.inl h) ac.lt,Az (show Ext w S s.h ψ {w with drawn:=w.drawn+1} S s.h ψ from Ext.grow s.h ψ (λk hk=>rfl) λ_ h=>h) _ _ hl⟩
 refine FI hm ag ?_;have G:=Om (P:=P) (C:=C) (h:=s.h) (Q:=λe a' w'=>e= .normal/\∃E,Q e E/\E.rel C a' w') Z (λc a w hq=>by cases hq.1) fs (is.length+(l.length - n)) (aF l.toArray.size aM) s.t t1 a {w with drawn:=w.drawn+1} z ah H' λa' ai=>
  JE (Q':=λe a' w'=>e= .normal/\∃E,Q e E/\E.rel C a' w') (g:=l.length - n) (λlisted t a' w' hL H'=>by
   rw[hL.2.1];have:=hL.2.2;simp only[iM]at this⊢;exact HE (λs a w h H=>⟨rfl,s,h,H⟩) _ _ _ _ _ this H') _ _ _ _ _ HH ai
 rw[show is.length+(l.length - n)+fs.length=l.toArray.size by simp;omega]at G;exact G
section
variable{P:cG}{C:Ctx}{ops:Array bZ}{K:List AV->Prop}{h:List ABlk}{t:List AV}
theorem Azk{is:List Nat}{o:bZ}(q:ops[i]? =jT o)(hg:gA ops t o=jT aP)(hq:QOp P C o t h (aQo P C ops h K is)):aQo P C ops h K (i::is) t:=let ⟨r,h1,h2⟩:=hq;⟨o,r,q,.inl ⟨hg,h1⟩,h2⟩
theorem Aod{l:List Nat}(ht:t=t')(hk:aQo P C ops h K l t'):aQo P C ops h K l t:=by subst ht;exact hk
theorem Arg(hk:K t):aQo P C ops h K [] t:=hk
end
section
variable{P:cG}{C:Ctx}{t:List AV}{h:List ABlk}{o:bZ}
theorem KY.res{b:Nat}{rs:List AV}(hi:h[i]? =jT (.res R))(hc:Bh rs=aP)
 (G:∀w S,R.R w S->∀j r,rs[j]? =jT r->∃u,w.cell? ⟨b,off+j,jS⟩=jT u/\AV.rel w S [] ψ0 r u):KY h (.lit (.pointer (jT ⟨b,off,jS⟩))) rs:=λC S ψ w v H D=>by
 unfold AV.rel at D;refine⟨b,off,D,λj y hy=>?_⟩;obtain⟨u,h1,h2⟩:=G w S (H.blk i _ hi).2 j y hy;have z:AV.cl y=aP:=by
  have:∀(l:List AV),Bh l=aP->∀y∈l,AV.cl y=aP:=λl=>by
   induction l with
   |nil=>intro _ y hy;cases hy
   |cons x l E=>
    intro q y hy;unfold Bh at q;rw[aL]at q;rcases g9.1 hy with rfl|hy
    ·exact q.1
    ·exact E q.2 y hy
  exact this rs hc y (iD hy)
 exact⟨u,h1,Dv _ _ z h2⟩
theorem Nz{n b:Nat}[AG P ty aM n](D:o.op= .load ty x)(hx:evA t x= .lit (.pointer (jT ⟨b,off,jS⟩)))(hi:h[i]? =jT (.res R))(hc:AV.cl r=aP)
 (z:∀w S,R.R w S->∃u,w.cell? ⟨b,off,jS⟩=jT u/\AV.rel w S [] ψ0 r u):AT P C t h o r:=
 D9 (cells:=[r]) D AG.eq hx (KY.res (rs:=[r]) hi (by unfold Bh;rw[hc];rfl) λw S E j y q=>by
  cases j with
  |zero=>cases q;exact z w S E
  |succ j=>cases q) rfl
theorem Vs{y:cF}{ik:bR}{k n b len c:Nat}[ES P ty n](z:o.op= .indexAddr ty x y)(hx:evA t x= .lit (.slice (jT ⟨b,off,jS⟩) len c))(D:evA t y= .lit (.int ik (k:Int)))(hk:k < len):
 AT P C t h o (.lit (.pointer (jT ⟨b,off+k * n,jS⟩))):=
 AL λS ψ w ρ H q=>by
  have h1:=q x (by simp[z,bY]);have h2:=q y (by simp[z,bY]);rw[hx]at h1;rw[D]at h2;unfold AV.rel at h1 h2;have E:=GE (P:=P) (w:=w) (b:=b) (off:=off) (c:=c) (ik:=ik) (ES.eq (P:=P) (ty:=ty) (n:=n)) hk;exact⟨_,by simp[eR,z,h1,h2,E];rfl,by unfold AV.rel;rfl⟩
def FnR(P:cG)(f:bF)(R:Res)(args:List AV)(r:AV):Prop:=
 Ca P f=aP/\∀(w:eG) (S:Nat->Prop) (vs:List eC),(∀k,S k->k < w.heap.size)->(∀g,R.F g->g < w.heap.size)->R.R w S->Ae w S [] ψ0 args vs->
  a8 P f vs.toArray w λe w'=>∃v,e= .returned v/\YZ w S [] ψ0 r v w'
theorem KW{args:Array cF}(hi:h[i]? =jT (.res R))
 (D:o.op= .call {callee:=.value (.func f),args:=args,argTypes:=tys})(E:FnR P f R xs r)(hx:args.toList.map (evA t)=xs)(hc:Bh xs=aP)(Y:AV.cl r=aP):AT P C t h o r:=by
 intro S ψ w ρ H q;have h1:ρ (.func f)= .func (.func f) #[] #[]:=by
  have:=q (.func f) (by rw[D];exact aD.2 (.inl (by simp)));simpa[evA,AV.rel]using this
 rw[Cv D E.1 ρ w h1];refine⟨rfl,?_⟩;have h2:Ae w S h ψ xs (args.toList.map ρ):=by
  rw[<-hx];exact Cd λx z=>q x (by rw[D];exact aD.2 (.inr (aE.1 z)))
 have G:=H.blk i _ hi;have h3:=E.2 w S (args.toList.map ρ) H.lt (λg hg=>(G.1 g hg).2.2) G.2 (Bi _ _ hc h2);rw[show(args.map ρ)=(args.toList.map ρ).toArray from(by rw[<-aI])];refine h3.mono ?_;rintro e w' ⟨v,Z,hb,S',U,O,J,I⟩;exact⟨v,Z,hb,S',U,O,J,Dv _ _ Y I⟩
structure Turns{ι:Type}(w:World)(S:Nat->Prop)(F:Nat->Prop)(Rs:ι->Res)(val:ι->Value)(v:Value)(w':World):Prop where
 gr:Gr F w w'
 some:∃p,v=val p/\(Rs p).R w' S/\∀k,(Rs p).F k->(F k\/w.heap.size<=k)/\k < w'.heap.size
def VR{ι:Type}(P:cG)(w:eG)(S:Nat->Prop)(F:Nat->Prop)(Rs:ι->Res)(val:ι->eC):dV Next->Prop
 | .ok (.value v) w'=>Turns w S F Rs val v w'
 | .ok .skip w'=>Turns w S F Rs val undef w'
 | .ok (.enter f args) w1=>w1=w/\a8 P f args w λe w'=>∃v,e= .returned v/\Turns w S F Rs val v w'
 |_=>False
variable{ι:Type}{Rs:ι->Res}{val:ι->eC}
theorem Le{w:eG}{S:Nat->Prop}{ρ:cF->eC}(hq:VR P w S F Rs val ((eR ρ o).run P w)):∀c,o.op≠.defer c:=λc e=>by
 simp only[eR,e,dX]at hq;generalize (fF ρ c o.type).run P w=x at hq;cases x with
 |ok d w'=>exact hq
 |halt x w'=>exact hq
theorem S4{K:Act->eG->Prop}{w:eG}{S:Nat->Prop}{res:dV Next}(hq:VR P w S F Rs val res)(q:∀v w',Turns w S F Rs val v w'->K (a.put o.dst v) w'):o.upon P a K Q' res:=by
 cases res with
 |ok n w'=>
  cases n <;> simp only[VR]at hq <;> simp only[cB]
  case value v=>exact q v w' hq
  case skip=>exact q undef w' hq
  case enter f args=>
   obtain⟨rfl,hc⟩:=hq;exact hc.mono λe w'' ⟨v,z,hg⟩=>by subst z;exact q v w'' hg
 |halt x w'=>simp only[VR]at hq
theorem AOp.turn{K:St->Prop}(hi:h[i]? =jT (.res R))(U:∀p,(Rs p).mrk=R.mrk)
 (hq:∀S ψ w (ρ:cF->eC),HRel C h S ψ w->R.R w S->(∀g,R.F g->g < w.heap.size)->(∀x∈o.op.operands,AV.rel w S h ψ (evA t x) (ρ x))->VR P w S R.F Rs val ((eR ρ o).run P w))
 (hK:∀p,K ⟨Bl t o.dst (.lit (val p)),h.set i (.res (Rs p))⟩):AOp P C o ⟨t,h⟩ K:=by
 rintro Q' a w ⟨Z,S,ψ,H,I⟩;have D:=H.blk i _ hi;have q:=hq S ψ w a.eval H D.2 (λg hg=>(D.1 g hg).2.2) λx _=>Bv I x
 refine⟨Le q,S4 q λv w' E=>?_⟩;obtain⟨p,rfl,hR,J⟩:=E.some;have z:∀k,S k->w'.heap[k]? =w.heap[k]?:=λk hk=>E.gr.block k (H.lt k hk) λY=>(D.1 k Y).2.1 hk
 have X:Ext w S h ψ w' S (h.set i (.res (Rs p))) (Bo ψ i (ψ i)):=Ext.set z hi (λc' hc=>by simp[ABlk.ver]at hc) λh=>by simp[AZ]at h
 have G:Hv C.N w' S (h.set i (.res (Rs p))) (Bo ψ i (ψ i)) (ψ i) (.res (Rs p)):=⟨λg hg=>by
  obtain⟨h1,h2⟩:=J g hg;rcases h1 with h1|h1
  ·exact⟨(D.1 g h1).1,(D.1 g h1).2.1,h2⟩
  ·exact⟨λO=>by have:=H.nlt g O;have:=H.bel.size;omega,λhs=>by have:=H.lt g hs;omega,h2⟩,hR⟩
 exact⟨_,hK p,Iw (s:=⟨t,h⟩) hi Z I (H.set hi V E.gr X G λg hg=>(J g hg).1) X (by unfold AV.rel;rfl) (by show(Rs p).mrk.map Kb=R.mrk.map Kb;rw[U p])⟩
theorem CX{K:St->Prop}(O:∀p,(Rs p).mrk= [])
 (hq:∀S ψ w (ρ:cF->eC),HRel C h S ψ w->(∀x∈o.op.operands,AV.rel w S h ψ (evA t x) (ρ x))->VR P w S (λ_=>False) Rs val ((eR ρ o).run P w))
 (Z:∀p,K ⟨Bl t o.dst (.lit (val p)),h++[.res (Rs p)]⟩):AOp P C o ⟨t,h⟩ K:=by
 rintro Q' a w ⟨U,S,ψ,H,E⟩;have z:=hq S ψ w a.eval H λx _=>Bv E x
 refine⟨Le z,S4 z λv w' q=>?_⟩;obtain⟨p,rfl,Y,I⟩:=q.some;have G:Below w.heap.size w w':=⟨q.gr.os,q.gr.tape,q.gr.output,q.gr.size,λk hk=>q.gr.block k hk λh=>h⟩
 have X:Ext w S h ψ w' S (h++[.res (Rs p)]) (Bo ψ h.length (val p)):=Ext.push _ _ λk hk=>G.block k (H.lt k hk)
 have D:Hv C.N w' S (h++[.res (Rs p)]) (Bo ψ h.length (val p)) (val p) (.res (Rs p)):=⟨λg hg=>by
  obtain⟨h1,h2⟩:=I g hg;rcases h1 with h1|h1
  ·exact h1.elim
  ·exact⟨λJ=>by have:=H.nlt g J;have:=H.bel.size;omega,λhs=>by have:=H.lt g hs;omega,h2⟩,Y⟩
 exact⟨_,Z p,Ow (s:=⟨t,h⟩) U E (H.push G D λg hg=>by
  rcases(I g hg).1 with h1|h1
  ·exact h1.elim
  ·exact h1) X (by unfold AV.rel;rfl) (by show(Rs p).mrk.map Kb= [];rw[O p];rfl)⟩
def M3(P:cG)(f:bF)(args:List AV)(Rs:ι->Res)(val:ι->eC):Prop:=
 Ca P f=aP/\∀(w:eG) (S:Nat->Prop) (vs:List eC),(∀k,S k->k < w.heap.size)->Ae w S [] ψ0 args vs->
  a8 P f vs.toArray w λe w'=>∃v,e= .returned v/\Turns w S (λ_=>False) Rs val v w'
theorem Cr{args:Array cF}{K:St->Prop}
 (D:o.op= .call {callee:=.value (.func f),args:=args,argTypes:=tys})(E:M3 P f xs Rs val)(G:∀p,(Rs p).mrk= [])(hx:args.toList.map (evA t)=xs)(hc:Bh xs=aP)
 (I:∀p,K ⟨Bl t o.dst (.lit (val p)),h++[.res (Rs p)]⟩):AOp P C o ⟨t,h⟩ K:=by
 refine CX G (λS ψ w ρ H q=>?_) I;have h1:ρ (.func f)= .func (.func f) #[] #[]:=by
  have:=q (.func f) (by rw[D];exact aD.2 (.inl (by simp)));simpa[evA,AV.rel]using this
 rw[Cv D E.1 ρ w h1];refine⟨rfl,?_⟩;have h2:Ae w S h ψ xs (args.toList.map ρ):=by
  rw[<-hx];exact Cd λx z=>q x (by rw[D];exact aD.2 (.inr (aE.1 z)))
 rw[show(args.map ρ)=(args.toList.map ρ).toArray from(by rw[<-aI])];exact E.2 w S (args.toList.map ρ) H.lt (Bi _ _ hc h2)
def Aie(P:cG)(f:bF)(R:Res)(args:List AV)(Rs:ι->Res)(val:ι->eC):Prop:=
 Ca P f=aP/\∀(w:eG) (S:Nat->Prop) (vs:List eC),(∀k,S k->k < w.heap.size)->(∀g,R.F g->g < w.heap.size)->R.R w S->Ae w S [] ψ0 args vs->
  a8 P f vs.toArray w λe w'=>∃v,e= .returned v/\Turns w S (λ_=>False) Rs val v w'
theorem VJ{args:Array cF}{K:St->Prop}(hi:h[i]? =jT (.res R))
 (D:o.op= .call {callee:=.value (.func f),args:=args,argTypes:=tys})(E:Aie P f R xs Rs val)(I:∀p,(Rs p).mrk= [])(hx:args.toList.map (evA t)=xs)(hc:Bh xs=aP)
 (J:∀p,K ⟨Bl t o.dst (.lit (val p)),h++[.res (Rs p)]⟩):AOp P C o ⟨t,h⟩ K:=by
 refine CX I (λS ψ w ρ H q=>?_) J;have h1:ρ (.func f)= .func (.func f) #[] #[]:=by
  have:=q (.func f) (by rw[D];exact aD.2 (.inl (by simp)));simpa[evA,AV.rel]using this
 rw[Cv D E.1 ρ w h1];refine⟨rfl,?_⟩;have h2:Ae w S h ψ xs (args.toList.map ρ):=by
  rw[<-hx];exact Cd λx z=>q x (by rw[D];exact aD.2 (.inr (aE.1 z)))
 rw[show(args.map ρ)=(args.toList.map ρ).toArray from(by rw[<-aI])];have G:=H.blk i _ hi;exact E.2 w S (args.toList.map ρ) H.lt (λg hg=>(G.1 g hg).2.2) G.2 (Bi _ _ hc h2)
def DK(P:cG)(f:bF)(R:Res)(args:List AV)(Rs:ι->Res)(val:ι->eC):Prop:=
 Ca P f=aP/\∀(w:eG) (S:Nat->Prop) (vs:List eC),(∀k,S k->k < w.heap.size/\¬R.F k)->(∀g,R.F g->g < w.heap.size)->R.R w S->Ae w S [] ψ0 args vs->
  a8 P f vs.toArray w λe w'=>∃v,e= .returned v/\Turns w S R.F Rs val v w'
theorem BQ{args:Array cF}{K:St->Prop}(hi:h[i]? =jT (.res R))
 (D:o.op= .call {callee:=.value (.func f),args:=args,argTypes:=tys})(G:DK P f R xs Rs val)(I:∀p,(Rs p).mrk=R.mrk)(hx:args.toList.map (evA t)=xs)(hc:Bh xs=aP)
 (U:∀p,K ⟨Bl t o.dst (.lit (val p)),h.set i (.res (Rs p))⟩):AOp P C o ⟨t,h⟩ K:=by
 refine AOp.turn hi I (λS ψ w ρ H O E q=>?_) U;have h1:ρ (.func f)= .func (.func f) #[] #[]:=by
  have:=q (.func f) (by rw[D];exact aD.2 (.inl (by simp)));simpa[evA,AV.rel]using this
 rw[Cv D G.1 ρ w h1];refine⟨rfl,?_⟩;have h2:Ae w S h ψ xs (args.toList.map ρ):=by
  rw[<-hx];exact Cd λx z=>q x (by rw[D];exact aD.2 (.inr (aE.1 z)))
 rw[show(args.map ρ)=(args.toList.map ρ).toArray from(by rw[<-aI])];exact G.2 w S (args.toList.map ρ) (λk hk=>⟨H.lt k hk,λJ=>((H.blk i _ hi).1 k J).2.1 hk⟩) E O (Bi _ _ hc h2)
theorem Ju{R':Res}(hi:h[i]? =jT (.res R))(q:∀g,R'.F g->R.F g)(I:∀w S,R.R w S->R'.R w S)(D:R'.mrk=R.mrk):St.le C ⟨t,h⟩ ⟨t,h.set i (.res R')⟩:=λa w ⟨G,S,ψ,H,E⟩=>by
 have z:=H.blk i _ hi;have X:Ext w S h ψ w S (h.set i (.res R')) (Bo ψ i (ψ i)):=Ext.set (λ_ _=>rfl) hi (λJ hc=>by simp[ABlk.ver]at hc) λh=>by simp[AZ]at h
 refine⟨by rw[G];exact(DO hi (by show R'.mrk.map Kb=R.mrk.map Kb;rw[D])).symm,S,_,H.set (v':=ψ i) hi V ⟨rfl,rfl,rfl,jA _,λ_ _ _=>rfl⟩ X ⟨λg hg=>z.1 g (q g hg),I w S z.2⟩ λg hg=>.inl (q g hg),Az X _ _ E⟩
theorem KQ{R1 R2:Res}(Z:i≠j)(hi:h[i]? =jT (.res R1))(E:h[j]? =jT (.res R2))(h1:R1.mrk= [])(h2:R2.mrk= [])(h3:R.mrk= [])(hF:∀g,R.F g->R1.F g\/R2.F g)
 (hR:∀w S,R1.R w S->R2.R w S->(∀g,R1.F g->¬R2.F g)->R.R w S):St.le C ⟨t,h⟩ ⟨t,(h.set j .dead).set i (.res R)⟩:=λa w ⟨hd,S,ψ,H,hl⟩=>by
 have ae:=H.blk i _ hi;have ad:=H.blk j _ E;have ag:=(gJ.1 hi).1;have af:=(gJ.1 E).1;have ab:∀g,R1.F g->¬R2.F g:=λg D O=>H.dis i j Z (by rw[hi];rfl) (by rw[E];rfl) g (by rw[hi];exact D) (by rw[E];exact O)
 have X1:Ext w S h ψ w S (h.set j .dead) (Bo ψ j (ψ j)):=Ext.set (λ_ _=>rfl) E (λc' hc=>by simp[ABlk.ver]at hc) λh=>by simp[AZ]at h
 have aa:(h.set j .dead)[i]? =jT (.res R1):=by rw[gN (jO Z)];exact hi
 have X2:Ext w S (h.set j .dead) (Bo ψ j (ψ j)) w S ((h.set j .dead).set i (.res R)) (Bo (Bo ψ j (ψ j)) i (Bo ψ j (ψ j) i)):=Ext.set (λ_ _=>rfl) aa (λc' hc=>by simp[ABlk.ver]at hc) λh=>by simp[AZ]at h
 have e:∀(φ:Nat->eC) k,Bo φ k (φ k)=φ:=λφ k=>funext λq=>by unfold Bo;split <;> simp_all
 rw[e]at X1;rw[e,e]at X2;have X:Ext w S h ψ w S ((h.set j .dead).set i (.res R)) ψ:=⟨λ_ _=>rfl,λ_ h=>h,by simp,λk c' hk hv=>by
  obtain⟨c1,D,O,k3⟩:=X2.ver k c' (by simpa using hk) hv;obtain⟨c2,k4,k5,k6⟩:=X1.ver k c1 hk D;exact⟨c2,k4,by omega,λe'=>⟨rfl,by rw[(k3 (by omega)).2,(k6 (by omega)).2]⟩⟩,λk hk hv=>⟨(X1.box k hk (X2.box k (by simpa using hk) hv).1).1,rfl⟩⟩
 have G:∀k b,((h.set j .dead).set i (.res R))[k]? =jT b->(k=i/\b= .res R)\/(k=j/\b= .dead)\/(k≠i/\k≠j/\h[k]? =jT b):=λk b z=>by
  by_cases J:k=i
  ·subst J;rw[gO (by simpa using ag)]at z;cases z;exact .inl ⟨rfl,rfl⟩
  ·rw[gN (jO J)]at z;by_cases I:k=j
   ·subst I;rw[gO af]at z;cases z;exact .inr (.inl ⟨rfl,rfl⟩)
   ·rw[gN (jO I)]at z;exact .inr (.inr ⟨J,I,z⟩)
 refine⟨?_,S,ψ,⟨H.bel,H.nlt,H.lt,H.sub,H.new,λk b z=>?_,λk q Y hk hq g g1 g2=>?_⟩,Az X _ _ hl⟩
 ·rw[hd];show mkD h=_;rw[DO aa (by show R.mrk.map Kb=R1.mrk.map Kb;rw[h1,h3]),DO E (by show []=R2.mrk.map Kb;rw[h2];rfl)]
 ·rcases G k b z with⟨rfl,rfl⟩|⟨rfl,rfl⟩|⟨_,_,z⟩
  ·exact⟨λg hg=>(hF g hg).elim (ae.1 g) (ad.1 g),hR w S ae.2 ad.2 ab⟩
  ·trivial
  ·exact(H.blk k b z).keep X λg _=>⟨rfl,λh=>h⟩
 ·have U:∀k,ABlk.live ((h.set j .dead).set i (.res R))[k]? =aP->ftp ((h.set j .dead).set i (.res R))[k]? (ψ k) g->(k=i/\(R1.F g\/R2.F g))\/(k≠i/\k≠j/\ABlk.live h[k]? =aP/\ftp h[k]? (ψ k) g):=λk D O=>by
   obtain⟨b,z⟩:=DQ D;rw[z]at D O;rcases G k b z with⟨rfl,rfl⟩|⟨rfl,rfl⟩|⟨q1,q2,ac⟩
   ·exact .inl ⟨rfl,hF g O⟩
   ·cases D
   ·exact .inr ⟨q1,q2,by rw[ac];exact D,by rw[ac];exact O⟩
  have no:∀k,k≠i->k≠j->ABlk.live h[k]? =aP->ftp h[k]? (ψ k) g->(R1.F g\/R2.F g)->False:=λk q1 q2 q3 q4 q5=>by
   rcases q5 with q5|q5
   ·exact H.dis k i q1 q3 (by rw[hi];rfl) g q4 (by rw[hi];exact q5)
   ·exact H.dis k j q2 q3 (by rw[E];rfl) g q4 (by rw[E];exact q5)
  rcases U k hk g1 with⟨e1,f1⟩|⟨a1,a2,a3,a4⟩ <;> rcases U q hq g2 with⟨e2,f2⟩|⟨b1,b2,b3,b4⟩
  ·exact Y (e1.trans e2.symm)
  ·exact no q b1 b2 b3 b4 f1
  ·exact no k a1 a2 a3 a4 f2
  ·exact H.dis k q Y a3 b3 g a4 b4
end
def Arl(P:cG)(E:bF)(D:Array eC)(z:Nat->Prop)(G:eG)(encs:Nat->List eC->Prop)(N:Nat):Prop:=
 ∀(l:Nat) (J:Nat->eG->Prop) (W:eG),KS z G W->
  (∀k vs q,k < N->encs k vs->J k q->YieldAt bD 2 P l vs.toArray q λe W'=>e= .returned (.bool aP)/\J (k+1) W'/\KS z q W')->
  J 0 W->CallsIn bD 3 P E (#[.func (.yield l) #[] #[]]++D) W λe W'=>(∃v,e= .returned v)/\J N W'
def Bk(ds:List Nat):Res:=⟨ds,λg=>g∈ds,λw _=>ds.Nodup/\∀d∈ds,w.heap[d]? =jT (.deferred (jT [])),λh hk _ _=>⟨h.1,λd q=>(hk d q).trans (h.2 d q)⟩⟩
def owns(h:List ABlk)(ψ:Nat->eC)(g:Nat):Prop:=∃j,ABlk.live h[j]? =aP/\ftp h[j]? (ψ j) g
section
variable{C:Ctx}{h h':List ABlk}{S:Nat->Prop}{ψ:Nat->eC}{w w' W W':eG}{N N':Nat->Prop}
theorem Hv.re{b:ABlk}(H:Hv N w S h ψ v b)(q:∀g,ftp (jT b) v g->ABlk.live (jT b)=aP->¬N' g):Hv N' w S h ψ v b:=by
 cases b with
 |dead=>trivial
 |box cells=>
  obtain⟨g,cs,e,rfl,h1,h2,z,D⟩:=H;exact⟨g,cs,e,rfl,q g V V,h2,z,D⟩
 |row ver e T l=>
  obtain⟨cells,h1,h0,h2,z⟩:=H;exact⟨cells,h1,h0,h2,λg hg=>⟨q g (AU hg) V,(z g hg).2⟩⟩
 |res R=>exact⟨λg hg=>⟨q g hg V,(H.1 g hg).2⟩,H.2⟩
theorem HRel.own_lt(H:HRel C h S ψ w){g:Nat}(hg:owns h ψ g):¬C.N g/\g < w.heap.size/\¬S g:=by
 obtain⟨j,h1,h2⟩:=hg;obtain⟨b,q⟩:=DQ h1;rw[q]at h1 h2;exact(H.blk j b q).lt h1 g h2
theorem HRel.re(H:HRel C h S ψ W)(D:∀k,S k->W'.heap[k]? =W.heap[k]?)(I:∀k,owns h ψ k->W'.heap[k]? =W.heap[k]?)(N':Nat->Prop)(E:∀k,N' k->k < W'.heap.size/\¬owns h ψ k)(rd:Option Nat):HRel ⟨W',S,N',rd⟩ h S ψ W':=by
 refine⟨Kp.refl _ _,λk hk=>(E k hk).1,λk hk=>?_,λ_ h=>h,λ_ h=>.inl h,λi b hi=>?_,H.dis⟩
 ·have h1:=D k hk;rw[aB (H.lt k hk)]at h1;exact(aC.1 h1).1
 ·by_cases z:ABlk.live (jT b)=aP
  ·have q:∀g,ftp (jT b) (ψ i) g->owns h ψ g:=λg hg=>⟨i,by rw[hi];exact z,by rw[hi];exact hg⟩
   exact Hv.re ((H.blk i b hi).keep (Ext.grow h ψ D λ_ h=>h) λg hg=>⟨I g (q g hg),λh=>h⟩) λg hg _ G=>(E g G).2 (q g hg)
  ·cases b <;> simp[ABlk.live]at z
   trivial
theorem HRel.to{J:Ctx}(H:HRel J h S ψ W)(G:Kp C.N C.w0 W)(D:∀k,C.N k->k < C.w0.heap.size)(q:∀k,C.S0 k->S k)(E:∀k,S k->C.S0 k\/C.w0.heap.size<=k)(z:∀g,owns h ψ g->¬C.N g):HRel C h S ψ W:=
 ⟨G,D,H.lt,q,E,λi b hi=>(H.blk i b hi).re λg hg I=>z g ⟨i,by rw[hi];exact I,by rw[hi];exact hg⟩,H.dis⟩
theorem HRel.cut(H:HRel C h S ψ w)(hc:Cut h h')(O:∀b∈h',Al1 h'.length b=aP):HRel C h' S ψ w:=by
 refine⟨H.bel,H.nlt,H.lt,H.sub,H.new,λi b hi=>?_,λi j q h1 h2=>by rw[hc.same h1,hc.same h2];exact H.dis i j q (hc.live h1) (hc.live h2)⟩;rcases hc.blk i b hi with rfl|h1
 ·trivial
 ·have z:=H.blk i b h1;cases b with
  |dead=>trivial
  |box cells=>
   obtain⟨g,cs,e,J,I,G,E,D⟩:=z;exact⟨g,cs,e,J,I,G,E,ET hc _ _ (O _ (iD hi)) D⟩
  |row ver e T l=>exact z
  |res R=>exact z
theorem Aj6(hc:Cut h h'){g:Nat}(hg:owns h' ψ g):owns h ψ g:=by
 obtain⟨j,h1,h2⟩:=hg;exact⟨j,hc.live h1,by rw[<-hc.same h1];exact h2⟩
theorem HRel.rise{p:Nat}(H:HRel C h S ψ w)(O:h[p]? =jT .dead)(U:R.R w S)(J:∀g,R.F g->¬C.N g/\¬S g/\g < w.heap.size/\¬owns h ψ g):HRel C (h.set p (.res R)) S ψ w:=by
 have z:=(gJ.1 O).1;have X:Ext w S h ψ w S (h.set p (.res R)) (Bo ψ p (ψ p)):=Ext.set (λ_ _=>rfl) O (λY hc=>by simp[ABlk.ver]at hc) λh=>by simp[AZ]at h
 have e:Bo ψ p (ψ p)=ψ:=funext λj=>by unfold Bo;split <;> simp_all
 rw[e]at X;refine⟨H.bel,H.nlt,H.lt,H.sub,H.new,λi b hi=>?_,λi j I hi G g h1 h2=>?_⟩
 ·by_cases q:i=p
  ·subst q;rw[gO z]at hi;cases hi;exact⟨λg hg=>⟨(J g hg).1,(J g hg).2.1,(J g hg).2.2.1⟩,U⟩
  ·rw[gN (jO q)]at hi;exact(H.blk i b hi).keep X λg _=>⟨rfl,λh=>h⟩
 ·have D:∀j,j≠p->ABlk.live (h.set p (.res R))[j]? =aP->ftp (h.set p (.res R))[j]? (ψ j) g->owns h ψ g:=λj G h1 h2=>by
   rw[gN (jO G)]at h1 h2;exact⟨j,h1,h2⟩
  by_cases q:i=p
  ·subst q;rw[gO z]at h1;exact(J g h1).2.2.2 (D j (jO I) G h2)
  ·by_cases E:j=p
   ·subst E;rw[gO z]at h2;exact(J g h2).2.2.2 (D i q hi h1)
   ·rw[gN (jO q)]at h1 hi;rw[gN (jO E)]at h2 G;exact H.dis i j I hi G g h1 h2
theorem Akl{h:List ABlk}{p:Nat}(z:h[p]? =jT .dead)(q:mkD h= []):mkD (h.set p (.res R))=R.mrk.map Kb:=by
 induction h generalizing p with
 |nil=>simp at z
 |cons c h D=>
  simp only[mkD,List.append_eq_nil_iff]at q;cases p with
  |zero=>simp[mkD,q.1,ABlk.mrk]
  |succ p=>
   simp only[iK,mkD];rw[D (by simpa using z) q.1,q.2,fQ]
end
def Nd(t:List AV)(ps:List Tmp)(q:List AV):List AV:=(ps.zip q).foldl (λt p=>t.set p.1 p.2) t
theorem QT{w:eG}{S:Nat->Prop}{h:List ABlk}{ψ:Nat->eC}:∀(ps:List Tmp) (z:List AV) (vs:List eC) (t:List AV) (tmps:Array eC),Ae w S h ψ z vs->Ae w S h ψ t tmps.toList->
 Ae w S h ψ (Nd t ps z) ((ps.zip vs).foldl (λ(t:Array eC) p=>t.setIfInBounds p.1 p.2) tmps).toList
 | [],z,vs,t,tmps,_,ht=>ht
 |p::ps,[],vs,t,tmps,q,ht=>by
  unfold Ae at q;subst q;exact ht
 |p::ps,x::z,vs,t,tmps,q,ht=>by
  unfold Ae at q;obtain⟨v,D,rfl,h1,h2⟩:=q;exact QT ps z D (t.set p x) (tmps.setIfInBounds p v) h2 (by rw[aK];exact HV ht p h1)
structure Drops(h h':List ABlk):Prop where
 cut:Cut h h'
 bd:∀b∈h',Al1 h'.length b=true
def Ajl(h':List ABlk):bC->St->Prop:=λe s=>e= .normal/\Drops s.h h'
def Ad5(P:cG)(body:bA)(h':List ABlk)(z:St):Prop:=∀q:Ctx,q.rd.isSome=aP->Awp P q body (Ajl h') z
section
variable{P:cG}
def NF(C:Ctx):Prop:=∃l r,C.rd=jT l/\C.N l/\C.w0.heap[l]? =jT (.loop r)
theorem NF.some{C:Ctx}(h:NF C):C.rd.isSome=aP:=by
 obtain⟨l,r,h1,_⟩:=h;rw[h1];rfl
theorem Ps{gf:bF}(hE:Ca P gf=aP)(args:Array eC)(w:eG):(eO gf args).run P w= .ok (.enter gf args) w:=by
 unfold Ca at hE;cases hf:P.funcs[gf]? with
 |none=>rw[hf]at hE;cases hE
 |some fn=>
  rw[hf]at hE;simp only[zas]at hE;have h1:¬fn.name= "runtime.NumGoroutine" :=by simpa using hE.1
  have h2:¬fn.body=jS:=λe=>by have:=hE.2;rw[e]at this;cases this
  simp[eO,hf,h1,h2]
end
section
variable{C:Ctx}{h:List ABlk}{S:Nat->Prop}{ψ:Nat->eC}{W:eG}
theorem HRel.other(H:HRel C h S ψ W){D:Nat}(o:Obj)(h1:¬C.N D)(h2:¬S D)(G:¬owns h ψ D):HRel C h S ψ (W.putObj D o):=by
 have q:∀g,g≠D->(W.putObj D o).heap[g]? =W.heap[g]?:=λg hg=>eN hg
 have E:∀k,S k->(W.putObj D o).heap[k]? =W.heap[k]?:=λk hk=>q k λe=>h2 (e▸hk)
 refine⟨H.bel.trans ⟨rfl,rfl,rfl,by simp,λk hk=>q k λe=>h1 (e▸hk)⟩,H.nlt,λk hk=>by simpa using H.lt k hk,H.sub,H.new,λi b hi=>?_,H.dis⟩;by_cases z:ABlk.live (jT b)=aP
 ·exact(H.blk i b hi).keep (Ext.grow h ψ E λ_ h=>h) λg hg=>⟨q g λe=>G ⟨i,by rw[hi];exact z,by rw[hi];exact e▸hg⟩,λh=>h⟩
 ·cases b <;> simp[ABlk.live]at z
  trivial
end
theorem N9{P:cG}{C:Ctx}{fn:bE}{tmps:Array eC}{R:Ending->eG->Prop}{v:eC}{x:AV}{n:Nat}(z:∀W,(results fn tmps).run P W= .ok v W):
 ∀(ds:List Nat) (W:eG) (h:List ABlk) (S:Nat->Prop) (ψ:Nat->eC),(∀W S ψ,HRel C (h.set 0 .dead) S ψ W->AV.rel W S (h.set 0 .dead) ψ x v->R (.returned v) W)->h[0]? =jT (.res (Bk ds))->HRel C h S ψ W->AV.rel W S h ψ x v->
  bS bD n P fn tmps R (ds.map Kb) .returning W
 | [],W,h,S,ψ,q,h0,H,U=>by
  have hc:Cut h (h.set 0 .dead):=⟨by simp,λi b hi=>by
   by_cases I:i=0
   ·subst I;rw[gO (gJ.1 h0).1]at hi;cases hi;exact .inl V
   ·rw[gN (jO I)]at hi;exact .inr hi⟩
  exact⟨v,z W,q W S ψ (H.cute hc (by simp)) (KZ hc (by simp) _ _ U)⟩
 |D::ds,W,h,S,ψ,q,h0,H,U=>by
  have J:=H.blk 0 _ h0;have E:=(gJ.1 h0).1;have hD:=J.1 D (by show D∈D::ds;simp);refine⟨by simp,.inl ⟨_,_,rfl,run_takeDeferred (J.2.2 D (by simp)),?_⟩⟩;have X:Ext W S h ψ W S (h.set 0 (.res (Bk ds))) (Bo ψ 0 (ψ 0)):=Ext.set (λ_ _=>rfl) h0 (λc' hc=>by simp[ABlk.ver]at hc) λh=>by simp[AZ]at h
  have G:=List.nodup_cons.1 J.2.1;have H1:HRel C (h.set 0 (.res (Bk ds))) S (Bo ψ 0 (ψ 0)) W:=H.set (v':=ψ 0) h0 V ⟨rfl,rfl,rfl,jA _,λ_ _ _=>rfl⟩ X
   ⟨λg hg=>J.1 g (hZ _ hg),G.2,λd hd=>J.2.2 d (hZ _ hd)⟩ λg hg=>.inl (hZ _ hg)
  have Y:¬owns (h.set 0 (.res (Bk ds))) (Bo ψ 0 (ψ 0)) D:=λ⟨j,h1,h2⟩=>by
   by_cases O:j=0
   ·subst O;rw[gO E]at h2;exact G.1 h2
   ·rw[gN (jO O)]at h1 h2;rw[BC O]at h2;exact H.dis j 0 O h1 (by rw[h0];rfl) D h2 (by rw[h0];show D∈D::ds;simp)
  have Z:∀k,S k->(W.putObj D (.deferred jS)).heap[k]? =W.heap[k]?:=λk hk=>eN λe=>hD.2.1 (e▸hk)
  refine N9 z ds _ _ S _ (λW S ψ h1 h2=>?_) (gO E) (H1.other _ hD.1 hD.2.1 Y) (FN (Ext.grow _ _ Z λ_ h=>h) _ _ (FN X _ _ U));rw[List.set_set]at h1 h2;exact q W S ψ h1 h2
def Azq(t:Tmp)(r:AV):bC->St->Prop:=λe s=>(e= .normal\/e= .ret)/\∃ds,s.h[0]? =jT (.res (Bk ds))/\mkD s.h=ds.map Kb/\Fin (s.h.set 0 .dead) (evA s.t (.tmp t)) r
theorem FM{P:cG}{args:List AV}{t:Tmp}{n:Nat}(hf:P.funcs[f]? =jT fn)(hb:fn.body=jT c)(hE:Ca P f=aP)(D:fn.results= #[.tmp t])(Z:fn.ntmps=n)
 (h:∀C:Ctx,C.std->C.rd=jS->Awp P C c (Azq t r) ⟨args++iJ (n - args.length) (.lit undef),[.res (Bk [])]⟩):Fn P f args r:=by
 refine⟨hE,λw S vs hS Y=>(eP (n:=4)).1 (callsIn_of_wp_marks hf hb trivial ?_)⟩;rw[Z];have I:St.rel ⟨w,S,λk=>k < w.heap.size,jS⟩ ⟨args++iJ (n - args.length) (.lit undef),[.res (Bk [])]⟩ {tmps:=vs.toArray++aF (n - vs.toArray.size) undef,defers:=[]} w:=by
  obtain⟨q,G,ψ,H,J⟩:=Dl (n:=n) hS Y;have X:=Ext.push (w:=w) (w':=w) (S:=G) (h:=[]) (ψ:=ψ) (.res (Bk [])) undef λ_ _=>rfl
  exact⟨rfl,G,_,H.push (b:=.res (Bk [])) (v:=undef) (dW _ _) (show Hv _ _ _ _ _ _ (.res (Bk []))from⟨λg hg=>(iH hg).elim,show([]:List Nat).Nodup/\∀d∈([]:List Nat),w.heap[d]? =jT (.deferred (jT []))from⟨List.nodup_nil,λd q=>(iH q).elim⟩⟩) (λg hg=>(iH hg).elim),Az X _ _ J⟩
 have O:=h ⟨w,S,λk=>k < w.heap.size,jS⟩ (λ_ h=>h) V _ w I;refine wpIn_mono O ?_;rintro e a' w' ⟨s,⟨he,ds,h0,hm,E⟩,q,G,ψ,H,J⟩;have U:=Bv J (.tmp t);rw[hm]at q;have z:=N9 (P:=P) (C:=⟨w,S,λk=>k < w.heap.size,jS⟩) (fn:=fn) (tmps:=a'.tmps) (R:=λe w'=>∃v,e= .returned v/\YZ w S [] ψ0 r v w') (n:=4) (x:=evA s.t (.tmp t)) (v:=a'.eval (.tmp t)) (λW=>fG D _ _ _) ds w' s.h G ψ (λW S ψ h1 h2=>⟨_,rfl,FE (s:=⟨s.t,s.h.set 0 .dead⟩) h1 E h2⟩) h0 H U;rcases he with rfl|rfl
 ·show bS bD 4 P fn a'.tmps _ a'.defers .returning w';rw[q];exact z
 ·show bS bD 4 P fn a'.tmps _ a'.defers .returning w';rw[q];exact z
open Go.ChangeShapes Go.WideShapes
variable{α:Type}{T:Ty α}{a:Option aV}{ds:List α}{e:eA}{k k':bR}{l:List α}{len m n off:Nat}{t':List AV}{ty:eA}{x y:cF}
def Be(g:Nat)(cells:List AV):Res:=⟨[],λk=>k=g,λw S=>∃cs e,w.heap[g]? =jT (.cells (iV cs) e (0,0))/\Ae w S [] ψ0 cells cs,
 λh hk q hs=>let ⟨cs,e,h1,h2⟩:=h;⟨cs,e,(hk g V).trans h1,Az (Ext.grow [] ψ0 q hs) _ _ h2⟩⟩
def rowR(v:eC)(e:eA){α:Type}(T:Ty α)(l:List α):Res:=⟨[],λg=>Bu v=jT g,λw S=>∃cells,w.ownsRow 0 e T.size v l.length cells/\0 < T.size/\∀i d,l[i]? =jT d->T.RS w S ((cells.drop (i * T.size)).take T.size) d,
 λh hk z hs=>let ⟨cells,h1,h0,h2⟩:=h;⟨cells,Nf h1 λg hg=>hk g hg,h0,λi d q=>T.keepS (h2 i d q) z hs⟩⟩
section
variable{C:Ctx}{h:List ABlk}{S:Nat->Prop}{ψ:Nat->eC}{w:eG}
theorem HRel.desc{i:Nat}{b b':ABlk}{v':eC}(H:HRel C h S ψ w)(hi:h[i]? =jT b)(E:ABlk.live (jT b)=aP)(hn:∀j c,j≠i->h[j]? =jT c->nrB i c=aP)
 (hB:Hv C.N w S (h.set i b') (Bo ψ i v') v' b')(hF:∀g,ftp (jT b') v' g->ftp (jT b) (ψ i) g):HRel C (h.set i b') S (Bo ψ i v') w:=by
 have J:=(gJ.1 hi).1;refine⟨H.bel,H.nlt,H.lt,H.sub,H.new,λj c hc=>?_,λj k O hj hk g U q=>?_⟩
 ·by_cases z:j=i
  ·subst z;rw[gO J]at hc;cases hc;rw[Bj];exact hB
  ·rw[gN (jO z)]at hc;rw[BC z];have I:=H.blk j c hc;cases c with
   |dead=>trivial
   |box cells=>
    obtain⟨g,cs,e,k1,k2,k3,Z,Y⟩:=I;exact⟨g,cs,e,k1,k2,k3,Z,DI (λk hk=>BC hk) _ _ (hn j _ z hc) Y⟩
   |row ver e T l=>exact I
   |res R=>exact I
 ·have D:∀k,ABlk.live (h.set i b')[k]? =aP->ftp (h.set i b')[k]? (Bo ψ i v' k) g->ABlk.live h[k]? =aP/\ftp h[k]? (ψ k) g:=λk hk q=>by
   by_cases G:k=i
   ·subst G;rw[gO J,Bj]at q;rw[hi];exact⟨E,hF g q⟩
   ·rw[gN (jO G)]at hk q;rw[BC G]at q;exact⟨hk,q⟩
  obtain⟨a1,a2⟩:=D j hj U;obtain⟨b1,b2⟩:=D k hk q;exact H.dis j k O a1 b1 g a2 b2
end
inductive Opn(i ver:Nat)(v:Value):List AV->List AV->Prop
 |nil:Opn i ver v [] []
 |any {x:AV} {t t':List AV} (h:Opn i ver v t t'):Opn i ver v (x::t) (.any::t')
 |keep {x:AV} {t t':List AV} (hx:Ge i x=true) (h:Opn i ver v t t'):Opn i ver v (x::t) (x::t')
 |own {t t':List AV} (h:Opn i ver v t t'):Opn i ver v (.own i ver::t) (.lit v::t')
inductive OpnB(i g:Nat):List AV->List AV->Prop
 |nil:OpnB i g [] []
 |any {x:AV} {t t':List AV} (h:OpnB i g t t'):OpnB i g (x::t) (.any::t')
 |keep {x:AV} {t t':List AV} (hx:Ge i x=true) (h:OpnB i g t t'):OpnB i g (x::t) (x::t')
 |ptr {off:Nat} {t t':List AV} (h:OpnB i g t t'):OpnB i g (.ptr i off::t) (.lit (.pointer (some ⟨g,off,none⟩))::t')
inductive Cls(i ver:Nat)(v:Value):List AV->List AV->Prop
 |nil:Cls i ver v [] []
 |any {x:AV} {t t':List AV} (h:Cls i ver v t t'):Cls i ver v (x::t) (.any::t')
 |keep {x:AV} {t t':List AV} (hx:Ge i x=true) (h:Cls i ver v t t'):Cls i ver v (x::t) (x::t')
 |own {t t':List AV} (h:Cls i ver v t t'):Cls i ver v (.lit v::t) (.own i ver::t')
def ZS(i:Nat)(h:List ABlk):Bool:=h.all λb=>nrB i b
theorem LH{i:Nat}{h:List ABlk}(q:ZS i h=aP):∀(j:Nat) (c:ABlk),j≠i->h[j]? =jT c->nrB i c=aP:=λj c _ hc=>fP.1 q c (iD hc)
theorem NR(z:Nat->eC)(k:Nat):Bo z k (z k)=z:=funext λq=>by unfold Bo;split <;> simp_all
section
variable{w:eG}{S:Nat->Prop}{h:List ABlk}{ψ:Nat->eC}{i ver g:Nat}{v:eC}{b:ABlk}
theorem Opn.rel{t:List AV}(D:Opn i ver v t t')(z:∀u,AV.rel w S h ψ (.own i ver) u->u=v):∀{cs:List eC},Ae w S h ψ t cs->Ae w S (h.set i b) ψ t' cs:=by
 induction D with
 |nil=>intro cs H;unfold Ae at H⊢;exact H
 |any _ q=>
  intro cs H;unfold Ae at H⊢;obtain⟨u,vs,e,_,h2⟩:=H;exact⟨u,vs,e,by unfold AV.rel;trivial,q h2⟩
 |keep hx _ q=>
  intro cs H;unfold Ae at H⊢;obtain⟨u,vs,e,h1,h2⟩:=H;exact⟨u,vs,e,JC (λ_ _=>rfl) _ _ hx h1,q h2⟩
 |own _ q=>
  intro cs H;unfold Ae at H⊢;obtain⟨u,vs,e,h1,h2⟩:=H;exact⟨u,vs,e,by rw[z u h1];unfold AV.rel;rfl,q h2⟩
theorem OpnB.rel{t:List AV}(D:OpnB i g t t')(z:∀off u,AV.rel w S h ψ (.ptr i off) u->u= .pointer (jT ⟨g,off,jS⟩)):∀{cs:List eC},Ae w S h ψ t cs->Ae w S (h.set i b) ψ t' cs:=by
 induction D with
 |nil=>intro cs H;unfold Ae at H⊢;exact H
 |any _ q=>
  intro cs H;unfold Ae at H⊢;obtain⟨u,vs,e,_,h2⟩:=H;exact⟨u,vs,e,by unfold AV.rel;trivial,q h2⟩
 |keep hx _ q=>
  intro cs H;unfold Ae at H⊢;obtain⟨u,vs,e,h1,h2⟩:=H;exact⟨u,vs,e,JC (λ_ _=>rfl) _ _ hx h1,q h2⟩
 |ptr _ q=>
  intro cs H;unfold Ae at H⊢;obtain⟨u,vs,e,h1,h2⟩:=H;exact⟨u,vs,e,by rw[z _ u h1];unfold AV.rel;rfl,q h2⟩
theorem Cls.rel{t:List AV}(D:Cls i ver v t t')(z:i < h.length)(E:ABlk.ver (jT b)=jT ver):∀{cs:List eC},Ae w S h ψ t cs->Ae w S (h.set i b) (Bo ψ i v) t' cs:=by
 induction D with
 |nil=>intro cs H;unfold Ae at H⊢;exact H
 |any _ q=>
  intro cs H;unfold Ae at H⊢;obtain⟨u,vs,e,_,h2⟩:=H;exact⟨u,vs,e,by unfold AV.rel;trivial,q h2⟩
 |keep hx _ q=>
  intro cs H;unfold Ae at H⊢;obtain⟨u,vs,e,h1,h2⟩:=H;exact⟨u,vs,e,JC (λ_ hk=>BC hk) _ _ hx h1,q h2⟩
 |own _ q=>
  intro cs H;unfold Ae at H⊢;obtain⟨u,vs,e,h1,h2⟩:=H;refine⟨u,vs,e,?_,q h2⟩;unfold AV.rel at h1⊢;subst h1;refine⟨by simpa using z,λc hc=>?_⟩;rw[gO z,E]at hc;cases hc;exact⟨jA _,λ_=>by rw[Bj]⟩
end
section
variable{P:cG}{C:Ctx}{t:List AV}{h:List ABlk}{c:bA}{Q:bC->St->Prop}
theorem Bt(i:Nat){cells:List AV}(hi:h[i]? =jT (.box cells))(hc:Bh cells=aP)(G:ZS i h=aP)(t':Nat->List AV)(ht:∀g,OpnB i g t (t' g))
 (Y:∀g,Awp P C c Q ⟨t' g,h.set i (.res (Be g cells))⟩):Awp P C c Q ⟨t,h⟩:=λa w ⟨J,S,ψ,H,I⟩=>by
 obtain⟨g,cs,e,D,U,O,hg,q⟩:=H.blk i _ hi;have E:=H.desc (b':=.res (Be g cells)) (v':=ψ i) hi V (LH G) ⟨λk hk=>by
  have hk:k=g:=hk;subst hk;exact⟨U,O,(aC.1 hg).1⟩,⟨cs,_,hg,Bi _ _ hc q⟩⟩ λk hk=>by
  have hk:k=g:=hk;subst hk;rw[D];rfl
 rw[NR]at E;refine Y g a w ⟨by rw[J];exact(DO (b':=.res (Be g cells)) hi V).symm,S,ψ,E,(ht g).rel (λoff u z=>?_) I⟩;unfold AV.rel at z;obtain⟨Z,h1,rfl⟩:=z.2 (by rw[hi];rfl);rw[D]at h1;cases h1;rfl
theorem VC(i:Nat){ver:Nat}(hi:h[i]? =jT (.row ver e T l))(G:ZS i h=aP)(t':eC->List AV)(ht:∀v,Opn i ver v t (t' v))
 (O:∀v,Awp P C c Q ⟨t' v,h.set i (.res (rowR v e T l))⟩):Awp P C c Q ⟨t,h⟩:=λa w ⟨J,S,ψ,H,I⟩=>by
 have D:=H.blk i _ hi;have q:=D.lt V;obtain⟨cells,h1,h0,h2,h3⟩:=id D;have E:=H.desc (b':=.res (rowR (ψ i) e T l)) (v':=ψ i) hi V (LH G) ⟨λk hk=>by
  obtain⟨Z,Y,U⟩:=q k hk;exact⟨Z,U,Y⟩,⟨cells,h1,h0,h2⟩⟩ λk hk=>hk
 rw[NR]at E;refine O (ψ i) a w ⟨by rw[J];exact(DO (b':=.res (rowR (ψ i) e T l)) hi V).symm,S,ψ,E,(ht (ψ i)).rel (λu z=>?_) I⟩;unfold AV.rel at z;exact(z.2 _ (by rw[hi];rfl)).2 V
theorem Im(i:Nat){ver:Nat}{v:eC}(hi:h[i]? =jT (.res (rowR v e T l)))(z:ZS i h=aP)(ht:Cls i ver v t t'):
 St.le C ⟨t,h⟩ ⟨t',h.set i (.row ver e T l)⟩:=λa w ⟨E,S,ψ,H,D⟩=>by
 have q:=H.blk i _ hi;obtain⟨cells,h1,h0,h2⟩:=q.2;have J:=H.desc (b':=.row ver e T l) (v':=v) hi V (LH z) ⟨cells,h1,h0,h2,λg hg=>by
  obtain⟨I,G,_⟩:=q.1 g (AU hg);exact⟨I,G⟩⟩ λk hk=>hk
 exact⟨by rw[E];exact(DO (b':=.row ver e T l) hi V).symm,S,_,J,ht.rel (gJ.1 hi).1 V D⟩
end
section
variable{P:cG}{C:Ctx}{t:List AV}{h:List ABlk}{o:bZ}{K:St->Prop}
theorem AY{i g:Nat}{cells:List AV}{r:AV}[AG P ty aM n](z:o.op= .load ty x)(hx:evA t x= .lit (.pointer (jT ⟨g,off,jS⟩)))(hi:h[i]? =jT (.res (Be g cells)))(q:cells[off]? =jT r)(hc:AV.cl r=aP):AT P C t h o r:=
 Nz z hx hi hc λw S ⟨cs,e,h1,h2⟩=>by
  obtain⟨u,E,D⟩:=BY h2 q;exact⟨u,by simp[eH,h1,E],D⟩
theorem BX{i g:Nat}{cells:List AV}[AG P ty aP n](z:o.op= .load ty x)(hx:evA t x= .lit (.pointer (jT ⟨g,off,jS⟩)))(hi:h[i]? =jT (.res (Be g cells)))(hc:Bh ((cells.drop off).take n)=aP)(D:((cells.drop off).take n).length=n):AT P C t h o (.agg ((cells.drop off).take n)):=
 Gc z AG.eq hx (KY.res (R:=Be g cells) (rs:=(cells.drop off).take n) hi hc λw S ⟨cs,e,h1,h2⟩ j r q=>by
  rw[gP]at q;split at q
  ·rw[gG]at q;obtain⟨u,G,E⟩:=BY h2 q;exact⟨u,by simp[eH,h1,G],E⟩
  ·cases q) (by rw[iT,Nat.min_self]) D
theorem Du{st:eA}{j b:Nat}[FO P st j n](z:o.op= .fieldAddr st x j)(hx:evA t x= .lit (.pointer (jT ⟨b,off,jS⟩))):AT P C t h o (.lit (.pointer (jT ⟨b,off+n,jS⟩))):=
 AT.fieldAddr z FO.eq hx λC S ψ w v H q=>by
  unfold AV.rel at q⊢;exact⟨b,off,q,rfl⟩
theorem J3{ik:bR}{k b c:Nat}[ES P ty 1](z:o.op= .indexAddr ty x y)(hx:evA t x= .lit (.slice (jT ⟨b,0,jS⟩) len c))(q:evA t y= .lit (.int ik (k:Int)))(hk:k < len):
 AT P C t h o (.lit (.pointer (jT ⟨b,k,jS⟩))):=by
 have:=Vs (P:=P) (C:=C) (h:=h) (n:=1) z hx q hk;rwa [jM,jH]at this
theorem It{i g:Nat}{cells new:List AV}[SZ P ty n](U:o.op= .store ty x y)(hx:evA t x= .lit (.pointer (jT ⟨g,off,jS⟩)))(hi:h[i]? =jT (.res (Be g cells)))(hp:PW h (evA t y) new)(hc:Bh new=aP)(hs:n=new.length)(Y:off+new.length<=cells.length)
 (hK:K ⟨Bl t o.dst (.lit undef),h.set i (.res (Be g (cells.take off++new++cells.drop (off+new.length))))⟩):AOp P C o ⟨t,h⟩ K:=by
 refine AOp.turn (ι:=Unit) (Rs:=λ_=>Be g (cells.take off++new++cells.drop (off+new.length))) (val:=λ_=>undef) hi (λ_=>rfl) (λS ψ w ρ H hR aa G=>?_) λ_=>hK
 have z:=G x (by rw[U];simp[bY]);have O:=G y (by rw[U];simp[bY]);rw[hx]at z;unfold AV.rel at z;obtain⟨cs,e,hg,E⟩:=hR;obtain⟨J,h1⟩:=hp C S ψ w _ H O;have D:=Bw J;have Z:=Bw E;have hr:=KA (P:=P) (ty:=ty) (v:=ρ y) (off:=off) (w:=w) (by rw[SZ.eq (P:=P) (ty:=ty) (n:=n),D,hs]) hg (by rw[D,iM,Z];exact Y) h1;rw[D]at hr;have q:=Cc w g (cs.take off++(ρ y).cells.toList++cs.drop (off+new.length)).toArray;have I:∀k,S k->(w.setRow g (cs.take off++(ρ y).cells.toList++cs.drop (off+new.length)).toArray).heap[k]? =w.heap[k]?:=λk hk=>fJ _ _ _ _ λe=>((H.blk i _ hi).1 k (show k=g from e)).2.1 hk
 simp only[eR,U,z,hr,VR,zav];refine⟨⟨q.os,q.tape,q.output,q.size,λk hk J=>q.block k hk λe=>J (by injection e)⟩,(),rfl,⟨_,e,fI w g _ _ e _ hg,?_⟩,λk hk=>?_⟩
 ·have hE:Ext w S [] ψ0 (w.setRow g (cs.take off++(ρ y).cells.toList++cs.drop (off+new.length)).toArray) S [] ψ0:=Ext.grow [] ψ0 I λ_ h=>h
  exact Az hE _ _ (BK (BK (Ln E off) (Bi _ _ hc J)) (Lo E _))
 ·have hk:k=g:=hk;subst hk;have h5:k < w.heap.size:=(aC.1 hg).1;exact⟨.inl V,jC h5 q.size⟩
theorem Aio{z:eC}{bytes:Nat}(Y:o.op= .makeSlice ty x y)(J:GB P ty=jT (e,z,bytes))
 (hx:evA t x= .lit (.int k (n:Int)))(hy:evA t y= .lit (.int k' (n:Int)))(hb:bytes * n<=281474976710656)(hn:n<=fB)
 (hK:∀g,K ⟨Bl t o.dst (.lit (.slice (jT ⟨g,0,jS⟩) n n)),h++[.res (Be g (iJ n (.lit z)))]⟩):AOp P C o ⟨t,h⟩ K:=by
 refine CX (ι:=Nat) (Rs:=λg=>Be g (iJ n (.lit z))) (val:=λg=>.slice (jT ⟨g,0,jS⟩) n n) (λ_=>rfl) (λS ψ w ρ H I=>?_) hK;have G:=I x (by rw[Y];simp[bY]);have E:=I y (by rw[Y];simp[bY]);rw[hx]at G;rw[hy]at E;unfold AV.rel at G E;unfold GB at J;split at J <;> try(cases J;done)
 rename_i e' h1;obtain⟨i,hi,h2⟩:=jP.1 J;obtain⟨z',U,Z⟩:=jP.1 h2;split at Z <;> try(cases Z;done)
 rename_i h4;cases Z;have O:=Hl h4.2;have D:=run_make_row' (P:=P) ty e z i.bytes h1 (by rw[hi];simp[U,h4.1]) O k k' n hb (by unfold fB at hn;omega) w;rw[Pc]at D;have q:=(dW w.heap.size w).alloc (jA _) (.cells (iJ n z).toArray e);have he:(eR ρ o).run P w= .ok (.value (.slice (jT ⟨w.heap.size,0,jS⟩) n n)) (w.alloc (.cells (iJ n z).toArray e)):=by simp[eR,Y,G,E,D]
 rw[he];refine⟨⟨q.os,q.tape,q.output,q.size,λk hk _=>q.block k hk⟩,w.heap.size,rfl,⟨iJ n z,e,eY w _,?_⟩,λk hk=>?_⟩
 ·refine DL (by simp) λj x v hx hv=>?_
  rw[fX (iD hx),fX (iD hv)];unfold AV.rel;rfl
 ·have hk:k=w.heap.size:=hk;subst hk;exact⟨.inr (jA _),by simp⟩
end
def Bnd(d:Nat):Option eC->Nat->Prop
 |none,n=>n=d
 |some v,n=>∃k,v= .int k (n:Int)
section
variable{P:cG}{C:Ctx}{t:List AV}{h:List ABlk}{o:bZ}
theorem To{sz cap l:Nat}{lo hi:Option eC}{w:eG}(hs:Pu P ty=jT sz)(E:Bnd 0 lo l)(hh:Bnd len hi m)(h1:l<=m)(h2:m<=cap):
 (bN ty (.slice a len cap) lo hi jS).run P w= .ok (.slice (if cap=l then a else a.map (·.add (l * sz))) (m - l) (cap - l)) w:=by
 unfold Pu at hs;split at hs <;> try(cases hs;done)
 rename_i e G;cases z:P.info? e with
 |none=>rw[z]at hs;cases hs
 |some i=>
  rw[z]at hs;simp only[jR,jV]at hs;have H:P.elem ty=e:=by simp[Program.elem,G]
  have q:P.underlying ty=jT (.slice (P.elem ty)):=by rw[H];exact G
  have D:(fK (P.elem ty)).run P w= .ok sz w:=by rw[H];simp[fK,fM,z,hs]
  rw[run_sliceAt_slice (h:=q)];cases lo with
  |none=>
   have E:l=0:=E;subst E;cases hi with
   |none=>
    have hh:m=len:=hh;subst hh;rw[run_slice_all (ht:=q),D];simp[fL]
   |some v=>
    obtain⟨k,rfl⟩:=hh;rw[run_slice_h (ht:=q) (h0:=by omega) (h2:=by omega),D];simp[fL]
  |some u=>
   obtain⟨I,rfl⟩:=E;cases hi with
   |none=>
    have hh:m=len:=hh;subst hh;rw[run_slice_l (ht:=q) (h0:=by omega) (h1:=by omega),D];simp[fL]
   |some v=>
    obtain⟨k,rfl⟩:=hh;rw[run_slice_lh (ht:=q) (h0:=by omega) (h1:=by omega) (h2:=by omega),D];simp[fL]
theorem Zr{w:eG}{S:Nat->Prop}{c l:Nat}(h:T.slice.RS w S [.slice a n c] ds)(h1:l<=m)(h2:m<=ds.length):
 T.slice.RS w S [.slice (if c=l then a else a.map (·.add (l * T.size))) (m - l) (c - l)] ((ds.take m).drop l):=by
 obtain⟨A,O,e,I,⟨hc,G⟩,hi⟩:=h;simp only[fR,zax]at e;obtain⟨rfl,rfl,rfl⟩:=e;have q:((ds.take m).drop l).length=m - l:=by simp;omega
 refine⟨_,c - l,by rw[q],by rw[q];omega,⟨by omega,λe=>?_⟩,λi d z=>?_⟩
 ·split at e
  ·rename_i J;omega
  ·cases a with
   |none=>have:=G V;omega
   |some x=>simp at e
 ·rw[gG,gP]at z;split at z
  ·rename_i H;obtain⟨b,off,rfl,E⟩:=hi _ _ z;have D:¬c=l:=by omega
   refine⟨b,off+l * T.size,by rw[if_neg D];simp[add_plain],?_⟩;rw[show off+l * T.size+i * T.size=off+(l+i) * T.size by rw[iZ];omega];exact E
  ·cases z
def Aog(t:List AV)(d:Nat):Option cF->Nat->Prop
 |none,n=>n=d
 |some x,n=>∃k,evA t x= .lit (.int k (n:Int))
theorem Aog.val{d:Nat}{x:Option cF}(z:Aog t d x n){w:eG}{S:Nat->Prop}{ψ:Nat->eC}{ρ:cF->eC}(q:∀y,x=jT y->AV.rel w S h ψ (evA t y) (ρ y)):Bnd d (x.map ρ) n:=by
 cases x with
 |none=>exact z
 |some y=>
  obtain⟨k,hk⟩:=z;have:=q y V;rw[hk]at this;unfold AV.rel at this;exact⟨k,this⟩
theorem PQ{lo hi:Option cF}{l:Nat}[ES P ty n](E:o.op= .slice ty x lo hi jS)(hx:evA t x= .bs T ds)(hs:T.size=n)(Z:Aog t 0 lo l)(Y:Aog t ds.length hi m)(h1:l<=m)(h2:m<=ds.length):
 AT P C t h o (.bs T ((ds.take m).drop l)):=
 AL λS ψ w ρ H z=>by
  have q:=z x (by rw[E];simp[bY]);have I:=Z.val (h:=h) (w:=w) (S:=S) (ψ:=ψ) (ρ:=ρ) λy G=>z y (by rw[E,G];simp[bY])
  have O:=Y.val (h:=h) (w:=w) (S:=S) (ψ:=ψ) (ρ:=ρ) λy G=>z y (by rw[E,G];simp[bY])
  rw[hx]at q;unfold AV.rel at q;obtain⟨A,c,e⟩:=Ci q;have D:=q;rw[e]at D;have J:m<=c:=by
   obtain⟨A',c',e',h3,_⟩:=D;simp only[fR,zax]at e';omega
  have U:=To (P:=P) (w:=w) (a:=A) (cap:=c) (ES.eq (P:=P) (ty:=ty) (n:=n)) I O h1 J;refine⟨_,by simp[eR,E,e,U];rfl,?_⟩;unfold AV.rel;rw[<-hs];exact Zr D h1 h2
theorem M5{q:Option cF}{i ver:Nat}{K:St->Prop}[ES P ty n](ho:o.op= .slice ty x jS q jS)(hx:evA t x= .own i ver)(hi:h[i]? =jT (.row ver e T l))(hs:T.size=n)
 (hm:Aog t l.length q m)(h2:m<=l.length)(hK:K ⟨Bl t o.dst (.own i (ver+1)),h.set i (.row (ver+1) e T (l.take m))⟩):AOp P C o ⟨t,h⟩ K:=by
 rintro Q' a w ⟨hd,S,ψ,H,hl⟩;refine⟨λc e=>(by rw[ho]at e;cases e),?_⟩;have z:=Bv hl x;have E:=hm.val (h:=h) (w:=w) (S:=S) (ψ:=ψ) (ρ:=a.eval) λy hy=>Bv hl y
 rw[hx]at z;unfold AV.rel at z;have hv:=(z.2 _ (by rw[hi];rfl)).2 V;obtain⟨cells,J,h0,hR,af⟩:=H.blk i _ hi;obtain⟨v',I,D,aa,ae⟩:∃v',(bN ty (ψ i) jS (q.map a.eval) jS).run P w= .ok v' w/\w.ownsRow 0 e T.size v' m (cells.take (m * T.size))/\(∀g,v'.ownBlock=jT g->(ψ i).ownBlock=jT g)/\(∀g,Bu v'=jT g->Bu (ψ i)=jT g):=by
  obtain⟨ad,G⟩:=J;rcases G with⟨U,e2⟩|⟨g,cap,cur,U,e2,e3,e4,e5,e6,e7⟩
  ·have ab:m=0:=by omega
   subst ab;have Z:=To (P:=P) (w:=w) (a:=jS) (len:=0) (cap:=0) (l:=0) (m:=0) (lo:=jS) (hi:=q.map a.eval) (ES.eq (P:=P) (ty:=ty) (n:=n)) V (by rw[e2]at E;exact E) (jA _) (jA _);refine⟨.slice jS 0 0,?_,⟨by simp,.inl ⟨rfl,rfl⟩⟩,λg hg=>by simp[eF]at hg,λg hg=>by simp[Bu]at hg⟩;rw[U];simpa using Z
  ·have Z:=To (P:=P) (w:=w) (a:=jT ⟨g,0,jS⟩) (len:=l.length) (cap:=cap) (l:=0) (m:=m) (lo:=jS) (hi:=q.map a.eval) (ES.eq (P:=P) (ty:=ty) (n:=n)) V E (jN _) (by omega);refine⟨.slice (jT ⟨g,0,jS⟩) m cap,?_,⟨by rw[gX,ad];exact jE (jG _ h2),.inr ⟨g,cap,cur,rfl,e2,e3,by omega,e5,e6,?_⟩⟩,λg' hg=>by rw[U];exact hg,λg' hg=>by rw[U];exact hg⟩
   ·rw[U,Z];simp[add_plain]
   ·rw[<-e7,iT,jE (jG _ h2)]
 have X:Ext w S h ψ w S (h.set i (.row (ver+1) e T (l.take m))) (Bo ψ i v'):=Ext.set (λ_ _=>rfl) hi (λc' hc=>by
  simp only[ABlk.ver,jV]at hc;exact⟨ver,rfl,by omega,λe=>by omega⟩) λh=>by simp[AZ]at h
 have hB:Hv C.N w S (h.set i (.row (ver+1) e T (l.take m))) (Bo ψ i v') v' (.row (ver+1) e T (l.take m)):=by
  refine⟨cells.take (m * T.size),by rw[gX,jE h2];exact D,h0,λj d Y=>?_,λg hg=>af g (aa g hg)⟩;rw[gP]at Y;split at Y
  ·rename_i ag;have:=hR j d Y;have ac:(j+1) * T.size<=m * T.size:=jG _ (by omega);rw[iZ,jJ]at ac;rw[List.drop_take,iT,jE (by omega)];exact this
  ·cases Y
 unfold cD;simp only[eR,ho,hv,Option.map_none,I,cB,Functor.map,zav];refine⟨_,hK,Iw (s:=⟨t,h⟩) hi hd hl (H.set hi V ⟨rfl,rfl,rfl,jA _,λ_ _ _=>rfl⟩ X hB λg hg=>.inl (ae g hg)) X ?_⟩;unfold AV.rel;refine⟨by simp[(gJ.1 hi).1],λc' O=>?_⟩;rw[gO (gJ.1 hi).1]at O;simp only[ABlk.ver,jV]at O;exact⟨by omega,λ_=>by rw[Bj]⟩
theorem Ec{bytes:Nat}{K:St->Prop}[RT P ty e m bytes][TyOf P e α T](O:o.op= .makeSlice ty x y)(hs:T.size=m)(h0:0 < T.size)
 (hx:evA t x= .lit (.int k 0))(Y:evA t y= .lit (.int k' (n:Int)))(hb:bytes * n<=281474976710656)(U:n<=fB)(hK:K ⟨Bl t o.dst (.own h.length 0),h++[.row 0 e T []]⟩):AOp P C o ⟨t,h⟩ K:=by
 rintro Q' a w ⟨hd,S,ψ,H,G⟩;refine⟨λc e=>(by rw[O]at e;cases e),?_⟩;have E:=Bv G x;have D:=Bv G y;rw[hx]at E;rw[Y]at D;unfold AV.rel at E D;obtain⟨h1,J,z,h2,h3,h4,h5,h6⟩:=C9 (RT.eq (P:=P) (ty:=ty) (e:=e) (n:=m) (bytes:=bytes));have I:(J.bytes:Int) *(n:Int)<=281474976710656:=by
  rw[h5];have h:((bytes * n:Nat):Int)<=281474976710656:=by omega
  rwa [Int.natCast_mul]at h
 have q:=run_make (P:=P) w ty e J z h1 h2 h3 k k' 0 n (by omega) (by omega) I (by unfold fB at U;omega);simp only[Int.toNat_natCast,Int.toNat_zero,h4]at q;unfold cD;refine AOp.newRow (s:=⟨t,h⟩) (T:=T) (l:=[]) (e:=e) (cells:=[]) (n:=0) (cap:=n) (w':=w.alloc (.cells (fA z.cells (n * m)) e)) hd H G ?_ ((dW _ _).alloc (jA _) _) ?_ h0 ?_ hK
 ·simp[eR,O,E,D,q]
 ·refine⟨by simp,.inr ⟨_,n,_,rfl,jN _,eY w _,jN _,U,by rw[hs];simp[fA],by simp⟩⟩
 ·intro j d Z;simp at Z
theorem Abn{t:List AV}{h:List ABlk}{R:Res}(G:∀w S,R.R w S)(q:∀g,¬R.F g)(z:R.mrk= []):St.le C ⟨t,h⟩ ⟨t,h++[.res R]⟩:=λa w ⟨E,S,ψ,H,D⟩=>by
 have X:Ext w S h ψ w S (h++[.res R]) (Bo ψ h.length undef):=Ext.push _ _ λ_ _=>rfl
 have I:=H.push (b:=.res R) (v:=undef) (dW _ _) (show Hv _ _ _ _ _ _ (.res R)from⟨λg hg=>(q g hg).elim,G w S⟩) λg hg=>(q g hg).elim
 refine⟨?_,S,_,I,Az X _ _ D⟩;show a.defers=mkD (h++[.res R]);rw[H9];show a.defers=R.mrk.map Kb++mkD h;rw[z];exact E
end
end Mu
namespace Mu
open Go Go.RowKit
variable{K':St->Prop}{g:Nat}{s:St}
section
variable{P:cG}{C:Ctx}{t t' t'':List AV}{h h' h'':List ABlk}{o:bZ}{r:AV}{ops:Array bZ}{rest:List bZ}{K:St->Prop}
theorem qt(hq:AT P C t h o r:=by(first
 |exact AT.move V (by(conv=>lhs;whnf);try rfl)
 |exact AT.assign V (by(conv=>lhs;whnf);try rfl)
 |exact Br V V V
 |exact Cq V V
 |exact CI V V V
 |exact Du V V
 |exact Bf V V V V
 |exact AA V V V
 |exact Bq V V V (by assumption) V
 |exact AR V V V V
 |exact DW V V V
 |exact Is V V V V (by assumption)
 |exact Ht V V V V (by first|decide|omega) (by assumption)
 |exact Jy V V V V V (by first|assumption|omega)
 |exact FL V V V V V (by first|decide|omega) (by first|assumption|omega)
 |exact J3 V V V (by first|assumption|omega)
 |exact AT.ln V V
 |exact Gd V V V
 |exact Jw V V
 |exact Ea V V V (by omega)
 |exact EO V V V (by omega)
 |exact Hu V V V V (by assumption)
 |exact CQ V V V V
 |exact Co V V
 |exact AT.pick V V (by(conv=>lhs;whnf);try rfl)
 |exact AT.extract V V V
 |exact Cg V V V (by rfl) (by decide) (by first|exact Fit.bool|exact Fit.bs|exact Fit.int (by assumption))
 |exact AT.max2 V V V
 |exact AT.min2 V V V
 |exact AY (i:=1) V V V (by first|rfl|assumption) V
 |exact AY (i:=2) V V V (by first|rfl|assumption) V
 |exact AY (i:=3) V V V (by first|rfl|assumption) V
 |exact AY (i:=4) V V V (by first|rfl|assumption) V
 |exact AY (i:=5) V V V (by first|rfl|assumption) V
 |exact AY (i:=6) V V V (by first|rfl|assumption) V
 |exact AY (i:=7) V V V (by first|rfl|assumption) V
 |exact AY (i:=8) V V V (by first|rfl|assumption) V
 |exact BX (i:=1) V V V V V
 |exact BX (i:=2) V V V V V
 |exact BX (i:=3) V V V V V
 |exact BX (i:=4) V V V V V
 |exact BX (i:=5) V V V V V
 |exact BX (i:=6) V V V V V
 |exact BX (i:=7) V V V V V
 |exact BX (i:=8) V V V V V)):AT P C t h o r:=hq
theorem sQ(hk:CU P C ops K rest ⟨t',h⟩)(hq:AT P C t h o r:=by exact qt)(ht:Bl t o.dst r=t':=by((try simp only[Bl,zac]);exact V))(hg:gA ops t o=some true:=by rfl):CU P C ops K (o::rest) ⟨t,h⟩:=by
 subst ht;exact Ah5 hg hq hk
theorem AM(hk:CU P C ops K rest ⟨t',h⟩)(hg:gA ops t o=some false:=by rfl)(ht:Bl t o.dst (.lit undef)=t':=by((try simp only[Bl,zac]);exact V)):CU P C ops K (o::rest) ⟨t,h⟩:=by
 subst ht;exact PL hg hk
theorem Bp(hk:CU P C ops K rest ⟨t',h'⟩)(hg:gA ops t o=some true:=by rfl)(hq:∀K':St->Prop,K' ⟨t'',h''⟩->AOp P C o ⟨t,h⟩ K':=by(intro K' q;(first
 |exact AOp.box V Vx.agg q
 |exact Y3 V q
 |exact CR V V V (M0 V) V (Nat.le_of_ble_eq_true V) q
 |exact CR (new:=[_]) V V V (PW.one (One.lit V)) V (Nat.le_of_ble_eq_true V) q
 |exact SS V V V V V (by first|assumption|(simp[maxLen];done)|(simp[maxLen];omega)) (by first|assumption|(simp;done)|(simp;omega)) q
 |exact Dx V V V (by assumption) (by first|exact Fit.bool|exact Fit.bs|exact Fit.int (by assumption)) V q)))(ht:t''=t':=by((try simp only[Bl,zac]);exact V))(hh:h''=h':=by((try simp only[Nat.reduceAdd,zab]);exact V)):CU P C ops K (o::rest) ⟨t,h⟩:=by
 subst ht hh;exact Aya hg (hq _ hk)
theorem sNt(hk:CU P C ops K rest ⟨t',h'⟩)(ht:t=t':=by((try simp only[Bl,zac]);exact V))(hh:h=h':=by((try simp only[Nat.reduceAdd,zab]);exact V)):CU P C ops K rest ⟨t,h⟩:=by
 subst ht hh;exact hk
theorem qQ{K:List AV->Prop}(hk:aQ P C ops h K rest t')(hq:AT P C t h o r:=by exact qt)(ht:Bl t o.dst r=t':=by((try simp only[Bl,zac]);exact V))(hg:gA ops t o=some true:=by rfl):aQ P C ops h K (o::rest) t:=by
 subst ht;exact Az3 hg hq hk
theorem G5{K:List AV->Prop}(hk:aQ P C ops h K rest t')(hg:gA ops t o=some false:=by rfl)(ht:Bl t o.dst (.lit undef)=t':=by((try simp only[Bl,zac]);exact V)):aQ P C ops h K (o::rest) t:=by
 subst ht;exact Arh hg hk
theorem oQ{K:St->Prop}(hk:K ⟨t',h⟩)(hq:AT P C t h o r:=by exact qt)(ht:Bl t o.dst r=t':=by((try simp only[Bl,zac]);exact V)):AOp P C o ⟨t,h⟩ K:=by
 subst ht;exact AX hq hk
theorem Azc{K:St->Prop}(hk:K ⟨t',h'⟩)(hq:∀K':St->Prop,K' ⟨t'',h''⟩->AOp P C o ⟨t,h⟩ K':=by(intro K' q;(first
 |exact AOp.box V Vx.agg q
 |exact Y3 V q
 |exact CR V V V (M0 V) V (Nat.le_of_ble_eq_true V) q
 |exact CR (new:=[_]) V V V (PW.one (One.lit V)) V (Nat.le_of_ble_eq_true V) q
 |exact SS V V V V V (by first|assumption|(simp[maxLen];done)|(simp[maxLen];omega)) (by first|assumption|(simp;done)|(simp;omega)) q
 |exact Dx V V V (by assumption) (by first|exact Fit.bool|exact Fit.bs|exact Fit.int (by assumption)) V q)))(ht:t''=t':=by((try simp only[Bl,zac]);exact V))(hh:h''=h':=by((try simp only[Nat.reduceAdd,zab]);exact V)):AOp P C o ⟨t,h⟩ K:=by
 subst ht hh;exact hq _ hk
theorem nT{c:bA}{Q:bC->St->Prop}(hk:Awp P C c Q ⟨t',h'⟩)(ht:t=t':=by((try simp only[Bl,zac]);exact V))(hh:h=h':=by((try simp only[Nat.reduceAdd,zab]);exact V)):Awp P C c Q ⟨t,h⟩:=by
 subst ht hh;exact hk
theorem BU(z:bdH h=true:=by rfl)(q:Fgt h.length t t':=by((try simp only[Bl,zac]);repeat(first|exact Fgt.nil|refine Fgt.keep V ?_|refine Fgt.any ?_))):St.le C ⟨t,h⟩ ⟨t',h⟩:=Xl z q
theorem Ki(hc:Cut h h')(D:bdH h'=true:=by rfl)(z:Fgt h'.length t t':=by((try simp only[Bl,zac]);repeat(first|exact Fgt.nil|refine Fgt.keep V ?_|refine Fgt.any ?_)))(q:mkD h'=mkD h:=by rfl):St.le C ⟨t,h⟩ ⟨t',h'⟩:=Ah8 hc D z q
theorem NP{id:Nat}{l z q:List bZ}{Q:bC->St->Prop}(n:Nat)(D:P.follows .mixedOrders=true:=by kernel_rfl)(E:Acd l.toArray n=true:=by kernel_rfl)(h1:l.take n=z:=by(simp only[zad];exact V))(h2:l.drop n=q:=by(simp only[zad];exact V))
 (hh:aQ P C l.toArray h (λt=>CU P C l.toArray (Q .normal) q ⟨t,h⟩) z t):Awp P C (.region id l.toArray aP) Q ⟨t,h⟩:=by
 subst h1 h2;exact Ok n D E hh
theorem BN{listed:Array Bool}(rs:List Nat)(hh:Aom P C ops K g listed s rs)(z:Region.ready .any ops listed=rs:=by kernel_rfl)(q:rs≠[]:=by simp):VT P C .any ops K (g+1) listed s:=Lg rs z q hh
theorem Kx{listed:Array Bool}(hh:K s)(q:Region.ready .any ops listed= []:=by kernel_rfl):VT P C .any ops K 0 listed s:=S8 q hh
theorem tC{i:Nat}{listed:Array Bool}{rs:List Nat}(h1:AOp P C o s (VT P C .any ops K g (listed.setIfInBounds i aP)))(h2:Aom P C ops K g listed s rs)(q:ops[i]? =some o:=by(simp only[List.getElem?_cons_zero,zaq];exact V))(hg:gA ops s.t o=some true:=by rfl):Aom P C ops K g listed s (i::rs):=Lh q hg h1 h2
theorem tNt{listed:Array Bool}(hk:VT P C .any ops K g listed ⟨t',h'⟩)(ht:t=t':=by((try simp only[Bl,zac]);exact V))(hh:h=h':=by((try simp only[Nat.reduceAdd,zab]);exact V)):VT P C .any ops K g listed ⟨t,h⟩:=by
 subst ht hh;exact hk
end
section
variable{P:cG}{C:Ctx}
theorem AOp.weak{o:bZ}{K:St->Prop}(hk:∀s,K s->K' s)(h:AOp P C o s K):AOp P C o s K':=λQ' a w H=>
 let ⟨h1,h2⟩:=h Q' a w H
 ⟨h1,cE (λ_ _ ⟨q,D,z⟩=>⟨q,hk _ D,z⟩) h2⟩
theorem Dt{ops:Array bZ}{K K':St->Prop}(hk:∀s,K s->K' s):∀{l:List bZ} {s:St},CU P C ops K l s->CU P C ops K' l s
 | [],s,h=>hk s h
 |o::rest,s,h=>by
  obtain⟨b,hg,ht,q⟩:=h;exact⟨b,hg,λe=>(ht e).weak λs h=>Dt hk h,λe=>Dt hk (q e)⟩
theorem CS{ops:Array bZ}{q:St}(e:s=q):CU P C ops (λx=>x=q) [] s:=e
end
section
variable{P:cG}{C:Ctx}{id:Nat}{l:List bZ}{y:bA}{Q:bC->St->Prop}{t t':List AV}{h h':List ABlk}
theorem rR(hk:Q .normal ⟨t',h'⟩)(hx:CU P C l.toArray (λs=>s=⟨t',h'⟩) l ⟨t,h⟩:=by((repeat(first|refine sQ ?_|refine AM ?_|refine Bp ?_));exact CS V)):Awp P C (.region id l.toArray aM) Q ⟨t,h⟩:=Awp.region (Dt (λs e=>by subst e;exact hk) hx)
theorem rRS(hk:Awp P C y Q ⟨t',h'⟩)(hx:CU P C l.toArray (λs=>s=⟨t',h'⟩) l ⟨t,h⟩:=by((repeat(first|refine sQ ?_|refine AM ?_|refine Bp ?_));exact CS V)):Awp P C (.seq (.region id l.toArray aM) y) Q ⟨t,h⟩:=Ab λ_ q=>Awp.region (Dt (λs e=>by subst e;exact q _ hk) hx)
end
open Go.ChangeShapes Go.WideShapes
section
variable{P:cG}{C:Ctx}{t:List AV}{h:List ABlk}{o:bZ}
end
end Mu
