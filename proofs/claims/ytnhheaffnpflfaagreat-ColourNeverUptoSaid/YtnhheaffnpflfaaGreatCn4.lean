/-
  Lemmas for N, part 4.
  Conditions: as each lemma says.
-/
import Derived.Test.YtnhheaffnpflfaaGreatCn3
import Derived.Shelf.Spec.SlicesInsertGrow
import Derived.Laws.Cover3
set_option maxRecDepth 100000
set_option maxHeartbeats 4000000
set_option linter.unusedSimpArgs false
set_option linter.unusedVariables false
open Array renaming getElem?_eq_some_iff->aA,getElem?_modify->aB,getElem?_toList->aC,replicate->aD,size_append->aE,toList_append->aF
open Bool renaming and_eq_true->aG,false->aH,not_eq_false'->aI,not_eq_true'->aJ,true->aK
open Decidable renaming decide->aL
open Go renaming Calls->aM,CallsIn->aN,FuncId->aP,Oper->aU,Operand->aV,Program->aW,TypeId->cB,Value->cC,World->cF,exitTo->cM,grownCap->cN,grownCap_ge->cO,heap_alloc_new->cP,heap_alloc_old->cQ,intKeys->cR,maxLen->cT,setRow_heap->cU,size_zeroCells->cV
open Go.Fence renaming wide->aO
open Go.IntKind renaming i64->aR
open Go.Lib renaming compareInt->aS,hid->aT
open Go.Proofs.Tryz renaming cmpIntP->aX,func177->aY,func192->aZ,func47->a6,func85->a7,isAgg0->a8,isAgg27->bA,isAgg3->bB,isAgg4->bC,keysK->bD,keysK_ren->bE,ntmps177->bF,ntmps47->bG,prog->bH,sizeOf0->bI,sizeOf27->bJ,sizeOf3->bK,sizeOf4->bL,sortFI->bM,underlying0->bN,underlying27->bO,underlying3->bP,underlying4->bR,underlying51->bS,underlying77->bT,zeroValue0->bU,zeroValue27->bV,zeroValue3->bW,zeroValue4->bX
open Go.RowKit renaming intOf->bZ
open Go.RowKit.Below renaming refl->bY
open Go.Sort renaming ahead->b9,putCells->cA
open Go.Value renaming func->cD,int->cE
open Go.World renaming cell?->cG,drew->cH,frozen?->cI,setRow->cJ,shape?->cL
open Int renaming toNat->cW
open List renaming all_eq_true->cY,any_append->cZ,any_eq_true->dA,append_assoc->dB,append_nil->dC,contains_eq_mem->dD,contains_iff_mem->dE,drop->dF,drop_drop->dG,eq_nil_of_length_eq_zero->dH,ext_getElem?->dI,filter_append->dJ,filter_cons->dK,filter_eq_self->dL,find?_cons->dM,find?_some->dN,findIdx?_eq_none_iff->dO,findIdx?_eq_some_iff_getElem->dP,foldl->dQ,foldl_append->dR,foldl_cons->dT,getD_eq_getElem?_getD->dU,getElem?_append_left->dV,getElem?_append_right->dW,getElem?_cons_zero->dX,getElem?_drop->dY,getElem?_eq_getElem->dZ,getElem?_eq_none->eA,getElem?_eq_some_iff->eB,getElem?_map->eC,getElem?_set_self->eD,getElem?_take_of_lt->eE,getElem_range->eF,head?_drop->eG,length->eH,length_append->eI,length_cons->eJ,length_filterMap_le->eK,length_filter_le->eL,length_map->eM,length_nil->eN,length_range->eO,length_take->eP,map_append->eQ,map_cons->eR,map_map->eS,map_nil->eT,mem_append->eU,mem_append_left->eV,mem_append_right->eW,mem_cons->eX,mem_cons_of_mem->eY,mem_cons_self->eZ,mem_iff_getElem?->fA,mem_map->fB,mem_of_getElem?->fC,mem_of_mem_drop->fD,mem_of_mem_take->fE,mem_range->fF,mem_singleton->fG,mem_take_iff_getElem->fH,mergeSort_perm->fI,nodup_append->fJ,nodup_nil->fK,pairwise_map->fL,perm_ext_iff_of_nodup->fM,range->fN,replicate->fO,size_toArray->fP,take->fQ,take_add_one->fR,take_append_drop->fS,take_append_of_le_length->fT,take_left'->fU,take_length->fV,take_of_length_le->fW,take_one->fX,take_succ_cons->fY,take_take->fZ,take_zero->gB,toList_toArray->gC
open List.Pairwise renaming imp->cX
open Mu renaming ABlk->gD,Block->gO,CGraph->gP,Func->gY,Pair->iF
open Mu.ABlk renaming fz->gE,live->gF,mrk->gG,ver->gH
open Mu.AV renaming cl->gI,fz->gJ,rel->gK
open Mu.Awp renaming region->gL,upto->gN
open Mu.Cut renaming cons->gQ,dead->gR,nil->gT
open Mu.Fin renaming cl->gU,own->gV
open Mu.Fit renaming bool->gW,int->gX
open Mu.M renaming bnd->gZ,chk->g8,cnd->g9,loop->hZ,ok->iA,to_whn->iB,whn->iC
open Mu.One renaming lit->iD,own->iE
open Mu.St.le renaming refl->iG,trans->iH
open Mu.Ty renaming below->iI,bool->iJ
open Nat renaming le_antisymm->iK,le_of_ble_eq_true->iL,le_of_not_lt->iM,le_refl->iN,le_trans->iO,lt_of_lt_of_le->iP,lt_or_ge->iQ,lt_succ_self->iR,min_eq_left->iS,mul_one->iT,zero_add->iU,zero_le->iV
open Option renaming isSome_iff_exists->iW,isSome_map->iX,none->iY,some->iZ,toList_some->i7
open Option.some renaming injEq->i6
abbrev Mu.zam:=And.intro @and_self (And.intro @and_true (And.intro @true_and (@false_and)))
abbrev Mu.zaf.{u}:=And.intro @List.drop_zero.{u} (And.intro @fY.{u} (And.intro @gB.{u} (And.intro @List.set_cons_succ.{u} (And.intro @List.set_cons_zero.{u} (And.intro @if_true.{u} (@if_false.{u}))))))
namespace Mu
open Go Go.RowKit Go.Proofs
variable{a:Int}{all:List (List (List Int))}{b:Int}{bs:List gO}{f:gY}{j:Nat}{l:List Int}{n:Int}{q:Nat}{r:Bool}{x y:Ins}
def Ff(x:Ins):Bool:=wfB .u8 x.op&&wfB .i64 x.d&&wfB .i64 x.a&&wfB .i64 x.b&&wfB .u32 x.n&&wfB .i64 x.f&&wfB .i64 x.l1&&wfB .i64 x.l2&&x.args.all (wfB .i64)
def LU(b:gO):Bool:=Azz b.name&&b.ins.all Ff
def WJ(f:gY):Bool:=Azz f.name&&wfB .i64 f.args&&wfB .i64 f.regs&&f.blocks.all LU
def Aed(b:gO):Bool:=aL (b.ins.length+1<=2097152)&&b.ins.all λx=>decide (x.args.length+8<=2097152)
def Aec(f:gY):Bool:=aL (f.blocks.length<=2097152)&&f.blocks.all Aed
def Mi(f:gY):Bool:=WJ f&&Aec f&&aL ((Cl f).length<=2097152)&&aL ((NK f).length<=2097152)
theorem DK:Ff x=aK↔okIns x:=by
 unfold Ff;simp only[aG,cY];exact⟨λ⟨⟨⟨⟨⟨⟨⟨⟨a,b⟩,c⟩,d⟩,e⟩,f⟩,g⟩,i⟩,j⟩=>⟨a,b,c,d,e,f,g,i,j⟩,λh=>⟨⟨⟨⟨⟨⟨⟨⟨h.op,h.d⟩,h.a⟩,h.b⟩,h.n⟩,h.f⟩,h.l1⟩,h.l2⟩,h.args⟩⟩
theorem Jp{b:gO}:LU b=aK↔okBlock b:=by
 unfold LU;simp only[aG,cY];exact⟨λ⟨a,b⟩=>⟨Adz a,λx hx=>DK.1 (b x hx)⟩,λh=>⟨decide_eq_true h.name,λx hx=>DK.2 (h.ins x hx)⟩⟩
theorem Pk:WJ f=aK↔okFunc f:=by
 unfold WJ;simp only[aG,cY];exact⟨λ⟨⟨⟨a,b⟩,c⟩,d⟩=>⟨Adz a,b,c,λx hx=>Jp.1 (d x hx)⟩,λh=>⟨⟨⟨decide_eq_true h.name,h.args⟩,h.regs⟩,λx hx=>Jp.2 (h.blocks x hx)⟩⟩
structure FineF(f:Func):Prop where
 ok:okFunc f
 small:smallF f
 reads:(Cl f).length<=2097152
 all:(NK f).length<=2097152
 ins:∀b∈f.blocks,b.ins.length+1<=2097152
theorem BG:Mi f=aK↔FineF f:=by
 unfold Mi Aec Aed;simp only[cY,zag];exact⟨λ⟨⟨⟨a,b,c⟩,d⟩,e⟩=>⟨Pk.1 a,⟨b,λx hx=>⟨Nat.le_of_succ_le (c x hx).1,(c x hx).2⟩⟩,d,e,λx hx=>(c x hx).1⟩,
  λh=>⟨⟨⟨Pk.2 h.ok,h.small.blocks,λx hx=>⟨h.ins x hx,(h.small.all x hx).all⟩⟩,h.reads⟩,h.all⟩⟩
def MM(x:Ins):M (Int×Bool):=g8 (Ff x) (iA (if Bg x then x.d else 0,Bg x))
theorem T1{r:Int×Bool}(H:(MM x).to r):Fn bH 44 [.agg (B8 x)] (.tup [.lit (.int .i64 r.1),.lit (.bool r.2)]):=by
 obtain⟨c,H⟩:=Aj.1 H;obtain rfl:=Af.1 H;exact FG x (DK.1 c)
def Wu(f:gY):M (List (List (List Int))):=g8 (Mi f) (iA (Ng f))
theorem TY{r:List (List (List Int))}(H:(Wu f).to r):Fn bH 33 [.agg (An f)] (.bs tInt.slice.slice r):=by
 obtain⟨c,H⟩:=Aj.1 H;obtain rfl:=Af.1 H;have c:=BG.1 c;exact Ze f c.ok c.small c.reads
def Ye(f:gY):M (List Int):=g8 (Mi f) (iA (AC f))
theorem ZV{r:List Int}(H:(Ye f).to r):Fn bH 20 [.agg (An f)] (.bs tInt r):=by
 obtain⟨c,H⟩:=Aj.1 H;obtain rfl:=Af.1 H;have c:=BG.1 c;exact LK f c.ok c.small c.all
def O6(f:gY):M Bool:=g8 (Mi f) (iA (CJ f))
theorem Ws(H:(O6 f).to r):Fn bH 7 [.agg (An f)] (.lit (.bool r)):=by
 obtain⟨c,H⟩:=Aj.1 H;obtain rfl:=Af.1 H;have c:=BG.1 c;exact Aax f c.ok c.small c.all
def CM(f:gY)(leaf:Bool)(l:List Int):List (List Int):=l.map λr=>BD (B9 f) r leaf
theorem Xo(f:gY)(leaf:Bool){k:Nat}{r:Int}(h:l[k]? =iZ r):CM f leaf (l.take (k+1))=CM f leaf (l.take k)++[BD (B9 f) r leaf]:=by
 unfold CM;rw[fR,h,eQ];rfl
theorem NG(f:gY)(leaf:Bool)(u:okFunc f)(t:smallF f)(v:(Cl f).length<=2097152)(m:∀b∈f.blocks,b.ins.length+1<=2097152)(A:(NK f).length<=2097152):Fn bH 37 [.agg (An f),.lit (.bool leaf)] (.bs tInt.slice (CM f leaf (regsB f))):=by
 have o:(B9 f).length<=2147483648:=by have:=Rx f;have:=iO (Dw _) v;unfold BE at *;omega
 have w:(regsB f).length<=2097158:=by
  have h1:=Aex f;have h2:=Om (argsK f);have H:=(GM f).2;unfold Ac1 at h1;rw[eI]at h1;omega
 refine AT Tryz.func37 V (by kernel_rfl) V Tryz.ntmps37 λC G=>?_
 refine nS ?_;refine rCS ?_;refine Ae λL h2=>?_
 (refine gL ?_;(repeat(first|refine sQ ?_ (AX.call V (Amd f u t v m) V V V)|refine sQ ?_ (AB V V V V)|refine sQ ?_ (Ay V V V V)|refine sQ ?_|refine AR ?_|refine sG ?_|refine Bt ?_));refine Ax ?_)
 refine h2 _ ?_;refine nT ?_;refine rCS ?_;refine Ae λK E=>?_
 refine Ae λJ D=>?_
 (refine gL ?_;(repeat(first|refine sQ ?_ (AX.call V (LI f u t A) V V V)|refine sQ ?_ (AB V V V V)|refine sQ ?_ (Ay V V V V)|refine sQ ?_|refine AR ?_|refine sG ?_|refine Bt ?_));refine Ax ?_)
 refine D _ ?_;refine nT ?_;refine Ah ?_;refine AJ (λp:Nat×Nat=>⟨(.any::.lit (.bool leaf)::.ptr 0 0::A2 (.bs tInt (B9 f)::.own 1 p.2::A5 (.bs tInt (regsB f)::.lit (.int .i64 ((regsB f).length:Int))::.lit (.int .i64 (p.1:Int))::A10 (A2 [])))),[.box (An f),.row p.2 27 tInt.slice (CM f leaf ((regsB f).take p.1))]⟩) (λp=>p.1<=(regsB f).length) (λp=>(regsB f).length - p.1) (0,0) (iV _) ((CG 6 27 tInt.slice V (by decide)).trans (B6)) ?_;rintro⟨k,ver⟩ hk;dsimp only at hk⊢;refine rCS ?_;refine Ae λI B=>?_
 refine Am V (λc=>?_) (λc=>?_)
 ·have g:k < (regsB f).length:=by simpa using c
  obtain⟨r,z⟩:∃r,(regsB f)[k]? =iZ r:=⟨_,dZ g⟩
  have d:=Xo f leaf z;have h:(CM f leaf ((regsB f).take k)).length<=2097158:=by unfold CM;rw[eM,eP];omega
  generalize CM f leaf ((regsB f).take k)=L0 at d h⊢;refine Ao ?_;refine B _ ?_;refine nT ?_;refine Ae λF s=>?_
  refine Ah ?_;refine rCS ?_
  (refine gL ?_;(repeat(first|refine sQ ?_ (AX.call V (Wx (B9 f) r leaf (Ry f) o) V V V)|refine sQ ?_ (AB V V V V)|refine sQ ?_ (Ay V V V V)|refine sQ ?_|refine AR ?_|refine sG ?_|refine Bt ?_));refine Ax ?_)
  refine s _ ?_;refine nT ?_;refine rC ?_;refine As ⟨(k+1,ver+1),by dsimp only;omega,by dsimp only;omega,?_⟩;dsimp only;rw[d];exact B6
 ·have i:k=(regsB f).length:=by have:¬k < (regsB f).length:=(by simpa using c);omega
  have e:CM f leaf (regsB f)=CM f leaf ((regsB f).take k):=by rw[i,fV]
  refine AA ?_;refine E _ ?_;refine nT ?_;refine rCS ?_;refine Az ?_;rw[e];exact⟨.inr V,gV V⟩
theorem Aqe:∀(w:cF) (S S':Nat->Prop) (cs:List cC) (d:Int),tInt.RS w S cs d->tInt.RS w S' cs d:=λ_ _ _ _ _ h=>DR.2 (DR.1 h)
theorem WU(l:List Int)(n:Int)(t:l.length<=2097160):Fn bH 64 [.bs tInt l,.lit (.int .i64 n)] (.lit (.bool (l.contains n))):=by
 refine AT Tryz.func64 V (by kernel_rfl) V Tryz.ntmps64 λC u=>?_
 refine nS ?_;refine rCS ?_;refine Ae λz h2=>?_
 refine rCS ?_;refine Ah ?_;refine AJ (λi:Nat=>⟨(.bs tInt l::.lit (.int .i64 n)::A3 (.lit (.int .i64 (i:Int))::A10 (A2 []))),[]⟩) (λi=>i<=l.length/\(l.take i).contains n=aH) (λi=>l.length - i) 0 ⟨iV _,rfl⟩ (B6) ?_;rintro i ⟨hi,hc⟩;refine Ae λw s=>?_
 refine rCS ?_;refine Am V (λm=>?_) (λm=>?_)
 ·have g:i < l.length:=by simpa using m
  obtain⟨x,hx⟩:∃x,l[i]? =iZ x:=⟨_,dZ g⟩
  refine Ao ?_;refine s _ ?_;refine nT ?_;refine Ae λv o=>?_
  refine Ah ?_;refine rCS ?_;refine Am V (λd=>?_) (λd=>?_)
  ·have c:x=n:=by simpa using d
   have k:l.contains n=aK:=by rw[<-c];exact dE.2 (fC hx)
   refine rCS ?_;refine Az ?_;rw[k];exact⟨.inr V,gU V⟩
  ·have c:¬x=n:=by simpa using d
   refine Ao ?_;refine o _ ?_;refine nT ?_;refine rC ?_;refine As ⟨i+1,⟨by omega,?_⟩,by omega,B6⟩;rw[fR,hx,dD]at *;simp only[i7,eU,eX,List.not_mem_nil,or_false,decide_eq_false_iff_not,not_or]at hc⊢;exact⟨by simpa[dD]using hc,λe=>c e.symm⟩
 ·have h:i=l.length:=by have:¬i < l.length:=(by simpa using m);omega
  rw[h,fV]at hc;refine AA ?_;refine h2 _ ?_;refine nT ?_;refine rCS ?_;refine Az ?_;rw[hc];exact⟨.inr V,gU V⟩
def Mg(n:Int)(k:Nat):List Int:=(fN k).map λ(j:Nat)=>n+(j:Int)
theorem Aa0(n:Int)(k:Nat):Mg n (k+1)=Mg n k++[n+(k:Int)]:=by unfold Mg;rw[List.range_succ,eQ];rfl
theorem Ahc(n:Int)(k:Nat):(Mg n k).length=k:=by simp[Mg]
theorem M3(n:Int)(m:Nat)(w:0<=n)(h:n<=100)(z:m<=100):JR bH 104 [.lit (.int .i64 n),.lit (.int .i64 (m:Int))] 3 tInt (Mg n m):=by
 refine Es Tryz.func104 V (by kernel_rfl) V Tryz.ntmps104 Aqe λC A=>?_
 refine nS ?_;refine rCS ?_;refine rCS ?_;refine Ae λE u=>?_
 refine rCS ?_;refine Ah ?_;refine AJ (λp:Nat×Nat=>⟨(.lit (.int .i64 n)::.lit (.int .i64 (m:Int))::A3 (.own 0 p.2::.lit (.int .i64 (p.1:Int))::A10 (A2 []))),[.row p.2 3 tInt (Mg n p.1)]⟩) (λp=>p.1<=m) (λp=>m - p.1) (0,0) (iV _) ((CG 5 3 tInt V (by decide)).trans (B6)) ?_;rintro⟨i,ver⟩ hi;dsimp only at hi⊢;refine Ae λD t=>?_
 refine rCS ?_;refine Am V (λc=>?_) (λc=>?_)
 ·have o:i < m:=by simpa using c
  have v:wfI .i64 (n+(i:Int)):=by
   obtain⟨k,rfl⟩:∃k:Nat,n=(k:Int):=⟨n.toNat,by omega⟩
   exact LY (k:=k+i) (by omega)
  have e:=Ahc n i;have d:=Aa0 n i;generalize Mg n i=L0 at e d⊢;refine Ao ?_;refine t _ ?_;refine nT ?_;refine Ae λB s=>?_
  refine Ah ?_;refine rC ?_;refine s _ ?_;refine nT ?_;refine rC ?_;refine As ⟨(i+1,ver+1),by dsimp only;omega,by dsimp only;omega,?_⟩;dsimp only;rw[d];exact B6
 ·have g:i=m:=by have:¬i < m:=(by simpa using c);omega
  subst g;refine AA ?_;refine u _ ?_;refine nT ?_;refine rCS ?_;refine Az ?_;exact⟨.inr V,rfl,_,_,rfl,rfl⟩
theorem Alw:Mg 8 6= [8,9,10,11,12,13]:=by decide
theorem Alu:Mg 16 8=Ajj:=by decide
theorem Alv:Mg 24 6=Ajl:=by decide
theorem T9(f:gY)(r:Int)(leaf:Bool)(w:okFunc f)(v:smallF f)(m:(Cl f).length<=2097152)(h:∀b∈f.blocks,b.ins.length+1<=2097152):Fn bH 70 [.agg (An f),.lit (.int .i64 r),.lit (.bool leaf)] (.bs tInt (BD (B9 f) r leaf)):=by
 have i:(B9 f).length<=2097160:=by have:=Rx f;have:=iO (Dw _) m;unfold BE at *;omega
 have t:JR bH 104 [.lit (.int .i64 8),.lit (.int .i64 6)] 3 tInt (Mg 8 6):=M3 8 6 (by decide) (by decide) (by decide);have s:JR bH 104 [.lit (.int .i64 16),.lit (.int .i64 8)] 3 tInt (Mg 16 8):=M3 16 8 (by decide) (by decide) (by decide);have o:JR bH 104 [.lit (.int .i64 24),.lit (.int .i64 6)] 3 tInt (Mg 24 6):=M3 24 6 (by decide) (by decide) (by decide);rw[Alw]at t;rw[Alu]at s;rw[Alv]at o;have g:=o.fn;have A:Ajj.length+Ajl.length<=cT:=by decide
 have z:(Ajj.length+Ajl.length) * 8<=140737488355328:=by decide
 have u:wfI .i64 4:=Auk (by decide);have e:=WU (B9 f) r i;have hc:=Abn f w v m h;rw[Db];refine AT Tryz.func70 V (by kernel_rfl) V Tryz.ntmps70 λC E=>?_
 refine nS ?_;refine rCS ?_;refine Ae λP h2=>?_
 (refine gL ?_;(repeat(first|(refine AH V (Lp V t (by decide) V V ?_);refine sNt ?_)|refine sQ ?_ (AB V V V V)|refine sQ ?_ (Ay V V V V)|refine sQ ?_|refine AR ?_|refine sG ?_|refine Bt ?_));refine Ax ?_)
 refine h2 _ ?_;refine nT ?_;refine Ae λO I=>?_
 refine gL ?_;refine AH V (Lp V s (by decide) V V ?_);refine sNt ?_
 (repeat(first|refine sQ ?_ (AX.call V g V V V)|refine sQ ?_ (AB V V V V)|refine sQ ?_ (Ay V V V V)|refine sQ ?_|refine AR ?_|refine sG (hq:=by(intro hg;(try simp only[Bool.and_eq_true,beq_iff_eq]at hg);(try simp only[hg,Bool.true_and,zaj]);exact AX.call V g V V V)) ?_|refine sG ?_|refine Bt ?_))
 refine Ax ?_;refine I _ ?_;refine nT ?_;refine Ae λN H=>?_
 refine rCS ?_;refine Am V (λd=>?_) (λd=>?_)
 ·refine rCS ?_;refine Az ?_;rw[if_pos d];exact⟨.inr V,gV V⟩
 ·have d:leaf=aH:=d;refine Ao ?_;refine H _ ?_;refine nT ?_;refine Ae λL G=>?_
  refine Ae λK F=>?_
  (refine gL ?_;(repeat(first|refine sQ ?_ (AX.call V hc V V V)|refine sQ ?_ (AX.call V e V V V)|refine sQ ?_ (AB V V V V)|refine sQ ?_ (Ay V V V V)|refine sQ ?_|refine AR ?_|refine sG (hq:=by(intro hg;(try simp only[Bool.and_eq_true,beq_iff_eq]at hg);(try simp only[hg,Bool.true_and,zaj]);exact AX.call V hc V V V)) ?_|refine sG (hq:=by(intro hg;(try simp only[Bool.and_eq_true,beq_iff_eq]at hg);(try simp only[hg,Bool.true_and,zaj]);exact AX.call V e V V V)) ?_|refine sG ?_|refine Bt ?_));refine Ax ?_)
  refine F _ ?_;refine nT ?_;refine Am V (λc=>?_) (λc=>?_)
  ·have c:(B9 f).contains r=aK:=c;refine rCS ?_;refine Az ?_;rw[if_neg (by rw[d];simp),if_pos c];exact⟨.inr V,gV V⟩
  ·have c:(B9 f).contains r=aH:=c;refine Ao ?_;refine G _ ?_;refine nT ?_;refine Ae λJ k=>?_
   refine AN _ (OA E 2 V) ?_;refine AN ⟨(A3 (.ptr 0 0::A3 (.own 1 1::.bs tInt Jt::A10 (A6 [])))),[.box (An f),.row 1 3 tInt YS,.dead]⟩ (B6) ?_;have D:YS.length+Jt.length<=cT:=by decide
   have B:(YS.length+Jt.length) * 8<=140737488355328:=by decide
   refine rC ?_;refine k _ ?_;refine nT ?_;refine Az ?_;rw[if_neg (by rw[d];simp),if_neg (by rw[c];simp)];exact⟨.inr V,gV V⟩
theorem TQ(c:(NK f).length<=2097152):(AC f).length<=2097152:=iO (FR _).1 c
theorem Aez(c:okFunc f):Bj (AC f):=(FR _).2 (Xz c)
theorem Agc(f:gY)(n:Nat):Ux f (n+1)=Ux f n++if(aL ((n:Int) < f.args)||(AC f).contains (n:Int))=aK then [(n:Int)]else []:=by
 unfold Ux;rw[Ut,dJ,dK,List.filter_nil]
theorem Yw(f:gY)(n:Nat):(Ux f n).length<=n:=by
 unfold Ux;have:=eL (λr=>decide (r < f.args)||(AC f).contains r) (N4 n);rw[Om]at this;exact this
theorem Kw{p:Int->Bool}:∀{l:List Int} {k:Nat},(∀x∈l.take k,p x=aK)->(k=l.length\/∃x,l[k]? =iZ x/\p x=aH)->l.takeWhile p=l.take k
 | [],k,_,_=>by simp
 |x::l,0,_,h=>by
  rcases h with h|⟨y,c,d⟩
  ·simp at h
  ·simp only[dX,i6]at c;subst c;rw[List.takeWhile_cons_of_neg (by rw[d];simp),gB]
 |x::l,k+1,h1,h2=>by
  rw[fY,List.takeWhile_cons_of_pos (h1 x (by simp)),Kw (λy c=>h1 y (by rw[fY];exact eY _ c)) ?_];rcases h2 with h2|⟨y,c,d⟩
  ·exact .inl (by simpa using h2)
  ·exact .inr ⟨y,by simpa using c,d⟩
theorem ZQ(f:gY)(K:okFunc f)(hs:smallF f)(Q:(NK f).length<=2097152):Fn bH 32 [.agg (An f)] (.bs tInt (regsB f)):=by
 have ac:=TQ Q;have E:=Aez K;rw[<-Hl];refine AT Tryz.func32 V (by kernel_rfl) V Tryz.ntmps32 λC hC=>?_
 refine nS ?_;refine rCS ?_;refine Ae λK2 h2=>?_
 (refine gL ?_;(repeat(first|refine sQ ?_ (AX.call V (LK f K hs Q) V V V)|refine sQ ?_ (AB V V V V)|refine sQ ?_ (Ay V V V V)|refine sQ ?_|refine AR ?_|refine sG (hq:=by(intro hg;(try simp only[Bool.and_eq_true,beq_iff_eq]at hg);(try simp only[hg,Bool.true_and,zaj]);exact AX.call V (LK f K hs Q) V V V)) ?_|refine sG ?_|refine Bt ?_));refine Ax ?_)
 refine h2 _ ?_;refine nT ?_;refine rCS ?_;refine Ae λK4 h4=>?_
 refine rCS ?_;refine Ah ?_;refine AJ (λp:Nat×Nat=>⟨(.any::.ptr 0 0::.any::.bs tInt (AC f)::.own 1 p.2::.lit (.int .i64 (p.1:Int))::A40 (A20 [])),[.box (An f),.row p.2 3 tInt ((AC f).take p.1)]⟩) (λp=>p.1<=(AC f).length/\∀x∈(AC f).take p.1,aL (x < 0)=aK) (λp=>(AC f).length - p.1) (0,0) ⟨iV _,λx hx=>by cases hx⟩ ((CG 4 3 tInt V (by decide)).trans (B6)) ?_;rintro⟨i,ver⟩ ⟨hi,g⟩
 (try dsimp only at hi);(try dsimp only at g);(try dsimp only)
 obtain⟨x,H⟩:∃x,(AC f).getD i 0=x:=⟨_,rfl⟩
 have w:aL ((i:Int) < ((AC f).length:Int))=aK->(AC f)[i]? =iZ x:=λh=>by
  have h:(i:Int) < ((AC f).length:Int):=of_decide_eq_true h;have m:i < (AC f).length:=by omega
  rw[<-H,dU,dZ m];rfl
 refine Ae λK7 h7=>?_
 refine Ae λK8 h8=>?_
 (refine gL ?_;(repeat(first|refine sQ ?_ (IG V V V V (w hg))|refine sQ ?_ (AB V V V V)|refine sQ ?_ (Ay V V V V)|refine sQ ?_|refine AR ?_|refine sG (hq:=by(intro hg;(try simp only[Bool.and_eq_true,beq_iff_eq]at hg);(try simp only[hg,Bool.true_and,zaj]);exact IG V V V V (w hg))) ?_|refine sG ?_|refine Bt ?_));refine Ax ?_)
 refine h8 _ ?_;refine nT ?_;refine Am V (λd=>?_) (λd=>?_)
 ·have d:(aL ((i:Int) < ((AC f).length:Int))&&aL (x < 0))=aK:=d;rw[aG]at d;have hx:=w d.1;have I:=d.2;have m:=(eB.1 hx).1;have ab:=E x (fC hx);have A:(AC f).take (i+1)=(AC f).take i++[x]:=by rw[fR,hx];rfl
  have J:((AC f).take i).length<=2097152:=by rw[eP];omega
  generalize af:(AC f).take i=T0 at A J g⊢;refine Ao ?_;refine h7 _ ?_;refine nT ?_;refine Ae λan Z=>?_
  refine Ah ?_;refine rC ?_;refine Z _ ?_;refine nT ?_;refine rC ?_;refine As ⟨(i+1,ver+1),⟨by dsimp only;omega,?_⟩,by dsimp only;omega,?_⟩
  ·try dsimp only
   rw[A];intro y hy;rcases eU.1 hy with hy|hy
   ·exact g y hy
   ·rw[fG.1 hy];exact I
  ·try dsimp only
   rw[A];exact B6
 ·have d:(aL ((i:Int) < ((AC f).length:Int))&&aL (x < 0))=aH:=d;have D:(AC f).takeWhile (λr=>decide (r < 0))=(AC f).take i:=by
   refine Kw g ?_;by_cases m:i < (AC f).length
   ·refine .inr ⟨x,w (decide_eq_true (by omega)),?_⟩;rw[decide_eq_true (by omega:(i:Int) < ((AC f).length:Int)),Bool.true_and]at d;exact d
   ·exact .inl (by omega)
  rw[<-D];have S:((AC f).takeWhile λr=>decide (r < 0)).length<=2097152:=by rw[D,eP];omega
  generalize hT:(AC f).takeWhile (λr=>decide (r < 0))=TW at S⊢;refine AA ?_;refine h4 _ ?_;refine nT ?_;refine Ae λam Y=>?_
  refine rCS ?_;refine Ah ?_;refine AJ (λp:Nat×Nat=>⟨(.any::.ptr 0 0::.any::.bs tInt (AC f)::.own 1 p.2::.any::.lit (.int .i64 (p.1:Int))::A40 (A10 (A9 []))),[.box (An f),.row p.2 3 tInt (TW++Ux f p.1)]⟩) (λp=>p.1<=6) (λp=>6 - p.1) (0,ver) (iV _) (by rw[show TW++Ux f (0,ver).1=TW by simp[Ux,N4]];exact B6) ?_;rintro⟨n,e⟩ hn
  (try dsimp only at hn);(try dsimp only)
  have ad:=LY (k:=n) (by omega);have ae:=Yw f n;have L:=Agc f n;refine Ae λal X=>?_
  refine rCS ?_;refine Am V (λv=>?_) (λv=>?_)
  ·have m:n < 6:=by have:(n:Int) < 6:=(by simpa using v);omega
   have B:(TW++Ux f n).length<=2097160:=by rw[eI];omega
   have c:TW++Ux f (n+1)=(TW++Ux f n)++if(aL ((n:Int) < f.args)||(AC f).contains (n:Int))=aK then [(n:Int)]else []:=by rw[L,dB]
   generalize TW++Ux f n=R0 at B c⊢;refine Ao ?_;refine X _ ?_;refine nT ?_;refine Ae λak G=>?_
   refine Ah ?_;refine Ae λaj W=>?_
   (refine gL ?_;(repeat(first|refine sQ ?_ (AX.call V (WU (AC f) (n:Int) (by omega)) V V V)|refine sQ ?_ (AB V V V V)|refine sQ ?_ (Ay V V V V)|refine sQ ?_|refine AR ?_|refine sG (hq:=by(intro hg;(try simp only[Bool.and_eq_true,beq_iff_eq]at hg);(try simp only[hg,Bool.true_and,zaj]);exact AX.call V (WU (AC f) (n:Int) (by omega)) V V V)) ?_|refine sG ?_|refine Bt ?_));refine Ax ?_)
   refine W _ ?_;refine nT ?_;refine Am V (λu=>?_) (λu=>?_)
   ·rw[if_pos u]at c;refine rC ?_;refine G _ ?_;refine nT ?_;refine rC ?_;refine As ⟨(n+1,e+1),by dsimp only;omega,by dsimp only;omega,?_⟩;try dsimp only
    rw[c];exact B6
   ·rw[if_neg (by rw[show(aL ((n:Int) < f.args)||(AC f).contains (n:Int))=aH from u];simp),dC]at c;refine Ao ?_;refine G _ ?_;refine nT ?_;refine rC ?_;refine As ⟨(n+1,e),by dsimp only;omega,by dsimp only;omega,?_⟩;try dsimp only
    rw[c];exact B6
  ·have N:n=6:=by have:¬(n:Int) < 6:=(by simpa using v);omega
   subst N;have B:(TW++Ux f 6).length<=2097160:=by rw[eI];omega
   have o:MH f=TW++Ux f 6++(AC f).filter (λr=>decide (r > 5)):=by unfold MH;rw[hT]
   generalize TW++Ux f 6=R0 at B o⊢;refine AA ?_;refine Y _ ?_;refine nT ?_;refine Ae λai U=>?_
   refine rCS ?_;refine Ah ?_;refine AJ (λp:Nat×Nat=>⟨(.any::.ptr 0 0::.any::.bs tInt (AC f)::.own 1 p.2::A2 (.lit (.int .i64 (p.1:Int))::A40 (A10 (A8 [])))),[.box (An f),.row p.2 3 tInt (R0++((AC f).take p.1).filter λr=>decide (r > 5))]⟩) (λp=>p.1<=(AC f).length) (λp=>(AC f).length - p.1) (0,e) (iV _) (by rw[show(R0++((AC f).take (0,e).1).filter λr=>decide (r > 5))=R0 by simp];exact B6) ?_;rintro⟨k,z⟩ hk
   (try dsimp only at hk);(try dsimp only)
   refine Ae λah T=>?_
   refine rCS ?_;refine Am V (λt=>?_) (λt=>?_)
   ·have m:k < (AC f).length:=by simpa using t
    obtain⟨y,hy⟩:∃y,(AC f)[k]? =iZ y:=⟨_,dZ m⟩
    have aa:=E y (fC hy);have P:(R0++((AC f).take k).filter λr=>decide (r > 5)).length<=4194320:=by
     have h1:=eL (λr:Int=>decide (r > 5)) ((AC f).take k);rw[eP]at h1;rw[eI];omega
    have c:(R0++((AC f).take (k+1)).filter λr=>decide (r > 5))=(R0++((AC f).take k).filter λr=>decide (r > 5))++if aL (y > 5)=aK then [y]else []:=by rw[Ec hy,dB]
    generalize (R0++((AC f).take k).filter λr=>decide (r > 5))=R1 at P c⊢;refine Ao ?_;refine T _ ?_;refine nT ?_;refine Ae λag F=>?_
    refine Ah ?_;refine rCS ?_;refine Am V (λs=>?_) (λs=>?_)
    ·rw[if_pos s]at c;refine rC ?_;refine F _ ?_;refine nT ?_;refine rC ?_;refine As ⟨(k+1,z+1),by dsimp only;omega,by dsimp only;omega,?_⟩;try dsimp only
     rw[c];exact B6
    ·rw[if_neg (by rw[show aL (y > 5)=aH from s];simp),dC]at c;refine Ao ?_;refine F _ ?_;refine nT ?_;refine rC ?_;refine As ⟨(k+1,z),by dsimp only;omega,by dsimp only;omega,?_⟩;try dsimp only
     rw[c];exact B6
   ·have O:k=(AC f).length:=by have:¬k < (AC f).length:=(by simpa using t);omega
    subst O;rw[fV];refine AA ?_;refine U _ ?_;refine nT ?_;refine rCS ?_;refine Az ?_;rw[o];exact⟨.inr V,gV V⟩
def Ti(x:Ins):Bool:=x.op ==5||x.op ==7
def Eh(l:List Ins):Bool:=l.any Ti
def leaf(bs:List gO):Bool:=!(bs.any λb=>Eh b.ins)
theorem Uy{l:List Ins}(c:l[j]? =iZ y)(h:Eh (l.take j)=aH)(d:Ti y=aH):Hid (Eh (l.take (j+1))=aH):=by
 show Eh _=_;unfold Eh at h⊢;rw[fR,c,cZ,h];simp[d]
theorem Sx{l:List Ins}(c:l[j]? =iZ y)(d:Ti y=aK):Eh l=aK:=by
 unfold Eh;rw[dA];exact⟨y,fC c,d⟩
theorem UC{x:gO}(hx:bs[q]? =iZ x)(h:leaf (bs.take q)=aK)(c:Eh x.ins=aH):Hid (leaf (bs.take (q+1))=aK):=by
 show leaf _=_;unfold leaf at h⊢;rw[fR,hx,cZ];simp only[aJ]at h⊢;rw[h];simp[c]
theorem WP{x:gO}(hx:bs[q]? =iZ x)(c:Eh x.ins=aK):leaf bs=aH:=by
 unfold leaf;simp only[aI,dA];exact⟨x,fC hx,c⟩
theorem Akh(fn:gY)(w:cF)(cs:List cC)(hR:Dg.R w w.heap.size cs fn)(hsm:Dg.bulk fn<=2097152):
 aM bH 14 #[.agg cs.toArray] w λe w'=>e= .returned (.bool (leaf fn.blocks))/\Below w.heap.size w w':=by
 obtain⟨A,c,rfl,_,_,_,hBR⟩:=OI.1 hR;have hbl:=GZ fn;have HBR:=aT hBR;clear hR hBR
 go_enter Tryz.func14,Tryz.ntmps14
 go_wp2
 go_loopw [3] (λi wr=>∃q:Nat,q<=fn.blocks.length/\i= .int .i64 q/\Hid (leaf (fn.blocks.take q)=aK)/\Below (w.heap.size+1) (w.alloc (.cells [.string fn.name,.int .i64 fn.args,.int .i64 fn.regs,.slice A fn.blocks.length c].toArray 24)) wr) (λi _=>fn.blocks.length - (bZ i).toNat)
 case atStart=>exact⟨0,iV _,rfl,rfl,bY _ _⟩
 case round=>
  obtain⟨q,hq,rfl,hno,hbe⟩:=hrel;obtain⟨hfar,hbox,_,_⟩:=Vk hbe;have hb3:=hbox 3 _ V;have HBE:=aT hbe;clear hbe hbox;by_cases hlt:q < fn.blocks.length
  ·obtain⟨x,hx⟩:∃x,fn.blocks[q]? =iZ x:=⟨_,dZ hlt⟩
   obtain⟨bb,bo,Ai,ci,rfl,hbb,_,hc1,_,hIR⟩:=Y6 HBR.out hx;have hil:=JJ x;have hxb:=FJ (fC hx);have HX:=aT hx;have HIR:=aT hIR;clear hx hIR
   go_wp2
   obtain⟨wo,rfl⟩:∃wo:cF,wo=wr:=⟨_,rfl⟩
   clear hfar hb3
   go_loopw [4] (λi wr=>∃j:Nat,j<=x.ins.length/\i= .int .i64 j/\Hid (Eh (x.ins.take j)=aH)/\Below (w.heap.size+1) (w.alloc (.cells [.string fn.name,.int .i64 fn.args,.int .i64 fn.regs,.slice (iZ ⟨bb,bo,iY⟩) fn.blocks.length c].toArray 24)) wr) (λi _=>x.ins.length - (bZ i).toNat)
   case atStart=>exact⟨0,iV _,rfl,rfl,HBE.out⟩
   case round=>
    obtain⟨j,hj,rfl,hno2,hbe⟩:=hrel;obtain⟨hfar,hbox,hlt0,_⟩:=Vk hbe;have hb3:=hbox 3 _ V;have HBE2:=aT hbe;clear hbe hbox;by_cases hlt2:j < x.ins.length
    ·obtain⟨y,hy⟩:∃y,x.ins[j]? =iZ y:=⟨_,dZ hlt2⟩
     obtain⟨ib,io,Aa,ca,rfl,hib,e0,_⟩:=Agt (HIR.out) hy;have HY:=aT hy;clear hy;by_cases h5:y.op=5
     ·have d5:(y.op ==5)=aK:=by simp[h5]
      have HL:Hid (Ti y=aK):=by simp[Hid,Ti,h5]
      clear h5
      go_wp2
      go_ret
      exact⟨DI (WP HX.out (Sx HY.out HL.out)).symm,(Vk HBE2.out).2.2.2⟩
     ·have d5:(y.op ==5)=aH:=by simp[h5]
      by_cases h7:y.op=7
      ·have d7:(y.op ==7)=aK:=by simp[h7]
       have HL:Hid (Ti y=aK):=by simp[Hid,Ti,h7]
       clear h5 h7
       go_wp2
       go_ret
       exact⟨DI (WP HX.out (Sx HY.out HL.out)).symm,(Vk HBE2.out).2.2.2⟩
      ·have d7:(y.op ==7)=aH:=by simp[h7]
       have HL:Hid (Ti y=aH):=by simp[Hid,Ti,h5,h7]
       clear h5 h7
       go_wp2
       go_roundw
       case rel=>exact⟨j+1,by omega,by go_num,Uy HY.out hno2.out HL.out,HBE2.out⟩
       case measure=>simp[bZ];omega
    ·obtain rfl:j=x.ins.length:=by omega
     go_wp2
     go_roundw
     case rel=>exact⟨q+1,by omega,by go_num,UC HX.out hno.out (by have:=hno2.out;rwa [fV]at this),HBE2.out⟩
     case measure=>simp[bZ];omega
  ·obtain rfl:q=fn.blocks.length:=by omega
   go_wp2
   go_ret
   have hno':=hno.out;rw[fV]at hno';exact⟨DI hno'.symm,(Vk HBE.out).2.2.2⟩
theorem UB(y:Ins)(w:cF)(cs:List cC)(hR:Et.R w w.heap.size cs y):
 aM bH 47 #[.agg cs.toArray] w λe w'=>e= .returned (.bool (Ti y))/\Below w.heap.size w w':=by
 obtain⟨A,c,hI⟩:=IY.1 hR;obtain rfl:=hI.cs;clear hR hI;have hB:Hid (Below w.heap.size w (w.alloc (.cells [.int .u8 y.op,.int .i64 y.d,.int .i64 y.a,.int .i64 y.b,.int .u32 y.n,.int .i64 y.f,.slice A y.args.length c,.int .i64 y.l1,.int .i64 y.l2].toArray 47))):=(bY _ _).alloc (iN _) _;by_cases h5:y.op=5
 ·have d5:(y.op ==5)=aK:=by simp[h5]
  have HL:Hid (Ti y=aK):=by simp[Hid,Ti,h5]
  clear h5
  go_enter a6,bG
  go_wp2
  go_ret
  exact⟨DI HL.out.symm,hB.out⟩
 ·have d5:(y.op ==5)=aH:=by simp[h5]
  by_cases h7:y.op=7
  ·have d7:(y.op ==7)=aK:=by simp[h7]
   have HL:Hid (Ti y=aK):=by simp[Hid,Ti,h7]
   clear h5 h7
   go_enter a6,bG
   go_wp2
   go_ret
   exact⟨DI HL.out.symm,hB.out⟩
  ·have d7:(y.op ==7)=aH:=by simp[h7]
   have HL:Hid (Ti y=aH):=by simp[Hid,Ti,h5,h7]
   clear h5 h7
   go_enter a6,bG
   go_wp2
   go_ret
   exact⟨DI HL.out.symm,hB.out⟩
def Ase(w:cF)(b:Bool)(e:Ending)(w':cF):Prop:=∃z:Int,e= .returned (.int .i64 z)/\aL (0<=z)=b/\Below w.heap.size w w'
theorem Aam(l:List Ins)(va:cC)(w:cF)(hR:Et.slice.R w w.heap.size [va] l)(hl:l.length<=2097152):
 aM bH 81 #[va,.func (.func 47) #[] #[]] w (Ase w (Eh l)):=by
 obtain⟨A,c,rfl⟩:=Cn hR;have HR:=aT hR;clear hR
 go_enter Tryz.func81,Tryz.ntmps81
 go_wp2_with fail
 go_loopw [8] (λi wr=>∃j:Nat,j<=l.length/\i= .int .i64 j/\Hid (Eh (l.take j)=aH)/\Below w.heap.size w wr) (λi _=>l.length - (bZ i).toNat)
 case atStart=>exact⟨0,iV _,rfl,rfl,bY _ _⟩
 case round=>
  obtain⟨j,hj,rfl,hno,hbe⟩:=hrel;have hfar:=far hbe;have HBE:=aT hbe;clear hbe;by_cases hlt:j < l.length
  ·obtain⟨y,hy⟩:∃y,l[j]? =iZ y:=⟨_,dZ hlt⟩
   obtain⟨ib,io,Aa,ca,rfl,hib,e0,e1,e2,e3,e4,e5,e6,e7,e8,hraw⟩:=Agt (HR.out) hy;have hRw:Et.R wr wr.heap.size [.int .u8 y.op,.int .i64 y.d,.int .i64 y.a,.int .i64 y.b,.int .u32 y.n,.int .i64 y.f,.slice Aa y.args.length ca,.int .i64 y.l1,.int .i64 y.l2] y:=
    iI (IY.2 ⟨_,_,hraw⟩) HBE.out HBE.out.size
   have HY:=aT hy;have HRW:=aT hRw;clear hy hraw hRw;by_cases hL:Ti y=aK
   ·have HL:=aT hL;clear hL
    go_wp2_with fail
    refine(UB y _ _ HRW.out).mono ?_;rintro e w1 ⟨rfl,hb1⟩;rw[HL.out];have HB1:=aT hb1;clear hb1
    go_wp2_with fail
    go_ret
    exact⟨_,rfl,by rw[Sx HY.out HL.out];simp,HBE.out.trans (HB1.out.mono HBE.out.size)⟩
   ·have hL':Ti y=aH:=by simpa using hL
    have HL:=aT hL';clear hL hL'
    go_wp2_with fail
    refine(UB y _ _ HRW.out).mono ?_;rintro e w1 ⟨rfl,hb1⟩;rw[HL.out];have HB1:=aT hb1;clear hb1
    go_wp2_with fail
    go_roundw
    case rel=>exact⟨j+1,by omega,by go_num,Uy HY.out hno.out HL.out,HBE.out.trans (HB1.out.mono HBE.out.size)⟩
    case measure=>simp[bZ];omega
  ·obtain rfl:j=l.length:=by omega
   go_wp2_with fail
   go_ret
   have hno':=hno.out;rw[fV]at hno';exact⟨_,rfl,by rw[hno'];simp,HBE.out⟩
theorem Nz(l:List Ins)(va:cC)(w:cF)(hR:Et.slice.R w w.heap.size [va] l)(hl:l.length<=2097152):
 aM bH 46 #[va,.func (.func 47) #[] #[]] w λe w'=>e= .returned (.bool (Eh l))/\Below w.heap.size w w':=by
 have HR:=aT hR;clear hR
 go_enter Tryz.func46,Tryz.ntmps46
 go_wp2_with fail
 refine(Aam l va _ HR.out hl).mono ?_;rintro e w1 ⟨z,rfl,hz,hb1⟩;have HZ:=aT hz;have HB1:=aT hb1;clear hz hb1
 go_wp2_with fail
 go_ret
 exact⟨DI HZ.out,HB1.out⟩
theorem Alf(fn:gY)(w:cF)(cs:List cC)(hR:Dg.R w w.heap.size cs fn)(hsm:Dg.bulk fn<=2097152):
 aM bH 24 #[.agg cs.toArray] w λe w'=>e= .returned (.bool (leaf fn.blocks))/\Below w.heap.size w w':=by
 obtain⟨A,c,rfl,_,_,_,hBR⟩:=OI.1 hR;have hbl:=GZ fn;have HBR:=aT hBR;clear hR hBR
 go_enter Tryz.func24,Tryz.ntmps24
 go_wp2_with fail
 go_loopw [8] (λi wr=>∃q:Nat,q<=fn.blocks.length/\i= .int .i64 q/\Hid (leaf (fn.blocks.take q)=aK)/\Below w.heap.size w wr) (λi _=>fn.blocks.length - (bZ i).toNat)
 case atStart=>exact⟨0,iV _,rfl,rfl,(bY _ _).alloc (iN _) _⟩
 case round=>
  obtain⟨q,hq,rfl,hno,hbe⟩:=hrel;have hfar:=far hbe;have HBE:=aT hbe;clear hbe;by_cases hlt:q < fn.blocks.length
  ·obtain⟨x,hx⟩:∃x,fn.blocks[q]? =iZ x:=⟨_,dZ hlt⟩
   obtain⟨bb,bo,Ai,ci,rfl,hbb,hc0,hc1,_,hIR⟩:=Y6 HBR.out hx;have hil:=JJ x;have hxb:=FJ (fC hx);have HX:=aT hx;have HIR:=aT hIR;clear hx hIR;have hal:∀o,Hid (Below w.heap.size w (wr.alloc o)):=λo=>HBE.out.alloc HBE.out.size o
   by_cases hL:Eh x.ins=aK
   ·have HL:=aT hL;have HAL:=aT hal;clear hL hal
    go_wp2_with fail
    refine(Nz x.ins _ _ (iI HIR.out (HAL.out _).out (HAL.out _).out.size) (by omega)).mono ?_;rintro e w1 ⟨rfl,hb1⟩;rw[HL.out];have HB1:=aT hb1;clear hb1
    go_wp2_with fail
    go_ret
    exact⟨DI (WP HX.out HL.out).symm,(HAL.out _).out.trans (HB1.out.mono (HAL.out _).out.size)⟩
   ·have hL':Eh x.ins=aH:=by simpa using hL
    have HL:=aT hL';have HAL:=aT hal;clear hL hL' hal
    go_wp2_with fail
    refine(Nz x.ins _ _ (iI HIR.out (HAL.out _).out (HAL.out _).out.size) (by omega)).mono ?_;rintro e w1 ⟨rfl,hb1⟩;rw[HL.out];have HB1:=aT hb1;clear hb1
    go_wp2_with fail
    go_roundw
    case rel=>exact⟨q+1,by omega,by go_num,UC HX.out hno.out HL.out,(HAL.out _).out.trans (HB1.out.mono (HAL.out _).out.size)⟩
    case measure=>simp[bZ];omega
  ·obtain rfl:q=fn.blocks.length:=by omega
   go_wp2_with fail
   go_ret
   have hno':=hno.out;rw[fV]at hno';exact⟨DI hno'.symm,HBE.out⟩
def Jj(l:List Int)(n:Int):Int->M (Int⊕((Unit)⊕(Bool))):=λc=>g9 (aL (c < (l.length:Int))) (g8 (Cd l c) (g9 ((ixD l c) ==n) (iA (.inr (.inr aK))) (iA (.inl (aR.wrap (c+1)))))) (iA (.inr (.inl ())))
def O5(l:List Int)(n:Int):M Bool:=M.els (hZ (Jj l n) 0) λ_=>iA aH
theorem Sc(H:(O5 l n).to r):Fn bH 69 [.bs tInt l,.lit (.int .i64 n)] (.lit (.bool r)):=by
 delta O5 at H;try dsimp only at H
 refine AT Tryz.func69 V (by kernel_rfl) V Tryz.ntmps69 λC E=>?_
 simp only[Nat.reduceAdd,Nat.reduceSub,zaa];refine wS (sT (wN ?_));obtain⟨w,s,o,m⟩:=CF H;refine Bk (β:=(Unit)×(Unit)) (λt=>w= .inl t.1) (λt=>⟨A10 (A8 []),[]⟩) ?_ ?_
 ·refine wS (sT (wN ?_));refine Ah ?_;refine By s (λz F=>⟨.bs tInt l::.lit (.int .i64 n)::A3 (.lit (.int .i64 z)::A10 (A2 [])),[]⟩) () (?_) ?_
  ·try dsimp only
   exact AU
  ·rintro D _ B H g;try dsimp only
   dsimp only[Jj]at H;refine Ae λv i=>?_
   refine wS (sT (sT (sT (sT (wN ?_)))));refine Am V (λd=>?_) (λd=>?_)
   ·have H:=AK d H;refine Ao ?_;refine i _ ?_;refine nT ?_;refine Ae λu h=>?_
    refine Ah ?_;obtain⟨A,H⟩:=Aj.1 H;refine wS (sT (sT (sX A (sT (sT (sT (wN ?_)))))));refine Am V (λc=>?_) (λc=>?_)
    ·have H:=AK c H;refine wS (sT (wN ?_));have H:=Af.2 (m _ (g _ (Af.1 H).symm).symm);obtain rfl:=Af.1 H;exact Az ⟨.inr V,gU V⟩
    ·have H:=AL c H;refine Ao ?_;refine h _ ?_;refine nT ?_;refine wSE (sT (sT (sT (wN ?_))));have k:=Af.1 H;repeat(first|refine abN ?_|refine asN ?_)
     refine As ⟨_,(),k.symm,?_⟩;try dsimp only
     exact AU
   ·have H:=AL d H;refine AA ?_;repeat(first|refine BF ?_|refine exO (by decide) ?_|refine asE ?_)
    refine exN ?_;have k:=g _ (Af.1 H).symm;repeat(first|refine abN ?_|refine asN ?_)
    refine As ⟨(_,()),k.symm,?_⟩;try dsimp only
    exact AU
 ·rintro⟨_,_⟩ e;try dsimp only at e
  have H:=o _ e;try dsimp only
  refine wS (sT (wN ?_));obtain rfl:=Af.1 H;exact Az ⟨.inr V,gU V⟩
def F8(f:gY)(all:List (List (List Int)))(a:Int)(b:Int)(d:Int):Int->M (Int⊕((Unit)⊕((Int)⊕((Unit)⊕(Bool))))):=λe=>g8 (Cd f.blocks d) (g9 (aL (e < (((ixD f.blocks d).ins).length:Int))) (g8 (Cd f.blocks d) (g8 (Cd ((ixD f.blocks d).ins) e) (gZ (MM (ixD ((ixD f.blocks d).ins) e)) λc=>g8 (!(c.2&&(c.1 ==a))||(Cd all d)) (g8 (!(c.2&&(c.1 ==a))||(Cd (ixD all d) (aR.wrap (e+1)))) (gZ (iC (c.2&&(c.1 ==a)) aH (O5 (ixD (ixD all d) (aR.wrap (e+1))) b)) λg=>g9 (((c.2&&(c.1 ==a))&&g)&&(!((((ixD ((ixD f.blocks d).ins) e).op) ==2)&&(((ixD ((ixD f.blocks d).ins) e).a) ==b)))) (iA (.inr (.inr (.inr (.inr aK))))) (iA (.inl (aR.wrap (e+1))))))))) (iA (.inr (.inl ()))))
def Hn(f:gY)(all:List (List (List Int)))(a:Int)(b:Int):Int->M (Int⊕((Unit)⊕(Bool))):=λc=>g9 (aL (c < (f.blocks.length:Int))) (M.els (hZ (F8 f all a b c) 0) λ_=>iA (.inl (aR.wrap (c+1)))) (iA (.inr (.inl ())))
def MK(f:gY)(all:List (List (List Int)))(a:Int)(b:Int):M Bool:=M.els (hZ (Hn f all a b) 0) λ_=>iA aH
theorem TX(H:(MK f all a b).to r):Fn bH 68 [.agg (An f),.bs tInt.slice.slice all,.lit (.int .i64 a),.lit (.int .i64 b)] (.lit (.bool r)):=by
 delta MK at H;try dsimp only at H
 refine AT Tryz.func68 V (by kernel_rfl) V Tryz.ntmps68 λC hC=>?_
 simp only[Nat.reduceAdd,Nat.reduceSub,zaa];refine wS (sB (sT (wN ?_)));obtain⟨z2,T,Q,O⟩:=CF H;refine Bk (β:=(Unit)×(Unit)) (λW=>z2= .inl W.1) (λW=>⟨A40 (A20 (A10 (A6 []))),[.dead]⟩) ?_ ?_
 ·refine wS (sT (wN ?_));refine Ah ?_;refine By T (λs2 b2=>⟨.any::.bs tInt.slice.slice all::.lit (.int .i64 a)::.lit (.int .i64 b)::.ptr 0 0::A4 (.lit (.int .i64 s2)::A40 (A20 (A6 []))),[.box (An f)]⟩) () (?_) ?_
  ·try dsimp only
   exact AU
  ·rintro o _ x2 H w;try dsimp only
   dsimp only[Hn]at H;refine Ae λY D=>?_
   refine wS (sT (sT (sT (sT (sT (wN ?_))))));refine Am V (λm=>?_) (λm=>?_)
   ·have H:=AK m H;refine Ao ?_;refine D _ ?_;refine nT ?_;obtain⟨Z,S,P,N⟩:=CF H;refine Bk (β:=(Unit)×(Unit)) (λU=>Z= .inl U.1) (λU=>⟨.any::.bs tInt.slice.slice all::.lit (.int .i64 a)::.lit (.int .i64 b)::.ptr 0 0::A4 (.lit (.int .i64 o)::A40 (A20 (A6 []))),[.box (An f)]⟩) ?_ ?_
    ·refine Ah ?_;refine wS (sT (wN ?_));refine Ah ?_;refine By S (λs6 b6=>⟨.any::.bs tInt.slice.slice all::.lit (.int .i64 a)::.lit (.int .i64 b)::.ptr 0 0::A4 (.lit (.int .i64 o)::.lit (.int .i64 s6)::A40 (A20 (A5 []))),[.box (An f)]⟩) () (?_) ?_
     ·try dsimp only
      exact AU
     ·rintro z _ x6 H v;try dsimp only
      dsimp only[F8]at H;refine Ae λX B=>?_
      obtain⟨c8,H⟩:=Aj.1 H;refine wS (sT (sT (sT (sT (sX c8 (sT (sT (sT (sT (wN ?_))))))))));refine Am V (λk=>?_) (λk=>?_)
      ·have H:=AK k H;refine Ao ?_;refine B _ ?_;refine nT ?_;refine Ae λL u=>?_
       refine Ah ?_;obtain⟨K,H⟩:=Aj.1 H;obtain⟨J,H⟩:=Aj.1 H;refine wS (sT (sT (sT (sX K (sT (sT (sT (sX J (sT (sA0 ?_))))))))));refine sW ?_;refine wN ?_;obtain⟨c,h,H⟩:=Ar.1 H;have h:=T1 h;refine wS (sT (sC h (sT (sT (sT (sT (sT (wN ?_))))))));obtain⟨I,H⟩:=Aj.1 H;obtain⟨G,H⟩:=Aj.1 H;obtain⟨d,A,H⟩:=Ar.1 H;refine wS (sT (sT ?_));refine sGt V ?_;refine sGt V ?_;refine sGt V (sT (sT ?_));refine sGt V ?_;refine sGt V ?_;refine Aph V I ?_;refine sGt V ?_;refine sGt V ?_;refine sGt V ?_;refine Aph V G ?_;refine sGt V ?_;refine sGt V ?_;refine sG (g:=(c.2&&(c.1 ==a))) (hg:=Oq V) (hq:=λhg=>by((try simp only[BL hg]);(try simp only[Qu hg]);exact AO V V (Sc (iB A hg)) V V)) (ht:=(Av (Au (Au (Au Hh))))) ?_;refine sT (sT ?_);refine sGt V ?_;refine sGt V ?_;refine sGt V ?_;refine sGt V ?_;refine sG (g:=(((c.2&&(c.1 ==a))&&d)&&(((ixD ((ixD f.blocks o).ins) z).op) ==2))) (hg:=Mf V V) (hq:=λhg=>by(have i:=HT hg;exact Bu V (Aq FQ) V)) (ht:=(Av (Av Gv))) (hk:=?_);refine sG (g:=(((c.2&&(c.1 ==a))&&d)&&(((ixD ((ixD f.blocks o).ins) z).op) ==2))) (hg:=Mf V V) (hq:=λhg=>by(have i:=HT hg;exact Bi V ((Aw (Aw Fu)).trans (BL hg _ _)) V V)) (ht:=(Av (Av Hh))) (hk:=?_);refine sG (g:=(((c.2&&(c.1 ==a))&&d)&&(((ixD ((ixD f.blocks o).ins) z).op) ==2))) (hg:=Mf V V) (hq:=λhg=>by(have i:=HT hg;exact AX.move V FQ)) (ht:=(Av (Av GR))) (hk:=?_);refine sG (g:=(((c.2&&(c.1 ==a))&&d)&&(((ixD ((ixD f.blocks o).ins) z).op) ==2))) (hg:=Mf V V) (hq:=λhg=>by(have i:=HT hg;exact CN V ((Aw (Aw G8)).trans (BL hg _ _)) ((Aw (Aw GY)).trans (BL hg _ _)) V)) (ht:=(Av (Av (Au GS)))) (hk:=?_);refine sG (g:=((c.2&&(c.1 ==a))&&d)) (hg:=Oq V) (hq:=λhg=>D7 V ((Aw (Aw Gt)).trans (BL hg _ _)) ((Aw (Aw (Aq IL))).trans (Qu hg _ _)) Ac2) (ht:=(Av (Av (Au JX)))) ?_;refine sGt V (sT (wN ?_));refine Am V (λe=>?_) (λe=>?_)
       ·have H:=AK e H;refine wS (sT (wN ?_));have H:=Af.2 (N _ (v _ (Af.1 H).symm).symm);have H:=Af.2 (O _ (w _ (Af.1 H).symm).symm);obtain rfl:=Af.1 H;exact Az ⟨.inr V,gU V⟩
       ·have H:=AL e H;refine Ao ?_;refine u _ ?_;refine nT ?_;refine wSE (sT (sT (sT (wN ?_))));have E:=Af.1 H;repeat(first|refine abN ?_|refine asN ?_)
        refine As ⟨_,(),E.symm,?_⟩;try dsimp only
        exact leC (gQ (gT _))
      ·have H:=AL k H;refine AA ?_;repeat(first|refine BF ?_|refine exO (by decide) ?_|refine asE ?_)
       refine exN ?_;have E:=v _ (Af.1 H).symm;repeat(first|refine abN ?_|refine asN ?_)
       refine As ⟨(_,()),E.symm,?_⟩;try dsimp only
       exact AU
    ·rintro⟨_,_⟩ s;try dsimp only at s
     have H:=P _ s;try dsimp only
     refine wSE (sT (sT (sT (wN ?_))));have F:=Af.1 H;repeat(first|refine abN ?_|refine asN ?_)
     refine As ⟨_,(),F.symm,?_⟩;try dsimp only
     exact AU
   ·have H:=AL m H;refine AA ?_;repeat(first|refine BF ?_|refine exO (by decide) ?_|refine asE ?_)
    refine exN ?_;have F:=w _ (Af.1 H).symm;repeat(first|refine abN ?_|refine asN ?_)
    refine As ⟨(_,()),F.symm,?_⟩;try dsimp only
    exact leC (gR (gT _))
 ·rintro⟨_,_⟩ t;try dsimp only at t
  have H:=Q _ t;try dsimp only
  refine wS (sT (wN ?_));obtain rfl:=Af.1 H;exact Az ⟨.inr V,gU V⟩
def JZ(f:gY)(all:List (List (List Int)))(a:Int)(b:Int):M Bool:=g9 (a ==b) (iA aH) (gZ (MK f all a b) λe=>gZ (iC (!e) aH (MK f all b a)) λr5=>g9 (e||r5) (iA aK) (g8 (!(aL ((all.length:Int) > 0))||(Cd all 0)) (g8 (!(aL ((all.length:Int) > 0))||(Cd (ixD all 0) 0)) (gZ (iC (aL ((all.length:Int) > 0)) aH (O5 (ixD (ixD all 0) 0) a)) λc=>g8 (!((aL ((all.length:Int) > 0))&&c)||(Cd all 0)) (g8 (!((aL ((all.length:Int) > 0))&&c)||(Cd (ixD all 0) 0)) (gZ (iC ((aL ((all.length:Int) > 0))&&c) aH (O5 (ixD (ixD all 0) 0) b)) λd=>iA (((aL ((all.length:Int) > 0))&&c)&&d)))))))
theorem Q7(H:(JZ f all a b).to r):Fn bH 34 [.agg (An f),.bs tInt.slice.slice all,.lit (.int .i64 a),.lit (.int .i64 b)] (.lit (.bool r)):=by
 delta JZ at H;try dsimp only at H
 refine AT Tryz.func34 V (by kernel_rfl) V Tryz.ntmps34 λC F=>?_
 simp only[Nat.reduceAdd,Nat.reduceSub,zaa];refine wS (sB (sT (wN ?_)));refine Ae λu k=>?_
 refine wS (sT (sT (sT (wN ?_))));refine Am V (λd=>?_) (λd=>?_)
 ·have H:=AK d H;refine wS (sT (wN ?_));obtain rfl:=Af.1 H;exact Az ⟨.inr V,gU V⟩
 ·have H:=AL d H;refine Ao ?_;refine k _ ?_;refine nT ?_;refine Ae λt i=>?_
  obtain⟨s,e,H⟩:=Ar.1 H;have e:=TX e;obtain⟨E,A,H⟩:=Ar.1 H;refine wS (sT (sT (sT (sT (sC e (sT ?_))))));refine sG (g:=(!s)) (hg:=Aha V) (hq:=λhg=>AW V Gt V V) (ht:=(Au (Au KP))) ?_;refine sGf V ?_;refine sGf V ?_;refine sGf V ?_;refine sG (g:=(!s)) (hg:=Aha V) (hq:=λhg=>by((try simp only[BL hg]);(try simp only[Qu hg]);exact AO V V (TX (iB A hg)) V V)) (ht:=(Au (Au Hh))) ?_;refine sT (wN ?_);refine Am V (λc=>?_) (λc=>?_)
  ·have H:=AK c H;refine wS (sT (wN ?_));obtain rfl:=Af.1 H;exact Az ⟨.inr V,gU V⟩
  ·have H:=AL c H;refine Ao ?_;refine i _ ?_;refine nT ?_;obtain⟨D,H⟩:=Aj.1 H;obtain⟨B,H⟩:=Aj.1 H;obtain⟨v,z,H⟩:=Ar.1 H;obtain⟨o,H⟩:=Aj.1 H;obtain⟨m,H⟩:=Aj.1 H;obtain⟨w,h,H⟩:=Ar.1 H;refine wS (sT (sT (sT (sT ?_))));refine sGt V ?_;refine Aph V D ?_;refine sGt V ?_;refine Aph V B ?_;refine sGt V ?_;refine sGt V ?_;refine sG (g:=(aL ((all.length:Int) > 0))) (hg:=Oq V) (hq:=λhg=>by((try simp only[BL hg]);(try simp only[Qu hg]);exact AO V V (Sc (iB z hg)) V V)) (ht:=(Av KP)) ?_;refine sT (sT ?_);refine sGt V ?_;refine Aph V o ?_;refine sGt V ?_;refine Aph V m ?_;refine sGt V ?_;refine sGt V ?_;refine sG (g:=((aL ((all.length:Int) > 0))&&v)) (hg:=Oq V) (hq:=λhg=>by((try simp only[BL hg]);(try simp only[Qu hg]);exact AO V V (Sc (iB h hg)) V V)) (ht:=(Av (Au I8))) ?_;refine sT (sT (wN ?_));obtain rfl:=Af.1 H;exact Az ⟨.inr V,gU V⟩
def Da(f:gY)(r1:List Int)(r2:List (List (List Int)))(c:Int):(Int×(List iF))->M ((Int×(List iF))⊕((List iF))):=λ(k11,l13)=>g9 (aL (k11 < (r1.length:Int))) (gZ (g8 (Cd r1 c) (g8 (Cd r1 k11) (gZ (JZ f r2 (ixD r1 c) (ixD r1 k11)) λd=>g9 d (g8 (Cd r1 c) (g8 (Cd r1 k11) (g8 (Jo ⟨ixD r1 c,ixD r1 k11⟩) (g8 (EM (l13.length+([⟨ixD r1 c,ixD r1 k11⟩]:List iF).length) 16) (iA (l13++[⟨ixD r1 c,ixD r1 k11⟩])))))) (iA l13)))) λe=>iA (.inl (aR.wrap (k11+1),e))) (iA (.inr l13))
def Fe(f:gY)(r1:List Int)(r2:List (List (List Int))):(Int×(List iF))->M ((Int×(List iF))⊕((List iF))):=λ(i3,l5)=>g9 (aL (i3 < (r1.length:Int))) (gZ (hZ (Da f r1 r2 i3) (aR.wrap (i3+1),l5)) λc=>iA (.inl (aR.wrap (i3+1),c))) (iA (.inr l5))
def Ho(f:gY):M (List iF):=gZ (Ye f) λr1=>gZ (Wu f) λr2=>gZ (hZ (Fe f r1 r2) (0,[])) λc=>iA c
theorem Wt{r:List iF}(H:(Ho f).to r):Fn bH 18 [.agg (An f)] (.bs CI r):=by
 delta Ho at H;try dsimp only at H
 refine AT Tryz.func18 V (by kernel_rfl) V Tryz.ntmps18 λC hC=>?_
 simp only[Nat.reduceAdd,Nat.reduceSub,zaa];refine wS (sB (sT (wN ?_)));obtain⟨r1,Q,H⟩:=Ar.1 H;have Q:=ZV Q;obtain⟨r2,P,H⟩:=Ar.1 H;have P:=TY P;refine dS 6 (hq:=?_);refine qT (qC Q (qT (qC P (qT (qT (qN (wN ?_)))))));refine wS (sT (wN ?_));refine AN _ (D6 5 41 CI V (by decide)) ?_;obtain⟨z6,af,ae⟩:=Ar.1 H;refine Bk (β:=((List iF))×(Nat)) (λw=>z6=w.1) (λw=>⟨A5 (.own 1 w.2::A40 (A4 [])),[.dead,.row w.2 41 CI w.1]⟩) ?_ ?_
 ·refine wS (sT (wN ?_));refine Ah ?_;refine By af (λs6 b6=>⟨.any::.ptr 0 0::.any::.bs tInt r1::.bs tInt.slice.slice r2::.own 1 b6::.lit (.int .i64 s6.1)::A40 (A3 []),[.box (An f),.row b6 41 CI s6.2]⟩) 0 (?_) ?_
  ·try dsimp only
   exact AU
  ·rintro⟨z,l5⟩ v4 x6 H ad;try dsimp only
   dsimp only[Fe]at H;refine Ae λag S=>?_
   refine wS (sT (sT (sT (sT (wN ?_)))));refine Am V (λh=>?_) (λh=>?_)
   ·have H:=AK h H;refine Ao ?_;refine S _ ?_;refine nT ?_;obtain⟨L,J,G⟩:=Ar.1 H;refine Bk (β:=((List iF))×(Nat)) (λd=>L=d.1) (λd=>⟨.any::.ptr 0 0::.any::.bs tInt r1::.bs tInt.slice.slice r2::.own 1 d.2::.lit (.int .i64 z)::A40 (A3 []),[.box (An f),.row d.2 41 CI d.1]⟩) ?_ ?_
    ·refine Ah ?_;refine wS (sT (sT (sT (wN ?_))));refine Ah ?_;refine By J (λv D=>⟨.any::.ptr 0 0::.any::.bs tInt r1::.bs tInt.slice.slice r2::.own 1 D::.lit (.int .i64 z)::.lit (.int .i64 v.1)::A40 (A2 []),[.box (An f),.row D 41 CI v.2]⟩) v4 (?_) ?_
     ·try dsimp only
      exact AU
     ·rintro⟨s,al⟩ m ah H E;try dsimp only
      dsimp only[Da]at H;refine Ae λac B=>?_
      refine wS (sT (sT (sT (sT (wN ?_)))));refine Am V (λg=>?_) (λg=>?_)
      ·have H:=AK g H;refine Ao ?_;refine B _ ?_;refine nT ?_;obtain⟨K,I,F⟩:=Ar.1 H;refine Bk (β:=((List iF))×(Nat)) (λc=>K=c.1) (λc=>⟨.any::.ptr 0 0::.any::.bs tInt r1::.bs tInt.slice.slice r2::.own 1 c.2::.lit (.int .i64 z)::.lit (.int .i64 s)::A40 (A2 []),[.box (An f),.row c.2 41 CI c.1]⟩) ?_ ?_
       ·have H:=I;refine Ah ?_;obtain⟨ab,H⟩:=Aj.1 H;obtain⟨aa,H⟩:=Aj.1 H;obtain⟨ai,o,H⟩:=Ar.1 H;have o:=Q7 o;refine dS 11 (hq:=?_);refine qT (qT (qT (qT (qX ab (qT (qT (qT (qX aa (qT (qC o (qN ?_)))))))))));refine wN ?_;refine Am V (λe=>?_) (λe=>?_)
        ·have H:=AK e H;obtain⟨Z,H⟩:=Aj.1 H;obtain⟨Y,H⟩:=Aj.1 H;obtain⟨X,H⟩:=Aj.1 H;obtain⟨W,H⟩:=Aj.1 H;refine dSE 11 (hq:=?_);refine qT (qT (qT (qX Z (qT (qT (qT (qX Y (qT ?_))))))));refine qA ?_ (BT (rs:=[.lit (.int .i64 (ixD r1 z)),.lit (.int .i64 (ixD r1 s))]) V Afk V V) (Av (Au Hh));refine qA ?_ (AX.lt (xs:=[.tmp 46]) (T:=CI) (ds:=[⟨ixD r1 z,ixD r1 s⟩]) V V V (by rfl) (by decide) (.cons (Al2 X) .nil)) (Av (Au GR));refine qN (sP W (sT (wN ?_)));have t:=Af.1 H;repeat(first|refine abN ?_|refine asN ?_)
         refine As ⟨(_,m+1),t.symm,?_⟩;try dsimp only
         exact AU
        ·have H:=AL e H;refine Ao ?_;have t:=Af.1 H;repeat(first|refine abN ?_|refine asN ?_)
         refine As ⟨(_,m),t.symm,?_⟩;try dsimp only
         exact AU
       ·rintro⟨aj,N⟩ i;try dsimp only at i
        have H:=F;rw[i]at H;try dsimp only
        refine wSE (sT (sT (sT (wN ?_))));have u:=Af.1 H;repeat(first|refine abN ?_|refine asN ?_)
        refine As ⟨_,N,u.symm,?_⟩;try dsimp only
        exact AU
      ·have H:=AL g H;refine AA ?_;repeat(first|refine BF ?_|refine exO (by decide) ?_|refine asE ?_)
       refine exN ?_;have u:=E _ (Af.1 H).symm;repeat(first|refine abN ?_|refine asN ?_)
       refine As ⟨(_,m),u.symm,?_⟩;try dsimp only
       exact AU
    ·rintro⟨ak,O⟩ k;try dsimp only at k
     have H:=G;rw[k]at H;try dsimp only
     refine wSE (sT (sT (sT (wN ?_))));have U:=Af.1 H;repeat(first|refine abN ?_|refine asN ?_)
     refine As ⟨_,O,U.symm,?_⟩;try dsimp only
     exact AU
   ·have H:=AL h H;refine AA ?_;repeat(first|refine BF ?_|refine exO (by decide) ?_|refine asE ?_)
    refine exN ?_;have U:=ad _ (Af.1 H).symm;repeat(first|refine abN ?_|refine asN ?_)
    refine As ⟨(_,v4),U.symm,?_⟩;try dsimp only
    exact leC (gR (gQ (gT _)))
 ·rintro⟨l8,v7⟩ A;try dsimp only at A
  have H:=ae;rw[A]at H;try dsimp only
  refine wS (sT (sT (wN ?_)));obtain rfl:=Af.1 H;exact Az ⟨.inr V,gV V⟩
noncomputable section
def Aby(f:gY):M Bool:=g8 (Mi f&&aL (Dg.bulk f<=2097152)) (iA (leaf f.blocks))
theorem NH(H:(Aby f).to r):Fn bH 24 [.agg (An f)] (.lit (.bool r)):=by
 obtain⟨c,H⟩:=Aj.1 H;obtain rfl:=Af.1 H;rw[aG]at c;have g:=BG.1 c.1;exact JS (by kernel_rfl) λw vs e=>by
  obtain⟨v,rfl,d⟩:=Ac4 e;obtain⟨cs,rfl,hc⟩:=Jc d;exact Alf f w cs (Sf g.ok hc) (of_decide_eq_true c.2)
def Sb(f:gY):M Bool:=g8 (Mi f&&aL (Dg.bulk f<=2097152)) (iA (leaf f.blocks))
theorem ZU(H:(Sb f).to r):Fn bH 14 [.agg (An f)] (.lit (.bool r)):=by
 obtain⟨c,H⟩:=Aj.1 H;obtain rfl:=Af.1 H;rw[aG]at c;have g:=BG.1 c.1;exact JS (by kernel_rfl) λw vs e=>by
  obtain⟨v,rfl,d⟩:=Ac4 e;obtain⟨cs,rfl,hc⟩:=Jc d;exact Akh f w cs (Sf g.ok hc) (of_decide_eq_true c.2)
def Oh(f:gY):M (List Int):=g8 (Mi f) (iA (regsB f))
theorem Q5{r:List Int}(H:(Oh f).to r):Fn bH 32 [.agg (An f)] (.bs tInt r):=by
 obtain⟨c,H⟩:=Aj.1 H;obtain rfl:=Af.1 H;have c:=BG.1 c;exact ZQ f c.ok c.small c.all
def Q6(f:gY)(n:Int)(leaf:Bool):M (List Int):=g8 (Mi f) (iA (BD (B9 f) n leaf))
theorem TV{leaf:Bool}{r:List Int}(H:(Q6 f n leaf).to r):Fn bH 70 [.agg (An f),.lit (.int .i64 n),.lit (.bool leaf)] (.bs tInt r):=by
 obtain⟨c,H⟩:=Aj.1 H;obtain rfl:=Af.1 H;have c:=BG.1 c;exact T9 f n leaf c.ok c.small c.reads c.ins
def KO(x:Ins):M (List Int):=g8 (Ff x&&aL (x.args.length<=2097152)) (iA (readsC x))
def I7(x:Ins):M (Int×Bool):=g8 (Ff x) (iA (if Bg x then x.d else 0,Bg x))
theorem Qz{r:Int×Bool}(H:(I7 x).to r):Fn bH 61 [.agg (B8 x)] (.tup [.lit (.int .i64 r.1),.lit (.bool r.2)]):=by
 obtain⟨c,H⟩:=Aj.1 H;obtain rfl:=Af.1 H;exact F3 x (DK.1 c)
def Ayz:List Int->Bool
 | []=>aK
 |x::l=>l.all (λy=>decide (x < y))&&Ayz l
theorem SV:∀{l:List Int},Ayz l=aK↔Asc l
 | []=>by simp[Ayz,Asc]
 |x::l=>by
  unfold Ayz;rw[aG,SV,cY];unfold Asc;rw[List.pairwise_cons];simp
def C9(l:List Int)(n:Int):M (Int×Bool):=g8 (Ayz l&&aL (l.length<=2147483648)) (iA (((l.countP (· < n):Nat):Int),l.contains n))
theorem Fc{r:Int×Bool}(H:(C9 l n).to r):Fn bH 38 [.bs tInt l,.lit (.int .i64 n)] (.tup [.lit (.int .i64 r.1),.lit (.bool r.2)]):=by
 obtain⟨c,H⟩:=Aj.1 H;obtain rfl:=Af.1 H;rw[aG]at c;exact OT l n (SV.1 c.1) (of_decide_eq_true c.2)
end
end Mu
section
namespace Go.Proofs
open Go.Shelf
def Tryz.lays112_ren:Go.Shelf.Ren:=⟨fun|112=>192|n=>n,fun|28=>27|3=>3|0=>0|4=>4|n=>n,fun|n=>n⟩
theorem Tryz.lays112:Go.Proofs.Lays.n112 bH Tryz.lays112_ren:={
 mixed:=by kernel_rfl
 f112:=aZ.trans (congrArg iZ (by kernel_rfl))
 t0:=bN
 a0:=a8
 z0:=bI
 v0:=bU
 t3:=bP
 a3:=bB
 z3:=bK
 v3:=bW
 t4:=bR
 a4:=bC
 z4:=bL
 v4:=bX
 t28:=bO
 a28:=bA
 z28:=bJ
 v28:=bV}
end Go.Proofs
end
namespace Mu
open Go Go.RowKit Go.Proofs
variable{S:Nat->Prop}{α:Type}{T:Ty α}{β:Type}{T2:Ty β}{b:Int}{cs:List cC}{cur:List Int}{α0:Type}{d:α0}{e:cB}{enc:α0->List AV}{f:gY}{i j k k0:Nat}{l:List Int}{l2:List β}{off:Nat}{p:Int->Bool}{r:List Int}{ty:cB}{ver:Nat}{w:cF}{x:aV}
section
variable{P:aW}{C:Ctx}{t:List AV}{h:List gD}{o:aU}
theorem HW{l:List α}(s:o.op= .nilCheck x)(hx:evA t x= .rp i ver k off)(hi:h[i]? =iZ (.row ver e T l)):AX P C t h o (.rp i ver k off):=
 AQ λS ψ w ρ _ m=>by
  have h1:=m x (by simp[s,Op.operands]);rw[hx]at h1;have h2:=h1;unfold gK at h1;obtain⟨g,n,c,_,u⟩:=(h1.2 _ (by rw[hi];rfl)).2 V;rw[u]at h2;exact⟨.pointer (iZ ⟨g,k * Fz h[i]?+off,iY⟩),by simp[execOp,s,u],h2⟩
theorem Aix.bs{T:Ty α0}[EncOf T enc]{m:α0}(A:off+1<=T.size)(B:(enc d).take off++[.bs T2 l2]++(enc d).drop (off+1)=enc m)
 (c:∀(w:cF) (S:Nat->Prop) (cs:List cC),Ak w S [] ψ0 (enc m) cs->T.RS w S cs m):Aix h T d off (.bs T2 l2) 1 m:=λC S ψ w v cs H s z=>by
 have h1:v.oneCell'=aK:=One.bs (h:=h) (T:=T2) (l:=l2) C S ψ w v H s;have u:v.cells.toList= [v]:=by rw[HJ h1]
 refine⟨by rw[u];rfl,A,λx hx=>by rw[u]at hx;rw[fG.1 hx];exact h1,c w S _ ?_⟩;have g:Ak w S [] ψ0 (enc d) cs:=EncOf.ok (T:=T) (enc:=enc) w S [] ψ0 cs d z;rw[<-B,u];refine BP (BP (LF g off) ?_) (LG g (off+1));unfold Ak;refine⟨v,[],rfl,by unfold gK at s⊢;exact s,?_⟩;unfold Ak;rfl
theorem Acr{T:Ty α0}[EncOf T enc]{y:aV}{l:List α0}{K:St->Prop}(g:α0)[SZ P ty 1](v:o.op= .store ty x y)(hx:evA t x= .rp i ver k off)(u:evA t y= .bs T2 l2)(hi:h[i]? =iZ (.row ver e T l))(hk:l[k]? =iZ d)
 (m:off+1<=T.size)(z:(enc d).take off++[.bs T2 l2]++(enc d).drop (off+1)=enc g)(c:∀(w:cF) (S:Nat->Prop) (cs:List cC),Ak w S [] ψ0 (enc g) cs->T.RS w S cs g)
 (A:K ⟨Br t o.dst (.lit undef),h.set i (.row ver e T (l.set k g))⟩):AOp P C o ⟨t,h⟩ K:=
 NV (s:=⟨t,h⟩) v hx hi hk (by rw[show evA (St.mk t h).t y=_ from u];exact Aix.bs m z c) SZ.eq A
theorem Anf{z:aV}{ik:IntKind}{n:Nat}{l:List α}{K:St->Prop}[ES P ty n](m:o.op= .slice ty x iY (iZ z) iY)(hx:evA t x= .own i ver)(hi:h[i]? =iZ (.row ver e T l))(g:T.size=n)(c:evA t z= .lit (.int ik b))(hc:slB l 0 b=aK)
 (s:K ⟨Br t o.dst (.own i (ver+1)),h.set i (.row (ver+1) e T (l.take b.toNat))⟩):AOp P C o ⟨t,h⟩ K:=by
 obtain⟨h1,h2,u⟩:=Aeg.1 hc;exact Nm m hx hi g (Ai4 c h2) u s
end
theorem Wl{base:Nat}{v:cC}{zs:List Int}(c:Gp w base v zs)(F:zs.length<=2147483648):
 aM bH 192 #[v] w λe w'=>e= .returned (.tuple #[])/\Gp w' base v zs.reverse/\w.grownBy w' v.ownBlock:=by
 rcases c.2 with⟨rfl,h0⟩|⟨g,cap,cur,rfl,m,B,h1,h2,E,D⟩
 ·have:zs= []:=dH h0;subst this;refine(Any.slices_Reverse_int_empty Tryz.lays112 _ _ _).mono λe w' ⟨u,s⟩=>?_
  subst s;exact⟨u,by simpa using c,World.grownBy.refl _ _⟩
 ·refine(Any.slices_Reverse_int Tryz.lays112 g 0 cap zs w (Ka B D) (by omega)).mono λe w' ⟨u,z,s⟩=>?_
  subst s;have A:=ownsRow_sortedI (os:=#[]) (n:=z) (ts:=zs.reverse) (ss:=zs) (by simp) m B h1 h2 E;have hg:=grownBy_sortedI (w:=w) (g:=g) (n:=z) (os:=#[]) zs.reverse.toArray;rw[Go.Sort.grow_empty]at A hg;exact⟨u,.of A (by simp) V,hg⟩
section
variable{C:Ctx}{t:List AV}{h:List gD}{o:aU}{K:St->Prop}
theorem Acs{D:Array cB}(G:o.op= .call {callee:=.value (.func 192),args:=#[x],argTypes:=D})(hx:evA t x= .own i ver)(hi:h[i]? =iZ (.row ver 3 tInt l))(O:l.length<=2147483648)
 (U:K ⟨Br t o.dst .any,h.set i (.row ver 3 tInt l.reverse)⟩):AOp bH C o ⟨t,h⟩ K:=by
 rintro Q' a w ⟨Q,S,ψ,H,z⟩;refine⟨λc e=>(by rw[G]at e;cases e),?_⟩;have u:=BA z x;rw[show evA (St.mk t h).t x= .own i ver from hx]at u;unfold gK at u;have L:=(u.2 _ (by rw[hi];rfl)).2 V;have B:=H.blk i _ hi;have v:=B.lt V;obtain⟨I,J⟩:=JY B;unfold Oper.wp;rw[CC G (by kernel_rfl) a.eval w V];simp only[Oper.upon];rw[show(#[x].map a.eval)= #[ψ i]from by simp[L]];refine(Wl I O).mono ?_;rintro r w' ⟨rfl,F,E⟩;have m:w.grownBy w' (Bz (ψ i)):=by
  have e:Bz (ψ i)=(ψ i).ownBlock:=by
   rcases I.2 with⟨e,_⟩|⟨g,cap,cur,e,_⟩ <;> rw[e] <;> rfl
  rw[e];exact E
 have A:∀k,S k->w'.heap[k]? =w.heap[k]?:=λk hk=>m.block k (H.lt k hk) λe=>(v k e.symm).2.2 hk
 have X:Ext w S h ψ w' S (h.set i (.row ver 3 tInt l.reverse)) (Bs ψ i (ψ i)):=Ext.set A hi (λW hc=>by
  simp only[gH,i6]at hc;exact⟨ver,rfl,by omega,λ_=>⟨rfl,rfl⟩⟩) λh=>by simp[Bd]at h
 exact⟨_,U,IK (s:=⟨t,h⟩) hi Q z (H.set hi V (Bv m) X (LS F (λr N=>J r (List.mem_reverse.1 N)) λg hg=>⟨(v g (AY hg)).1,(v g (AY hg)).2.2⟩) λg hg=>.inl hg) X (by unfold gK;trivial)⟩
end
theorem CX:∀(w:cF) (S S':Nat->Prop) (cs:List cC) (d:Int),tInt.RS w S cs d->tInt.RS w S' cs d:=λ_ _ _ _ _ h=>DR.2 (DR.1 h)
noncomputable section
structure FStep where
 b:Int
 next:List Int
def Lw:Ty FStep:=(tInt.cons (tInt.slice.cons Dt)).via (λx=>⟨x.1,x.2.1⟩) (λd=>(d.b,d.next,()))
theorem XZ{x:FStep}:Lw.RS w S cs x↔∃c:cC,cs= [.int .i64 x.b,c]/\wfI .i64 x.b/\tInt.slice.RS w S [c] x.next:=by
 constructor
 ·rintro⟨⟨_,_,rfl,⟨rfl,h0⟩,_,_,rfl,h1,rfl⟩,_⟩;have g:=h1;obtain⟨s,m,rfl,_⟩:=h1;exact⟨_,rfl,h0,g⟩
 ·rintro⟨c,rfl,h0,h1⟩;exact⟨⟨[_],_,rfl,⟨rfl,h0⟩,[_],_,rfl,h1,rfl⟩,rfl⟩
@[reducible] def GJ(x:FStep):List AV:=[.lit (.int .i64 x.b),.bs tInt x.next]
theorem U3:Enc Lw GJ:=by
 intro w S h ψ cs d H;obtain⟨c,rfl,h0,h1⟩:=XZ.1 H;simp only[GJ,Ak,gK];exact⟨_,_,rfl,rfl,_,_,rfl,h1,rfl⟩
theorem Z7:S9 Lw:=Ef U3 λd x hx=>by
 simp only[GJ,or_false,zak]at hx;rcases hx with rfl|rfl <;> first|exact .inl ⟨_,rfl,rfl⟩|exact .inr ⟨_,_,_,rfl⟩
instance Azr:EncOf Lw GJ:=⟨U3,Z7,by decide⟩
structure okFStep(x:FStep):Prop where
 b:wfI .i64 x.b
theorem T5{h:List gD}{ψ:Nat->cC}{x:FStep}(c:okFStep x)(H:Ak w S h ψ (GJ x) cs):Lw.RS w S cs x:=by
 simp only[GJ,Ak,gK]at H;obtain⟨_,_,rfl,rfl,_,_,rfl,h1,rfl⟩:=H;exact XZ.2 ⟨_,rfl,c.b,h1⟩
instance Azq:Inhabited FStep:=⟨⟨0,[]⟩⟩
def Gz(x:FStep):Bool:=wfB .i64 x.b
theorem Pl{x:FStep}(h:Gz x=aK):okFStep x:=by
 unfold Gz at h;exact⟨h⟩
theorem UW{h:List gD}{x:FStep}(hk:Gz x=aK):Fit h Lw (.agg (GJ x)) x:=Mx (enc:=GJ) λ_ _ _ _ H=>T5 (Pl hk) H
theorem Afl:EB bH 206=iZ [(0,1),(1,1)]:=by kernel_rfl
instance Azp:FO bH 206 0 0:=⟨by kernel_rfl⟩
instance Azo:FO bH 206 1 1:=⟨by kernel_rfl⟩
instance Azn:ZC bH 206 [.int .i64 0,.slice iY 0 0]:=⟨by kernel_rfl⟩
instance Ayg:ES bH 207 2:=⟨by kernel_rfl⟩
instance Ayf:SL bH 207:=⟨by kernel_rfl⟩
instance Aye:RT bH 207 206 2 32:=⟨by kernel_rfl⟩
def PK(f:gY)(b:Int):M (List Int):=g8 (Mi f) (iA (nextL f b))
theorem PJ(H:(PK f b).to r):Fn bH 190 [.agg (An f),.lit (.int .i64 b)] (.bs tInt r):=by
 obtain⟨c,H⟩:=Aj.1 H;obtain rfl:=Af.1 H;have g:=BG.1 c;exact UT f b g.ok g.small.blocks λb m=>(g.small.all b m).ins
def FK(f:gY)(c:Int):((List Bool)×(List FStep)×(List Int))->M (((List Bool)×(List FStep)×(List Int))⊕((List Int))):=λ(l8,l10,l12)=>g9 (aL ((l10.length:Int) > 0)) (g8 (Cd l10 (aR.wrap ((l10.length:Int) - 1))) (g9 ((((ixD l10 (aR.wrap ((l10.length:Int) - 1))).next).length:Int) ==0) (g8 (wfB .i64 ((ixD l10 (aR.wrap ((l10.length:Int) - 1))).b)) (g8 (EM (l12.length+ [(ixD l10 (aR.wrap ((l10.length:Int) - 1))).b].length) 8) (g8 (slB l10 0 (aR.wrap ((l10.length:Int) - 1))) (iA (.inl (l8,fQ (cW (aR.wrap ((l10.length:Int) - 1))) l10,l12++[(ixD l10 (aR.wrap ((l10.length:Int) - 1))).b])))))) (g8 (Cd ((ixD l10 (aR.wrap ((l10.length:Int) - 1))).next) 0) (g8 (slB ((ixD l10 (aR.wrap ((l10.length:Int) - 1))).next) 1 (((ixD l10 (aR.wrap ((l10.length:Int) - 1))).next).length:Int)) (g8 (Gz ⟨(ixD l10 (aR.wrap ((l10.length:Int) - 1))).b,slD ((ixD l10 (aR.wrap ((l10.length:Int) - 1))).next) 1 (((ixD l10 (aR.wrap ((l10.length:Int) - 1))).next).length:Int)⟩) (g8 (Cd l8 (ixD ((ixD l10 (aR.wrap ((l10.length:Int) - 1))).next) 0)) (g9 ((!(ixD l8 (ixD ((ixD l10 (aR.wrap ((l10.length:Int) - 1))).next) 0)))&&((ixD ((ixD l10 (aR.wrap ((l10.length:Int) - 1))).next) 0) !=c)) (g8 (Cd l8 (ixD ((ixD l10 (aR.wrap ((l10.length:Int) - 1))).next) 0)) (gZ (PK f (ixD ((ixD l10 (aR.wrap ((l10.length:Int) - 1))).next) 0)) λg=>g8 (Gz ⟨ixD ((ixD l10 (aR.wrap ((l10.length:Int) - 1))).next) 0,g⟩) (g8 (EM ((l10.set (cW (aR.wrap ((l10.length:Int) - 1))) ⟨(ixD l10 (aR.wrap ((l10.length:Int) - 1))).b,slD ((ixD l10 (aR.wrap ((l10.length:Int) - 1))).next) 1 (((ixD l10 (aR.wrap ((l10.length:Int) - 1))).next).length:Int)⟩).length+([⟨ixD ((ixD l10 (aR.wrap ((l10.length:Int) - 1))).next) 0,g⟩]:List FStep).length) 32) (iA (.inl (l8.set (cW (ixD ((ixD l10 (aR.wrap ((l10.length:Int) - 1))).next) 0)) aK,(l10.set (cW (aR.wrap ((l10.length:Int) - 1))) ⟨(ixD l10 (aR.wrap ((l10.length:Int) - 1))).b,slD ((ixD l10 (aR.wrap ((l10.length:Int) - 1))).next) 1 (((ixD l10 (aR.wrap ((l10.length:Int) - 1))).next).length:Int)⟩)++([⟨ixD ((ixD l10 (aR.wrap ((l10.length:Int) - 1))).next) 0,g⟩]:List FStep),l12)))))) (iA (.inl (l8,l10.set (cW (aR.wrap ((l10.length:Int) - 1))) ⟨(ixD l10 (aR.wrap ((l10.length:Int) - 1))).b,slD ((ixD l10 (aR.wrap ((l10.length:Int) - 1))).next) 1 (((ixD l10 (aR.wrap ((l10.length:Int) - 1))).next).length:Int)⟩,l12)))))))))) (iA (.inr l12))
def Fi(f:gY)(c:Int):M (List Int):=g9 (((f.blocks.length:Int) ==0)||(c ==0)) (iA ([]:List Int)) (g8 (V3 (f.blocks.length:Int) 1) (g8 (Cd (fO (cW (f.blocks.length:Int)) aH) 0) (gZ (PK f 0) λm=>g8 (Gz ⟨0,m⟩) (gZ (hZ (FK f c) ((fO (cW (f.blocks.length:Int)) aH).set (cW 0) aK,[⟨0,m⟩],([]:List Int))) λg=>iA g))))
theorem PI{c:Int}(H:(Fi f c).to r):JR bH 179 [.agg (An f),.lit (.int .i64 c)] 3 tInt r:=by
 delta Fi at H;try dsimp only at H
 refine Es Tryz.func179 V (by kernel_rfl) V Tryz.ntmps179 CX λC hC=>?_
 simp only[Nat.reduceAdd,Nat.reduceSub,zaa];refine wS (sB (sT (wN ?_)));refine Ae λam ab=>?_
 refine wS (sT (sT (sT (sT (sT ?_)))));refine sGf V ?_;refine sGf V (sT (wN ?_));refine Am V (λI=>?_) (λI=>?_)
 ·have H:=AK I H;refine wS (sT (wN ?_));obtain rfl:=Af.1 H;refine AN _ (D6 4 3 tInt V (by decide)) ?_;exact Az ⟨.inr V,rfl,1,0,rfl,rfl⟩
 ·have H:=AL I H;refine Ao ?_;refine ab _ ?_;refine nT ?_;refine wS (sT (wN ?_));obtain⟨c3,H⟩:=Aj.1 H;refine wS (sT (sT (sT ?_)));(refine AH V (Qn 1 V (T:=iJ) (e:=4) (v:=.bool aH) (bytes:=1) (aH:Bool) V (by kernel_rfl) V (λ_ _=>rfl) V V c3 ?_);refine DS ?_ (Au (Au Gv)));refine sT (wN ?_);obtain⟨c4,H⟩:=Aj.1 H;refine wS (sT ?_);refine sA ?_ (BO V (Aq (Aq G8)) V Ac2 V c4) (Au (Au GR));(refine AH V (CY V V V (BN c4) gW V ?_);refine DS ?_ QA);refine wN ?_;obtain⟨r5,k5,H⟩:=Ar.1 H;have k5:=PJ k5;obtain⟨c6,H⟩:=Aj.1 H;refine wS (sT (sC k5 ?_));refine sA ?_ (BT (rs:=[.lit (.int .i64 0),.bs tInt r5]) V Afl V V) (Au (Au (Au KP)));(refine AH V (Km 2 V (xs:=[.tmp 26]) (T:=Lw) (ds:=[⟨0,r5⟩]) V V V (RT.eq (n:=2) (bytes:=32)) (by decide) (by decide) (.cons (UW c6) .nil) ?_);refine DS ?_ (Au (Au (Au I8))));refine sT (wN ?_);refine AN _ (D6 5 3 tInt V (by decide)) ?_;obtain⟨Y,X,W⟩:=Ar.1 H;refine Bk (β:=((List Int))×(Nat)) (λu=>Y=u.1) (λu=>⟨A5 (.own 3 u.2::A80 (A4 [])),[.dead,.dead,.dead,.row u.2 3 tInt u.1]⟩) ?_ ?_
  ·refine Ah ?_;refine By X (λF s=>⟨.any::.lit (.int .i64 c)::.ptr 0 0::A2 (.own 3 s.2.2::.own 1 s.1::.own 2 s.2.1::A80 (A2 [])),[.box (An f),.row s.1 4 iJ F.1,.row s.2.1 206 Lw F.2.1,.row s.2.2 3 tInt F.2.2]⟩) (0,0,0) (?_) ?_
   ·try dsimp only
    exact AU
   ·rintro⟨l8,l10,ap⟩ ⟨v7,Z,D⟩ an H U;try dsimp only
    dsimp only[FK]at H;refine Ae λal N=>?_
    refine wS (sT (sT (sT (wN ?_))));refine Am V (λB=>?_) (λB=>?_)
    ·have H:=AK B H;refine Ao ?_;refine N _ ?_;refine nT ?_;refine Ah ?_;obtain⟨m,H⟩:=Aj.1 H;refine wS (sT (sT (sT (sT ?_))));refine sA ?_ (BO V (Aq (Aq (Aq GY))) V (Aw FD) V m) (Av I8);refine sT (wN ?_);refine Ae λak L=>?_
     refine wS (sT ?_);refine sA ?_ (HW V (Aw Gt) V) (Av Gv);refine sA ?_ (CQ V (Aw Fu) V) (Av Hh);refine sA ?_ (Bp V (Aw G8) V (BN m) V) (Av GR);refine sT (sT (wN ?_));refine Am V (λA=>?_) (λA=>?_)
     ·have H:=AK A H;obtain⟨aj,H⟩:=Aj.1 H;obtain⟨ai,H⟩:=Aj.1 H;refine wS (sT (sT ?_));refine sA ?_ (HW V (Aw (Aq FQ)) V) (Av (Au JW));refine sA ?_ (CQ V (Aw (Aq Gt)) V) (Av (Au Gv));refine sA ?_ (Bp V (Aw (Aq Fu)) V (BN m) V) (Av (Au Hh));refine sA (hq:=AX.lt (xs:=[.tmp 46]) (T:=tInt) (ds:=[(ixD l10 (aR.wrap ((l10.length:Int) - 1))).b]) V V V (by rfl) (by decide) (.cons (gX aj) .nil)) (ht:=(Av (Au GR))) (hk:=?_);refine sP ai (sT (wN ?_));obtain⟨ah,H⟩:=Aj.1 H;refine wS (sT (sT (sT (sT ?_))));(refine AH V (Anf V V V V V ah ?_);refine DS ?_ (Av (Au (Au Gv))));refine sT (wN ?_);refine AA ?_;repeat(first|refine BF ?_|refine exO (by decide) ?_|refine asE ?_)
      refine exN ?_;have g:=Af.1 H;repeat(first|refine abN ?_|refine asN ?_)
      refine As ⟨_,(v7,Z+1,D+1),g.symm,?_⟩;try dsimp only
      exact AU
     ·have H:=AL A H;refine Ao ?_;refine L _ ?_;refine nT ?_;obtain⟨ag,H⟩:=Aj.1 H;refine wS (sT ?_);refine sA ?_ (HW V (Aw (Aq (Aq G8))) V) (Av (Au (Au GR)));refine sA ?_ (CQ V (Aw (Aq (Aq GY))) V) (Av (Au (Au (Au GS))));refine sA ?_ (Bp V (Aw (Aq (Aq (Aq IL)))) V (BN m) V) (Av (Au (Au (Au JX))));refine sX ag (sT (sT (wN ?_)));obtain⟨af,H⟩:=Aj.1 H;obtain⟨ae,H⟩:=Aj.1 H;refine wS (sT (sT ?_));refine sA ?_ (HW V (Aw (Aq (Aq (Aq Fu)))) V) (Av (Au (Au (Au Hh))));refine sA ?_ (CQ V (Aw (Aq (Aq (Aq G8)))) V) (Av (Au (Au (Au GR))));refine sA ?_ (Bp V (Aw (Aq (Aq (Aq GY)))) V (BN m) V) (Av (Av GS));refine sA ?_ (Acc V (Aw (Aw IL)) V Ac2 af) (Av (Av JX));refine sA ?_ (HW V (Aw (Aq (Aq (Aq Gt)))) V) (Av (Av KP));refine sA ?_ (CQ V (Aw (Aw FD)) V) (Av (Av I8));(refine AH V (Acr ⟨(ixD l10 (aR.wrap ((l10.length:Int) - 1))).b,slD ((ixD l10 (aR.wrap ((l10.length:Int) - 1))).next) 1 (((ixD l10 (aR.wrap ((l10.length:Int) - 1))).next).length:Int)⟩ V V V V (BN m) (by decide) V (λ_ _ _ hr=>T5 (Pl ae) hr) ?_);refine DS ?_ QA);refine wN ?_;obtain⟨Q,H⟩:=Aj.1 H;refine wS (sT (sT ?_));refine sA ?_ (BO V (Aw (Aw Gt)) V (Aw (Aw Fu)) V Q) (Av (Av Hh));refine sA ?_ (Bp V (Aw (Aw G8)) V (BN Q) V) (Av (Av GR));refine sT (sT ?_);refine sGt V ?_;refine sGt V ?_;refine sGt V (sT (wN ?_));refine Am V (λz=>?_) (λz=>?_)
      ·have H:=AK z H;obtain⟨O,H⟩:=Aj.1 H;refine wS (sT (sT ?_));refine sA ?_ (BO V (Aw (Aw (Aq G8))) V (Aw (Aw (Aq GY))) V O) (Av (Av (Au (Au GS))));(refine AH V (CY V V V (BN O) gW V ?_);refine DS ?_ QA);refine wN ?_;obtain⟨J,G,H⟩:=Ar.1 H;have G:=PJ G;obtain⟨ad,H⟩:=Aj.1 H;obtain⟨ac,H⟩:=Aj.1 H;refine wSE (sT (sT (sT (sT (sC G ?_)))));refine sA (hq:=BT (rs:=[.lit (.int .i64 (ixD ((ixD l10 (aR.wrap ((l10.length:Int) - 1))).next) 0)),.bs tInt J]) V Afl V V) (ht:=(Av (Av (Au (Au Hh))))) (hk:=?_);refine sA (hq:=AX.lt (xs:=[.tmp 86]) (T:=Lw) (ds:=[⟨ixD ((ixD l10 (aR.wrap ((l10.length:Int) - 1))).next) 0,J⟩]) V V V (by rfl) (by decide) (.cons (UW ad) .nil)) (ht:=(Av (Av (Au (Au GR))))) (hk:=?_);refine sP ac (sT (wN ?_));have g:=Af.1 H;repeat(first|refine abN ?_|refine asN ?_)
       refine As ⟨_,(v7,Z+1,D),g.symm,?_⟩;try dsimp only
       exact AU
      ·have H:=AL z H;refine Ao ?_;have g:=Af.1 H;repeat(first|refine abN ?_|refine asN ?_)
       refine As ⟨_,(v7,Z,D),g.symm,?_⟩;try dsimp only
       exact AU
    ·have H:=AL B H;refine AA ?_;repeat(first|refine BF ?_|refine exO (by decide) ?_|refine asE ?_)
     refine exN ?_;have g:=U _ (Af.1 H).symm;repeat(first|refine abN ?_|refine asN ?_)
     refine As ⟨(_,D),g.symm,?_⟩;try dsimp only
     exact leC (gR (gR (gR (gQ (gT _)))))
  ·rintro⟨ao,aa⟩ E;try dsimp only at E
   have H:=W;rw[E]at H;try dsimp only
   refine wS (sT (sT (wN ?_)));obtain rfl:=Af.1 H;exact Az ⟨.inr V,rfl,3,aa,rfl,rfl⟩
def EF(r2:List Int):(Int×(List Bool))->M ((Int×(List Bool))⊕((List Bool))):=λ(x3,l5)=>g9 (aL (x3 < (r2.length:Int))) (g8 (Cd r2 x3) (g8 (Cd l5 (ixD r2 x3)) (iA (.inl (aR.wrap (x3+1),l5.set (cW (ixD r2 x3)) aK))))) (iA (.inr l5))
def GI(f:gY):M (List Bool):=g8 (V3 (f.blocks.length:Int) 1) (gZ (Fi f (-1)) λr2=>gZ (hZ (EF r2) (0,fO (cW (f.blocks.length:Int)) aH)) λc=>iA c)
theorem QD{r:List Bool}(H:(GI f).to r):Fn bH 159 [.agg (An f)] (.bs iJ r):=by
 delta GI at H;try dsimp only at H
 refine AT Tryz.func159 V (by kernel_rfl) V Tryz.ntmps159 λC hC=>?_
 simp only[Nat.reduceAdd,Nat.reduceSub,zaa];refine wS (sB (sT (wN ?_)));obtain⟨W,H⟩:=Aj.1 H;refine wS (sT (sT (sT ?_)));(refine AH V (Qn 1 V (T:=iJ) (e:=4) (v:=.bool aH) (bytes:=1) (aH:Bool) V (by kernel_rfl) V (λ_ _=>rfl) V V W ?_);refine DS ?_ (Au JX));refine sT (wN ?_);obtain⟨r2,D,H⟩:=Ar.1 H;have D:=PI D;obtain⟨Q,L,J⟩:=Ar.1 H;refine Bk (β:=((List Bool))×(Nat)) (λg=>Q=g.1) (λg=>⟨A3 (.own 1 g.2::A10 (A8 [])),[.dead,.row g.2 4 iJ g.1,.dead]⟩) ?_ ?_
 ·refine wS (sT ?_);(refine AH V (DG 2 V V D (by decide) CX (.cons (.cl V) (.cons (.cl V) .nil)) ?_);refine DS ?_ (Au I8));refine sT (sT (wN ?_));refine Ah ?_;refine By L (λO B=>⟨A3 (.own 1 B.1::A7 (.own 2 B.2::.lit (.int .i64 (r2.length:Int))::.lit (.int .i64 O.1)::A8 [])),[.dead,.row B.1 4 iJ O.2,.row B.2 3 tInt r2]⟩) (0,0) (?_) ?_
  ·try dsimp only
   exact leC (gR (gQ (gQ (gT _))))
  ·rintro⟨Y,l5⟩ ⟨N,U⟩ X H I;try dsimp only
   dsimp only[EF]at H;refine wS (sT (wN ?_));refine Ae λG u=>?_
   refine Am V (λc=>?_) (λc=>?_)
   ·have H:=AK c H;refine Ao ?_;refine u _ ?_;refine nT ?_;refine Ae λF s=>?_
    refine Ah ?_;obtain⟨A,H⟩:=Aj.1 H;refine wS ?_;refine sA ?_ (BO V (Aq FQ) V (Aq Fu) V A) (Au GR);refine sA ?_ (Bp V (Aq GY) V (BN A) V) (Au (Au GS));refine sT (wN ?_);obtain⟨z,H⟩:=Aj.1 H;refine wSE (sT (sT ?_));refine sA ?_ (BO V (Aq (Aq GH)) V (Aq (Aq FD)) V z) (Au (Au I8));(refine AH V (CY V V V (BN z) gW V ?_);refine DS ?_ QA);refine wN ?_;refine s _ ?_;refine nT ?_;refine wSE (sT (sT (wN ?_)));have E:=Af.1 H;repeat(first|refine abN ?_|refine asN ?_)
    refine As ⟨_,(N,U),E.symm,?_⟩;try dsimp only
    exact AU
   ·have H:=AL c H;refine AA ?_;repeat(first|refine BF ?_|refine exO (by decide) ?_|refine asE ?_)
    refine exN ?_;have E:=I _ (Af.1 H).symm;repeat(first|refine abN ?_|refine asN ?_)
    refine As ⟨(_,N),E.symm,?_⟩;try dsimp only
    exact leC (gQ (gQ (gR (gT _))))
 ·rintro⟨l9,Z⟩ m;try dsimp only at m
  have H:=J;rw[m]at H;try dsimp only
  refine wS (sT (sT (wN ?_)));obtain rfl:=Af.1 H;exact Az ⟨.inr V,gV V⟩
def Kb(f:gY):M (List Int):=gZ (Fi f (-1)) λr1=>g8 (aL (r1.length<=2147483648)) (iA (List.reverse r1))
theorem UU(H:(Kb f).to r):Fn bH 186 [.agg (An f)] (.bs tInt r):=by
 delta Kb at H;try dsimp only at H
 refine AT Tryz.func186 V (by kernel_rfl) V Tryz.ntmps186 λC m=>?_
 simp only[Nat.reduceAdd,Nat.reduceSub,zaa];refine wS (sB (sT (wN ?_)));obtain⟨r1,c,H⟩:=Ar.1 H;have c:=PI c;refine wS (sT ?_);(refine AH V (DG 1 V V c (by decide) CX (.cons (.cl V) (.cons (.cl V) .nil)) ?_);refine DS ?_ Gv);refine sT (wN ?_);obtain⟨g,H⟩:=Aj.1 H;refine wS (sT ?_);(refine AH V (Acs V V V (of_decide_eq_true g) ?_);refine DS ?_ GR);refine wN ?_;refine wS (sT (sT (wN ?_)));obtain rfl:=Af.1 H;exact Az ⟨.inr V,gV V⟩
def D3(a:List Int)(g:List Int):(Int×(List Int))->M ((Int×(List Int))⊕((List Int))):=λ(x1,l3)=>g9 (aL (x1 < (a.length:Int))) (gZ (g8 (Cd a x1) (gZ (C9 g (ixD a x1)) λc=>g9 c.2 (g8 (wfB .i64 (ixD a x1)) (g8 (EM (l3.length+ [ixD a x1].length) 8) (iA (l3++[ixD a x1])))) (iA l3))) λl10=>iA (.inl (aR.wrap (x1+1),l10))) (iA (.inr l3))
def Ga(a:List Int)(c:List Int):M (List Int):=gZ (hZ (D3 a c) (0,([]:List Int))) λg=>iA g
theorem SF{a:List Int}{m:List Int}(H:(Ga a m).to r):JR bH 187 [.bs tInt a,.bs tInt m] 3 tInt r:=by
 delta Ga at H;try dsimp only at H
 refine Es Tryz.func187 V (by kernel_rfl) V Tryz.ntmps187 CX λC hC=>?_
 simp only[Nat.reduceAdd,Nat.reduceSub,zaa];refine wS (sT (wN ?_));refine wS (sT (wN ?_));refine AN _ (D6 5 3 tInt V (by decide)) ?_;obtain⟨z4,W,U⟩:=Ar.1 H;refine Bk (β:=((List Int))×(Nat)) (λA=>z4=A.1) (λA=>⟨A5 (.own 0 A.2::A20 (A3 [])),[.row A.2 3 tInt A.1]⟩) ?_ ?_
 ·refine wS (sT (sT (sT (wN ?_))));refine Ah ?_;refine By W (λY Z=>⟨.any::.bs tInt m::A3 (.own 0 Z::A4 (.bs tInt a::.lit (.int .i64 (a.length:Int))::.lit (.int .i64 Y.1)::A10 (A6 []))),[.row Z 3 tInt Y.2]⟩) 0 (?_) ?_
  ·try dsimp only
   exact AU
  ·rintro⟨X,l3⟩ G x4 H Q;try dsimp only
   dsimp only[D3]at H;refine wS (sT (wN ?_));refine Ae λaa I=>?_
   refine Am V (λv=>?_) (λv=>?_)
   ·have H:=AK v H;refine Ao ?_;refine I _ ?_;refine nT ?_;obtain⟨F,E,D⟩:=Ar.1 H;refine Bk (β:=((List Int))×(Nat)) (λc=>F=c.1) (λc=>⟨.any::.bs tInt m::A3 (.own 0 c.2::A4 (.bs tInt a::.lit (.int .i64 (a.length:Int))::.lit (.int .i64 X)::A10 (A6 []))),[.row c.2 3 tInt c.1]⟩) ?_ ?_
    ·have H:=E;refine Ah ?_;obtain⟨O,H⟩:=Aj.1 H;refine wS (sX O (sT (sT (wN ?_))));obtain⟨ab,u,H⟩:=Ar.1 H;have u:=Fc u;refine wS (sT (sT (sC u (sT (sT (sT (sT (sT (wN ?_)))))))));refine wS (sT (wN ?_));refine Am V (λg=>?_) (λg=>?_)
     ·have H:=AK g H;obtain⟨N,H⟩:=Aj.1 H;obtain⟨L,H⟩:=Aj.1 H;refine wSE (sT (sT ?_));refine sA ?_ (AX.lt (xs:=[.tmp 24]) (T:=tInt) (ds:=[ixD a X]) V V V (by rfl) (by decide) (.cons (gX N) .nil)) (Au (Au (Au JX)));refine sP L (sT (wN ?_));have z:=Af.1 H;repeat(first|refine abN ?_|refine asN ?_)
      refine As ⟨(_,G+1),z.symm,?_⟩;try dsimp only
      exact AU
     ·have H:=AL g H;refine Ao ?_;have z:=Af.1 H;repeat(first|refine abN ?_|refine asN ?_)
      refine As ⟨(_,G),z.symm,?_⟩;try dsimp only
      exact AU
    ·rintro⟨l10,v9⟩ s;try dsimp only at s
     have H:=D;rw[s]at H;try dsimp only
     refine wSE (sT (sT (wN ?_)));have J:=Af.1 H;repeat(first|refine abN ?_|refine asN ?_)
     refine As ⟨_,v9,J.symm,?_⟩;try dsimp only
     exact AU
   ·have H:=AL v H;refine AA ?_;repeat(first|refine BF ?_|refine exO (by decide) ?_|refine asE ?_)
    refine exN ?_;have J:=Q _ (Af.1 H).symm;repeat(first|refine abN ?_|refine asN ?_)
    refine As ⟨(_,G),J.symm,?_⟩;try dsimp only
    exact AU
 ·rintro⟨l6,v5⟩ B;try dsimp only at B
  have H:=U;rw[B]at H;try dsimp only
  refine wS (sT (sT (wN ?_)));obtain rfl:=Af.1 H;exact Az ⟨.inr V,rfl,0,v5,rfl,rfl⟩
end
def ED(p:Int->Bool)(l:List Int)(j:Nat):List Int:=(l.take j).filter λx=>!p x
theorem FN{x:Int}(hx:l[j]? =iZ x):ED p l (j+1)=if p x then ED p l j else ED p l j++[x]:=by
 unfold ED;rw[fR,hx,dJ];cases h:p x <;> simp[h]
structure DelJ(p:Int->Bool)(l:List Int)(k0:Nat)(q:List Int×Nat):Prop where
 len:q.1.length=l.length
 j:q.2<=l.length
 k0:k0 < q.2
 pre:q.1.take (ED p l q.2).length=ED p l q.2
 post:q.1.drop q.2=l.drop q.2
 lt:(ED p l q.2).length < q.2
theorem Abj(hk:k0 < l.length)(s:∀x∈l.take k0,p x=aH){x:Int}(hx:l[k0]? =iZ x)(m:p x=aK):DelJ p l k0 (l,k0+1):=by
 have e:ED p l (k0+1)=l.take k0:=by
  rw[FN hx,if_pos m];unfold ED;exact dL.2 λy g=>by rw[s y g];rfl
 have c:(l.take k0).length=k0:=by rw[eP];omega
 exact⟨rfl,hk,iR _,by rw[e,c],rfl,by rw[e,c];exact iR _⟩
theorem Ahy(H:DelJ p l k0 (cur,j)){x:Int}(hx:l[j]? =iZ x)(c:p x=aK):DelJ p l k0 (cur,j+1):=by
 have g:=(eB.1 hx).1;have e:ED p l (j+1)=ED p l j:=by rw[FN hx,if_pos c]
 have:=H.lt;have:=H.k0;refine⟨H.len,g,by simp only at *;omega,by rw[e];exact H.pre,?_,by rw[e];simp only at *;omega⟩;have:=congrArg (dF 1) H.post;rw[dG,dG]at this;exact this
theorem Ahz(H:DelJ p l k0 (cur,j)){x:Int}(hx:l[j]? =iZ x)(c:p x=aH):DelJ p l k0 (cur.set (ED p l j).length x,j+1):=by
 have g:=(eB.1 hx).1;have e:ED p l (j+1)=ED p l j++[x]:=by rw[FN hx,if_neg (by rw[c];simp)]
 have h1:(ED p l j).length < j:=H.lt;have h2:cur.length=l.length:=H.len;have u:k0 < j:=H.k0;have s:cur.take (ED p l j).length=ED p l j:=H.pre;have m:cur.drop j=l.drop j:=H.post;refine⟨by simp[h2],g,by simp only;omega,?_,?_,by rw[e,eI];simp only[zai];omega⟩
 ·simp only;rw[e,eI,eJ,eN,iU,fR,eD (by omega),List.take_set_of_le (iN _),s];rfl
 ·simp only;rw[List.drop_set_of_lt (by omega)];have:=congrArg (dF 1) m;rw[dG,dG]at this;exact this
theorem Ama(H:DelJ p l k0 (cur,j)):cur[j]? =l[j]?:=by
 have:=congrArg (λz=>z[0]?) H.post;simp only[dY,Nat.add_zero]at this;exact this
theorem Agy:(Ajm p l= -1/\l.filter (λx=>!p x)=l)\/∃(k:Nat) (x:Int),Ajm p l=(k:Int)/\k < l.length/\(∀y∈l.take k,p y=aH)/\l[k]? =iZ x/\p x=aK:=by
 unfold Ajm;cases h:l.findIdx? p with
 |none=>
  rw[dO]at h;exact .inl ⟨rfl,dL.2 λy c=>by rw[h y c];rfl⟩
 |some k=>
  obtain⟨h1,h2,g⟩:=dP.1 h;refine .inr ⟨k,l[k],rfl,h1,λy c=>?_,dZ h1,h2⟩;obtain⟨j,m,rfl⟩:=fH.1 c;have:=g j (by omega);simpa using this
theorem Ags:∀(w w':cF) (S S':Nat->Prop) (cs:List cC) (d:Int),tInt.RS w S cs d->tInt.RS w' S' cs d:=λ_ _ _ _ _ _ h=>DR.2 (DR.1 h)
theorem Afe{cells news:List cC}(h:off<=cells.length):(Ib cells off news)[j]? =if j < off then cells[j]? else if j < off+news.length then news[j - off]? else cells[j]?:=by
 unfold Ib;have h1:(cells.take off).length=off:=by rw[eP];omega
 by_cases g:j < off
 ·rw[if_pos g,dB,dV (by omega),eE g]
 ·rw[if_neg g];by_cases c:j < off+news.length
  ·rw[if_pos c,dV (by rw[eI];omega),dW (by omega),h1]
  ·rw[if_neg c,dW (by rw[eI];omega),dY,eI,h1];congr 1;omega
theorem Amo{A B:List cC}{m sz:Nat}(h:∀q,q < sz->A[m * sz+q]? =B[k * sz+q]?):(A.drop (m * sz)).take sz=(B.drop (k * sz)).take sz:=by
 apply dI;intro q;by_cases hq:q < sz
 ·rw[eE hq,eE hq,dY,dY,h q hq]
 ·rw[eA (by rw[eP];omega),eA (by rw[eP];omega)]
theorem Akl{cells news:List cC}{l':List Int}(s:Am3 tInt cells l)(hi:i * 1<=cells.length)(g:l'=l.take i):Am3 tInt (Ib cells (i * 1) news) l':=λw S j d c=>by
 subst g;rw[List.getElem?_take]at c;split at c
 ·rename_i m;have:=s w S j d c;have e:((Ib cells (i * 1) news).drop (j * tInt.size)).take tInt.size=(cells.drop (j * tInt.size)).take tInt.size:=Amo λq hq=>by
   have hq:q < 1:=hq;show(Ib cells (i * 1) news)[j * 1+q]? =cells[j * 1+q]?;rw[Afe hi,if_pos (by omega)]
  rw[e];exact this
 ·cases c
theorem Abl(l:List Int)(f:aP)(c:List AV)(m:gI (.fn f c)=aK)(s:Fn bH 58 [.bs tInt l,.fn f c] (.lit (.int .i64 (-1)))):RQ bH 177 3 tInt l [.fn f c] l:=by
 refine Mw aY V (by kernel_rfl) V bF CX λC=>?_
 simp only[Nat.reduceAdd,Nat.reduceSub,zaa];refine wR ?_;refine wR (hx:=by((repeat(first|refine sA ?_ (CR V s (.cons (.own V) (.cons (.cl m) .nil)))|refine sA ?_|refine AR ?_|refine sAG ?_|refine Bt ?_));exact C1 V)) (hk:=?_);refine Ae λv u=>?_
 refine wR ?_;refine Am V (λg=>?_) (λg=>?_)
 ·refine wR ?_;exact Az ⟨.inr V,0,0,rfl,rfl,rfl⟩
 ·have g:((-1:Int) == -1)=aH:=g;cases g
theorem Abk(l:List Int)(hl:l.length<=2147483648)(W:∀x∈l,wfI .i64 x)(f:aP)(m:List AV)(aa:gI (.fn f m)=aK)(p:Int->Bool)(hp:∀x∈l,Fn bH f (.lit (.int .i64 x)::m) (.lit (.bool (p x))))(k0:Nat)(x0:Int)
 (Y:k0 < l.length)(I:∀y∈l.take k0,p y=aH)(D:l[k0]? =iZ x0)(G:p x0=aK)(hI:Fn bH 58 [.bs tInt l,.fn f m] (.lit (.int .i64 (k0:Int)))):RQ bH 177 3 tInt l [.fn f m] (l.filter λx=>!p x):=by
 refine Mw aY V (by kernel_rfl) V bF CX λC=>?_
 simp only[Nat.reduceAdd,Nat.reduceSub,zaa];refine wR ?_;refine wR (hx:=by((repeat(first|refine sA ?_ (CR V hI (.cons (.own V) (.cons (.cl aa) .nil)))|refine sA ?_|refine AR ?_|refine sAG ?_|refine Bt ?_));exact C1 V)) (hk:=?_);refine Ae λK3 h3=>?_
 refine wR ?_;refine Am V (λA=>?_) (λA=>?_)
 ·have A:((k0:Int) == -1)=aK:=A;have:=eq_of_beq A;omega
 ·refine Ao ?_;refine h3 _ ?_;refine nT ?_;refine Ae λK8 h8=>?_
  refine wR ?_;refine Ah ?_;refine AJ (λq:List Int×Nat=>⟨(.own 0 0::.fn f m::A3 (.lit (.int .i64 ((ED p l q.2).length:Int))::.lit (.int .i64 (q.2:Int))::A20 (A10 (A5 [])))),[.row 0 3 tInt q.1]⟩) (DelJ p l k0) (λq=>l.length - q.2) (l,k0+1) (Abj Y I D G) (by rw[show(ED p l (k0+1)).length=k0 from by rw[FN D,if_pos G];unfold ED;rw[dL.2 λy O=>by rw[I y O];rfl,eP];omega];exact AU) ?_;rintro⟨cur,j⟩ H;have B:cur.length=l.length:=H.len;have af:j<=l.length:=H.j;have L:(ED p l j).length < j:=H.lt;dsimp only;refine Ae λah ad=>?_
  refine wR ?_;refine Am V (λu=>?_) (λu=>?_)
  ·have X:j < l.length:=by have:(j:Int) < (cur.length:Int):=of_decide_eq_true u;omega
   obtain⟨x,hx⟩:∃x,l[j]? =iZ x:=⟨_,dZ X⟩
   have Q:cur[j]? =iZ x:=(Ama H).trans hx;have ae:=hp x (fC hx);have U:=W x (fC hx);obtain⟨y,O⟩:∃y,cur[(ED p l j).length]? =iZ y:=⟨_,dZ (by omega)⟩
   refine Ao ?_;refine ad _ ?_;refine nT ?_;refine Ae λag N=>?_
   refine Ah ?_;refine wR (hx:=by((repeat(first|refine sA ?_ (Bp V V V Q V)|refine sA ?_|refine AR ?_|refine sAG ?_|refine Bt ?_));exact C1 V)) ?_;refine wR ?_;refine Am V (λs=>?_) (λs=>?_)
   ·refine wR (hx:=by((repeat(first|(refine AH V (CY V V V O (Fit.int U) V ?_);refine sNt ?_)|refine sA ?_|refine AR ?_|refine sAG ?_|refine Bt ?_));exact C1 V)) (hk:=?_);refine wRE ?_;refine N _ ?_;refine nT ?_;refine wRE ?_;have c:p x=aH:=by have:(!p x)=aK:=s;simpa using this
    refine As ⟨(cur.set (ED p l j).length x,j+1),Ahz H hx c,by dsimp only;omega,?_⟩;dsimp only;have e:((ED p l (j+1)).length:Int)=((ED p l j).length:Int)+1:=by rw[FN hx,if_neg (by rw[c];simp)];simp
    rw[e];exact leC (gQ (gT _))
   ·refine Ao ?_;refine N _ ?_;refine nT ?_;refine wRE ?_;have c:p x=aK:=by have:(!p x)=aH:=s;simpa using this
    refine As ⟨(cur,j+1),Ahy H hx c,by dsimp only;omega,?_⟩;dsimp only;have e:((ED p l (j+1)).length:Int)=((ED p l j).length:Int):=by rw[FN hx,if_pos c]
    rw[e];exact leC (gQ (gT _))
  ·refine AA ?_;refine h8 _ ?_;refine nT ?_;have Z:j=l.length:=by have:¬(j:Int) < (cur.length:Int):=of_decide_eq_false u;omega
   subst Z;have E:ED p l l.length=l.filter λx=>!p x:=by unfold ED;rw[fV]
   have z:=H.pre;simp only at z;rw[E]at z L⊢;generalize hF:(l.filter λx=>!p x)=F at z L⊢;refine VT 0 V V (by intro e;rw[e]at B;simp at B;omega) Ags J5 (λv=>(.lit v::A4 (.lit (.int .i64 (F.length:Int))::A20 (A10 (A6 []))))) (λv=>(by(repeat(first|exact Opn.nil|refine Opn.own ?_|refine Opn.any ?_|refine Opn.keep V ?_)))) λg cap cells hc J hm hR h1=>?_
   have hc:cells.length=cap * 1:=hc;refine wR (hx:=by((repeat(first|refine sA ?_ (Qa V V ⟨_,rfl⟩ V (by omega) J)|(refine AH V (Acx (i:=0) (by decide) V V V hc J ?_);refine sNt ?_)|refine sA ?_|refine AR ?_|refine sAG ?_|refine Bt ?_));exact C1 V)) (hk:=?_);refine wR (hx:=by((repeat(first|refine sA ?_ (XH V V ⟨_,rfl⟩ (by omega))|refine sA ?_|refine AR ?_|refine sAG ?_|refine Bt ?_));exact C1 V)) (hk:=?_);have ac:=Akl (news:=Zn bH 3 (cur.length - F.length)) hR (i:=F.length) (by omega) z.symm;have ab:(Ib cells (F.length * 1) (Zn bH 3 (cur.length - F.length))).length=cap * tInt.size:=by
    rw[Gx (by rw[Ac7 (ty:=27)];omega)];exact hc
   refine AN _ (QQ 0 (ver:=1) (t':=(A4 (.own 0 1::A20 (A10 (A7 []))))) V V ab (by omega) hm (by decide) ac (by(try simp only[Br,zac]);(repeat(first|exact Cls.nil|refine Cls.own ?_|refine Cls.any ?_|refine Cls.keep V ?_)))) ?_;exact Az ⟨.inr V,0,1,rfl,rfl,rfl⟩
theorem Amb(l:List Int)(F:l.length<=2147483648)(z:∀x∈l,wfI .i64 x)(f:aP)(c:List AV)(g:Bl c=aK)(p:Int->Bool)(E:∀x∈l,Fn bH f (.lit (.int .i64 x)::c) (.lit (.bool (p x)))):RQ bH 177 3 tInt l [.fn f c] (l.filter λx=>!p x):=by
 have m:gI (.fn f c)=aK:=by unfold gI;exact g
 have s:=Ag0 l F f c g p E;rcases Agy (p:=p) (l:=l)with⟨D,H⟩|⟨k0,G,D,B,A,u,v⟩
 ·rw[D]at s;rw[H];exact Abl l f c m s
 ·rw[D]at s;exact Abk l F z f c m p E k0 G B A u v s
end Mu
section
namespace Go.Proofs
open Go.Shelf
def Tryz.laysI_ren:Go.Shelf.Ren:=⟨fun|21=>188|27=>193|28=>194|35=>195|39=>192|n=>n,fun|22=>27|3=>3|0=>0|4=>4|n=>n,fun|n=>n⟩
theorem Tryz.laysI:Go.Proofs.Lays2.n21 bH Tryz.laysI_ren:={
 mixed:=by kernel_rfl
 f21:=Tryz.func188.trans (congrArg iZ (by kernel_rfl))
 f27:=Tryz.func193.trans (congrArg iZ (by kernel_rfl))
 f28:=Tryz.func194.trans (congrArg iZ (by kernel_rfl))
 f35:=Tryz.func195.trans (congrArg iZ (by kernel_rfl))
 f39:=aZ.trans (congrArg iZ (by kernel_rfl))
 t0:=bN
 a0:=a8
 z0:=bI
 v0:=bU
 t3:=bP
 a3:=bB
 z3:=bK
 v3:=bW
 t4:=bR
 a4:=bC
 z4:=bL
 v4:=bX
 t22:=bO
 a22:=bA
 z22:=bJ
 v22:=bV
 i3:=by kernel_rfl}
end Go.Proofs
end
namespace Mu
open Go Go.RowKit Go.ChangeShapes Go.WideShapes Go.Proofs
variable{D:List cC}{b:cC}{i n:Nat}
theorem M1(w:cF){base old:Nat}{xs:List Int}(c:base<=w.heap.size)(hx:xs.length=n)(m:n<=cT){cur:Array cC}(hc:cur.size=cN w n old 3)(ht:cur.toList.take n=xs.map (cE .i64)){w':cF}(g:w'.heap[w.heap.size]? =iZ (.cells cur 3 (0,0))):
 Gp w' base (.slice (iZ ⟨w.heap.size,0,iY⟩) n (cN w n old 3)) xs:=
 .of (n:=n) (cs:=xs.map (cE .i64)) ⟨by simp[hx],.inr ⟨w.heap.size,_,cur,rfl,c,g,cO w n old _,grownCap_le_maxLen w n old _ m,by rw[hc,iT],by rw[iT];exact ht⟩⟩ hx.symm V
theorem Afd{cells news:List cC}{off:Nat}(h:off+news.length<=cells.length):(Ib cells off news).take (off+news.length)=cells.take off++news:=by
 unfold Ib;rw[fT (by simp;omega),fW (by simp;omega)]
theorem Aas{C:List cC}(hi:i<=n)(g:n+1<=C.length)(c:D.length=n - i):(Ib (Ib C (i+1) D) i [b]).take (n+1)=C.take i++b::D:=by
 unfold Ib;have h1:(C.take (i+1)++D++C.drop (i+1+D.length)).take i=C.take i:=by
  rw[dB,fT (by simp;omega),fZ,iS (by omega)]
 have h2:(C.take (i+1)++D++C.drop (i+1+D.length)).drop (i+ [b].length)=D++C.drop (i+1+D.length):=by
  rw[dB,List.drop_left' (by simp;omega)]
 rw[h1,h2,<-dB,fT (by simp;omega),fW (by simp;omega),dB];rfl
theorem Aar{C:List cC}(hi:i<=n)(g:n+1<=C.length)(c:D.length=n - i):(Ib (Ib C i [b]) (i+1) D).take (n+1)=C.take i++b::D:=by
 unfold Ib;have h1:(C.take i++[b]++C.drop (i+ [b].length)).take (i+1)=C.take i++[b]:=by
  rw[fU (by simp;omega)]
 rw[h1,fT (by simp;omega),fW (by simp;omega),dB];rfl
theorem Ol(l:List Int):∀u∈l.map (cE .i64),u.oneCell'=aK:=λu c=>by
 obtain⟨x,_,rfl⟩:=fB.1 c;rfl
theorem Aaq{base:Nat}{v u:cC}{zs:List Int}{b:Int}{w:cF}(I:Gp w base v zs)(hu:Gp w base u [b])(hi:i<=zs.length)(hn:zs.length<=2147483648)(am:∀g,v.ownBlock=iZ g->u.ownBlock≠iZ g)(F:base<=w.heap.size):
 aM bH 188 #[v,.int .i64 (i:Int),u] w λe w'=>∃v',e= .returned v'/\Gp w' base v' (zs.take i++b::zs.drop i)/\w.grownBy w' v.ownBlock/\(v'.ownBlock=v.ownBlock\/v'.ownBlock=iZ w.heap.size):=by
 obtain⟨G,J,E,rfl,ay,aa,ax,aw,av,au⟩:∃G J E,u= .slice (iZ ⟨G,0,iY⟩) 1 J/\base<=G/\w.heap[G]? =iZ (.cells E 3 (0,0))/\1<=J/\J<=cT/\E.size=J * 1/\E.toList.take (1 * 1)= [cE .i64 b]:=by
  rcases hu.2 with⟨_,h0⟩|⟨g,cap,cur,h⟩
  ·cases h0
  ·exact⟨g,cap,cur,h⟩
 have H:∀j x,[cE .i64 b][j]? =iZ x->w.cell? ⟨G,0+j,iY⟩=iZ x:=λj x hx=>by
  have:=hu.cells (g:=G) V j x hx;simpa[add_plain]using this
 have B:∀x∈[cE .i64 b],x.oneCell'=aK:=Ol [b];have hl:(zs.take i++b::zs.drop i).length=zs.length+1:=by simp;omega
 have ac:zs.length+1<=cT:=by unfold cT;omega
 rcases I.2 with⟨rfl,h0⟩|⟨g,cap,cur,rfl,hb,hg,h1,h2,h3,h4⟩
 ·have hz:zs= []:=dH h0;subst hz;have ao:i=0:=by simpa using hi
  subst ao;refine(Any2.slices_Insert_int_end_grow Tryz.laysI iY 0 0 G 0 1 J [] [.int .i64 b] w (by omega) (iN _) (by omega) (by omega) V V (λ_=>rfl) (λa h=>by cases h) H B).mono λe w' ⟨N,z⟩=>?_
  subst z;refine⟨_,N,M1 w (n:=0+1) (old:=0) (xs:=[b]) F V (by unfold cT;omega) (cur:=_) ?_ ?_ (cP w.drew _),⟨rfl,rfl,rfl,by simp,λk hk _=>cQ w.drew _ hk⟩,.inr V⟩
  ·have:=cO w (0+1) 0 3;simp only[List.nil_append,aE,fP,cV,eJ,eN];show 0+1+_ * 1=_;rw[iT];show 0+1+(cN w (0+1) 0 3 - (0+1))=cN w (0+1) 0 3;omega
  ·simp
 ·have ar:g < w.heap.size:=(aA.1 hg).1;have ap:G≠g:=λe=>am g V (by rw[e];rfl)
  have Z:(zs.map (cE .i64)).length=zs.length:=by simp
  have ai:∀j x,(zs.map (cE .i64))[j]? =iZ x->w.cell? ⟨g,0+j,iY⟩=iZ x:=λj x hx=>by
   have:=I.cells (g:=g) V j x hx;simpa[add_plain]using this
  have ag:w.heap[g]? =iZ (.cells cur.toList.toArray 3 (0,0)):=by simpa using hg
  have hcur:cur.toList.length=cap:=by simpa using h3
  have aj:cur.toList.take zs.length=zs.map (cE .i64):=by simpa using h4
  have ab:∀j,j < cap->(w.cell? ⟨g,0+j,iY⟩).isSome=aK:=λj hj=>by
   have:j < cur.size:=by omega
   simp[cG,hg,this]
  have ah:∀j,w.frozen? ⟨g,j,iY⟩=aH:=λj=>by simp[cI,hg]
  by_cases an:i=zs.length
  ·subst an;rw[fV,List.drop_length];by_cases c:zs.length+1<=cap
   ·refine(Any2.slices_Insert_int_end_room Tryz.laysI g 0 zs.length cap G 0 1 J [.int .i64 b] w (by omega) c (by unfold cT at h2;omega) V (λj hj=>by rw[show 0+zs.length+j=0+(zs.length+j)by omega];exact ab _ (by omega)) (λj _=>ah _) H B).mono λe w' ⟨N,z⟩=>?_
    have W:0+zs.length+ [cE .i64 b].length<=cur.toList.length:=by rw[hcur];simp;omega
    rw[Fd bH ag W B]at z;subst z;refine⟨_,N,.of (n:=zs.length+1) (cs:=(zs++[b]).map (cE .i64)) ⟨by simp,.inr ⟨g,cap,_,rfl,hb,cU w g _ _ _ _ hg,c,h2,by rw[fP,Gx W,hcur,iT],?_⟩⟩ (by simp) V,Cj w g _,.inl V⟩;have:=Afd W;rw[iT,show zs.length+1=0+zs.length+ [cE .i64 b].length by simp,this,iU,aj];simp
   ·refine(Any2.slices_Insert_int_end_grow Tryz.laysI (iZ ⟨g,0,iY⟩) zs.length cap G 0 1 J (zs.map (cE .i64)) [.int .i64 b] w (by omega) h1 (by omega) (by omega) Z V (λh=>by cases h) (λa ha j x hx=>by cases ha;exact I.cells (g:=g) V j x hx) H B).mono λe w' ⟨N,z⟩=>?_
    subst z;refine⟨_,N,M1 w (n:=zs.length+1) (old:=cap) (xs:=zs++[b]) F (by simp) ac (cur:=_) ?_ ?_ (cP w.drew _),⟨rfl,rfl,rfl,by simp,λk hk _=>cQ w.drew _ hk⟩,.inr V⟩
    ·have:=cO w (zs.length+1) cap 3;simp only[aE,fP,cV,eI,eM,eJ,eN];show zs.length+(0+1)+(cN w (zs.length+1) cap 3 - (zs.length+1)) * 1=cN w (zs.length+1) cap 3;omega
    ·rw[aF,fT (by simp),fW (by simp)];simp
  ·have ae:i < zs.length:=by omega
   have O:(((zs.map (cE .i64)).drop i)).length=zs.length - i:=by simp
   have ak:∀x∈(zs.map (cE .i64)).drop i,x.oneCell'=aK:=λx hx=>Ol zs x (fD hx)
   by_cases c:zs.length+1<=cap
   ·refine(Any2.slices_Insert_int_shift Tryz.laysI g 0 zs.length cap i G 0 1 J (zs.map (cE .i64)) [.int .i64 b] w ae (by omega) c (by unfold cT at h2;omega) ap Z V ai (λj hj=>ab j (by omega)) (λj _=>ah _) H (Ol zs) B 3 3 E.size cur.size (by simp[cL,aa]) (by simp[cL,hg]) (by omega) (by simp[cI,aa]) (by simp[cI,aa])).mono λe w' ⟨N,z⟩=>?_
    have m:0+(i+1)+((zs.map (cE .i64)).drop i).length<=cur.toList.length:=by rw[hcur,O];omega
    have X:w.drew.heap[g]? =iZ (.cells cur.toList.toArray 3 (0,0)):=ag;rw[Fd bH X m ak]at z;have Y:=cU w.drew g _ (Ib cur.toList (0+(i+1)) ((zs.map (cE .i64)).drop i)).toArray _ _ X;have A:0+i+ [cE .i64 b].length<=(Ib cur.toList (0+(i+1)) ((zs.map (cE .i64)).drop i)).length:=by rw[Gx m,hcur];simp;omega
    rw[Fd bH Y A B,setRow_setRow]at z;subst z;refine⟨_,N,.of (n:=zs.length+1) (cs:=(zs.take i++b::zs.drop i).map (cE .i64)) ⟨by simp;omega,.inr ⟨g,cap,_,rfl,hb,cU w.drew g _ _ _ _ X,c,h2,by rw[fP,Gx A,Gx m,hcur,iT],?_⟩⟩ hl.symm V,⟨(Cj w.drew g _).os,(Cj w.drew g _).tape,(Cj w.drew g _).output,(Cj w.drew g _).size,(Cj w.drew g _).block⟩,.inl V⟩;rw[iT,gC,iU,iU,Aas (n:=zs.length) hi (by rw[hcur];exact c) O];have e:=congrArg (fQ i) aj;rw[fZ,iS hi]at e;rw[e];simp
   ·refine(Any2.slices_Insert_int_grow Tryz.laysI g 0 zs.length cap i G 0 1 J (zs.map (cE .i64)) [.int .i64 b] w ae (by omega) h1 (by omega) (by omega) Z V ai H (Ol zs) B).mono λe w' ⟨N,z⟩=>?_
    have hG:=cO w (zs.length+1) cap 3;obtain⟨s,aq,L,al⟩:∃s:List cC,(((zs.map (cE .i64)).take i).toArray++Builtin.zeroCells (cE .i64 0).cells (zs.length+1 - i)++Builtin.zeroCells (cE .i64 0).cells (cN w (zs.length+1) cap 3 - (zs.length+1)))=s.toArray/\s.length=cN w (zs.length+1) cap 3/\s.take i=(zs.map (cE .i64)).take i:=by
     refine⟨_,(Array.toArray_toList (xs:=_)).symm,?_,?_⟩
     ·have e1:(cE .i64 0).cells.size=1:=rfl;simp only[Array.length_toList,aE,fP,cV,eP,eM,e1];omega
     ·rw[aF,aF,dB];exact fU (by simp;omega)
    have z:w'=(((w.alloc (.cells s.toArray 3)).drew.setCells w.heap.size i [.int .i64 b]).drew).setCells w.heap.size (i+1) ((zs.map (cE .i64)).drop i):=by
     rw[<-aq];exact z
    have af:(w.alloc (.cells s.toArray 3)).drew.heap[w.heap.size]? =iZ (.cells s.toArray 3 (0,0)):=cP w _;have m:i+ [cE .i64 b].length<=s.length:=by rw[L];simp;omega
    rw[Fd bH af m B]at z;have Y:=cU (w.alloc (.cells s.toArray 3)).drew w.heap.size _ (Ib s i [.int .i64 b]).toArray _ _ af;have A:i+1+((zs.map (cE .i64)).drop i).length<=(Ib s i [.int .i64 b]).length:=by rw[Gx m,L,O];omega
    have Q:((w.alloc (.cells s.toArray 3)).drew.setRow w.heap.size (Ib s i [.int .i64 b]).toArray).drew.heap[w.heap.size]? =iZ (.cells (Ib s i [.int .i64 b]).toArray 3 (0,0)):=Y;rw[Fd bH Q A ak]at z;have U:=cU ((w.alloc (.cells s.toArray 3)).drew.setRow w.heap.size (Ib s i [.int .i64 b]).toArray).drew w.heap.size _ (Ib (Ib s i [.int .i64 b]) (i+1) ((zs.map (cE .i64)).drop i)).toArray _ _ Q;rw[<-z]at U;refine⟨_,N,M1 w (n:=zs.length+1) (old:=cap) F hl ac (cur:=_) ?_ ?_ U,?_,.inr V⟩
    ·rw[fP,Gx A,Gx m,L]
    ·rw[gC,Aar (n:=zs.length) hi (by rw[L];exact hG) O,al];simp
    ·have k1:w.grownBy (w.alloc (.cells s.toArray 3)).drew (iZ w.heap.size):=⟨rfl,rfl,rfl,by simp[cH],λk hk _=>cQ w _ hk⟩
     subst z;refine⟨rfl,rfl,rfl,by simp[cH,cJ],λk hk _=>?_⟩;have ad:k≠w.heap.size:=by omega
     have a1:=(Cj ((w.alloc (.cells s.toArray 3)).drew.setRow w.heap.size (Ib s i [.int .i64 b]).toArray).drew w.heap.size (Ib (Ib s i [.int .i64 b]) (i+1) ((zs.map (cE .i64)).drop i)).toArray).block k (by simp[cH,cJ];omega) (λe=>ad (by injection e));have a2:=(Cj (w.alloc (.cells s.toArray 3)).drew w.heap.size (Ib s i [.int .i64 b]).toArray).block k (by simp[cH];omega) (λe=>ad (by injection e));exact a1.trans (a2.trans (cQ w _ hk))
section
variable{C:Ctx}{t:List AV}{h:List gD}{o:aU}{K:St->Prop}
theorem Acw{x y z:aV}{Y:Array cB}{ver k m:Nat}{l:List Int}{n b:Int}(ad:i≠k)(ho:o.op= .call {callee:=.value (.func 188),args:=#[x,y,z],argTypes:=Y})(hx:evA t x= .own i ver)(hi:h[i]? =iZ (.row ver 3 tInt l))(hy:evA t y= .lit (.int .i64 n))(hn:0<=n/\n.toNat<=l.length)
 (hz:evA t z= .own k m)(hk:h[k]? =iZ (.row m 3 tInt [b]))(hl:l.length<=2147483648)
 (hK:K ⟨Br t o.dst (.own i (ver+1)),h.set i (.row (ver+1) 3 tInt (l.take n.toNat++b::l.drop n.toNat))⟩):AOp bH C o ⟨t,h⟩ K:=by
 rintro Q' a w ⟨hd,S,ψ,H,u⟩;refine⟨λc e=>(by rw[ho]at e;cases e),?_⟩;have E:=BA u x;have B:=BA u y;have A:=BA u z;rw[show evA (St.mk t h).t x= .own i ver from hx]at E;rw[show evA (St.mk t h).t y=_ from hy]at B;rw[show evA (St.mk t h).t z= .own k m from hz]at A;unfold gK at E B A;have hv:=(E.2 _ (by rw[hi];rfl)).2 V;have hu:=(A.2 _ (by rw[hk];rfl)).2 V;have W:=H.blk i _ hi;have G:=W.lt V;obtain⟨hO,hw⟩:=JY W;obtain⟨af,Z⟩:=JY (H.blk k _ hk);have ac:∀g,(ψ i).ownBlock=iZ g->(ψ k).ownBlock≠iZ g:=λg h1 h2=>by
  refine H.dis i k ad (by rw[hi];rfl) (by rw[hk];rfl) g ?_ ?_
  ·rw[hi];exact AY h1
  ·rw[hk];exact AY h2
 have ab:n=((n.toNat:Nat):Int):=by omega
 unfold Oper.wp;rw[CC ho (by kernel_rfl) a.eval w V];simp only[Oper.upon];rw[show(#[x,y,z].map a.eval)= #[ψ i,.int .i64 ((n.toNat:Nat):Int),ψ k]from by simp[hv,hu,B,<-ab]];refine(Aaq hO af hn.2 hl ac (iV _)).mono ?_;rintro r w' ⟨v',rfl,O,I,N⟩;have v:(ψ i).ownBlock=Bz (ψ i):=by
  rcases hO.2 with⟨e1,_⟩|⟨g',cap,cur,e1,_⟩ <;> rw[e1] <;> rfl
 have ae:∀g,Bz v'=iZ g->v'.ownBlock=iZ g:=λg hg=>by
  rcases O.2 with⟨e1,_⟩|⟨g',cap,cur,e1,_⟩
  ·rw[e1]at hg;simp[Bz]at hg
  ·rw[e1]at hg⊢;simpa[Bz,Value.ownBlock]using hg
 have U:∀g,(ψ i).ownBlock=iZ g->¬C.N g/\¬S g:=λg hg=>⟨(G g (AY hg)).1,(G g (AY hg)).2.2⟩
 have L:∀q,S q->w'.heap[q]? =w.heap[q]?:=λq hq=>I.block q (H.lt q hq) λe=>(U q e.symm).2 hq
 have X:Ext w S h ψ w' S (h.set i (.row (ver+1) 3 tInt (l.take n.toNat++b::l.drop n.toNat))) (Bs ψ i v'):=Ext.set L hi (λc' hc=>by
  simp only[gH,i6]at hc;exact⟨ver,rfl,by omega,λe=>by omega⟩) λh=>by simp[Bd]at h
 have Q:∀g,v'.ownBlock=iZ g->¬C.N g/\¬S g:=λg hg=>by
  rcases N with e1|e1
  ·rw[e1]at hg;exact U g hg
  ·rw[e1]at hg;cases hg;exact⟨λhN=>by have:=H.nlt _ hN;have:=H.bel.size;omega,λhS=>by have:=H.lt _ hS;omega⟩
 have aa:Bj (l.take n.toNat++b::l.drop n.toNat):=λr hr=>by
  rcases eU.1 hr with h1|h1
  ·exact hw r (fE h1)
  ·rcases eX.1 h1 with h1|h1
   ·rw[h1];exact Z b (by simp)
   ·exact hw r (fD h1)
 refine⟨_,hK,IK (s:=⟨t,h⟩) hi hd u (H.set hi V (Bv (by rw[<-v];exact I)) X (LS O aa Q) λg hg=>?_) X ?_⟩
 ·have F:=ae g hg;rcases N with e1|e1
  ·left;show Bz (ψ i)=iZ g;rw[<-v,<-e1];exact F
  ·right;rw[e1]at F;cases F;exact iN _
 ·unfold gK;refine⟨by simp[(eB.1 hi).1],λc' J=>?_⟩;rw[eD (eB.1 hi).1]at J;simp only[gH,i6]at J;exact⟨by omega,λ_=>by rw[Bo]⟩
end
end Mu
namespace Mu
open Go Go.RowKit Go.Proofs
variable{K:St->Prop}{Q:Exit->St->Prop}{e:cB}{f:gY}{hP1:Int}{l':List AV}{n:Int}{q:Int->M Bool}{r:List Int}{s:St}{ty:cB}{tys:Array cB}{v:cC}{ver:Nat}{x:aV}{y:Code}
theorem SH{xs:List Int}{x:Int}{w:cF}{S:Nat->Prop}(h:tInt.slice.RS w S [v] xs)(G:xs.length<=2147483648):
 aM bH 39 #[v,.int .i64 x] w λe w'=>e= .returned (.bool (xs.contains x))/\w=w':=by
 obtain⟨A,c,rfl⟩:=Cn h;by_cases z:xs= []
 ·subst z;refine(Tryz.slices_Contains_int_empty _ _ _ _).mono λe w' ⟨m,u⟩=>⟨m,u.symm⟩
 ·have g:0 < xs.length:=List.length_pos_iff.2 z;obtain⟨b,o,e,_⟩:=L8 h (dZ g);cases e;refine(Tryz.slices_Contains_int b o xs.length c xs x w (iN _) (by omega) (λj B=>?_)).mono λe w' ⟨m,u⟩=>?_
  ·obtain⟨b',F,E,_,hc,_⟩:=L8 h (dZ B);cases E;rw[hc];simp[List.getD,B]
  ·rw[fV]at m;exact⟨m,u.symm⟩
theorem JH(xs:List Int)(x:Int)(B:xs.length<=2147483648):Fn bH 39 [.bs tInt xs,.lit (.int .i64 x)] (.lit (.bool (xs.contains x))):=by
 refine⟨by kernel_rfl,λw S vs F c=>?_⟩;unfold Ak at c;obtain⟨v,G,rfl,h1,h2⟩:=c;obtain⟨u,z,rfl,m,g⟩:=by unfold Ak at h2;exact h2
 unfold Ak at g;subst g;unfold gK at h1 m;subst m;refine(SH h1 B).mono λe w' ⟨E,A⟩=>?_
 subst A;exact⟨_,E,bY _ _,S,λ_ h=>h,λ_ h=>.inl h,F,by unfold gK;rfl⟩
def Ty.sliceN{α:Type}(T:Ty α):Ty (List α) where
 size:=1
 bulk:=T.slice.bulk
 RS:=λw S cs ds=>T.slice.RS w S cs ds/\(ds= []->cs= [.slice iY 0 0])
 len:=λh=>T.slice.len h.1
 keepS:=λh c g=>⟨T.slice.keepS h.1 c g,h.2⟩
theorem Ty.sliceN_nilS{α:Type}(T:Ty α)(w:cF)(S:Nat->Prop):T.sliceN.RS w S [.slice iY 0 0] []:=⟨T.slice_nilS w S,λ_=>rfl⟩
section
variable{P:aW}{C:Ctx}{t:List AV}{h:List gD}{o:aU}{α:Type}{T:Ty α}
theorem Asf{l:List α}(g:(!l.isEmpty)=aK):Fit h T.sliceN (.bs T l) l:=λC S ψ w v H c=>⟨Fit.bs C S ψ w v H c,λe=>by subst e;cases g⟩
theorem Aa7(T:Ty α):Enc T.sliceN λl=>[.bs T l]:=λw S h ψ cs d H=>U1 T w S h ψ cs d H.1
theorem Arr(T:Ty α):Enc T.sliceN λl=>[.tv T.sliceN l]:=λw S h ψ cs d H=>by
 obtain⟨A,c,rfl,_⟩:=id H.1;unfold Ak;refine⟨_,_,rfl,?_,?_⟩
 ·unfold gK;exact H
 ·unfold Ak;rfl
instance Azs(T:Ty α):EncOf T.sliceN λl=>[.bs T l]:=⟨Aa7 T,λw S cs d H=>one1_slice w S cs d H.1,Nat.zero_lt_one⟩
theorem QT{n i k off:Nat}{l:List (List α)}{d:List α}[AG P ty aH n](c:o.op= .load ty x)(hx:evA t x= .rp i ver k off)(hi:h[i]? =iZ (.row ver e T.sliceN l))(hk:l[k]? =iZ d)(h0:off=0:=by rfl):AX P C t h o (.tv T.sliceN d):=by
 subst h0;exact Ek c AG.eq hx (Lm.rp hi hk (Arr T)) V
theorem Aux{w:cF}{S:Nat->Prop}{l:List α}(g:T.sliceN.RS w S [v] l):∃A n c,v= .slice A n c/\A.isNone=l.isEmpty:=by
 obtain⟨⟨A,c,e,m,hc,hi⟩,h2⟩:=g;cases e;refine⟨A,_,_,rfl,?_⟩;cases l with
 |nil=>cases h2 rfl;rfl
 |cons x l=>
  obtain⟨b,o,rfl,_⟩:=hi 0 x V;rfl
theorem Adk(h:GV P ty=aK):∃e,P.underlying ty=iZ (.slice e):=by
 unfold GV at h;split at h
 ·exact⟨_,by assumption⟩
 ·cases h
theorem XJ{m z:cB}{y:aV}{l:List α}[SL P m](u:o.op= .binOp .eql m x y z)(hx:evA t x= .tv T.sliceN l)(B:evA t y= .lit (.slice iY 0 0)):AX P C t h o (.lit (.bool l.isEmpty)):=
 AQ λS ψ w ρ _ g=>by
  have h1:=g x (by simp[u,Op.operands]);have h2:=g y (by simp[u,Op.operands]);rw[hx]at h1;rw[B]at h2;unfold gK at h1 h2;obtain⟨A,n,c,E,G⟩:=Aux h1;obtain⟨e,F⟩:=Adk (SL.eq (P:=P) (ty:=m));refine⟨.bool A.isNone,?_,by rw[G];unfold gK;rfl⟩;simp[execOp,u,E,h2,eqGuard,binOp,run_equal_slice_nil _ _ _ _ _ _ F]
end
def I5(l:List Int):M (List Int):=g8 (aL (l.length<=2147483648)) (iA l)
theorem GQ{l:List Int}(H:(I5 l).to r):JR bH 92 [.bs tInt l] 3 tInt r:=by
 obtain⟨c,H⟩:=Aj.1 H;obtain rfl:=Af.1 H;refine⟨by kernel_rfl,λw S vs E m=>?_⟩;unfold Ak at m;obtain⟨v,G,rfl,h1,h2⟩:=m;unfold Ak at h2;subst h2;unfold gK at h1;have g:tInt.slice.R w w.heap.size [v] l:=Ay2 h1 E;obtain⟨A,I,rfl⟩:=Cn g;refine(Vg g (of_decide_eq_true c)).mono ?_;rintro e w' ⟨v',rfl,F,B⟩;refine⟨v',_,rfl,B,F,λi d u=>?_⟩;show tInt.RS w' S (((l.map (cE .i64)).drop (i * 1)).take 1) d;have hi:(l.map (cE .i64))[i]? =iZ (.int .i64 d):=by rw[eC,u];rfl
 rw[iT,fX,eG,hi];obtain⟨_,_,_,_,z⟩:=L8 g u;exact DR.2 ⟨rfl,z.2⟩
def Eu(l:List Int)(n:Int):M Bool:=g8 (aL (l.length<=2147483648)) (iA (l.contains n))
theorem He{l:List Int}{r:Bool}(H:(Eu l n).to r):Fn bH 39 [.bs tInt l,.lit (.int .i64 n)] (.lit (.bool r)):=by
 obtain⟨c,H⟩:=Aj.1 H;obtain rfl:=Af.1 H;exact JH l n (of_decide_eq_true c)
noncomputable section
def Gb(f:gY):M (List (List Int)):=g8 (Mi f) (iA (G6 f f.blocks.length))
theorem Is{r:List (List Int)}(H:(Gb f).to r):Fn bH 154 [.agg (An f)] (.bs tInt.slice r):=by
 obtain⟨c,H⟩:=Aj.1 H;obtain rfl:=Af.1 H;have g:=BG.1 c;exact CB f g.ok g.small
def BR(g:List Int)(m:List Int):Int->M (Int⊕((Unit)⊕(Bool))):=λc=>g9 (aL (c < (g.length:Int))) (g8 (Cd g c) (g8 (Cd m c) (g9 ((ixD g c) !=(ixD m c)) (iA (.inr (.inr aH))) (iA (.inl (aR.wrap (c+1))))))) (iA (.inr (.inl ())))
def Cy(g:List Int)(c:List Int):M Bool:=g9 ((g.length:Int) !=(c.length:Int)) (iA aH) (M.els (hZ (BR g c) 0) λ_=>iA aK)
theorem IQ{A:List Int}{B:List Int}{r:Bool}(H:(Cy A B).to r):Fn bH 189 [.bs tInt A,.bs tInt B] (.lit (.bool r)):=by
 delta Cy at H;try dsimp only at H
 refine AT Tryz.func189 V (by kernel_rfl) V Tryz.ntmps189 λC hC=>?_
 simp only[Nat.reduceAdd,Nat.reduceSub,zaa];refine wS (sT (wN ?_));refine Ae λX G=>?_
 refine wS (sT (sT (sT (sT (sT (wN ?_))))));refine Am V (λm=>?_) (λm=>?_)
 ·have H:=AK m H;refine wS (sT (wN ?_));obtain rfl:=Af.1 H;exact Az ⟨.inr V,gU V⟩
 ·have H:=AL m H;refine Ao ?_;refine G _ ?_;refine nT ?_;obtain⟨Y,N,L,J⟩:=CF H;refine Bk (β:=(Unit)×(Unit)) (λO=>Y= .inl O.1) (λO=>⟨A20 (A6 []),[]⟩) ?_ ?_
  ·refine wS (sT (sT (sT (wN ?_))));refine Ah ?_;refine By N (λZ b4=>⟨.bs tInt A::.bs tInt B::A10 (.lit (.int .i64 (A.length:Int))::.lit (.int .i64 Z)::A10 (A2 [])),[]⟩) () (?_) ?_
   ·try dsimp only
    exact AU
   ·rintro x3 _ x4 H z;try dsimp only
    dsimp only[BR]at H;refine wS (sT (wN ?_));refine Ae λW F=>?_
    refine Am V (λg=>?_) (λg=>?_)
    ·have H:=AK g H;refine Ao ?_;refine F _ ?_;refine nT ?_;refine Ae λU E=>?_
     refine Ah ?_;refine wS (sT (sT (wN ?_)));obtain⟨c8,H⟩:=Aj.1 H;obtain⟨c9,H⟩:=Aj.1 H;refine dS 9 (hq:=?_);refine qT (qT (qX c8 (qT (qT (qT (qX c9 (qT (qT (qN (wN ?_))))))))));refine Am V (λc=>?_) (λc=>?_)
     ·have H:=AK c H;refine wS (sT (wN ?_));have H:=Af.2 (J _ (z _ (Af.1 H).symm).symm);obtain rfl:=Af.1 H;exact Az ⟨.inr V,gU V⟩
     ·have H:=AL c H;refine Ao ?_;refine E _ ?_;refine nT ?_;refine wSE (sT (sT (wN ?_)));have I:=Af.1 H;repeat(first|refine abN ?_|refine asN ?_)
      refine As ⟨_,(),I.symm,?_⟩;try dsimp only
      exact AU
    ·have H:=AL g H;refine AA ?_;repeat(first|refine BF ?_|refine exO (by decide) ?_|refine asE ?_)
     refine exN ?_;have I:=z _ (Af.1 H).symm;repeat(first|refine abN ?_|refine asN ?_)
     refine As ⟨(_,()),I.symm,?_⟩;try dsimp only
     exact AU
  ·rintro⟨_,_⟩ u;try dsimp only at u
   have H:=L _ u;try dsimp only
   refine wS (sT (wN ?_));obtain rfl:=Af.1 H;exact Az ⟨.inr V,gU V⟩
def Dl(r1:List Int)(r2:List (List Int))(g:List (List Int))(c:Int):((List Int)×Bool×Int)->M (((List Int)×Bool×Int)⊕((List Int))):=λ(l29,some30,x31)=>g9 (aL (x31 < ((ixD r2 (ixD r1 c)).length:Int))) (gZ (g8 (Cd (ixD r2 (ixD r1 c)) x31) (g8 (Cd g (ixD (ixD r2 (ixD r1 c)) x31)) (g9 ((ixD g (ixD (ixD r2 (ixD r1 c)) x31)).isEmpty) (iA (l29,some30)) (g9 (!some30) (g8 (Cd g (ixD (ixD r2 (ixD r1 c)) x31)) (iA (ixD g (ixD (ixD r2 (ixD r1 c)) x31),aK))) (g8 (Cd g (ixD (ixD r2 (ixD r1 c)) x31)) (gZ (Ga l29 (ixD g (ixD (ixD r2 (ixD r1 c)) x31))) λm=>iA (m,some30))))))) λ(l38,some39)=>iA (.inl (l38,some39,aR.wrap (x31+1)))) (iA (.inr l29))
def CP(r1:List Int)(r2:List (List Int)):(Bool×Int×(List (List Int)))->M ((Bool×Int×(List (List Int)))⊕(Bool×(List (List Int)))):=λ(more12,x13,l15)=>g9 (aL (x13 < (r1.length:Int))) (gZ (g8 (Cd r1 x13) (g8 (Cd r2 (ixD r1 x13)) (gZ (hZ (Dl r1 r2 l15 x13) ([],aH,0)) λA=>gZ (g9 ((ixD r1 x13) ==0) (iA []) (iA A)) λu=>gZ (C9 u (ixD r1 x13)) λc=>gZ (g9 (!c.2) (gZ (I5 u) λg=>g8 (wfB .i64 (ixD r1 x13)) (g8 (aL (0<=c.1/\cW c.1<=g.length)) (g8 (aL (g.length<=2147483648)) (iA (fQ (cW c.1) g++(ixD r1 x13)::dF (cW c.1) g))))) (iA u)) λm=>g8 (Cd l15 (ixD r1 x13)) (gZ (Cy m (ixD l15 (ixD r1 x13))) λz=>g9 (!z) (g8 (Cd l15 (ixD r1 x13)) (g8 (!m.isEmpty) (iA (aK,l15.set (cW (ixD r1 x13)) m)))) (iA (more12,l15)))))) λ(more22,l24)=>iA (.inl (more22,aR.wrap (x13+1),l24))) (iA (.inr (more12,l15)))
def It(r1:List Int)(r2:List (List Int)):(Bool×(List (List Int)))->M ((Bool×(List (List Int)))⊕((List (List Int)))):=λ(more4,l6)=>g9 more4 (gZ (hZ (CP r1 r2) (aH,0,l6)) λ(more17,l19)=>iA (.inl (more17,l19))) (iA (.inr l6))
def Dm(f:gY):M (List (List Int)):=gZ (Kb f) λr1=>gZ (Gb f) λr2=>g8 (V3 (f.blocks.length:Int) 24) (gZ (hZ (It r1 r2) (aK,fO (cW (f.blocks.length:Int)) [])) λc=>iA c)
theorem UV{r:List (List Int)}(H:(Dm f).to r):Fn bH 176 [.agg (An f)] (.bs tInt.sliceN r):=by
 delta Dm at H;try dsimp only at H
 refine AT Tryz.func176 V (by kernel_rfl) V Tryz.ntmps176 λC hC=>?_
 simp only[Nat.reduceAdd,Nat.reduceSub,zaa];refine wS (sB (sT (wN ?_)));obtain⟨r1,k1,H⟩:=Ar.1 H;have k1:=UU k1;obtain⟨r2,k2,H⟩:=Ar.1 H;have k2:=Is k2;refine dS 6 (hq:=?_);refine qT (qC k1 (qT (qC k2 (qT (qT (qN (wN ?_)))))));obtain⟨c3,H⟩:=Aj.1 H;refine wS (sT (sT (sT ?_)));(refine AH V (Qn 1 V (T:=tInt.sliceN) (e:=27) (v:=.slice iY 0 0) (bytes:=24) ([]:List Int) V (by kernel_rfl) V (λw S=>tInt.sliceN_nilS w S) V V c3 ?_);refine DS ?_ (Au (Au Hh)));refine sT (wN ?_);obtain⟨z7,dd,dc⟩:=Ar.1 H;refine Bk (β:=((List (List Int)))×(Nat)) (λq7=>z7=q7.1) (λq7=>⟨A5 (.own 1 q7.2::A80 (A2 [])),[.dead,.row q7.2 27 tInt.sliceN q7.1]⟩) ?_ ?_
 ·refine wS (sT (wN ?_));refine Ah ?_;refine By dd (λs7 b7=>⟨A3 (.bs tInt r1::.bs tInt.slice r2::.own 1 b7::.lit (.bool s7.1)::A80 [.any]),[.dead,.row b7 27 tInt.sliceN s7.2]⟩) 0 (?_) ?_
  ·try dsimp only
   exact leC (gR (gQ (gT _)))
  ·rintro⟨cp,l6⟩ v5 x7 H db;try dsimp only
   dsimp only[It]at H;refine Ae λda ba=>?_
   refine wS (sT (wN ?_));refine Am V (λX=>?_) (λX=>?_)
   ·have H:=AK X H;refine Ao ?_;refine ba _ ?_;refine nT ?_;obtain⟨cj,bz,br⟩:=Ar.1 H;refine Qh (β:=(Bool×(List (List Int)))×(Nat)) (λz=>cj=z.1) (λz=>⟨A3 (.bs tInt r1::.bs tInt.slice r2::.own 1 z.2::.lit (.bool z.1.1)::A80 [.any]),[.dead,.row z.2 27 tInt.sliceN z.1.2]⟩) ?_ ?_
    ·refine Ah ?_;refine wS (sT (wN ?_));refine wS (sT (sT (sT (wN ?_))));refine Ah ?_;refine By bz (λaa bi=>⟨A3 (.bs tInt r1::.bs tInt.slice r2::.own 1 bi::.lit (.bool aa.1)::A10 (A7 (.bs tInt r1::.lit (.int .i64 (r1.length:Int))::.lit (.int .i64 aa.2.1)::A40 (A20 [.any])))),[.dead,.row bi 27 tInt.sliceN aa.2.2]⟩) v5 (?_) ?_
     ·try dsimp only
      exact AU
     ·rintro⟨g,c,F⟩ aw df H bk;try dsimp only
      dsimp only[CP]at H;refine wS (sT (wN ?_));refine Ae λcz az=>?_
      refine Am V (λW=>?_) (λW=>?_)
      ·have H:=AK W H;refine Ao ?_;refine az _ ?_;refine nT ?_;obtain⟨ci,bx,bq⟩:=Ar.1 H;refine Bk (β:=(Bool×(List (List Int)))×(Nat)) (λu=>ci=u.1) (λu=>⟨A3 (.bs tInt r1::.bs tInt.slice r2::.own 1 u.2::.lit (.bool u.1.1)::A10 (A7 (.bs tInt r1::.lit (.int .i64 (r1.length:Int))::.lit (.int .i64 c)::A40 (A20 [.any])))),[.dead,.row u.2 27 tInt.sliceN u.1.2]⟩) ?_ ?_
       ·have H:=bx;refine Ah ?_;obtain⟨cx,H⟩:=Aj.1 H;refine wS (sX cx (sT (sT (wN ?_))));refine wS (sT (wN ?_));refine wS (sT (wN ?_));refine AN _ (S4 9 tInt V) ?_;obtain⟨cw,H⟩:=Aj.1 H;obtain⟨ch,bw,bo⟩:=Ar.1 H;refine Bk (β:=((List Int))×(Nat)) (λE=>ch=E.1) (λE=>⟨A3 (.bs tInt r1::.bs tInt.slice r2::.own 1 E.2::.lit (.bool g)::.any::.lit (.int .i64 (ixD r1 c))::.bs tInt E.1::A10 (A4 (.bs tInt r1::.lit (.int .i64 (r1.length:Int))::.lit (.int .i64 c)::A40 (A20 [.any])))),[.dead,.row E.2 27 tInt.sliceN F]⟩) ?_ ?_
        ·refine wS (sT (sT (sX cw (sT (sT (sT (wN ?_)))))));refine Ah ?_;refine By bw (λah bh=>⟨A3 (.bs tInt r1::.bs tInt.slice r2::.own 1 bh::.lit (.bool g)::.any::.lit (.int .i64 (ixD r1 c))::.bs tInt ah.1::.lit (.bool ah.2.1)::A10 (A3 (.bs tInt r1::.lit (.int .i64 (r1.length:Int))::.lit (.int .i64 c)::A6 (.bs tInt (ixD r2 (ixD r1 c))::.lit (.int .i64 ((ixD r2 (ixD r1 c)).length:Int))::.lit (.int .i64 ah.2.2)::A40 (A10 (A2 [])))))),[.dead,.row bh 27 tInt.sliceN F]⟩) aw (?_) ?_
         ·try dsimp only
          exact AU
         ·rintro⟨dp,cb,ck⟩ Z de H bj;try dsimp only
          dsimp only[Dl]at H;refine wS (sT (wN ?_));refine Ae λcy ay=>?_
          refine Am V (λU=>?_) (λU=>?_)
          ·have H:=AK U H;refine Ao ?_;refine ay _ ?_;refine nT ?_;obtain⟨cg,bv,bn⟩:=Ar.1 H;refine Bk (β:=((List Int)×Bool)×(Nat)) (λm=>cg=m.1) (λm=>⟨A3 (.bs tInt r1::.bs tInt.slice r2::.own 1 m.2::.lit (.bool g)::.any::.lit (.int .i64 (ixD r1 c))::.bs tInt m.1.1::.lit (.bool m.1.2)::A10 (A3 (.bs tInt r1::.lit (.int .i64 (r1.length:Int))::.lit (.int .i64 c)::A6 (.bs tInt (ixD r2 (ixD r1 c))::.lit (.int .i64 ((ixD r2 (ixD r1 c)).length:Int))::.lit (.int .i64 ck)::A40 (A10 (A2 [])))))),[.dead,.row m.2 27 tInt.sliceN F]⟩) ?_ ?_
           ·have H:=bv;refine Ah ?_;obtain⟨cv,H⟩:=Aj.1 H;refine wS (sX cv (sT (sT (wN ?_))));refine Ah ?_;obtain⟨bg,H⟩:=Aj.1 H;refine wS (sT (sT ?_));refine sA ?_ (BO V (Aw (Aq G8)) V (Aw (Aq GY)) V bg) (Av (Au (Au GS)));refine sA ?_ (QT V (Aw (Aq (Aq IL))) V (BN bg)) (Av (Au (Au JX)));refine sA ?_ (XJ V (Aw (Aq (Aq GH))) Ac2) (Av (Au (Au KP)));refine sT (wN ?_);refine Am V (λO=>?_) (λO=>?_)
            ·have H:=AK O H;refine Ao ?_;have Y:=Af.1 H;repeat(first|refine abN ?_|refine asN ?_)
             refine As ⟨(_,Z),Y.symm,?_⟩;try dsimp only
             exact AU
            ·have H:=AL O H;refine wS (sT (sT (sT (wN ?_))));refine Am V (λN=>?_) (λN=>?_)
             ·have H:=AK N H;obtain⟨bf,H⟩:=Aj.1 H;refine wSE (sT (sT ?_));refine sA ?_ (BO V (Aw (Aq (Aq G8))) V (Aw (Aq (Aq GY))) V bf) (Av (Au (Au (Au GS))));refine sA ?_ (Bp V (Aw (Aq (Aq (Aq IL)))) V (BN bf) V) (Av (Au (Au (Au JX))));refine sT (sT (wN ?_));have Y:=Af.1 H;repeat(first|refine abN ?_|refine asN ?_)
              refine As ⟨(_,Z),Y.symm,?_⟩;try dsimp only
              exact AU
             ·have H:=AL N H;obtain⟨be,H⟩:=Aj.1 H;obtain⟨dj,al,H⟩:=Ar.1 H;have al:=SF al;refine wSE (sT (sT (sT ?_)));refine sA ?_ (BO V (Aw (Aq IL)) V (Aw (Aq GH)) V be) (Av (Au KP));refine sA ?_ (Bp V (Aw (Aq FD)) V (BN be) V) (Av (Au I8));(refine AH V (DG 2 V V al (by decide) CX (.cons (.cl V) (.cons (.cl V) .nil)) ?_);refine DS ?_ (Av (Au JW)));refine sT (wN ?_);have Y:=Af.1 H;repeat(first|refine abN ?_|refine asN ?_)
              refine As ⟨(_,Z),Y.symm,?_⟩;try dsimp only
              refine(RK hC 2 V (by(simp only[fzH,Du,gJ,gE,eR,eT,Nat.reduceEqDiff,zam,zaf];first|done|exact V)) (by(simp only[fzH,Du,gJ,gE,eR,eT,Nat.reduceEqDiff,zam,zaf];first|done|exact V))).trans ?_;exact leC (gQ (gQ (gT _)))
           ·rintro⟨⟨dm,ca⟩,cm⟩ ad;try dsimp only at ad
            have H:=bn;rw[ad]at H;try dsimp only at H⊢
            refine wSE (sT (sT (wN ?_)));have ao:=Af.1 H;repeat(first|refine abN ?_|refine asN ?_)
            refine As ⟨_,cm,ao.symm,?_⟩;try dsimp only
            exact AU
          ·have H:=AL U H;refine AA ?_;repeat(first|refine BF ?_|refine exO (by decide) ?_|refine asE ?_)
           refine exN ?_;have ao:=bj _ (Af.1 H).symm;repeat(first|refine abN ?_|refine asN ?_)
           refine As ⟨(_,Z),ao.symm,?_⟩;try dsimp only
           exact AU
        ·rintro⟨dn,av⟩ ae;try dsimp only at ae
         have H:=bo;rw[ae]at H;try dsimp only
         obtain⟨cf,bu,bm⟩:=Ar.1 H;refine Bk (β:=((List Int))×(Nat)) (λB=>cf=B.1) (λB=>⟨A3 (.bs tInt r1::.bs tInt.slice r2::.own 1 B.2::.lit (.bool g)::.any::.lit (.int .i64 (ixD r1 c))::.bs tInt B.1::A10 (A4 (.bs tInt r1::.lit (.int .i64 (r1.length:Int))::.lit (.int .i64 c)::A40 (A20 [.any])))),[.dead,.row B.2 27 tInt.sliceN F]⟩) ?_ ?_
         ·have H:=bu;refine wS (sT (sT (wN ?_)));refine Am V (λL=>?_) (λL=>?_)
          ·have H:=AK L H;refine wSE (sT (wN ?_));have an:=Af.1 H;repeat(first|refine abN ?_|refine asN ?_)
           refine As ⟨(_,av),an.symm,?_⟩;try dsimp only
           refine(S4 9 tInt V).trans ?_;exact AU
          ·have H:=AL L H;refine Ao ?_;have an:=Af.1 H;repeat(first|refine abN ?_|refine asN ?_)
           refine As ⟨(_,av),an.symm,?_⟩;try dsimp only
           exact AU
         ·rintro⟨dl,au⟩ ac;try dsimp only at ac
          have H:=bm;rw[ac]at H;try dsimp only
          obtain⟨di,ak,H⟩:=Ar.1 H;have ak:=Fc ak;refine wS (sT (sT (sC ak (sT (sT (sT (sT (sT (wN ?_)))))))));obtain⟨ce,bt,bl⟩:=Ar.1 H;refine Bk (β:=((List Int))×(Nat)) (λA=>ce=A.1) (λA=>⟨A3 (.bs tInt r1::.bs tInt.slice r2::.own 1 A.2::.lit (.bool g)::.any::.lit (.int .i64 (ixD r1 c))::.bs tInt A.1::A10 (A4 (.bs tInt r1::.lit (.int .i64 (r1.length:Int))::.lit (.int .i64 c)::A40 (A20 [.any])))),[.dead,.row A.2 27 tInt.sliceN F]⟩) ?_ ?_
          ·have H:=bt;refine wS (sT (sT (wN ?_)));refine Am V (λJ=>?_) (λJ=>?_)
           ·have H:=AK J H;obtain⟨dh,aj,H⟩:=Ar.1 H;have aj:=GQ aj;obtain⟨cu,H⟩:=Aj.1 H;obtain⟨ct,H⟩:=Aj.1 H;obtain⟨cr,H⟩:=Aj.1 H;refine wSE (sT ?_);(refine AH V (DG 2 V V aj (by decide) CX (.cons (.cl V) .nil) ?_);refine DS ?_ (Av (Av Hh)));refine sT (sT ?_);(refine AH V (Km 3 V (xs:=[.tmp 72]) (T:=tInt) (ds:=[ixD r1 c]) V V V (RT.eq (n:=1) (bytes:=8)) (by decide) (by decide) (.cons (gX cu) .nil) ?_);refine DS ?_ (Av (Av (Au JX))));(refine AH V (Acw (by decide) V V V V (of_decide_eq_true ct) V V (of_decide_eq_true cr) ?_);refine DS ?_ (Av (Av (Au KP))));refine sT (wN ?_);have am:=Af.1 H;repeat(first|refine abN ?_|refine asN ?_)
            refine As ⟨(_,au),am.symm,?_⟩;try dsimp only
            refine(RK hC 2 V (by(simp only[fzH,Du,gJ,gE,eR,eT,Nat.reduceEqDiff,zam,zaf];first|done|exact V)) (by(simp only[fzH,Du,gJ,gE,eR,eT,Nat.reduceEqDiff,zam,zaf];first|done|exact V))).trans ?_;exact leC (gQ (gQ (gT _)))
           ·have H:=AL J H;refine Ao ?_;have am:=Af.1 H;repeat(first|refine abN ?_|refine asN ?_)
            refine As ⟨(_,au),am.symm,?_⟩;try dsimp only
            exact AU
          ·rintro⟨dk,ar⟩ ab;try dsimp only at ab
           have H:=bl;rw[ab]at H;try dsimp only
           obtain⟨bc,H⟩:=Aj.1 H;obtain⟨dg,ai,H⟩:=Ar.1 H;have ai:=IQ ai;refine wS (sT (sT (sT ?_)));refine sA ?_ (BO V (Aw (Aw (Aq Gt))) V (Aw (Aw (Aq Fu))) V bc) (Av (Av (Au Hh)));refine sA ?_ (Bp V (Aw (Aw (Aq G8))) V (BN bc) V) (Av (Av (Au GR)));refine sC ai (sT (wN ?_));refine Am V (λI=>?_) (λI=>?_)
           ·have H:=AK I H;obtain⟨bb,H⟩:=Aj.1 H;obtain⟨cq,H⟩:=Aj.1 H;refine wSE (sT (sT (sT ?_)));refine sA ?_ (BO V (Aw (Aw (Aq (Aq FD)))) V (Aw (Aw (Aq (Aq FQ)))) V bb) (Av (Av (Au (Au Gv))));(refine AH V (CY V V V (BN bb) (Asf cq) V ?_);refine DS ?_ QA);refine sT (wN ?_);have ap:=Af.1 H;repeat(first|refine abN ?_|refine asN ?_)
            refine As ⟨(_,ar),ap.symm,?_⟩;try dsimp only
            exact AU
           ·have H:=AL I H;refine Ao ?_;have ap:=Af.1 H;repeat(first|refine abN ?_|refine asN ?_)
            refine As ⟨(_,ar),ap.symm,?_⟩;try dsimp only
            exact AU
       ·rintro⟨⟨cc,dq⟩,cn⟩ af;try dsimp only at af
        have H:=bq;rw[af]at H;try dsimp only at H⊢
        refine wSE (sT (sT (wN ?_)));have aq:=Af.1 H;repeat(first|refine abN ?_|refine asN ?_)
        refine As ⟨_,cn,aq.symm,?_⟩;try dsimp only
        exact AU
      ·have H:=AL W H;refine AA ?_;repeat(first|refine BF ?_|refine exO (by decide) ?_|refine asE ?_)
       refine exN ?_;have aq:=bk _ (Af.1 H).symm;repeat(first|refine abN ?_|refine asN ?_)
       refine As ⟨(_,aw),aq.symm,?_⟩;try dsimp only
       exact AU
    ·rintro⟨⟨cd,dr⟩,co⟩ aa ag G;try dsimp only at ag
     try dsimp only at G
     have H:=br;rw[ag]at H;try dsimp only at H
     have e7:=Af.1 H;repeat(first|refine abN ?_|refine asN ?_)
     refine As ⟨_,co,e7.symm,?_⟩;try dsimp only
     refine iH G ?_;exact AU
   ·have H:=AL X H;refine AA ?_;repeat(first|refine BF ?_|refine exO (by decide) ?_|refine asE ?_)
    refine exN ?_;have e7:=db _ (Af.1 H).symm;repeat(first|refine abN ?_|refine asN ?_)
    refine As ⟨(_,v5),e7.symm,?_⟩;try dsimp only
    exact AU
 ·rintro⟨l9,v8⟩ ax;try dsimp only at ax
  have H:=dc;rw[ax]at H;try dsimp only
  refine wS (sT (sT (wN ?_)));obtain rfl:=Af.1 H;exact Az ⟨.inr V,gV V⟩
end
section
variable{h:List gD}{i:Nat}
inductive LendX(h:List ABlk)(i:Nat):List AV->List AV->Prop
 |nil:LendX h i [] []
 |boxI {j:Nat} {n:Int} {l l':List AV} (hij:i≠j) (hj:h[j]? =some (.box [.lit (.int .i64 n)])) (hw:wfB .i64 n=true) (hl:LendX h i l l'):LendX h i (.ptr j 0::l) (.bp tInt n 0::l')
 |boxS {j:Nat} {α:Type} {T:Ty α} {d:List α} {l l':List AV} (hij:i≠j) (hj:h[j]? =some (.box [.bs T d])) (hl:LendX h i l l'):LendX h i (.ptr j 0::l) (.bp T.slice d 0::l')
variable{C:Ctx}{w:cF}{S:Nat->Prop}{ψ:Nat->cC}
theorem AAr(H:HRel C h S ψ w)(F:gF h[i]? =aK)(I:∀g,Bz (ψ i)=iZ g->ftp h[i]? (ψ i) g){j:Nat}{x:AV}{α:Type}{T:Ty α}{d:α}(G:i≠j)(B:h[j]? =iZ (.box [x]))(W:∀u,gK w S h ψ x u->T.RS w S [u] d)(X:∀k,S k->k < w.heap.size/\Bz (ψ i)≠iZ k)(N:gK w S h ψ (.ptr j 0) v):
 gK w (λk=>k < w.heap.size/\Bz (ψ i)≠iZ k) [] ψ0 (.bp T d 0) v:=by
 unfold gK at N⊢;obtain⟨g,hg,O⟩:=N.2 (by rw[B];rfl);obtain⟨g',cs,e',z,_,_,L,A⟩:=H.blk _ _ B;rw[hg]at z;cases z;have E:g < w.heap.size:=(aA.1 L).1;obtain⟨u,Y,rfl,U,m⟩:=by unfold Ak at A;exact A
 unfold Ak at m;subst m;refine⟨g,0,O,⟨E,λe=>?_⟩,[u],T.keepS (W u U) (λ_ _=>rfl) X,λJ Z c=>?_⟩
 ·exact H.dis i j G F (by rw[B];rfl) g (I g e) (by rw[B,hg];rfl)
 ·cases J with
  |zero=>
   simp only[dX,i6]at c;subst c;unfold cG;simp[L]
  |succ J=>simp at c
theorem LendX.rel(H:HRel C h S ψ w)(A:gF h[i]? =aK)(B:∀g,Bz (ψ i)=iZ g->ftp h[i]? (ψ i) g)(I:∀k,S k->k < w.heap.size/\Bz (ψ i)≠iZ k){l:List AV}(L:LendX h i l l'):
 ∀{vs:List cC},Ak w S h ψ l vs->Ak w (λk=>k < w.heap.size/\Bz (ψ i)≠iZ k) [] ψ0 l' vs:=by
 induction L with
 |nil=>intro vs c;unfold Ak at c⊢;exact c
 |boxI m G J _ F=>
  intro vs c;unfold Ak at c⊢;obtain⟨v,E,rfl,h1,h2⟩:=c;refine⟨v,E,rfl,AAr H A B m G (λu z=>?_) I h1,F h2⟩;unfold gK at z;subst z;exact⟨rfl,J⟩
 |boxS m G _ F=>
  intro vs c;unfold Ak at c⊢;obtain⟨v,E,rfl,h1,h2⟩:=c;refine⟨v,E,rfl,AAr H A B m G (λu z=>?_) I h1,F h2⟩;unfold gK at z;exact z
inductive LendF(h:List ABlk)(i:Nat):AV->AV->Prop
 |cl {x:AV} (hx:AV.cl x=true):LendF h i x x
 |fn {f:FuncId} {l l':List AV} (hl:LendX h i l l'):LendF h i (.fn f l) (.fn f l')
theorem LendF.of_eq{x y z:AV}(e:x=y)(c:LendF h i y z):LendF h i x z:=by rw[e];exact c
inductive LendFs(h:List ABlk)(i:Nat):List AV->List AV->Prop
 |nil:LendFs h i [] []
 |cons {x x':AV} {l l':List AV} (hx:LendF h i x x') (hl:LendFs h i l l'):LendFs h i (x::l) (x'::l')
theorem LendFs.rel(H:HRel C h S ψ w)(m:gF h[i]? =aK)(z:∀g,Bz (ψ i)=iZ g->ftp h[i]? (ψ i) g)(B:∀k,S k->k < w.heap.size/\Bz (ψ i)≠iZ k){l:List AV}(u:LendFs h i l l'):
 ∀{vs:List cC},Ak w S h ψ l vs->Ak w (λk=>k < w.heap.size/\Bz (ψ i)≠iZ k) [] ψ0 l' vs:=by
 induction u with
 |nil=>intro vs c;unfold Ak at c⊢;exact c
 |cons hx _ F=>
  intro vs c;unfold Ak at c⊢;obtain⟨v,E,rfl,h1,h2⟩:=c;refine⟨v,E,rfl,?_,F h2⟩;cases hx with
  |cl hc=>exact DE _ _ hc (FY (Ext.grow h ψ (λ_ _=>rfl) B:Ext w S h ψ w (λk=>k < w.heap.size/\Bz (ψ i)≠iZ k) h ψ) _ _ h1)
  |fn u=>
   unfold gK at h1⊢;obtain⟨cs,e,A⟩:=h1;exact⟨cs,e,u.rel H m z B A⟩
end
theorem VY{P:aW}{C:Ctx}{o:aU}{t:List AV}{h:List gD}{f:aP}{more:List aV}{args:Array aV}{i:Nat}{α:Type}{T:Ty α}{l l':List α}{xs:List AV}
 (ho:o.op= .call {callee:=.value (.func f),args:=args,argTypes:=tys})(ha:args.toList=x::more)(hF:RQ P f e T l xs l')(hx:evA t x= .own i ver)(hi:h[i]? =iZ (.row ver e T l))(m:∀w S S' cs d,T.RS w S cs d->T.RS w S' cs d)(hm:LendFs h i (more.map (evA t)) xs)
 (hK:K ⟨Br t o.dst (.own i (ver+1)),h.set i (.row (ver+1) e T l')⟩):AOp P C o ⟨t,h⟩ K:=by
 rintro Q' a w ⟨E,S,ψ,H,U⟩;refine⟨λc e=>(by rw[ho]at e;cases e),?_⟩;have u:=BA U x;rw[show evA (St.mk t h).t x= .own i ver from hx]at u;unfold gK at u;have hv:=(u.2 _ (by rw[hi];rfl)).2 V;have I:=H.blk i _ hi;have z:=I.lt V;have W:∀g,Bz (ψ i)=iZ g->ftp h[i]? (ψ i) g:=λg hg=>by rw[hi];exact hg
 have Y:∀k,S k->k < w.heap.size/\Bz (ψ i)≠iZ k:=λk hk=>⟨H.lt k hk,λe=>(z k e).2.2 hk⟩
 have h1:Ak w S h ψ (more.map (evA t)) (more.map a.eval):=Ck λx _=>BA U x
 have h2:=hm.rel H (by rw[hi];rfl) W Y h1;unfold Oper.wp;rw[CC ho hF.1 a.eval w V];simp only[Oper.upon];have aa:H8 C.N w (λk=>k < w.heap.size/\Bz (ψ i)≠iZ k) [] ψ0 (ψ i) (.row 0 e T l):=by
  obtain⟨cells,O,k0,N,L⟩:=I;exact⟨cells,O,k0,λj d E=>m _ _ _ _ _ (N j d E),λg hg=>⟨(L g hg).1,λJ=>J.2 (AY hg)⟩⟩
 have hc:=hF.2 C.N _ w (ψ i) (more.map a.eval) (λk hk=>iP (H.nlt k hk) H.bel.size) (λk hk=>hk.1) aa h2;rw[show(args.map a.eval)=(ψ i::more.map a.eval).toArray from by
  obtain rfl:args=(x::more).toArray:=by rw[<-ha]
  simp[hv]]
 refine hc.mono ?_;rintro r w' ⟨v',rfl,B,ab,A⟩;have G:∀k,S k->w'.heap[k]? =w.heap[k]?:=λk hk=>B.block k (H.lt k hk) λe=>(z k e.symm).2.2 hk
 have Z:H8 C.N w' S [] ψ0 v' (.row 0 e T l'):=by
  obtain⟨cells,O,k0,N,L⟩:=ab;refine⟨cells,O,k0,λj d E=>m _ _ _ _ _ (N j d E),λg hg=>⟨(L g hg).1,λJ=>?_⟩⟩;rcases A g (AY hg)with h3|h3
  ·exact(z g h3).2.2 J
  ·have:=H.lt g J;omega
 have X:Ext w S h ψ w' S (h.set i (.row (ver+1) e T l')) (Bs ψ i v'):=Ext.set G hi (λc' hc=>by
  simp only[gH,i6]at hc;exact⟨ver,rfl,by omega,λe=>by omega⟩) λh=>by simp[Bd]at h
 refine⟨_,hK,IK (s:=⟨t,h⟩) hi E U (H.set hi V (Bv B) X Z A) X ?_⟩;unfold gK;refine⟨by simp[(eB.1 hi).1],λc' F=>?_⟩;rw[eD (eB.1 hi).1]at F;simp only[gH,i6]at F;exact⟨by omega,λ_=>by rw[Bo]⟩
theorem VQ{P:aW}{f:aP}{args:List AV}{α:Type}{T:Ty α}{l:List α}(H:JR P f args e T l):Ai3 P f args e T l:=
 ⟨H.1,λw S vs c z=>(H.2 w S vs c z).mono λr w' ⟨v,cells,h1,h2,m,A⟩=>⟨v,cells,h1,h2,m,S,λ_ h=>h,λ_ h=>.inl h,λk hk=>iP (c k hk) h2.size,A,λg hg u=>by
  have:=(m.lt g hg).1;have:=c g u;omega⟩⟩
noncomputable section
def Ayo(q:Int->M Bool):List Int->M (List Int)
 | []=>iA []
 |x::l=>gZ (q x) λb=>gZ (Ayo q l) λr=>iA (if b then r else x::r)
open Classical in
def Aui(q:Int->M Bool)(x:Int):Bool:=if h:∃b,(q x).to b then h.choose else aH
theorem Arm{x:Int}{b:Bool}(h:(q x).to b):(q x).to (Aui q x):=by
 unfold Aui;rw[dif_pos ⟨b,h⟩];exact Exists.choose_spec (⟨b,h⟩:∃b,(q x).to b)
theorem YR{q:Int->M Bool}:∀{l r:List Int},(Ayo q l).to r->(∀x∈l,(q x).to (Aui q x))/\r=l.filter λx=>!Aui q x
 | [],r,h=>by
  obtain rfl:=Af.1 h;exact⟨λx hx=>(by cases hx),rfl⟩
 |x::l,r,h=>by
  obtain⟨b,h1,h2⟩:=Ar.1 h;obtain⟨B,A,z⟩:=Ar.1 h2;obtain rfl:=Af.1 z;obtain⟨u,m⟩:=YR A;have c:=Arm h1;have g:Aui q x=b:=XA c h1;refine⟨λy hy=>?_,?_⟩
  ·rcases eX.1 hy with rfl|hy
   ·exact c
   ·exact u y hy
  ·rw[dK,g,<-m];cases b <;> rfl
theorem Arn{l:List Int}(H:(Ayo q l).to r)(u:l.length<=2147483648)(g:l.all (wfB .i64)=aK){f:aP}{c:List AV}(m:∀x b,(q x).to b->Fn bH f (.lit (.int .i64 x)::c) (.lit (.bool b)))(hc:Bl c=true:=by rfl):
 RQ bH 177 3 tInt l [.fn f c] r:=by
 obtain⟨h1,rfl⟩:=YR H;exact Amb l u (λx hx=>FA (cY.1 g x hx)) f c hc (Aui q) λx hx=>m x _ (h1 x hx)
theorem Ahp{q:Int->M Bool}{p:Int->Bool}:∀{l:List Int},(∀x∈l,(q x).to (p x))->(Ayo q l).to (l.filter λx=>!p x)
 | [],_=>Al _
 |x::l,h=>by
  have h1:=Ahp λy c=>h y (eY _ c)
  refine Ap (h x (by simp)) (Ap h1 ?_);rw[dK];cases p x <;> exact Al _
instance Atr:ZC bH 66 [.slice iY 0 0]:=⟨by kernel_rfl⟩
def JC(c:Int)(g:List (List Int))(m:Int):M Bool:=g8 (Cd g c) (gZ (Eu (ixD g c) m) λr2=>iA (!r2))
theorem QF{c:Int}{u:List (List Int)}{g:Int}{r:Bool}(H:(JC c u g).to r):Fn bH 178 [.lit (.int .i64 c),.bp tInt.sliceN.slice u 0,.bp tInt g 0] (.lit (.bool r)):=by
 delta JC at H;try dsimp only at H
 refine AT Tryz.func178 V (by kernel_rfl) V Tryz.ntmps178 λC z=>?_
 simp only[Nat.reduceAdd,Nat.reduceSub,zaa];refine wS (sT (wN ?_));obtain⟨g,H⟩:=Aj.1 H;obtain⟨r2,m,H⟩:=Ar.1 H;have m:=He m;refine dS 8 (hq:=?_);refine qT (qT (qX g (qT (qT (qC m (qT (qT (qN (wN ?_)))))))));obtain rfl:=Af.1 H;exact Az ⟨.inr V,gU V⟩
def FU(f:gY)(hP1:Int):M (List Int):=g9 ((aL (hP1 < 0))||(aL (hP1≥(f.blocks.length:Int)))) (iA ([]:List Int)) (gZ (Dm f) λu=>gZ (Gb f) λm=>g8 (Cd m hP1) (gZ (I5 (ixD m hP1)) λc=>g8 (wfB .i64 hP1) (g8 (aL (c.length<=2147483648)) (g8 (c.all (wfB .i64)) (gZ (Ayo (λz=>JC z u hP1) c) λg=>iA g)))))
theorem NE(H:(FU f hP1).to r):JR bH 158 [.agg (An f),.lit (.int .i64 hP1)] 3 tInt r:=by
 delta FU at H;try dsimp only at H
 refine Es Tryz.func158 V (by kernel_rfl) V Tryz.ntmps158 CX λC hC=>?_
 simp only[Nat.reduceAdd,Nat.reduceSub,zaa];refine wS (sB ?_);(refine AH V (AOp.boxI 1 V V (Qd.one (iD V)).weak ?_);refine DS ?_ I8);refine sT (wN ?_);refine Ae λO L=>?_
 refine wS (sT (sT (sT ?_)));refine sGf V ?_;refine sGf V ?_;refine sGf V ?_;refine sGf V ?_;refine sGf V (sT (wN ?_));refine Am V (λu=>?_) (λu=>?_)
 ·have H:=AK u H;refine wS (sT (wN ?_));obtain rfl:=Af.1 H;refine AN _ (D6 4 3 tInt V (by decide)) ?_;exact Az ⟨.inr V,rfl,2,0,rfl,rfl⟩
 ·have H:=AL u H;refine Ao ?_;refine L _ ?_;refine nT ?_;obtain⟨A,J,H⟩:=Ar.1 H;have J:=UV J;refine wS (sT (sC J (sA0 (sW (wN ?_)))));obtain⟨z,I,H⟩:=Ar.1 H;have I:=Is I;obtain⟨c5,H⟩:=Aj.1 H;obtain⟨X,G,H⟩:=Ar.1 H;have G:=VQ (GQ G);obtain⟨c7,H⟩:=Aj.1 H;obtain⟨c8,H⟩:=Aj.1 H;obtain⟨c9,H⟩:=Aj.1 H;obtain⟨B,m,H⟩:=Ar.1 H;have m:=Arn m (of_decide_eq_true c8) c9 λ_ _ H=>QF H
  refine AN ⟨.agg (An f)::.lit (.int .i64 hP1)::.ptr 0 0::.ptr 1 0::.lit (.slice iY 0 0)::.ptr 2 0::.lit (.int .i64 hP1)::.lit (.bool (aL (hP1 < 0)))::.lit (.bool (aL (hP1 < 0)))::A5 (.lit (.bool ((aL (hP1 < 0))||(aL (hP1≥(f.blocks.length:Int)))))::.agg (An f)::.bs tInt.sliceN A::A8 []),[.box (An f),.box [.lit (.int .i64 hP1)],.box [.bs tInt.sliceN A],.dead]⟩ (iH AU (Lh 1 V)) ?_;refine Ae λU E=>?_
  refine Qj (n:=9) (λb=>⟨.agg (An f)::.lit (.int .i64 hP1)::.ptr 0 0::.ptr 1 0::(bif b 8 then .own 3 (0+1)else .lit (.slice iY 0 0))::.ptr 2 0::.lit (.int .i64 hP1)::.lit (.bool (aL (hP1 < 0)))::.lit (.bool (aL (hP1 < 0)))::A5 [.lit (.bool ((aL (hP1 < 0))||(aL (hP1≥(f.blocks.length:Int))))),.agg (An f),.bs tInt.sliceN A,(bif b 0 then .agg (An f)else .any),(bif b 1 then .bs tInt.slice z else .any),(bif b 2 then .lit (.int .i64 hP1)else .any),(bif b 3 then .bp tInt.slice (ixD z hP1) 0 else .any),(bif b 4 then .bs tInt (ixD z hP1)else .any),(bif b 5 then .own 3 0 else .any),(bif b 6 then .fn 178 [.ptr 2 0,.ptr 1 0]else .any),(bif b 7 then .own 3 (0+1)else .any)],[.box (An f),.box [.lit (.int .i64 hP1)],.box [.bs tInt.sliceN A],(bif b 7 then .row (0+1) 3 tInt B else(bif b 5 then .row 0 3 tInt X else .dead))]⟩) V (by kernel_rfl) (by kernel_rfl) ?_ (E _ ?_)
  ·refine BU (λb g c hc=>?_) ?_
   ·try dsimp only
    refine Ba (AW V FD V V) ?_;exact iG
   refine BU (λb g c hc=>?_) ?_
   ·have h0:b 0=aK:=c 0 _ V V;try dsimp only
    refine Ba (AO V (Pu ((Aq (Aq GH)).trans (BL h0 _ _)) V) I V V) ?_;exact iG
   refine BU (λb g c hc=>?_) ?_
   ·try dsimp only
    refine Ba (Bi V FQ V V) ?_;exact iG
   refine BU (λb g c hc=>?_) ?_
   ·have h1:b 1=aK:=c 0 _ V V;have h2:b 2=aK:=c 1 _ V V;try dsimp only
    refine Ba (EK V ((Aq (Aq FD)).trans (BL h1 _ _)) ((Aq (Aq FQ)).trans (BL h2 _ _)) V c5) ?_;exact iG
   refine BU (λb g c hc=>?_) ?_
   ·have h3:b 3=aK:=c 0 _ V V;try dsimp only
    refine Ba (AI V ((Aq (Aq Gt)).trans (BL h3 _ _)) V) ?_;exact iG
   refine BU (λb g c hc=>?_) ?_
   ·have h4:b 4=aK:=c 0 _ V V;have F:b 7=aH:=AZ hc (i:=5) (j:=7) (k:=0) V V V V g;have Y:b 8=aH:=AZ hc (i:=5) (j:=8) (k:=7) V V V V g;have W:upd b 5 7=aH:=F;try dsimp only
    refine KG 3 V (Pu ((Aq (Aq Fu)).trans (BL h4 _ _)) V) G (by decide) V (congrArg iZ ((C3 F _ _).trans (C3 g _ _))) (by repeat(first|exact Af0|refine GC V ?_|refine GC (N3 V V) ?_|refine GC (N3 V (N3 V V)) ?_|refine GC (N3 V (N3 V (N3 V V))) ?_)) (by repeat(first|exact Afz|refine FH V ?_|refine FH (Auw g V) ?_|refine FH (Auw F V) ?_|refine FH (Auw Y V) ?_|refine FH (AAo V V) ?_)) ?_;simp only[C3 W];exact iG
   refine BU (λb g c hc=>?_) ?_
   ·try dsimp only
    refine Ba (FV V) ?_;exact iG
   refine BU (λb g c hc=>?_) ?_
   ·have N:b 5=aK:=c 0 _ V V;have Z:b 6=aK:=c 1 _ V V;try dsimp only
    refine VY (i:=3) (more:=[.tmp 23]) V V m ((Aq (Aq G8)).trans (BL N _ _)) (congrArg iZ ((C3 g _ _).trans (SM N _ _))) CX (.cons (.of_eq ((Aq (Aq GY)).trans (BL Z _ _)) (.fn (.boxS (j:=2) (by decide) V (.boxI (j:=1) (by decide) V c7 .nil)))) .nil) ?_;exact iG
   refine BU (λb g c hc=>?_) ?_
   ·have F:b 7=aK:=c 0 _ V V;try dsimp only
    refine Ba (AX.assign V ((Aq (Aq (Aq IL))).trans (BL F _ _))) ?_;exact iG
   exact Ag9
  ·refine AN ⟨.agg (An f)::.lit (.int .i64 hP1)::.ptr 0 0::.ptr 1 0::.own 3 (0+1)::.ptr 2 0::.lit (.int .i64 hP1)::.lit (.bool (aL (hP1 < 0)))::.lit (.bool (aL (hP1 < 0)))::A5 [.lit (.bool ((aL (hP1 < 0))||(aL (hP1≥(f.blocks.length:Int))))),.agg (An f),.bs tInt.sliceN A,.agg (An f),.bs tInt.slice z,.lit (.int .i64 hP1),.bp tInt.slice (ixD z hP1) 0,.bs tInt (ixD z hP1),.own 3 0,.fn 178 [.ptr 2 0,.ptr 1 0],.own 3 (0+1)],[.box (An f),.box [.lit (.int .i64 hP1)],.box [.bs tInt.sliceN A],.row (0+1) 3 tInt B]⟩ iG ?_;obtain rfl:=Af.1 H;exact Az ⟨.inr V,rfl,3,0+1,rfl,rfl⟩
end
def Amx(l:Nat)(J:St->Prop)(Q:Exit->St->Prop):Exit->St->Prop
 | .goto l',s=>l'=l/\J s
 |e,s=>Q e s
section
variable{P:aW}{C:Ctx}
inductive GoOn(P:Program)(C:Ctx)(l:Nat)(y:Code)(Q:Exit->St->Prop):St->Prop
 |mk {s:St} (J:St->Prop) (h:Awp P C y (Amx l J Q) s) (hJ:∀s',J s'->GoOn P C l y Q s'):GoOn P C l y Q s
theorem Aco{c:Code}(l:Nat)(hf:findLabel c l=iZ (.seq .skip y))(h:Awp P C c (Amx l (GoOn P C l y Q) Q) s):Awp P C (.scope c) Q s:=λa w H=>by
 intro b k cs U X W;have hg:gotoIn l (.inScope c::k)=iZ (.code (.seq .skip y)::.inScope c::k):=by simp[gotoIn,hf]
 have s1:∀m g,step P (lone (b.atR m (.inScope c::k)) cs g)= .next (lone (b.atR m k) cs g):=λm g=>step_lone_go (by simp[stepG,stepG.exec,Frame.atR])
 have h1:∀m g,(lone (b.atR m (.inScope c::k)) cs g).fenced P (fnc C.rd):=λm g=>fenced_calm X W V
 have Y:∀s,GoOn P C l y Q s->∀a w,s.rel C a w->∃e a' w',(∃s',Q e s'/\s'.rel C a' w')/\ArrivesIn (Machine.fenced P (fnc C.rd)) P (lone (b.atR a (.code (.seq .skip y)::.inScope c::k)) cs w) b k cs e a' w':=by
  intro s hs;induction hs with
  |mk J hy hJ ih=>
   intro a w H;obtain⟨e,m,g,⟨s',hq,z⟩,u⟩:=(Ae λK hK=>Ao (hK _ hy):Awp P C (.seq .skip y) _ _) a w H b (.inScope c::k) cs U X W;cases e with
   |normal=>exact⟨.normal,m,g,⟨s',hq,z⟩,StepsIn.trans u (.one (h1 m g) (s1 m g))⟩
   |exit id=>
    refine⟨.exit id,m,g,⟨s',hq,z⟩,λZ hk=>u.1 Z (by simp[cM,hk]),λN hk=>?_⟩;obtain⟨F,h2,h3⟩:=u.2 N (by simp[cM,hk]);exact⟨F,h2,h3⟩
   |goto l'=>
    obtain⟨rfl,O⟩:=hq;obtain⟨G,I,E,B,A⟩:=ih s' O m g z;exact⟨G,I,E,B,.of_steps (u.1 _ hg) A⟩
   |ret=>exact⟨_,m,g,⟨s',hq,z⟩,u⟩
   |panic ch=>exact⟨_,m,g,⟨s',hq,z⟩,u⟩
   |outgrown=>exact⟨_,m,g,⟨s',hq,z⟩,u⟩
 have h0:(lone (b.atR a (.code (.scope c)::k)) cs w).fenced P (fnc C.rd):=fenced_calm X W V;have L:step P (lone (b.atR a (.code (.scope c)::k)) cs w)= .next (lone (b.atR a (.code c::.inScope c::k)) cs w):=step_lone_go (by simp[stepG,stepG.exec,Frame.atR]);obtain⟨e,m,g,⟨s',hq,z⟩,u⟩:=h a w H b (.inScope c::k) cs U X W;cases e with
 |normal=>exact⟨.normal,m,g,⟨s',hq,z⟩,.head h0 L (StepsIn.trans u (.one (h1 m g) (s1 m g)))⟩
 |exit id=>
  refine⟨.exit id,m,g,⟨s',hq,z⟩,λZ hk=>.head h0 L (u.1 Z (by simp[cM,hk])),λN hk=>?_⟩;obtain⟨F,h2,h3⟩:=u.2 N (by simp[cM,hk]);exact⟨F,h2,.head h0 L h3⟩
 |goto l'=>
  obtain⟨rfl,O⟩:=hq;obtain⟨G,I,E,B,A⟩:=Y s' O m g z;exact⟨G,I,E,B,.of_steps (.head h0 L (u.1 _ hg)) A⟩
 |ret=>exact⟨_,m,g,⟨s',hq,z⟩,.of_steps (.one h0 L) u⟩
 |panic ch=>exact⟨_,m,g,⟨s',hq,z⟩,.of_steps (.one h0 L) u⟩
 |outgrown=>exact⟨_,m,g,⟨s',hq,z⟩,.of_steps (.one h0 L) u⟩
theorem Acq{l l':Nat}(hg:GoOn P C l y Q s):Awp P C (.seq (.label l') y) (Amx l (GoOn P C l y Q) Q) s:=
 Ae λK c=>Awp.label (c _ (by
  cases hg with
  |mk J h g=>
   refine h.mono λe s' q=>?_
   cases e with
   |goto l'=>exact⟨q.1,g s' q.2⟩
   |_=>exact q))
theorem Awp.goto{l:Nat}(h:Q (.goto l) s):Awp P C (.goto l) Q s:=λ_ _ H=>wpIn_goto ⟨s,h,H⟩
theorem Acj{l:Nat}{g ρ β:Type}{step:g->M (g⊕ρ)}{B:g}{r:ρ}(H:(hZ step B).to r)(F:g->β->St)(u:β)(h0:St.le C s (F B u))
 (z:∀s' b x,(step s').to x->(∀m,x= .inr m->m=r)->Awp P C y (Amx l (λE=>∃c b',x= .inl c/\St.le C E (F c b')) Q) (F s' b)):GoOn P C l y Q s:=by
 obtain⟨k,hk⟩:=NL.1 H;clear H;induction hk generalizing s u with
 |out hx=>exact .mk _ ((z _ u _ hx λm e=>by cases e;rfl).le h0) λs' ⟨_,_,e,_⟩=>by cases e
 |on hx J G=>
  refine .mk _ ((z _ u _ hx λm e=>by cases e).le h0) λs' ⟨I,b',e,A⟩=>?_
  cases e;exact G b' A z
end
noncomputable section
def FM(f:gY):(Int×(List Int))->M ((Int×(List Int))⊕((List Int))):=λ(x1,l3)=>g9 (aL (x1 < (f.blocks.length:Int))) (gZ (gZ (FU f x1) λc=>g9 (aL ((c.length:Int) > 0)) (g8 (wfB .i64 x1) (g8 (EM (l3.length+ [x1].length) 8) (iA (l3++[x1])))) (iA l3)) λl10=>iA (.inl (aR.wrap (x1+1),l10))) (iA (.inr l3))
def HF(f:gY):M (List Int):=gZ (hZ (FM f) (0,([]:List Int))) λc=>iA c
theorem U8(H:(HF f).to r):Fn bH 135 [.agg (An f)] (.bs tInt r):=by
 delta HF at H;try dsimp only at H
 refine AT Tryz.func135 V (by kernel_rfl) V Tryz.ntmps135 λC hC=>?_
 simp only[Nat.reduceAdd,Nat.reduceSub,zaa];refine wS (sB (sT (wN ?_)));refine wS (sT (wN ?_));refine AN _ (D6 3 3 tInt V (by decide)) ?_;obtain⟨z4,Y,X⟩:=Ar.1 H;refine Bk (β:=((List Int))×(Nat)) (λB=>z4=B.1) (λB=>⟨A3 (.own 1 B.2::A10 (A8 [])),[.dead,.row B.2 3 tInt B.1]⟩) ?_ ?_
 ·refine wS (sT (sT (sT (sT (wN ?_)))));refine Ah ?_;refine By Y (λs4 b4=>⟨.any::.ptr 0 0::.any::.own 1 b4::A3 (.lit (.int .i64 (f.blocks.length:Int))::.lit (.int .i64 s4.1)::A10 (A3 [])),[.box (An f),.row b4 3 tInt s4.2]⟩) 0 (?_) ?_
  ·try dsimp only
   exact AU
  ·rintro⟨Z,l3⟩ J x4 H W;try dsimp only
   dsimp only[FM]at H;refine wS (sT (wN ?_));refine Ae λaa L=>?_
   refine Am V (λz=>?_) (λz=>?_)
   ·have H:=AK z H;refine Ao ?_;refine L _ ?_;refine nT ?_;obtain⟨I,G,F⟩:=Ar.1 H;refine Bk (β:=((List Int))×(Nat)) (λc=>I=c.1) (λc=>⟨.any::.ptr 0 0::.any::.own 1 c.2::A3 (.lit (.int .i64 (f.blocks.length:Int))::.lit (.int .i64 Z)::A10 (A3 [])),[.box (An f),.row c.2 3 tInt c.1]⟩) ?_ ?_
    ·have H:=G;refine Ah ?_;refine wS (sT (sT (wN ?_)));obtain⟨ab,u,H⟩:=Ar.1 H;have u:=NE u;refine wS (sT (sT ?_));(refine AH V (DG 2 V V u (by decide) CX (.cons (.cl V) (.cons (.cl V) .nil)) ?_);refine DS ?_ (Au Gv));refine sT (sT (wN ?_));refine Am V (λg=>?_) (λg=>?_)
     ·have H:=AK g H;obtain⟨U,H⟩:=Aj.1 H;obtain⟨O,H⟩:=Aj.1 H;refine wSE (sT (sT ?_));refine sA ?_ (AX.lt (xs:=[.tmp 17]) (T:=tInt) (ds:=[Z]) V V V (by rfl) (by decide) (.cons (gX U) .nil)) (Au (Au KP));refine sP O (sT (wN ?_));have A:=Af.1 H;repeat(first|refine abN ?_|refine asN ?_)
      refine As ⟨(_,J+1),A.symm,?_⟩;try dsimp only
      exact leC (gQ (gQ (gT _)))
     ·have H:=AL g H;refine Ao ?_;have A:=Af.1 H;repeat(first|refine abN ?_|refine asN ?_)
      refine As ⟨(_,J),A.symm,?_⟩;try dsimp only
      exact leC (gQ (gQ (gT _)))
    ·rintro⟨l10,v9⟩ m;try dsimp only at m
     have H:=F;rw[m]at H;try dsimp only
     refine wSE (sT (sT (wN ?_)));have N:=Af.1 H;repeat(first|refine abN ?_|refine asN ?_)
     refine As ⟨_,v9,N.symm,?_⟩;try dsimp only
     exact AU
   ·have H:=AL z H;refine AA ?_;repeat(first|refine BF ?_|refine exO (by decide) ?_|refine asE ?_)
    refine exN ?_;have N:=W _ (Af.1 H).symm;repeat(first|refine abN ?_|refine asN ?_)
    refine As ⟨(_,J),N.symm,?_⟩;try dsimp only
    exact leC (gR (gQ (gT _)))
 ·rintro⟨l6,v5⟩ E;try dsimp only at E
  have H:=X;rw[E]at H;try dsimp only
  refine wS (sT (sT (wN ?_)));obtain rfl:=Af.1 H;exact Az ⟨.inr V,gV V⟩
def FL(g:List (List Int))(c:List Bool):(Int×(List Int)×(List Int))->M ((Int×(List Int)×(List Int))⊕(List Int)):=λ(at7,l9,l11)=>g9 (at7 ==(l9.length:Int)) (g8 (aL (l11.length<=2147483648)) (iA (.inr (List.mergeSort l11 λx y=>decide (x<=y))))) (gZ (g8 (Cd l9 at7) (g8 (Cd c (ixD l9 at7)) (gZ (iC (ixD c (ixD l9 at7)) aH (Eu l11 (ixD l9 at7))) λm=>g9 ((ixD c (ixD l9 at7))&&(!m)) (g8 (wfB .i64 (ixD l9 at7)) (g8 (EM (l11.length+ [ixD l9 at7].length) 8) (g8 (Cd g (ixD l9 at7)) (g8 (EM (l9.length+(ixD g (ixD l9 at7)).length) 8) (iA (l9++(ixD g (ixD l9 at7)),l11++[ixD l9 at7])))))) (iA (l9,l11))))) λ(l17,l19)=>iA (.inl (aR.wrap (at7+1),l17,l19)))
def JG(f:gY)(hP1:Int):M (List Int):=gZ (FU f hP1) λr1=>g9 ((r1.length:Int) ==0) (iA []) (gZ (Gb f) λg=>gZ (GI f) λc=>g8 (wfB .i64 hP1) (hZ (FL g c) (0,r1,[hP1])))
theorem Xg(H:(JG f hP1).to r):Fn bH 136 [.agg (An f),.lit (.int .i64 hP1)] (.bs tInt r):=by
 delta JG at H;try dsimp only at H
 refine AT Tryz.func136 V (by kernel_rfl) V Tryz.ntmps136 λC hC=>?_
 simp only[Nat.reduceAdd,Nat.reduceSub,zaa];refine wS (sB (sT (wN ?_)));refine Aco 0 V ?_;obtain⟨r1,k1,H⟩:=Ar.1 H;have k1:=NE k1;refine wS (sT (sT ?_));(refine AH V (DG 1 V V k1 (by decide) CX (.cons (.cl V) (.cons (.cl V) .nil)) ?_);refine DS ?_ (Au Gv));refine sT (wN ?_);refine Ae λav ai=>?_
 refine wS (sT (sT (sT (wN ?_))));refine Am V (λX=>?_) (λX=>?_)
 ·have H:=AK X H;refine wS (sT (wN ?_));obtain rfl:=Af.1 H;refine AN _ (S4 4 tInt V) ?_;exact Az ⟨.inr V,gU V⟩
 ·have H:=AL X H;refine Ao ?_;refine ai _ ?_;refine nT ?_;obtain⟨G,k4,H⟩:=Ar.1 H;have k4:=Is k4;obtain⟨A,k5,H⟩:=Ar.1 H;have k5:=QD k5;refine dS 6 (hq:=?_);refine qT (qC k4 (qT (qC k5 (qT (qT (qN (wN ?_)))))));obtain⟨c6,H⟩:=Aj.1 H;refine wS (sT ?_);(refine AH V (Km 2 V (xs:=[.tmp 21]) (T:=tInt) (ds:=[hP1]) V V V (RT.eq (n:=1) (bytes:=8)) (by decide) (by decide) (.cons (gX c6) .nil) ?_);refine DS ?_ (Au (Au Hh)));refine sT (sT (wN ?_));refine Acq ?_;refine Acj H (λU N=>⟨A5 (.own 1 N.1::.bs tInt.slice G::.bs iJ A::.own 2 N.2::.lit (.int .i64 U.1)::A40 (A6 [])),[.dead,.row N.1 3 tInt U.2.1,.row N.2 3 tInt U.2.2]⟩) (0,0) (?_) ?_
  ·try dsimp only
   exact leC (gR (gQ (gQ (gT _))))
  ·rintro⟨c,m,L⟩ ⟨z,u⟩ aw H ab;try dsimp only
   dsimp only[FL]at H;refine Ae λau Z=>?_
   refine wS (sT (sT (sT (sT (wN ?_)))));refine Am V (λJ=>?_) (λJ=>?_)
   ·have H:=AK J H;obtain⟨ar,H⟩:=Aj.1 H;refine wS (sT ?_);(refine AH V (Qk V V V (of_decide_eq_true ar) ?_);refine DS ?_ (Au (Au (Au JW))));refine wN ?_;refine wS (sT (sT (wN ?_)));have H:=Af.2 (ab _ (Af.1 H).symm);obtain rfl:=Af.1 H;exact Az ⟨.inr V,gV V⟩
   ·have H:=AL J H;refine Ao ?_;refine Z _ ?_;refine nT ?_;obtain⟨ae,ad,ac⟩:=Ar.1 H;refine Bk (β:=((List Int)×(List Int))×(Nat×Nat)) (λE=>ae=E.1) (λE=>⟨A5 (.own 1 E.2.1::.bs tInt.slice G::.bs iJ A::.own 2 E.2.2::.lit (.int .i64 c)::A40 (A6 [])),[.dead,.row E.2.1 3 tInt E.1.1,.row E.2.2 3 tInt E.1.2]⟩) ?_ ?_
    ·have H:=ad;obtain⟨aa,H⟩:=Aj.1 H;refine wS (sT (sT ?_));refine sA ?_ (BO V (Aq (Aq (Aq G8))) V (Aq (Aq (Aq GY))) V aa) (Av GS);refine sA ?_ (Bp V (Aw IL) V (BN aa) V) (Av JX);refine sT (wN ?_);obtain⟨aq,H⟩:=Aj.1 H;obtain⟨W,ah,H⟩:=Ar.1 H;refine wS (sT (sT (sX aq (sT (sT ?_)))));refine sGt V ?_;refine sGt V ?_;refine sG (g:=(ixD A (ixD m c))) (hg:=Oq V) (hq:=λhg=>by((try simp only[BL hg]);(try simp only[Qu hg]);exact VM V (He (iB ah hg)) (.cons (.own V) (.cons (.cl V) .nil)))) (ht:=(Av (Au JX))) ?_;refine sGt V (sT (wN ?_));refine Am V (λI=>?_) (λI=>?_)
     ·have H:=AK I H;obtain⟨ap,H⟩:=Aj.1 H;obtain⟨ao,H⟩:=Aj.1 H;obtain⟨an,H⟩:=Aj.1 H;obtain⟨am,H⟩:=Aj.1 H;refine AN ⟨A5 (.own 1 z::.bs tInt.slice G::.bs iJ A::.own 2 u::.lit (.int .i64 c)::.lit (.int .i64 (ixD m c))::A10 (A2 (.lit (.int .i64 c)::.own 1 z::.lit (.int .i64 (m.length:Int))::.lit (.bool (c ==(m.length:Int)))::A3 (.own 1 z::.lit (.int .i64 c)::.rp 1 z (cW c) 0::.lit (.int .i64 (ixD m c))::.bs iJ A::.lit (.int .i64 (ixD m c))::.bp iJ (ixD A (ixD m c)) 0::.lit (.bool (ixD A (ixD m c)))::.lit (.bool (ixD A (ixD m c)))::A4 (.lit (.bool ((ixD A (ixD m c))&&(!W)))::A10 (A2 [])))))),[.dead,.row z 3 tInt m,.row u 3 tInt L]⟩ (iH AU (Lh 0 V)) ?_;refine Qj (n:=12) (λb=>⟨A5 ((bif b 11 then .own 1 (z+1)else .own 1 z)::.bs tInt.slice G::.bs iJ A::(bif b 10 then .own 2 (u+1)else .own 2 u)::.lit (.int .i64 c)::.lit (.int .i64 (ixD m c))::A10 (A2 (.lit (.int .i64 c)::.own 1 z::.lit (.int .i64 (m.length:Int))::.lit (.bool (c ==(m.length:Int)))::A3 (.own 1 z::.lit (.int .i64 c)::.rp 1 z (cW c) 0::.lit (.int .i64 (ixD m c))::.bs iJ A::.lit (.int .i64 (ixD m c))::.bp iJ (ixD A (ixD m c)) 0::.lit (.bool (ixD A (ixD m c)))::.lit (.bool (ixD A (ixD m c)))::A4 (.lit (.bool ((ixD A (ixD m c))&&(!W)))::(bif b 0 then .own 2 u else .any)::(bif b 1 then .lit (.int .i64 (ixD m c))else .any)::(bif b 2 then .bs tInt [ixD m c]else .any)::(bif b 3 then .own 2 (u+1)else .any)::(bif b 4 then .own 1 z else .any)::(bif b 5 then .bs tInt.slice G else .any)::(bif b 6 then .lit (.int .i64 (ixD m c))else .any)::(bif b 7 then .bp tInt.slice (ixD G (ixD m c)) 0 else .any)::(bif b 8 then .bs tInt (ixD G (ixD m c))else .any)::(bif b 9 then .own 1 (z+1)else .any)::A2 []))))),[.dead,(bif b 9 then .row (z+1) 3 tInt (m++(ixD G (ixD m c)))else .row z 3 tInt m),(bif b 3 then .row (u+1) 3 tInt (L++[ixD m c])else .row u 3 tInt L)]⟩) V (by kernel_rfl) (by kernel_rfl) ?_ ?_
      ·refine BU (λb F B hc=>?_) ?_
       ·have ak:b 10=aH:=AZ hc (i:=0) (j:=10) (k:=2) V V V V F;try dsimp only
        refine Ba (AX.move V ((Aq IL).trans (AAq ak _ _))) ?_;exact iG
       refine BU (λb F B hc=>?_) ?_
       ·try dsimp only
        refine Ba (AX.move V (Aq FD)) ?_;exact iG
       refine BU (λb F B hc=>?_) ?_
       ·have h1:b 1=aK:=B 0 _ V V;try dsimp only
        refine Ba (AX.lt (xs:=[.tmp 45]) (T:=tInt) (ds:=[ixD m c]) V V V (by rfl) (by decide) (.cons (Fit.of_eq ((Aw (Aq Fu)).trans (BL h1 _ _)) (gX ap)) .nil)) ?_;exact iG
       refine BU (λb F B hc=>?_) ?_
       ·have h0:b 0=aK:=B 0 _ V V;have h2:b 2=aK:=B 1 _ V V;try dsimp only
        refine Kn V ((Aw (Aq Gt)).trans (BL h0 _ _)) (congrArg iZ (C3 F _ _)) ((Aw (Aq G8)).trans (BL h2 _ _)) V ao ?_;exact iG
       refine BU (λb F B hc=>?_) ?_
       ·have aj:b 11=aH:=AZ hc (i:=4) (j:=11) (k:=6) V V V V F;try dsimp only
        refine Ba (AX.move V (Fu.trans (AAq aj _ _))) ?_;exact iG
       refine BU (λb F B hc=>?_) ?_
       ·try dsimp only
        refine Ba (AX.move V G8) ?_;exact iG
       refine BU (λb F B hc=>?_) ?_
       ·try dsimp only
        refine Ba (AX.move V (Aq FD)) ?_;exact iG
       refine BU (λb F B hc=>?_) ?_
       ·have h5:b 5=aK:=B 0 _ V V;have h6:b 6=aK:=B 1 _ V V;try dsimp only
        refine Ba (EK V ((Aw (Aq (Aq GH))).trans (BL h5 _ _)) ((Aw (Aq (Aq FD))).trans (BL h6 _ _)) V an) ?_;exact iG
       refine BU (λb F B hc=>?_) ?_
       ·have h7:b 7=aK:=B 0 _ V V;try dsimp only
        refine Ba (AI V ((Aw (Aq (Aq FQ))).trans (BL h7 _ _)) V) ?_;exact iG
       refine BU (λb F B hc=>?_) ?_
       ·have h4:b 4=aK:=B 0 _ V V;have h8:b 8=aK:=B 1 _ V V;try dsimp only
        refine Kn V ((Aw (Aq (Aq IL))).trans (BL h4 _ _)) (congrArg iZ (C3 F _ _)) ((Aw (Aq (Aq Gt))).trans (BL h8 _ _)) V am ?_;exact iG
       refine BU (λb F B hc=>?_) ?_
       ·have h3:b 3=aK:=B 0 _ V V;try dsimp only
        refine Ba (AX.assign V ((Aw (Aq GY)).trans (BL h3 _ _))) ?_;exact iG
       refine BU (λb F B hc=>?_) ?_
       ·have h9:b 9=aK:=B 0 _ V V;try dsimp only
        refine Ba (AX.assign V ((Aw (Aq (Aq Fu))).trans (BL h9 _ _))) ?_;exact iG
       exact Ag9
      ·refine qVia ⟨A5 (.own 1 (z+1)::.bs tInt.slice G::.bs iJ A::.own 2 (u+1)::.lit (.int .i64 c)::.lit (.int .i64 (ixD m c))::A10 (A2 (.lit (.int .i64 c)::.own 1 z::.lit (.int .i64 (m.length:Int))::.lit (.bool (c ==(m.length:Int)))::A3 (.own 1 z::.lit (.int .i64 c)::.rp 1 z (cW c) 0::.lit (.int .i64 (ixD m c))::.bs iJ A::.lit (.int .i64 (ixD m c))::.bp iJ (ixD A (ixD m c)) 0::.lit (.bool (ixD A (ixD m c)))::.lit (.bool (ixD A (ixD m c)))::A4 (.lit (.bool ((ixD A (ixD m c))&&(!W)))::.own 2 u::.lit (.int .i64 (ixD m c))::.bs tInt [ixD m c]::.own 2 (u+1)::.own 1 z::.bs tInt.slice G::.lit (.int .i64 (ixD m c))::.bp tInt.slice (ixD G (ixD m c)) 0::.bs tInt (ixD G (ixD m c))::.own 1 (z+1)::A2 []))))),[.dead,.row (z+1) 3 tInt (m++(ixD G (ixD m c))),.row (u+1) 3 tInt (L++[ixD m c])]⟩ V ?_;have Y:=Af.1 H;repeat(first|refine abN ?_|refine asN ?_)
       refine As ⟨(_,(z+1,u+1)),Y.symm,?_⟩;try dsimp only
       exact AU
     ·have H:=AL I H;refine Ao ?_;have Y:=Af.1 H;repeat(first|refine abN ?_|refine asN ?_)
      refine As ⟨(_,(z,u)),Y.symm,?_⟩;try dsimp only
      exact AU
    ·rintro⟨⟨ay,ax⟩,⟨ag,af⟩⟩ O;try dsimp only at O
     have H:=ac;rw[O]at H;try dsimp only at H⊢
     refine wS (sT (sT (sT (wN ?_))));refine Awp.goto ?_;have al:=Af.1 H;refine⟨rfl,_,(ag,af),al.symm,?_⟩;try dsimp only
     exact AU
def D4(c:List Int):(Int×(List Int))->M ((Int×(List Int))⊕((List Int))):=λ(x13,l15)=>g9 (aL (x13 < (c.length:Int))) (g8 (Cd c x13) (g8 (Cd l15 (ixD c x13)) (g8 (wfB .i64 (aR.wrap ((ixD l15 (ixD c x13))+1))) (iA (.inl (aR.wrap (x13+1),l15.set (cW (ixD c x13)) (aR.wrap ((ixD l15 (ixD c x13))+1)))))))) (iA (.inr l15))
def EH(f:gY)(r2:List Int):(Int×(List Int))->M ((Int×(List Int))⊕((List Int))):=λ(x3,l5)=>g9 (aL (x3 < (r2.length:Int))) (g8 (Cd r2 x3) (gZ (JG f (ixD r2 x3)) λc=>gZ (hZ (D4 c) (0,l5)) λg=>iA (.inl (aR.wrap (x3+1),g)))) (iA (.inr l5))
def HG(f:gY):M (List Int):=g8 (V3 (f.blocks.length:Int) 8) (gZ (HF f) λr2=>gZ (hZ (EH f r2) (0,fO (cW (f.blocks.length:Int)) 0)) λc=>iA c)
theorem U9(H:(HG f).to r):Fn bH 112 [.agg (An f)] (.bs tInt r):=by
 delta HG at H;try dsimp only at H
 refine AT Tryz.func112 V (by kernel_rfl) V Tryz.ntmps112 λC hC=>?_
 simp only[Nat.reduceAdd,Nat.reduceSub,zaa];refine wS (sB (sT (wN ?_)));obtain⟨c1,H⟩:=Aj.1 H;refine wS (sT (sT (sT ?_)));(refine AH V (Qn 1 V (T:=tInt) (e:=3) (v:=.int .i64 0) (bytes:=8) (0:Int) V (by kernel_rfl) V (λ_ _=>⟨rfl,by decide⟩) V V c1 ?_);refine DS ?_ (Au I8));refine sT (wN ?_);obtain⟨r2,k2,H⟩:=Ar.1 H;have k2:=U8 k2;obtain⟨z6,ai,ah⟩:=Ar.1 H;refine Bk (β:=((List Int))×(Nat)) (λI=>z6=I.1) (λI=>⟨A3 (.own 1 I.2::A20 (A10 (A2 []))),[.dead,.row I.2 3 tInt I.1]⟩) ?_ ?_
 ·refine wS (sT (sC k2 (sT (sT (wN ?_)))));refine Ah ?_;refine By ai (λs6 b6=>⟨.any::.ptr 0 0::.any::.own 1 b6::A9 (.bs tInt r2::.lit (.int .i64 (r2.length:Int))::.lit (.int .i64 s6.1)::A20 []),[.box (An f),.row b6 3 tInt s6.2]⟩) 0 (?_) ?_
  ·try dsimp only
   exact AU
  ·rintro⟨x3,l5⟩ v4 x6 H ag;try dsimp only
   dsimp only[EH]at H;refine wS (sT (wN ?_));refine Ae λaj aa=>?_
   refine Am V (λm=>?_) (λm=>?_)
   ·have H:=AK m H;refine Ao ?_;refine aa _ ?_;refine nT ?_;obtain⟨ad,H⟩:=Aj.1 H;obtain⟨G,A,H⟩:=Ar.1 H;have A:=Xg A;obtain⟨Y,X,W⟩:=Ar.1 H;refine Bk (β:=((List Int))×(Nat)) (λc=>Y=c.1) (λc=>⟨.any::.ptr 0 0::.any::.own 1 c.2::A9 (.bs tInt r2::.lit (.int .i64 (r2.length:Int))::.lit (.int .i64 x3)::A20 []),[.box (An f),.row c.2 3 tInt c.1]⟩) ?_ ?_
    ·refine Ah ?_;refine wS (sX ad (sT (sT (wN ?_))));refine wS (sT (sT (sC A (sT (sT (wN ?_))))));refine Ah ?_;refine By X (λF O=>⟨.any::.ptr 0 0::.any::.own 1 O::A9 (.bs tInt r2::.lit (.int .i64 (r2.length:Int))::.lit (.int .i64 x3)::A5 (.bs tInt G::.lit (.int .i64 (G.length:Int))::.lit (.int .i64 F.1)::A10 (A2 []))),[.box (An f),.row O 3 tInt F.2]⟩) v4 (?_) ?_
     ·try dsimp only
      exact AU
     ·rintro⟨al,an⟩ E ak H U;try dsimp only
      dsimp only[D4]at H;refine wS (sT (wN ?_));refine Ae λaf N=>?_
      refine Am V (λg=>?_) (λg=>?_)
      ·have H:=AK g H;refine Ao ?_;refine N _ ?_;refine nT ?_;refine Ae λae L=>?_
       refine Ah ?_;obtain⟨ac,H⟩:=Aj.1 H;refine wS (sX ac (sT (sT (wN ?_))));obtain⟨u,H⟩:=Aj.1 H;obtain⟨ab,H⟩:=Aj.1 H;refine wSE (sT (sT ?_));refine sA ?_ (BO V (Aq (Aq (Aq FQ))) V (Aq (Aq (Aq Gt))) V u) (Au (Au (Au Gv)));refine sA ?_ (Bp V (Aq (Aq (Aq Fu))) V (BN u) V) (Au (Au (Au Hh)));refine sT ?_;refine sA ?_ (BO V (Aq (Aq (Aq FQ))) V (Aq (Aq (Aq Gt))) V u) (Av GS);(refine AH V (CY V V V (BN u) (gX ab) V ?_);refine DS ?_ QA);refine wN ?_;refine L _ ?_;refine nT ?_;refine wSE (sT (sT (wN ?_)));have B:=Af.1 H;repeat(first|refine abN ?_|refine asN ?_)
       refine As ⟨_,E,B.symm,?_⟩;try dsimp only
       exact AU
      ·have H:=AL g H;refine AA ?_;repeat(first|refine BF ?_|refine exO (by decide) ?_|refine asE ?_)
       refine exN ?_;have B:=U _ (Af.1 H).symm;repeat(first|refine abN ?_|refine asN ?_)
       refine As ⟨(_,E),B.symm,?_⟩;try dsimp only
       exact AU
    ·rintro⟨am,Z⟩ z;try dsimp only at z
     have H:=W;rw[z]at H;try dsimp only
     refine wSE (sT (sT (wN ?_)));have e6:=Af.1 H;repeat(first|refine abN ?_|refine asN ?_)
     refine As ⟨_,Z,e6.symm,?_⟩;try dsimp only
     exact AU
   ·have H:=AL m H;refine AA ?_;repeat(first|refine BF ?_|refine exO (by decide) ?_|refine asE ?_)
    refine exN ?_;have e6:=ag _ (Af.1 H).symm;repeat(first|refine abN ?_|refine asN ?_)
    refine As ⟨(_,v4),e6.symm,?_⟩;try dsimp only
    exact leC (gR (gQ (gT _)))
 ·rintro⟨l8,v7⟩ J;try dsimp only at J
  have H:=ah;rw[J]at H;try dsimp only
  refine wS (sT (sT (wN ?_)));obtain rfl:=Af.1 H;exact Az ⟨.inr V,gV V⟩
end
theorem Y4{c:List AV}(h:Bl c=aK):∀vs:List cC,Bl (vs.map .lit++c)=aK
 | []=>h
 |v::vs=>by
  rw[eR,List.cons_append];unfold Bl;rw[Y4 h vs];unfold gI;rfl
theorem XP{P:aW}{C:Ctx}{o:aU}{t:List AV}{h:List gD}{ι:Type}{Rs:ι->Res}{val:ι->cC}{i:Nat}{R:Res}{f:aP}{args:Array aV}{l c:List AV}(hi:h[i]? =iZ (.res R))
 (m:o.op= .call {callee:=.value x,args:=args,argTypes:=tys})(g:evA t x= .fn f l)(A:DU P f R (c++l) Rs val)(u:∀p,(Rs p).mrk=R.mrk)(hx:args.toList.map (evA t)=c)(hc:Bl (c++l)=aK)
 (z:∀p,K ⟨Br t o.dst (.lit (val p)),h.set i (.res (Rs p))⟩):AOp P C o ⟨t,h⟩ K:=IJ hi m g A u (by rw[hx]) hc z
theorem OR{x:Ins}(H:(KO x).to r):JR bH 60 [.agg (B8 x)] 3 tInt r:=by
 obtain⟨c,H⟩:=Aj.1 H;obtain rfl:=Af.1 H;rw[aG]at c;have m:=DK.1 c.1;have B:=of_decide_eq_true c.2;exact⟨by kernel_rfl,λw S vs F A=>by
  have g:=AE (Ext.grow [] ψ0 (λ_ _=>rfl) F) _ _ A;obtain⟨v,rfl,z⟩:=Ac4 g;obtain⟨cs,rfl,hc⟩:=Jc z;refine(Ig x w cs (MN m hc) B).mono ?_;rintro e w' ⟨v,rfl,G,E⟩;refine⟨v,_,rfl,E,G,λi d u=>?_⟩;show tInt.RS w' S ((((readsC x).map (cE .i64)).drop (i * 1)).take 1) d;have hi:((readsC x).map (cE .i64))[i]? =iZ (.int .i64 d):=by rw[eC,u];rfl
  rw[iT,fX,eG,hi];exact DR.2 ⟨rfl,F5 m d (fC u)⟩⟩
noncomputable section
def JD(x:Ins):M (List Int):=gZ (KO x) λr1=>gZ (gZ (I7 x) λc=>g9 c.2 (g8 (wfB .i64 c.1) (g8 (EM (r1.length+ [c.1].length) 8) (iA (r1++[c.1])))) (iA r1)) λg=>iA g
theorem Xe{x:Ins}(H:(JD x).to r):Fn bH 113 [.agg (B8 x)] (.bs tInt r):=by
 delta JD at H;try dsimp only at H
 refine AT Tryz.func113 V (by kernel_rfl) V Tryz.ntmps113 λC O=>?_
 simp only[Nat.reduceAdd,Nat.reduceSub,zaa];refine wS (sB (sT (wN ?_)));obtain⟨r1,z,H⟩:=Ar.1 H;have z:=OR z;refine wS (sT ?_);(refine AH V (DG 1 V V z (by decide) CX (.cons (.cl V) .nil) ?_);refine DS ?_ GR);refine sT (wN ?_);obtain⟨F,E,B⟩:=Ar.1 H;refine Bk (β:=((List Int))×(Nat)) (λg=>F=g.1) (λg=>⟨A3 (.own 1 g.2::A10 (A5 [])),[.dead,.row g.2 3 tInt g.1]⟩) ?_ ?_
 ·have H:=E;obtain⟨G,u,H⟩:=Ar.1 H;have u:=Qz u;refine wS (sT (sC u (sT (sT (sT (sT (sT (wN ?_))))))));refine wS (sT (wN ?_));refine Am V (λc=>?_) (λc=>?_)
  ·have H:=AK c H;obtain⟨J,H⟩:=Aj.1 H;obtain⟨I,H⟩:=Aj.1 H;refine wSE (sT (sT ?_));refine sA ?_ (AX.lt (xs:=[.tmp 15]) (T:=tInt) (ds:=[G.1]) V V V (by rfl) (by decide) (.cons (gX J) .nil)) (Au (Au GS));refine sP I (sT (wN ?_));have A:=Af.1 H;repeat(first|refine abN ?_|refine asN ?_)
   refine As ⟨(_,0+1),A.symm,?_⟩;try dsimp only
   exact leC (gR (gQ (gT _)))
  ·have H:=AL c H;refine Ao ?_;have A:=Af.1 H;repeat(first|refine abN ?_|refine asN ?_)
   refine As ⟨(_,0),A.symm,?_⟩;try dsimp only
   exact leC (gR (gQ (gT _)))
 ·rintro⟨N,L⟩ m;try dsimp only at m
  have H:=B;rw[m]at H;try dsimp only
  refine wS (sT (sT (wN ?_)));obtain rfl:=Af.1 H;exact Az ⟨.inr V,gV V⟩
section
variable{σ:Type}
def DN(r1:List Int)(c:Int):(Int×Int)->M ((Int×Int)⊕Int):=λ(n10,x11)=>g9 (aL (x11 < (if 4 < (ixD r1 c)then 4 else(ixD r1 c)))) (iA (.inl (aR.wrap (n10 * 10),aR.wrap (x11+1)))) (iA (.inr n10))
def EG(step:σ->Int->Int->M σ)(m:Int)(c:List Int):(Int×σ)->M ((Int×σ)⊕σ):=λ(x26,s27)=>g9 (aL (x26 < (c.length:Int))) (g8 (Cd c x26) (gZ (step s27 (ixD c x26) m) λg=>iA (.inl (aR.wrap (x26+1),g)))) (iA (.inr s27))
def DM(step:σ->Int->Int->M σ)(f:gY)(c:Int)(u:Int):(Int×σ)->M ((Int×σ)⊕σ):=λ(x18,s19)=>g9 (aL (x18 < (((ixD f.blocks c).ins).length:Int))) (g8 (Cd ((ixD f.blocks c).ins) x18) (gZ (JD (ixD ((ixD f.blocks c).ins) x18)) λm=>gZ (hZ (EG step u m) (0,s19)) λg=>iA (.inl (aR.wrap (x18+1),g)))) (iA (.inr s19))
def Fj(step:σ->Int->Int->M σ)(f:gY)(r1:List Int):(Int×σ)->M ((Int×σ)⊕σ):=λ(x2,s3)=>g9 (aL (x2 < (r1.length:Int))) (g8 (Cd r1 x2) (gZ (hZ (DN r1 x2) (1,0)) λg=>g8 (Cd f.blocks x2) (gZ (hZ (DM step f x2 g) (0,s3)) λc=>iA (.inl (aR.wrap (x2+1),c))))) (iA (.inr s3))
def JE(step:σ->Int->Int->M σ)(f:gY)(g:σ):M σ:=gZ (HG f) λr1=>gZ (hZ (Fj step f r1) (0,g)) λc=>iA c
theorem Xf{R0:σ->Res}{E:aP}{c:List AV}(B:∀s,(R0 s).mrk= [])(hS:∀s w S S',(R0 s).R w S->(R0 s).R w S')(bg:Bl c=aK){step:σ->Int->Int->M σ}(be:∀s x0 x1 s',(step s x0 x1).to s'->DU bH E (R0 s) ([.lit (.int .i64 x0),.lit (.int .i64 x1)]++c) (λ_:Unit=>R0 s') (λ_=>.tuple #[])){s0:σ}{r:σ}(H:(JE step f s0).to r):DU bH 82 (R0 s0) [.agg (An f),.fn E c] (λ_:Unit=>R0 r) (λ_=>.tuple #[]):=by
 have bf:∀x0 x1:Int,Bl ([.lit (.int .i64 x0),.lit (.int .i64 x1)]++c)=aK:=λx0 x1=>Y4 bg [(.int .i64 x0),(.int .i64 x1)]
 delta JE at H;try dsimp only at H
 refine D9 Tryz.func82 V (by kernel_rfl) V Tryz.ntmps82 (B _) (λ_=>hS _) λC=>?_
 refine gN ?_;simp only[Nat.reduceAdd,Nat.reduceSub,zaa];refine wS (sB (wN ?_));obtain⟨r1,k1,H⟩:=Ar.1 H;have k1:=U9 k1;refine wS (sT (sC k1 (sT (sT (wN ?_)))));obtain⟨z4,bt,br⟩:=Ar.1 H;refine Qh (β:=(σ)×(Unit)) (λq4=>z4=q4.1) (λq4=>⟨A40 (A10 [.any]),[.res (R0 q4.1),.dead]⟩) ?_ ?_
 ·refine Ah ?_;refine By bt (λs4 b4=>⟨.any::.fn E c::.ptr 1 0::A9 (.bs tInt r1::.lit (.int .i64 (r1.length:Int))::.lit (.int .i64 s4.1)::A20 (A10 (A6 []))),[.res (R0 s4.2),.box (An f)]⟩) () (?_) ?_
  ·try dsimp only
   exact AU
  ·rintro⟨g,s3⟩ _ x4 H bq;try dsimp only
   dsimp only[Fj]at H;refine wS (sT (wN ?_));refine Ae λbv bc=>?_
   refine Am V (λY=>?_) (λY=>?_)
   ·have H:=AK Y H;refine Ao ?_;refine bc _ ?_;refine nT ?_;refine Ae λbu bb=>?_
    refine Ah ?_;obtain⟨c9,H⟩:=Aj.1 H;refine wS (sT (sX c9 (sT (sT (sT (wN ?_))))));refine wS (sT (wN ?_));obtain⟨az,aw,ar⟩:=Ar.1 H;refine Bk (β:=(Int)×(Unit)) (λU=>az=U.1) (λU=>⟨.any::.fn E c::.ptr 1 0::.any::.lit (.int .i64 g)::.any::.lit (.int .i64 U.1)::A5 (.bs tInt r1::.lit (.int .i64 (r1.length:Int))::.lit (.int .i64 g)::A20 (A10 (A6 []))),[.res (R0 s3),.box (An f)]⟩) ?_ ?_
    ·refine wS (sT ?_);refine sA ?_ (AX.min2 V (Aq (Aq FQ)) Ac2) (Au (Au JW));refine sT (wN ?_);refine Ah ?_;refine By aw (λae ck=>⟨.any::.fn E c::.ptr 1 0::.any::.lit (.int .i64 g)::.any::.lit (.int .i64 ae.1)::A5 (.bs tInt r1::.lit (.int .i64 (r1.length:Int))::.lit (.int .i64 g)::A5 (.lit (.int .i64 (if 4 < (ixD r1 g)then 4 else(ixD r1 g)))::.lit (.int .i64 ae.2)::A20 (A9 []))),[.res (R0 s3),.box (An f)]⟩) () (?_) ?_
     ·try dsimp only
      exact AU
     ·rintro⟨ch,cb⟩ _ ca H ao;try dsimp only
      dsimp only[DN]at H;refine wS (sT (wN ?_));refine Ae λbo al=>?_
      refine Am V (λA=>?_) (λA=>?_)
      ·have H:=AK A H;refine Ao ?_;refine al _ ?_;refine nT ?_;refine Ae λbn ak=>?_
       refine Ah ?_;refine wSE (sT (sT (sT (wN ?_))));refine ak _ ?_;refine nT ?_;refine wSE (sT (sT (wN ?_)));have ab:=Af.1 H;repeat(first|refine abN ?_|refine asN ?_)
       refine As ⟨_,(),ab.symm,?_⟩;try dsimp only
       exact AU
      ·have H:=AL A H;refine AA ?_;repeat(first|refine BF ?_|refine exO (by decide) ?_|refine asE ?_)
       refine exN ?_;have ab:=ao _ (Af.1 H).symm;repeat(first|refine abN ?_|refine asN ?_)
       refine As ⟨(_,()),ab.symm,?_⟩;try dsimp only
       exact AU
    ·rintro⟨W,_⟩ I;try dsimp only at I
     have H:=ar;rw[I]at H;try dsimp only
     obtain⟨bj,H⟩:=Aj.1 H;refine wS (sT (sT (sT (sX bj (sT (sT (sT (sT (wN ?_)))))))));obtain⟨ay,av,aq⟩:=Ar.1 H;refine Qh (β:=(σ)×(Unit)) (λO=>ay=O.1) (λO=>⟨.any::.fn E c::.ptr 1 0::A9 (.bs tInt r1::.lit (.int .i64 (r1.length:Int))::.lit (.int .i64 g)::A20 (A10 (A6 []))),[.res (R0 O.1),.box (An f)]⟩) ?_ ?_
     ·refine Ah ?_;refine By av (λL cj=>⟨.any::.fn E c::.ptr 1 0::A3 (.lit (.int .i64 W)::A5 (.bs tInt r1::.lit (.int .i64 (r1.length:Int))::.lit (.int .i64 g)::A10 (A6 (.bs Et ((ixD f.blocks g).ins)::.lit (.int .i64 (((ixD f.blocks g).ins).length:Int))::.lit (.int .i64 L.1)::A10 (A7 []))))),[.res (R0 L.2),.box (An f)]⟩) () (?_) ?_
      ·try dsimp only
       exact AU
      ·rintro⟨ac,cf⟩ _ bz H an;try dsimp only
       dsimp only[DM]at H;refine wS (sT (wN ?_));refine Ae λbm aj=>?_
       refine Am V (λz=>?_) (λz=>?_)
       ·have H:=AK z H;refine Ao ?_;refine aj _ ?_;refine nT ?_;obtain⟨bi,H⟩:=Aj.1 H;obtain⟨af,X,H⟩:=Ar.1 H;have X:=Xe X;obtain⟨ax,au,ap⟩:=Ar.1 H;refine Bk (β:=(σ)×(Unit)) (λN=>ax=N.1) (λN=>⟨.any::.fn E c::.ptr 1 0::A3 (.lit (.int .i64 W)::A5 (.bs tInt r1::.lit (.int .i64 (r1.length:Int))::.lit (.int .i64 g)::A10 (A6 (.bs Et ((ixD f.blocks g).ins)::.lit (.int .i64 (((ixD f.blocks g).ins).length:Int))::.lit (.int .i64 ac)::A10 (A7 []))))),[.res (R0 N.1),.box (An f),.dead]⟩) ?_ ?_
        ·refine Ah ?_;refine wS (sX bi (sT (sA0 (sW (wN ?_)))));refine wS (sT (sC X (sT (sT (wN ?_)))));refine Ah ?_;refine By au (λad ci=>⟨.any::.fn E c::.ptr 1 0::A3 (.lit (.int .i64 W)::A5 (.bs tInt r1::.lit (.int .i64 (r1.length:Int))::.lit (.int .i64 g)::A10 (A6 (.bs Et ((ixD f.blocks g).ins)::.lit (.int .i64 (((ixD f.blocks g).ins).length:Int))::.lit (.int .i64 ac)::A4 (.bs tInt af::.lit (.int .i64 (af.length:Int))::.lit (.int .i64 ad.1)::A10 []))))),[.res (R0 ad.2),.box (An f),.dead]⟩) () (?_) ?_
         ·try dsimp only
          exact leC (gQ (gQ (gR (gT _))))
         ·rintro⟨bx,cd⟩ _ bw H am;try dsimp only
          dsimp only[EG]at H;refine wS (sT (wN ?_));refine Ae λbl ai=>?_
          refine Am V (λu=>?_) (λu=>?_)
          ·have H:=AK u H;refine Ao ?_;refine ai _ ?_;refine nT ?_;refine Ae λbk ah=>?_
           refine Ah ?_;obtain⟨bh,H⟩:=Aj.1 H;refine wS (sX bh (sT (sT (wN ?_))));obtain⟨cg,ba,H⟩:=Ar.1 H;refine wSE (sT (sT (sT ?_)));(refine AH V (XP (i:=0) V V V (be _ _ _ _ ba) (λ_=>(B _).trans (B _).symm) V (bf _ _) λ_=>?_);refine DS ?_ (Av (Au GR)));refine wN ?_;refine ah _ ?_;refine nT ?_;refine wSE (sT (sT (wN ?_)));have Z:=Af.1 H;repeat(first|refine abN ?_|refine asN ?_)
           refine As ⟨_,(),Z.symm,?_⟩;try dsimp only
           exact AU
          ·have H:=AL u H;refine AA ?_;repeat(first|refine BF ?_|refine exO (by decide) ?_|refine asE ?_)
           refine exN ?_;have Z:=am _ (Af.1 H).symm;repeat(first|refine abN ?_|refine asN ?_)
           refine As ⟨(_,()),Z.symm,?_⟩;try dsimp only
           exact AU
        ·rintro⟨cc,_⟩ F;try dsimp only at F
         have H:=ap;rw[F]at H;try dsimp only
         refine wSE (sT (sT (wN ?_)));have aa:=Af.1 H;repeat(first|refine abN ?_|refine asN ?_)
         refine As ⟨_,(),aa.symm,?_⟩;try dsimp only
         exact leC (gQ (gQ (gT _)))
       ·have H:=AL z H;refine AA ?_;repeat(first|refine BF ?_|refine exO (by decide) ?_|refine asE ?_)
        refine exN ?_;have aa:=an _ (Af.1 H).symm;repeat(first|refine abN ?_|refine asN ?_)
        refine As ⟨(_,()),aa.symm,?_⟩;try dsimp only
        exact AU
     ·rintro⟨ce,_⟩ L G m;try dsimp only at G
      try dsimp only at m
      have H:=aq;rw[G]at H;repeat(first|refine abN ?_|refine asN ?_)
      refine bb _ (AN _ m ?_);refine wSE (sT (sT (wN ?_)));have e4:=Af.1 H;repeat(first|refine abN ?_|refine asN ?_)
      refine As ⟨_,(),e4.symm,?_⟩;try dsimp only
      exact AU
   ·have H:=AL Y H;refine AA ?_;repeat(first|refine BF ?_|refine exO (by decide) ?_|refine asE ?_)
    refine exN ?_;have e4:=bq _ (Af.1 H).symm;repeat(first|refine abN ?_|refine asN ?_)
    refine As ⟨(_,()),e4.symm,?_⟩;try dsimp only
    exact leC (gQ (gR (gT _)))
 ·rintro⟨s5,_⟩ s4 ag J;try dsimp only at ag
  try dsimp only at J
  have H:=br;rw[ag]at H;repeat(first|refine abN ?_|refine asN ?_)
  obtain rfl:=Af.1 H;refine upE J ?_;exact⟨.inl V,(),by simp[mkD,gG,B],rfl⟩
end
def GK(c:Int)(n:Int)(g:List (Int×Int)):M ((List (Int×Int))):=g8 (wfB .i64 c) (g8 (aL (g.length < cT)) (iA (Cf g c (aR.wrap (((getK g c).getD 0)+n)))))
theorem QH{c:Int}{z:List (Int×Int)}{u m:Nat}{r:(List (Int×Int))}(H:(GK c n z).to r):DU bH 83 (Res.and (Bh u [.lit (.map (iZ m))]) (ER (cE .i64) z m)) [.lit (.int .i64 c),.lit (.int .i64 n),.lit (.pointer (iZ ⟨u,0,iY⟩))] (λ_:Unit=>(Res.and (Bh u [.lit (.map (iZ m))]) (ER (cE .i64) r m))) (λ_=>.tuple #[]):=by
 delta GK at H;try dsimp only at H
 refine D9 Tryz.func83 V (by kernel_rfl) V Tryz.ntmps83 V (λ_ _ _ _ h=>h) λC=>?_
 simp only[Nat.reduceAdd,Nat.reduceSub,zaa];refine AN _ (EX 0 V) ?_;refine gN ?_;refine nT ?_;obtain⟨A,H⟩:=Aj.1 H;obtain⟨B,H⟩:=Aj.1 H;refine wSE ?_;refine sA ?_ (Bc (i:=0) (g:=u) V FD V V V) Gv;refine sT ?_;refine sA ?_ (Qb 1 V bS Ea Fu G8 A V) GR;refine sT (sT ?_);(refine AH V (Kk 1 V bS V V V A (of_decide_eq_true B) V ?_);refine DS ?_ QA);refine wN ?_;repeat(first|refine abN ?_|refine asN ?_)
 obtain rfl:=Af.1 H;refine upE (iH (DP 0 1 (by decide) V V) iG) ?_;exact⟨.inl V,(),rfl,rfl⟩
end
end Mu
namespace Mu
open Go Go.RowKit Go.Proofs Go.Shelf Go.Lib Go.Sort Go.Maps
variable{fr:Nat×Nat}{g:Nat}{l:List Int}{m:List (Int×Int)}{n:Nat}{os:Array Obj}{v:cC}{w:cF}{x:aV}
def Qs(m:List (Int×Int))(x:Int):Int:=(getK m x).getD 0
def cfC(m:List (Int×Int))(x y:Int):Int:=if aS (Qs m x) (Qs m y)≠0 then aS (Qs m x) (Qs m y)else aS x y
def ltC(m:List (Int×Int))(x y:Int):Prop:=Qs m x < Qs m y\/(Qs m x=Qs m y/\x < y)
instance Aq4(m:List (Int×Int))(x y:Int):Decidable (ltC m x y):=by unfold ltC;infer_instance
theorem Ap9{x y:Int}:aL (cfC m x y < 0)=aL (ltC m x y):=by
 rw[Bool.eq_iff_iff,decide_eq_true_eq,decide_eq_true_eq];unfold cfC ltC;generalize Qs m x=a;generalize Qs m y=b;unfold aS;by_cases h1:a < b
 ·simp[h1]
 ·by_cases h2:b < a
  ·have:a≠b:=by omega
   simp[h1,h2,this]
  ·have e:a=b:=by omega
   by_cases c:x < y
   ·simp[e,c]
   ·by_cases u:y < x <;> simp[e,c,u]
def Asj(m:List (Int×Int))(x y:Int):Bool:=!decide (ltC m y x)
def KN(m:List (Int×Int))(l:List Int):List Int:=l.mergeSort (Asj m)
theorem Hd(m:List (Int×Int))(l:List Int):(KN m l).Perm l:=fI _ _
theorem Nr(m:List (Int×Int))(l:List Int):(KN m l).Pairwise λx y=>¬ltC m y x:=by
 have h:=List.pairwise_mergeSort (le:=Asj m) (λa b c h1 h2=>by
  unfold Asj at *;simp only[aJ,decide_eq_false_iff_not]at *;unfold ltC at *;omega) (λa b=>by
  unfold Asj;simp only[Bool.or_eq_true,aJ,decide_eq_false_iff_not];unfold ltC;omega) l
 exact h.imp λh=>by unfold Asj at h;simpa using h
theorem ZF{l':List Int}(u:l'.Perm l)(c:l'.Pairwise λx y=>¬ltC m y x):l'=KN m l:=
 List.Perm.eq_of_pairwise (le:=λx y=>¬ltC m y x) (λa b _ _ h1 h2=>by unfold ltC at h1 h2;omega) c (Nr m l) (u.trans (Hd m l).symm)
theorem Amk(l:List (Int×Int))(g m:Nat)(ty:cB)(fr:Nat×Nat)(x y:Int)(hx:Ci x)(hy:Ci y)(W:cF)(hg:W.heap[g]? =iZ (.cells #[.map (iZ m)] ty fr))(hm:Ni W m (mapK (cE .i64) l)):
 aM bH 85 #[.int .i64 x,.int .i64 y,.pointer (iZ ⟨g,0,iY⟩)] W λe w'=>e= .returned (.int .i64 (cfC l x y))/\∃q os,w'=grow (W.drewN q) os:=by
 have hgl:g < W.heap.size:=(aA.1 hg).1;have hA:=λW=>AnyG.cmp_Compare_int aX (Qs l x) (Qs l y) W
 have hB:=λW=>AnyG.cmp_Compare_int aX x y W
 change∀W,aM bH 87 _ _ _ at hA;change∀W,aM bH 87 _ _ _ at hB;obtain⟨r,hr⟩:∃r,aS (Qs l x) (Qs l y)=r:=⟨_,rfl⟩
 obtain⟨s,hs⟩:∃s,aS x y=s:=⟨_,rfl⟩
 have hu:cfC l x y=if r≠0 then r else s:=by unfold cfC;rw[hr,hs]
 rw[hr]at hA;rw[hs]at hB;clear hr hs;have hO:=λW=>Anu r s W.heap.size 3 (W.alloc (.cells #[.int .i64 r,.int .i64 s] 3)) (cP W _)
 rw[<-hu]at hO;generalize cfC l x y=u at hO⊢;clear hu;have vx:∀W2:cF,Ni W2 m (mapK (cE .i64) l)->(Instr.lookup 51 (.map (iZ m)) (.int .i64 x) aH).run bH W2= .ok (.int .i64 (Qs l x)) W2:=λW2 h2=>by
  have:=h2.look bS (Ea W2) hx;rw[this,CH];unfold Qs;cases getK l x <;> rfl
 have vy:∀W2:cF,Ni W2 m (mapK (cE .i64) l)->(Instr.lookup 51 (.map (iZ m)) (.int .i64 y) aH).run bH W2= .ok (.int .i64 (Qs l y)) W2:=λW2 h2=>by
  have:=h2.look bS (Ea W2) hy;rw[this,CH];unfold Qs;cases getK l y <;> rfl
 generalize Qs l x=a at hA vx;generalize Qs l y=b at hA vy;have c0:W.cell? ⟨g,0,iY⟩=iZ (.map (iZ m)):=by simp[cG,hg]
 have lx:=vx W hm;have ly:=vy W hm;clear vx vy hm hg
 go_enter a7,Tryz.ntmps85
 go_wp2_with (first|(go_at_call 87;first|((with_reducible refine(hA _).mono ?_);rintro e w' ⟨rfl,rfl⟩)|((with_reducible refine(hB _).mono ?_);rintro e w' ⟨rfl,rfl⟩))|(go_at_call 86;refine(hO _).mono ?_;rintro e w' ⟨rfl,rfl⟩))
 go_ret
 exact⟨rfl,0,_,alloc_eq_grow _ _⟩
section
variable{α:Type}[Inhabited α]{enc:α->cC}
theorem UJ{cur:Array cC}{e:cB}(d:Array α)(c:w.heap[g]? =iZ (.cells cur e fr)):
 (sortWorld enc w g 0 n d os).heap[g]? =iZ (.cells (cA enc 0 d cur) e fr):=by
 have hg:g < w.heap.size:=(aA.1 c).1;unfold sortWorld;rw[heap_grow_old _ _ (by simpa using hg)];simp[putRow,mapBlock,b9,aB,c,onCells]
theorem Jy(d:Array α):w.grownBy (sortWorld enc w g 0 n d os) (iZ g):=by
 unfold sortWorld;refine⟨rfl,rfl,rfl,by simp,λk hk c=>?_⟩;rw[heap_grow_old _ _ (by simpa using hk)];have:g≠k:=λe=>c (by rw[e])
 simp[putRow,mapBlock,b9,aB,this]
theorem Qw(cur:Array cC)(d:Array α)(h:d.size<=cur.size):(cA enc 0 d cur).toList.take d.size=d.toList.map enc:=by
 apply dI;intro j;by_cases u:j < d.size
 ·rw[eE u,aC,eC,aC];have c:j < cur.size:=by omega
  simp[cA,u,c]
 ·rw[List.getElem?_take_eq_none (by omega),eA (by simp;omega)]
end
abbrev WfI:Type:={x:Int // Ci x}
instance Aq5:Inhabited WfI:=⟨⟨0,by unfold Ci;decide⟩⟩
def Ayq(x:WfI):cC:=.int .i64 x.1
theorem Agb{l:List (Int×Int)}{x y:WfI}:ltOf (λx y:WfI=>cfC l x.1 y.1) x y=aL (ltC l x.1 y.1):=Ap9
theorem AA1(l:List (Int×Int)):SWO (ltOf λx y:WfI=>cfC l x.1 y.1) where
 irrefl x:=by rw[Agb];simp[ltC]
 trans x y z h1 h2:=by
  rw[Agb,decide_eq_true_eq]at *;unfold ltC at *;omega
 ntrans x y z h1 h2:=by
  rw[Agb,decide_eq_false_iff_not]at *;unfold ltC at *;omega
theorem AAy(l:List (Int×Int))(x y:WfI)(h1:ltOf (λx y:WfI=>cfC l x.1 y.1) x y=aH)(h2:ltOf (λx y:WfI=>cfC l x.1 y.1) y x=aH):x=y:=by
 rw[Agb,decide_eq_false_iff_not]at h1 h2;unfold ltC at h1 h2;exact Subtype.ext (by omega)
theorem Ad9{base:Nat}{zs:List Int}{l:List (Int×Int)}{F m:Nat}{ty:cB}(u:Gp w base v zs)(hn:zs.length<=2147483648)(N:Bj zs)(I:w.heap[F]? =iZ (.cells #[.map (iZ m)] ty fr))(hm:Ni w m (mapK (cE .i64) l))(O:∀q,v.ownBlock=iZ q->q≠F/\q≠m):
 aM bH 84 #[v,.func (.func 85) #[] #[.pointer (iZ ⟨F,0,iY⟩)]] w λe w'=>e= .returned (.tuple #[])/\Gp w' base v (KN l zs)/\w.grownBy w' v.ownBlock:=by
 rcases u.2 with⟨rfl,h0⟩|⟨g,cap,cur,rfl,E,Y,h1,h2,h3,h4⟩
 ·have:zs= []:=dH h0;subst this;refine(AnyF.slices_SortFunc_none (P:=bH) (ρ:=Tryz.sortFI_ren) {bM with} iY 0 _ w).mono λe w' ⟨X,L⟩=>?_
  subst L;exact⟨X,by simpa[KN]using u,World.grownBy.refl _ _⟩
 ·have W:g < w.heap.size:=(aA.1 Y).1;obtain⟨n1,n2⟩:=O g V;obtain⟨dl,B⟩:∃dl:List WfI,dl.map (·.1)=zs:=⟨zs.attach.map λ(x:{y // y∈zs})=>(⟨x.1,N x.1 x.2⟩:WfI),by rw[eS];exact zs.attach_map_subtype_val⟩
  have G:dl.length=zs.length:=by rw[<-B,eM]
  have Z:=Ka Y h4;have hH:Holds Ayq w g 0 dl.toArray:=λj hj=>by
   have U:j < dl.length:=by simpa using hj
   obtain⟨k1,k2⟩:=Z j (by simp;omega);refine⟨?_,k2⟩;rw[k1];have e1:zs.toArray[j]! =zs[j]'(by omega):=by simp[getElem!_pos,show j < zs.length by omega]
   have J:dl.toArray[j]! =dl[j]:=by simp[getElem!_pos,U]
   rw[e1,J];unfold Ayq;simp only[<-B,List.getElem_map]
  have eg:∀args w,(callFunc 85 args).run bH w= .ok (.enter 85 args) w:=enters_of a7 (by kernel_rfl) V;have c:=Any.slices_SortFunc_total bM Ayq (λ_=>rfl) (λx y:WfI=>cfC l x.1 y.1) (AA1 l) 85 #[.pointer (iZ ⟨F,0,iY⟩)] g 0 cap dl.toArray w eg (λmm os dk _ x y=>by
   have H:=Jy (enc:=Ayq) (w:=w) (g:=g) (n:=mm) (os:=os) dk;exact Amk l F m ty fr x.1 y.1 x.2 y.2 _ ((H.block F (aA.1 I).1 λe=>n1 (by cases e;rfl)).trans I) (hm.keep (H.block m hm.lt λe=>n2 (by cases e;rfl)))) hH W (by simp;omega) (AAy l)
  have hz:dl.toArray.size=zs.length:=by simpa using G
  rw[hz]at c;refine c.mono λe w' ⟨X,n,os,L⟩=>?_
  subst L;refine⟨X,?_,Jy _⟩;have z:(dl.toArray.toList.mergeSort λx y=>!(ltOf λx y:WfI=>cfC l x.1 y.1) y x).map (·.1)=KN l zs:=by
   rw[List.map_mergeSort (s:=Asj l) λa _ b _=>by rw[Agb];rfl];unfold KN;rw[<-B]
  generalize (dl.toArray.toList.mergeSort λx y=>!(ltOf λx y:WfI=>cfC l x.1 y.1) y x)=ts at z⊢;have A:(KN l zs).length=zs.length:=(Hd l zs).length_eq;have aa:ts.length=zs.length:=by rw[<-A,<-z,eM]
  unfold Gp;rw[A];refine⟨by rw[eM,A,iT],.inr ⟨g,cap,_,rfl,E,UJ _ Y,h1,h2,by simp[cA,h3],?_⟩⟩;have J:=Qw (enc:=Ayq) cur ts.toArray (by simp only[fP];rw[h3];omega);have e3:ts.toArray.size=zs.length * 1:=by simp;omega
  rw[e3]at J;rw[J,<-z,eS];rfl
section
variable{C:Ctx}{t:List AV}{h:List gD}{o:aU}{K:St->Prop}
theorem Uk(h:Bj l):Bj (KN m l):=λr c=>h r ((Hd m l).mem_iff.1 c)
theorem Td{y:aV}{tys:Array cB}{i ver j1 j2 m:Nat}{ml:List (Int×Int)}(ho:o.op= .call {callee:=.value (.func 84),args:=#[x,y],argTypes:=tys})(hx:evA t x= .own i ver)(hy:evA t y= .fn 85 [.lit (.pointer (iZ ⟨g,0,iY⟩))])
 (hi:h[i]? =iZ (.row ver 3 tInt l))(h1:h[j1]? =iZ (.res (Bh g [.lit (.map (iZ m))])))(h2:h[j2]? =iZ (.res (ER (cE .i64) ml m)))(I:i≠j1/\i≠j2)(hl:l.length<=2147483648)
 (hK:K ⟨Br t o.dst .any,h.set i (.row ver 3 tInt (KN ml l))⟩):AOp bH C o ⟨t,h⟩ K:=by
 rintro Q' a w ⟨hd,S,ψ,H,F⟩;refine⟨λc e=>(by rw[ho]at e;cases e),?_⟩;have B:=BA F x;have A:=BA F y;rw[show evA (St.mk t h).t x= .own i ver from hx]at B;rw[show evA (St.mk t h).t y=_ from hy]at A;unfold gK at B A;obtain⟨cs,O,aa⟩:=A;obtain⟨u,rfl,hu⟩:=Ac4 aa;unfold gK at hu;subst hu;have hv:=(B.2 _ (by rw[hi];rfl)).2 V;have N:=H.blk i _ hi;have E:=N.lt V;obtain⟨hO,hw⟩:=JY N;obtain⟨ad,e1,ab,U⟩:=(H.blk j1 _ h1).2;obtain⟨u1,rfl,G⟩:=Ac4 U;unfold gK at G;subst G;have Y:Ni w m (mapK (cE .i64) ml):=(H.blk j2 _ h2).2;have L:Bz (ψ i)=(ψ i).ownBlock:=by
  rcases hO.2 with⟨e,_⟩|⟨g,cap,cur,e,_⟩ <;> rw[e] <;> rfl
 have W:∀q,(ψ i).ownBlock=iZ q->q≠g/\q≠m:=λq hq=>by
  have f1:ftp h[i]? (ψ i) q:=by rw[hi];exact L.trans hq
  exact⟨λe=>H.dis i j1 I.1 (by rw[hi];rfl) (by rw[h1];rfl) q f1 (by rw[h1];exact e),λe=>H.dis i j2 I.2 (by rw[hi];rfl) (by rw[h2];rfl) q f1 (by rw[h2];exact e)⟩
 unfold Oper.wp;rw[CC ho (by kernel_rfl) a.eval w V];simp only[Oper.upon];rw[show(#[x,y].map a.eval)= #[ψ i,.func (.func 85) #[] #[.pointer (iZ ⟨g,0,iY⟩)]]from by simp[hv,O]];refine(Ad9 hO hl hw ab Y W).mono ?_;rintro r w' ⟨rfl,ac,Z⟩;have z:w.grownBy w' (Bz (ψ i)):=by rw[L];exact Z
 have J:∀k,S k->w'.heap[k]? =w.heap[k]?:=λk hk=>z.block k (H.lt k hk) λe=>(E k e.symm).2.2 hk
 have X:Ext w S h ψ w' S (h.set i (.row ver 3 tInt (KN ml l))) (Bs ψ i (ψ i)):=Ext.set J hi (λc' hc=>by
  simp only[gH,i6]at hc;exact⟨ver,rfl,by omega,λ_=>⟨rfl,rfl⟩⟩) λh=>by simp[Bd]at h
 exact⟨_,hK,IK (s:=⟨t,h⟩) hi hd F (H.set hi V (Bv z) X (LS ac (Uk hw) λg hg=>⟨(E g (AY hg)).1,(E g (AY hg)).2.2⟩) λg hg=>.inl hg) X (by unfold gK;trivial)⟩
end
instance Aq3:ZC bH 51 [.map iY]:=⟨by kernel_rfl⟩
theorem BY{P:aW}{C:Ctx}{t:List AV}{h:List gD}{o:aU}{j:Nat}{xs:Array cC}(u:o.op= .extract x j)(hx:evA t x= .lit (.tuple xs))(z:xs[j]? =iZ v):AX P C t h o (.lit v):=
 AQ λS ψ w ρ _ c=>by
  have h1:=c x (by simp[u,Op.operands]);rw[hx]at h1;unfold gK at h1;exact⟨v,by simp[execOp,u,h1,Instr.extract,z],by unfold gK;rfl⟩
theorem Cv{α:Type}{l:List (Int×α)}(h:Em l):(keysK l).Nodup:=by
 unfold keysK;exact fL.2 (h.imp λh=>by omega)
theorem ZG{ks:List Int}(u:Em m)(c:ks.Nodup)(h:∀q,q∈ks↔q∈keysK m):KN m ks=KN m (keysK m):=
 ZF ((Hd m ks).trans ((fM c (Cv u)).2 h)) (Nr m ks)
noncomputable section
def M7(f:gY):M (List Int):=gZ (JE (λs u c=>GK u c s) f ([]:List (Int×Int))) λm=>g8 (aL (m.length<=2097152/\Em m)) (iA (KN m (keysK m)))
theorem Va{f:gY}{r:List Int}(H:(M7 f).to r):Fn bH 48 [.agg (An f)] (.bs tInt r):=by
 obtain⟨s,k,H⟩:=Ar.1 H;obtain⟨c,H⟩:=Aj.1 H;obtain rfl:=Af.1 H;have c:=of_decide_eq_true c;refine AT Tryz.func48 V (by kernel_rfl) V Tryz.ntmps48 λC hC=>?_
 simp only[Nat.reduceAdd,Nat.reduceSub,zaa];refine wR (hx:=by((refine AH V (AOp.boxI 0 V V VN.agg ?_);refine DS ?_ JX);refine sA ?_ (AX.assign V Ac2) KP;exact C1 V)) ?_;refine wRK λK1 W=>?_
 refine AH V (Kl (cE .i64) V λm=>?_);refine DS ?_ Hh;refine AH V (Tg 2 V V ?_);refine DS ?_ I8;refine AH V (CZ (new:=[_]) V V V (Qd.one (iD V)) V (iL V) ?_);refine DS ?_ QA;refine Ax (W _ ?_);refine Bw 2 V V V (λg=>(.agg (An f)::.ptr 0 0::.lit (.slice iY 0 0)::.lit (.pointer (iZ ⟨g,0,iY⟩))::A2 (.lit (.map (iZ m))::A10 (A7 [])))) (λg=>(by(repeat(first|exact OpnB.nil|refine OpnB.ptr ?_|refine OpnB.any ?_|refine OpnB.keep V ?_)))) λg=>?_
 refine nT ?_;have k:=Xf (R0:=λs=>Res.and (Bh g [.lit (.map (iZ m))]) (ER (cE .i64) s m)) (λ_=>rfl) (λ_ _ _ _ h=>h) V (λ_ _ _ _ H=>QH H) k;refine wR (hx:=by(refine sA ?_ (AW V GH V V) GR;refine sA ?_ (FV V) (Au GS);refine GN V (DP 2 1 (by decide) V V) ?_;(refine AH V (BW (i:=2) V V k (λ_=>rfl) V V λ_=>?_);refine DS ?_ (Au JX));exact C1 V)) ?_;refine AN _ (Fp 2 1 (by decide) V V) ?_;refine nT ?_;refine wR (hx:=by(refine sA ?_ (AX.assign V Ac2) JW;exact C1 V)) ?_;refine Ae λK5 h5=>?_
 refine wRK λK6 U=>?_
 refine sA ?_ (Bc (i:=2) (g:=g) V FQ V V V) (Au KP);refine AH V (RW 1 V bS V V λI=>?_);refine DS ?_ (Au I8);refine Ax (U _ ?_);refine AN _ (D6 4 3 tInt V (by decide)) ?_;refine nT ?_;refine Ah ?_;have O:(keysK s).length=s.length:=by simp[keysK]
 refine AJ (λp:List Int×Nat=>⟨(A3 (.lit (.pointer (iZ ⟨g,0,iY⟩))::.own 3 p.2::A6 (.lit (.pointer (iZ ⟨I,0,iY⟩))::A10 (A2 [])))),[.dead,.res (TN (cE .i64) s p.1 m I),.res (Bh g [.lit (.map (iZ m))]),.row p.2 3 tInt p.1]⟩) (λp=>p.1.Nodup/\∀q∈p.1,q∈keysK s) (λp=>s.length - p.1.length) ([],0) ⟨fK,λq hq=>by cases hq⟩ (leC (gR (gQ (gQ (gQ (gT _)))))) ?_;rintro⟨ks,ver⟩ ⟨E,A⟩
 (try dsimp only at E A);(try dsimp only)
 refine Ae λK3 Z=>?_
 refine gL ?_;refine AH V (VX 1 V V V (λhn G=>?_) (λq v hn hs hw hq N=>?_))
 ·refine sNt ?_;refine sA ?_ (BY V V V) (Au Gv);refine Ax ?_;refine Z _ ?_;refine nT ?_;refine Ae λK4 Y=>?_
  refine Am V (λB=>by cases B) (λB=>?_);refine AA ?_;repeat(first|refine BF ?_|refine exO (by decide) ?_|refine asE ?_)
  refine exN ?_;refine h5 _ ?_;refine nT ?_;have u:ks.length<=2147483648:=by
   have:=Dq E A;omega
  refine AN _ (JM (i:=1) (R':=ER (cE .i64) s m) V (λ_ h=>.inl h) (λ_ _ h=>by obtain⟨h0,left,cnt,h1,_⟩:=h;exact⟨h0,h1.owns⟩) V) ?_;refine nT ?_;refine wR (hx:=by(refine sA ?_ (AX.move V Gt) (Au (Au JW));refine sA ?_ (FV V) (Au (Au Gv));(refine AH V (Td (j1:=2) (j2:=1) (ml:=s) V V V V V V (by decide) u ?_);refine DS ?_ (Au (Au Hh)));exact C1 V)) (hk:=?_);refine wR (hx:=by(refine sA ?_ (AX.move V Gt) (Au (Au GR));refine sA ?_ (AX.assign V (Aq (Aq GY))) KP;exact C1 V)) ?_;rw[ZG c.2 E G];exact Az ⟨.inr V,gV V⟩
 ·refine sNt ?_;refine sA ?_ (BY V V V) (Au Gv);refine Ax ?_;refine Z _ ?_;refine nT ?_;refine Ae λK4 Y=>?_
  refine Am V (λB=>?_) (λB=>by cases B);refine Ao ?_;refine Y _ ?_;refine nT ?_;refine Ah ?_;have J:wfB .i64 q=aK:=hw;have L:q∈keysK s:=fB.2 ⟨(q,v),(CS c.2).1 hq,rfl⟩;have F:(ks++[q]).Nodup:=fJ.2 ⟨E,by simp,λa ha b hb=>by rw[fG.1 hb];exact λe=>N (e▸ha)⟩;have z:∀x∈ks++[q],x∈keysK s:=λx hx=>(eU.1 hx).elim (A x) λe=>by rw[fG.1 e];exact L
  have u:=Dq F z;rw[eI,O]at u;have X:EM (ks.length+ [q].length) 8=aK:=by
   simp only[zai]at u⊢;unfold EM cT;simp only[zag];omega
  refine wR (hx:=by(refine sA ?_ (NQ 1 V V V) (Au Hh);refine sA ?_ (AX.extract V (Aq G8) V) (Au GR);refine sA ?_ (AX.assign V (Aq GY)) Gv;exact C1 V)) ?_;refine wRE (hx:=by(refine sA ?_ (AX.move V Gt) (Au (Au GS));refine sA ?_ (AX.move V Fu) (Au (Au JX));refine sA ?_ (AX.lt (xs:=[.tmp 17]) (T:=tInt) (ds:=[q]) V V V (by rfl) (by decide) (.cons (Fit.int J) .nil)) (Au (Au KP));(refine AH V (Kn V V V V V X ?_);refine DS ?_ (Au (Au I8)));refine sA ?_ (AX.assign V (Aq (Aq FQ))) JW;exact C1 V)) (hk:=?_);repeat(first|refine abN ?_|refine asN ?_)
  refine As ⟨(ks++[q],ver+1),⟨F,z⟩,by simp only[zat]at u⊢;omega,?_⟩;refine iH (JM (i:=1) (R':=TN (cE .i64) s (ks++[q]) m I) V (λ_ h=>h) (λ_ _ h=>h.1) V) ?_;exact AU
end
end Mu
namespace Mu
open Go Go.RowKit Go.Proofs Go.Maps
variable{E E0:List (Int×Int)}{G:gP}{l:List Int}{out:List (Int×Int)}{α:Type}{p:α->Bool}{r:Int}{v:cC}
def Tj(E:List (Int×Int))(k:Int):List (Int×Int):=if(getK E k).isSome then Cf E k (aR.wrap ((getK E k).getD 0 - 1))else E
def KJ(G:gP)(E:List (Int×Int))(r:Int):List (Int×Int):=((getK G.near r).getD []).foldl Tj (QE E r)
def Ay9(g m:Nat)(v:cC)(l:List Int)(E:List (Int×Int)):Res:=Res.and (Bh g [.lit v]) (Res.and (rowR v 3 tInt l) (ER (cE .i64) E m))
theorem Aky{g m:Nat}(w:cF)(S S':Nat->Prop)(h:(Ay9 g m v l E).R w S):(Ay9 g m v l E).R w S':=by
 obtain⟨⟨cs,e,h1,h2⟩,⟨A,z,u⟩,c⟩:=h;refine⟨⟨cs,e,h1,?_⟩,⟨X6 A,z,u⟩,c⟩;simp only[Ak,gK]at h2⊢;exact h2
theorem Al9(l:List (Int×α))(k:Int):(QE l k).length<=l.length:=eL _ _
theorem Amc(h:Em E)(k:Int):(Tj E k).length=E.length:=by
 unfold Tj;split
 ·rename_i hk;exact Ih h hk _
 ·rfl
theorem Y0(h:Em E)(k:Int):Em (Tj E k):=by
 unfold Tj;split
 ·exact h.put _ _
 ·exact h
theorem UO:∀{E:List (Int×Int)},Em E->Em (l.foldl Tj E)/\(l.foldl Tj E).length=E.length:=by
 induction l with
 |nil=>intro E h;exact⟨h,rfl⟩
 |cons x l c=>
  intro E h;obtain⟨h1,h2⟩:=c (Y0 h x);exact⟨h1,h2.trans (Amc h x)⟩
theorem To(G:gP)(g m:Nat)(v:cC)(l:List Int)(E:List (Int×Int))(r:Int)(O:Ci r)(hE:Em E)(aa:E.length<=2147483648)(hl:l.length<=2147483648)(hn:∀k∈(getK G.near r).getD [],Ci k)(W:((getK G.near r).getD []).length<=2147483648):DU bH 91 (Ay9 g m v l E) [.lit (.int .i64 r),.lit (.pointer (iZ ⟨g,0,iY⟩)),.bp (R3 (.map (iZ m))) () 0,.bp (Ko Bf) G 0] (λv':cC=>Ay9 g m v' (l++[r]) (KJ G E r)) (λ_=>.tuple #[]):=by
 obtain⟨c,A⟩:∃c,c=(getK G.near r).getD []:=⟨_,rfl⟩
 have U:∀k∈c,Ci k:=by rw[A];exact hn
 have Z:c.length<=2147483648:=by rw[A];exact W
 have N:EM (l.length+ [r].length) 8=aK:=by
  unfold EM;simp only[zag,zai];unfold cT;omega
 refine D9 Tryz.func91 V (by kernel_rfl) V Tryz.ntmps91 V (λ_=>Aky) λC=>?_
 refine AN _ (EX 0 V) ?_;refine AN _ (EX 1 V) ?_;refine gN ?_;simp only[Nat.reduceAdd,Nat.reduceSub,zaa];refine nT ?_;refine wRK λK1 X=>?_
 refine sA ?_ (Bc (i:=0) (g:=g) V GH V V V) (Au JX);refine sA ?_ (AX.move V IL) (Au KP);refine sA ?_ (Cm (T:=tInt) V V V (by rfl) (by decide) (gX O)) (Au I8);refine AH V (V2 1 V V (Aq GH) V (Aq FQ) N λv'=>?_);refine DS ?_ (Au JW);refine AH V (IH (i:=0) (g:=g) (new:=[.lit v']) V GH V (Qd.one (Mu (i:=1) V)) V V (iL V) ?_);refine DS ?_ QA;refine Ax (X _ ?_);refine wR (hx:=by((repeat(first|refine sA ?_ (AI V V V)|(refine AH V (And 2 V Tryz.underlying51 V V O V ?_);refine sNt ?_)|refine sA ?_|refine AR ?_|refine sAG ?_|refine Bt ?_));exact C1 V)) (hk:=?_);refine wR (hx:=by((repeat(first|refine sA ?_ (AI V V V)|refine sA ?_ (Co V V)|refine sA ?_ (Cs V Tryz.underlying77 V V O)|refine sA ?_|refine AR ?_|refine sAG ?_|refine Bt ?_));exact C1 V)) ?_;refine Ah ?_;refine AJ (λk:Nat=>⟨(A2 (.bp (R3 (.map (iZ m))) () 0::A10 (A7 (.bs tInt c::.lit (.int .i64 (c.length:Int))::.lit (.int .i64 (k:Int))::A10 (A5 []))))),[.res (Bh g [.lit v']),.res (rowR v' 3 tInt (l++[r])),.res (ER (cE .i64) ((c.take k).foldl Tj (QE E r)) m)]⟩) (λk=>k<=c.length) (λk=>c.length - k) 0 (iV _) (by rw[A];exact AU) ?_;rintro k hk;refine wR ?_;refine Ae λK6 h6=>?_
 refine Am V (λH=>?_) (λH=>?_)
 ·have F:k < c.length:=by simpa using H
  obtain⟨q,hq⟩:∃q,c[k]? =iZ q:=⟨_,dZ F⟩
  have B:wfB .i64 q=aK:=U q (fC hq);obtain⟨D,J⟩:∃D,D=(c.take k).foldl Tj (QE E r):=⟨_,rfl⟩
  obtain⟨ac,ab⟩:Em D/\D.length=(QE E r).length:=by rw[J];exact UO (hE.del r)
  have Y:D.length < cT:=by have:=Al9 E r;unfold cT;omega
  rw[<-J];refine Ao ?_;refine h6 _ ?_;refine nT ?_;refine Ae λK8 h8=>?_
  refine Ah ?_;refine wR ?_;refine wR (hx:=by((repeat(first|refine sA ?_ (AI V V V)|refine sA ?_ (ID 2 V Tryz.underlying51 Ea V V B V)|refine sA ?_|refine AR ?_|refine sAG ?_|refine Bt ?_));exact C1 V)) ?_;refine wR ?_;refine Am V (λz=>?_) (λz=>?_)
  ·have L:(getK D q).isSome=aK:=z;have u:Cf D q (aR.wrap ((getK D q).getD 0 - 1))=Tj D q:=by unfold Tj;rw[if_pos L]
   refine wRE (hx:=by((repeat(first|refine sA ?_ (AI V V V)|refine sA ?_ (Qb 2 V Tryz.underlying51 Ea V V B V)|(refine AH V (Kk 2 V Tryz.underlying51 V V V B Y V ?_);refine sNt ?_)|refine sA ?_|refine AR ?_|refine sAG ?_|refine Bt ?_));exact C1 V)) (hk:=?_);refine h8 _ ?_;refine nT ?_;refine wRE ?_;refine As ⟨k+1,F,by omega,?_⟩;try dsimp only
   rw[fR,hq,dR,<-J,show(iZ q).toList.foldl Tj D=_ from u.symm];exact AU
  ·have L:(getK D q).isSome=aH:=z;have u:D=Tj D q:=by unfold Tj;rw[if_neg (by rw[L];simp)]
   refine Ao ?_;refine h8 _ ?_;refine nT ?_;refine wRE ?_;refine As ⟨k+1,F,by omega,?_⟩;try dsimp only
   rw[fR,hq,dR,<-J,show(iZ q).toList.foldl Tj D=_ from u.symm];exact AU
 ·obtain rfl:k=c.length:=by have:¬k < c.length:=(by simpa using H);omega
  have I:KJ G E r=(c.take c.length).foldl Tj (QE E r):=by unfold KJ;rw[fV,<-A]
  rw[<-I];refine AA ?_;refine upE (iH (DP 1 2 (by decide) V V) (iH (DP 0 1 (by decide) V V) iG)) ?_;exact⟨.inl V,v',rfl,rfl⟩
def EN(regs:List Int)(out:List (Int×Int)):List (Int×Int):=regs.foldl (λE r=>if(getK out r).getD 0 ==0 then Cf E r 0 else E) []
def UG(q:Int)(E:List (Int×Int))(k:Int):List (Int×Int):=if(getK E k).isSome then Cf E q (aR.wrap ((getK E q).getD 0+1))else E
def SK(G:gP)(E:List (Int×Int))(q:Int):List (Int×Int):=((getK G.near q).getD []).foldl (UG q) E
def Iq(G:gP)(out:List (Int×Int)):List (Int×Int):=(keysK (EN G.regs out)).foldl (SK G) (EN G.regs out)
def Ri(G:gP)(E:List (Int×Int))(r:Int):Bool:=(getK E r).isSome&&aL ((getK E r).getD 0 < (((getK G.cls r).getD []).length:Int))
def LP(G:gP)(E:List (Int×Int)):Option Int:=match G.regs.find? (Ri G E)with
 |some r=>iZ r
 |none=>(G.cheap++G.regs).find? λr=>(getK E r).isSome
def DX(G:gP):Nat->List (Int×Int)->List Int->List Int
 |0,_,l=>l
 |n+1,E,l=>match LP G E with
  |some r=>DX G n (KJ G E r) (l++[r])
  |none=>l
def C5(G:gP)(out:List (Int×Int)):List Int:=DX G (Iq G out).length (Iq G out) []
theorem Hv(out:List (Int×Int)):∀(l:List Int) {E:List (Int×Int)},okK E->(∀r∈l,Ci r)->okK (l.foldl (λE r=>if(getK out r).getD 0 ==0 then Cf E r 0 else E) E)/\(l.foldl (λE r=>if(getK out r).getD 0 ==0 then Cf E r 0 else E) E).length<=E.length+l.length
 /\∀x,getK (l.foldl (λE r=>if(getK out r).getD 0 ==0 then Cf E r 0 else E) E) x=if x∈l/\(getK out x).getD 0=0 then iZ 0 else getK E x
 | [],E,h,_=>⟨h,by simp,λx=>by simp⟩
 |r::l,E,h,F=>by
  rw[dT];have u:∀r∈l,Ci r:=λq hq=>F q (eY _ hq)
  by_cases z:(getK out r).getD 0=0
  ·have e:((getK out r).getD 0 ==0)=aK:=by rw[z];rfl
   rw[if_pos e];obtain⟨h1,h2,B⟩:=Hv out l (h.put (F r eZ) 0) u;refine⟨h1,?_,λx=>?_⟩
   ·have:=E9 (l:=E) r 0;rw[eJ];omega
   ·rw[B x,BM h.1];by_cases hx:x=r
    ·subst hx;have H:(if x∈x::l/\(getK out x).getD 0=0 then iZ (0:Int)else getK E x)=iZ 0:=if_pos ⟨eZ,z⟩;rw[H,if_pos V];split <;> rfl
    ·rw[if_neg hx];by_cases c:x∈l/\(getK out x).getD 0=0
     ·rw[if_pos c,if_pos ⟨eY _ c.1,c.2⟩]
     ·rw[if_neg c,if_neg λ⟨h4,A⟩=>c ⟨(eX.1 h4).resolve_left hx,A⟩]
  ·have e:((getK out r).getD 0 ==0)=aH:=by simpa using z
   rw[if_neg (by rw[e];simp)];obtain⟨h1,h2,B⟩:=Hv out l h u;refine⟨h1,by rw[eJ];omega,λx=>?_⟩;rw[B x];by_cases c:x∈l/\(getK out x).getD 0=0
   ·rw[if_pos c,if_pos ⟨eY _ c.1,c.2⟩]
   ·rw[if_neg c,if_neg λ⟨h4,A⟩=>by
     rcases eX.1 h4 with rfl|h4
     ·exact z A
     ·exact c ⟨h4,A⟩]
theorem L5{regs:List Int}(out:List (Int×Int))(c:∀r∈regs,Ci r):okK (EN regs out):=(Hv out regs okK.nil c).1
theorem Px{regs:List Int}(out:List (Int×Int))(c:∀r∈regs,Ci r):(EN regs out).length<=regs.length:=by
 have:=(Hv out regs okK.nil c).2.1;rw[eN,iU]at this;exact this
theorem Py{regs:List Int}(out:List (Int×Int))(c:∀r∈regs,Ci r)(x:Int):getK (EN regs out) x=if x∈regs/\(getK out x).getD 0=0 then iZ 0 else iY:=(Hv out regs okK.nil c).2.2 x
def Ask(E:List (Int×Int))(c:List Int)(v:Int):Int:=c.foldl (λv k=>if(getK E k).isSome then aR.wrap (v+1)else v) v
theorem Ma(E0:List (Int×Int))(q:Int):∀(c:List Int) {E:List (Int×Int)} {v:Int},okK E->(∀x,(getK E x).isSome=(getK E0 x).isSome)->getK E q=iZ v->
 okK (c.foldl (UG q) E)/\(∀x,getK (c.foldl (UG q) E) x=if x=q then iZ (Ask E0 c v)else getK E x)/\(c.foldl (UG q) E).length=E.length
 | [],E,v,h,_,hq=>⟨h,λx=>by
  by_cases e:x=q
  ·rw[if_pos e,e];exact hq
  ·rw[if_neg e];rfl,rfl⟩
 |k::c,E,v,h,z,hq=>by
  rw[dT];have B:Ci q:=h.2 (q,v) ((CS h.1).1 hq);have A:(getK E q).isSome=aK:=by rw[hq];rfl
  by_cases hk:(getK E k).isSome=aK
  ·have e:UG q E k=Cf E q (aR.wrap (v+1)):=by unfold UG;rw[if_pos hk,hq];rfl
   rw[e];have hg:∀x,getK (Cf E q (aR.wrap (v+1))) x=if x=q then iZ (aR.wrap (v+1))else getK E x:=λx=>BM h.1 _ _ _
   obtain⟨h1,h2,F⟩:=Ma E0 q c (h.put B (aR.wrap (v+1))) (λx=>by
    rw[hg];by_cases u:x=q
    ·rw[if_pos u,<-z x,u,A];rfl
    ·rw[if_neg u];exact z x) (by rw[hg,if_pos V])
   refine⟨h1,λx=>?_,F.trans (Ih h.1 A _)⟩;rw[h2 x];have H:Ask E0 (k::c) v=Ask E0 c (aR.wrap (v+1)):=by
    show dQ _ (if(getK E0 k).isSome then _ else _) c=_;rw[if_pos (by rw[<-z k];exact hk)];rfl
   rw[H];by_cases u:x=q
   ·rw[if_pos u,if_pos u]
   ·rw[if_neg u,if_neg u,hg,if_neg u]
  ·have e:UG q E k=E:=by unfold UG;rw[if_neg hk]
   rw[e];obtain⟨h1,h2,F⟩:=Ma E0 q c h z hq;refine⟨h1,λx=>?_,F⟩;rw[h2 x];have H:Ask E0 (k::c) v=Ask E0 c v:=by
    show dQ _ (if(getK E0 k).isSome then _ else _) c=_;rw[if_neg (by rw[<-z k];exact hk)];rfl
   rw[H]
theorem snocI{c:List α->Prop}(nil:c [])(snoc:∀l x,c l->c (l++[x]))(l:List α):c l:=by
 have z:∀n (l:List α),l.length=n->c l:=by
  intro n;induction n with
  |zero=>intro l u;rw[dH u];exact nil
  |succ n B=>
   intro l u;have A:l≠[]:=λe=>by rw[e]at u;simp at u
   rw[<-List.dropLast_concat_getLast A];exact snoc _ _ (B _ (by rw[List.length_dropLast,u];rfl))
 exact z _ l V
theorem Gg(G:gP)(h0:okK E0):∀(ks:List Int),ks.Nodup->(∀q∈ks,q∈keysK E0)->okK (ks.foldl (SK G) E0)/\(∀x,getK (ks.foldl (SK G) E0) x=if x∈ks then(getK E0 x).map (Ask E0 ((getK G.near x).getD []))else getK E0 x)/\(ks.foldl (SK G) E0).length=E0.length:=by
 intro ks;induction ks using snocI with
 |nil=>intro _ _;exact⟨h0,λx=>by simp,rfl⟩
 |snoc ks q L=>
  intro I A;have c:=fJ.1 I;obtain⟨h1,h2,X⟩:=L c.1 λx hx=>A x (eV _ hx)
  have F:q∉ks:=λJ=>c.2.2 q J q (fG.2 V) V
  have u:∀x,(getK (ks.foldl (SK G) E0) x).isSome=(getK E0 x).isSome:=λx=>by
   rw[h2 x];split
   ·rw[iX]
   ·rfl
  obtain⟨p,N,H⟩:=fB.1 (A q (eW _ (fG.2 V)));have z:getK E0 q=iZ p.2:=(CS h0.1).2 (by rw[<-H];exact N);have hq:getK (ks.foldl (SK G) E0) q=iZ p.2:=by rw[h2 q,if_neg F,z]
  rw[dR];obtain⟨W,U,O⟩:=Ma E0 q ((getK G.near q).getD []) h1 u hq;refine⟨W,λx=>?_,O.trans X⟩;show getK (SK G (ks.foldl (SK G) E0) q) x=_;rw[show SK G (ks.foldl (SK G) E0) q=((getK G.near q).getD []).foldl (UG q) (ks.foldl (SK G) E0)from V,U x];by_cases B:x=q
  ·rw[if_pos B,if_pos (by rw[B];simp),B,z];rfl
  ·rw[if_neg B,h2 x];by_cases hx:x∈ks
   ·rw[if_pos hx,if_pos (eV _ hx)]
   ·rw[if_neg hx,if_neg λJ=>(eU.1 J).elim hx λe=>B (fG.1 e)]
theorem Amg(G:gP)(h0:okK E0){ks:List Int}(u:ks.Nodup)(c:∀q,q∈ks↔q∈keysK E0):ks.foldl (SK G) E0=(keysK E0).foldl (SK G) E0:=by
 obtain⟨h1,h2,_⟩:=Gg G h0 ks u λq hq=>(c q).1 hq
 obtain⟨A,z,_⟩:=Gg G h0 (keysK E0) (Cv h0.1) λq hq=>hq
 refine Amv h1.1 A.1 λx=>?_
 rw[h2 x,z x];by_cases hx:x∈keysK E0
 ·rw[if_pos hx,if_pos ((c x).2 hx)]
 ·rw[if_neg hx,if_neg λe=>hx ((c x).1 e)]
theorem Ahm{l:List α}{k:Nat}{x:α}(hx:l[k]? =iZ x)(z:p x=aK)(h:∀j y,j < k->l[j]? =iZ y->p y=aH):l.find? p=iZ x:=by
 induction l generalizing k with
 |nil=>simp at hx
 |cons a l c=>
  cases k with
  |zero=>
   simp at hx;subst hx;rw[dM,z]
  |succ k=>
   have A:=h 0 a (by omega) V;rw[dM,A];exact c (by simpa using hx) λj y B u=>h (j+1) y (by omega) (by simpa using u)
theorem Arl{l:List α}(h:∀j y,j < l.length->l[j]? =iZ y->p y=aH):l.find? p=iY:=by
 rw[List.find?_eq_none];intro x hx;obtain⟨j,c⟩:=fA.1 hx;rw[h j x (eB.1 c).1 c];simp
theorem LO(h:LP G E=iZ r):(getK E r).isSome=aK:=by
 unfold LP at h;split at h
 ·rename_i q hq;cases h;have:=dN hq;unfold Ri at this;simp only[aG]at this;exact this.1
 ·have:=dN h;simpa using this
theorem Lu(h:Em E)(B:(getK E r).isSome=aK):Em (KJ G E r)/\(KJ G E r).length+1=E.length:=by
 unfold KJ;obtain⟨h1,h2⟩:=UO (l:=(getK G.near r).getD []) (h.del r);refine⟨h1,?_⟩;rw[h2];obtain⟨v,A⟩:=iW.1 B;have z:=(CS h).1 A;have c:E.Perm ((r,v)::QE E r):=by
  refine(fM (cX (λ{a b} hab e=>by rw[e]at hab;omega) h) ?_).2 λp=>?_
  ·refine List.nodup_cons.2 ⟨λu=>(J9.1 u).2 V,cX (λ{a b} hab e=>by rw[e]at hab;omega) (h.del r)⟩
  ·rw[eX,J9];constructor
   ·intro c;by_cases e:p.1=r
    ·exact .inl (h.uniq c z e)
    ·exact .inr ⟨c,e⟩
   ·rintro(rfl|⟨c,_⟩)
    ·exact z
    ·exact c
 have:=c.length_eq;rw[eJ]at this;exact this.symm
theorem G9(h:Em E)(r x:Int):(getK (KJ G E r) x).isSome=((getK E x).isSome&&x !=r):=by
 have c:∀(l:List Int) {D:List (Int×Int)},Em D->(getK (l.foldl Tj D) x).isSome=(getK D x).isSome:=by
  intro l;induction l with
  |nil=>intro D _;rfl
  |cons k l z=>
   intro D u;rw[dT,z (Y0 u k)];unfold Tj;split
   ·rename_i hk;rw[BM u];by_cases e:x=k
    ·rw[if_pos e,e,hk];rfl
    ·rw[if_neg e]
   ·rfl
 unfold KJ;rw[c _ (h.del r),Me h];by_cases e:x=r
 ·rw[if_pos e,e];simp
 ·rw[if_neg e];simp[e]
instance Ayi:ZC bH 27 [.slice iY 0 0]:=⟨by kernel_rfl⟩
abbrev Zx(g m:Nat)(G:gP):AV:=.fn 91 [.lit (.pointer (iZ ⟨g,0,iY⟩)),.bp (R3 (.map (iZ m))) () 0,.bp (Ko Bf) G 0]
theorem Ana{h:List gD}(i:Nat)(hi:h[i]? =iZ (.res (rowR v 3 tInt l)))(F:mkD h= []:=by rfl):Fin h (.lit v) (.bs tInt l):=⟨F,λC S ψ w u I H c=>by
 unfold gK at c;rw[c];clear c;have A:=H.blk i _ hi;obtain⟨h1,h2⟩:=Od A.2;refine⟨λk=>S k\/v.ownBlock=iZ k,λ_ h=>.inl h,λk hk=>?_,λk hk=>?_,?_⟩
 ·rcases hk with hk|hk
  ·exact .inl hk
  ·exact .inr (iM λz=>(A.1 k (AY hk)).1 (I k z))
 ·rcases hk with hk|hk
  ·exact H.lt k hk
  ·exact(A.1 k (AY hk)).2.2
 ·unfold gK;refine Dh (T:=tInt) h1 (λj d B=>?_) λg hg=>.inr hg
  show tInt.RS w _ (((l.map (cE .i64)).drop (j * 1)).take 1) d;have hi:(l.map (cE .i64))[j]? =iZ (.int .i64 d):=by rw[eC,B];rfl
  rw[iT,fX,eG,hi];exact DR.2 ⟨rfl,h2 d (fC B)⟩⟩
structure OkG(G:CGraph):Prop where
 regs:∀r∈G.regs,Ci r
 len:G.regs.length<=1073741824
 cheap:G.cheap.length<=1073741824
 cheapw:∀r∈G.cheap,Ci r
 near:∀r,∀k∈(getK G.near r).getD [],Ci k
 nearl:∀r,((getK G.near r).getD []).length<=2147483648
structure OrdI(G:CGraph)(out:List (Int×Int))(E:List (Int×Int))(l:List Int):Prop where
 asc:Em E
 inr:∀x,(getK E x).isSome=true->x∈G.regs
 len:E.length+l.length<=1073741824
 eq:DX G E.length E l=C5 G out
theorem OrdI.take(h:OrdI G out E l)(c:LP G E=iZ r):OrdI G out (KJ G E r) (l++[r])/\(KJ G E r).length < E.length:=by
 obtain⟨h1,h2⟩:=Lu h.asc (LO c) (G:=G);refine⟨⟨h1,λx hx=>h.inr x ?_,by have:=h.len;rw[eI,eJ,eN];omega,?_⟩,by omega⟩
 ·rw[G9 h.asc]at hx;simp only[aG]at hx;exact hx.1
 ·have:=h.eq;rw[<-h2]at this;unfold DX at this;rw[c]at this;exact this
theorem Js(u:OkG G):OrdI G out (Iq G out) []:=by
 have h0:=L5 out u.regs;obtain⟨h1,h2,A⟩:=Gg G h0 (keysK (EN G.regs out)) (Cv h0.1) λq hq=>hq
 refine⟨h1.1,λx hx=>?_,?_,rfl⟩
 ·have c:(getK (EN G.regs out) x).isSome=aK:=by
   rw[show Iq G out=(keysK (EN G.regs out)).foldl (SK G) (EN G.regs out)from V,h2 x]at hx;split at hx
   ·rwa [iX]at hx
   ·exact hx
  rw[Py out u.regs]at c;by_cases z:x∈G.regs
  ·exact z
  ·rw[if_neg λe=>z e.1]at c;cases c
 ·have F:=Px out u.regs;have B:=u.len;rw[show(Iq G out).length=_ from A,eN];omega
theorem Ak4{E:List (Int×α)}(h:E.length≠0):∃x,(getK E x).isSome=aK:=by
 cases E with
 |nil=>exact absurd V h
 |cons p E=>exact⟨p.1,by unfold getK;rw[dM];simp⟩
theorem Akx(G:gP)(out:List (Int×Int))(B:OkG G):Fn bH 53 [.bp Bf G 0,.tv tMapI out] (.bs tInt (C5 G out)):=by
 have bq:=B.len;have cr:=B.cheap;refine AT Tryz.func53 V (by kernel_rfl) V Tryz.ntmps53 λC hC=>?_
 simp only[Nat.reduceAdd,Nat.reduceSub,zaa];refine wR (hx:=by((repeat(first|(refine AH V (AOp.boxI 0 V V (Qd.one One.bp).weak ?_);refine sNt ?_)|refine sA ?_|refine AR ?_|refine sAG ?_|refine Bt ?_));exact C1 V)) (hk:=?_);refine Awp.scope ?_;refine AN _ (EY hC 0 2 V V Zj.bp) ?_;refine nT ?_;refine wRK λK2 bz=>?_
 refine AH V (Kl (cE .i64) V λm=>?_);refine DS ?_ (Au (Au GR));refine AH V (Tg 2 V V ?_);refine DS ?_ Gv;refine AH V (CZ (new:=[_]) V V V (Qd.one (iD V)) V (iL V) ?_);refine DS ?_ QA;refine Ax (bz _ ?_);refine AN _ (EY hC 2 5 V V (Zj.lit (v:=.map (iZ m)) V)) ?_;refine nT ?_;refine Ae λK3 h3=>?_
 refine wR (hx:=by((repeat(first|refine sA ?_ (AI V V V)|refine sA ?_ (Co V V)|refine sA ?_|refine AR ?_|refine sAG ?_|refine Bt ?_));exact C1 V)) ?_;refine Ah ?_;refine AJ (λk:Nat=>⟨(.any::.tv tMapI out::.bp (Ko Bf) G 0::A2 (.bp (R3 (.map (iZ m))) () 0::A20 (.any::.bs tInt G.regs::.lit (.int .i64 (G.regs.length:Int))::.lit (.int .i64 (k:Int))::A80 (A20 [.any])))),[.dead,.res (ER (cE .i64) (EN (G.regs.take k) out) m),.dead]⟩) (λk=>k<=G.regs.length) (λk=>G.regs.length - k) 0 (iV _) (AU) ?_;rintro k hk;refine wR ?_;refine Ae λK7 h7=>?_
 refine Am V (λbb=>?_) (λbb=>?_)
 ·have u:k < G.regs.length:=by simpa using bb
  obtain⟨r,O⟩:∃r,G.regs[k]? =iZ r:=⟨_,dZ u⟩
  have A:wfB .i64 r=aK:=B.regs r (fC O);have am:(EN (G.regs.take k) out).length < cT:=by
   have h1:=Px (regs:=G.regs.take k) out λq hq=>B.regs q (fE hq)
   have h2:(G.regs.take k).length<=G.regs.length:=by rw[eP];omega
   unfold cT;omega
  have be:EN (G.regs.take (k+1)) out=if(getK out r).getD 0 ==0 then Cf (EN (G.regs.take k) out) r 0 else EN (G.regs.take k) out:=by
   unfold EN;rw[fR,O,dR];rfl
  refine Ao ?_;refine h7 _ ?_;refine nT ?_;refine Ae λK9 h9=>?_
  refine Ah ?_;refine wR ?_;refine wR (hx:=by((repeat(first|refine sA ?_ (VH V Tryz.underlying51 V V A)|refine sA ?_|refine AR ?_|refine sAG ?_|refine Bt ?_));exact C1 V)) ?_;refine Am V (λai=>?_) (λai=>?_)
  ·have he:EN (G.regs.take (k+1)) out=Cf (EN (G.regs.take k) out) r 0:=by rw[be,if_pos ai]
   refine wRE (hx:=by((repeat(first|refine sA ?_ (AI V V V)|(refine AH V (Kk 1 V Tryz.underlying51 V V V A am V ?_);refine sNt ?_)|refine sA ?_|refine AR ?_|refine sAG ?_|refine Bt ?_));exact C1 V)) (hk:=?_);refine h9 _ ?_;refine nT ?_;refine wRE ?_;refine As ⟨k+1,u,by omega,?_⟩;rw[he];exact AU
  ·have he:EN (G.regs.take (k+1)) out=EN (G.regs.take k) out:=by rw[be,if_neg (by rw[ai];simp)]
   refine Ao ?_;refine h9 _ ?_;refine nT ?_;refine wRE ?_;refine As ⟨k+1,u,by omega,?_⟩;rw[he];exact AU
 ·obtain rfl:k=G.regs.length:=by have:¬k < G.regs.length:=(by simpa using bb);omega
  rw[fV];refine AA ?_;refine h3 _ ?_;refine nT ?_;refine Ae λdk co=>?_
  obtain⟨E0,an⟩:∃E,E=EN G.regs out:=⟨_,rfl⟩
  rw[<-an];have h0:okK E0:=by rw[an];exact L5 out B.regs
  have cu:E0.length<=1073741824:=by rw[an];exact iO (Px out B.regs) bq
  refine wRK λdj bk=>?_
  refine sA ?_ (AI V Fu V) (Av (Au GS));refine AH V (RW 1 V bS V V λrg=>?_);refine DS ?_ (Av (Au JX));refine Ax (bk _ ?_);refine Ah ?_;refine AJ (λks:List Int=>⟨(A2 (.bp (Ko Bf) G 0::A2 (.bp (R3 (.map (iZ m))) () 0::A20 (A10 (A5 (.lit (.pointer (iZ ⟨rg,0,iY⟩))::A80 (A9 []))))))),[.dead,.res (TN (cE .i64) (ks.foldl (SK G) E0) ks m rg),.dead]⟩) (λks=>ks.Nodup/\∀q∈ks,q∈keysK E0) (λks=>E0.length - ks.length) [] ⟨fK,λq hq=>by cases hq⟩ (AU) ?_;rintro ks ⟨av,ao⟩;obtain⟨al,ba,az⟩:=Gg G h0 ks av ao;obtain⟨E,hE⟩:∃E,E=ks.foldl (SK G) E0:=⟨_,rfl⟩
  rw[<-hE]at al ba az;rw[<-hE];have aw:∀q,q∈keysK E↔q∈keysK E0:=λq=>by
   have hs:∀{β:Type} (m:List (Int×β)),q∈keysK m↔(getK m q).isSome=aK:=λm=>by
    unfold keysK getK;rw[iX,List.find?_isSome];simp
   rw[hs,hs,ba q];split
   ·rw[iX]
   ·exact Iff.rfl
  refine Bk (β:=Option (Int×Int)) (λo=>match o with|none=>∀q,q∈ks↔q∈keysK E0|some p=>Ci p.1/\getK E p.1=iZ p.2/\p.1∉ks) (λo=>⟨(A2 (.bp (Ko Bf) G 0::A2 (.bp (R3 (.map (iZ m))) () 0::A20 (A10 (A5 (.lit (.pointer (iZ ⟨rg,0,iY⟩))::.any::.lit (.bool o.isSome)::A80 (A7 []))))))),[.dead,.res (match o with|none=>TN (cE .i64) E ks m rg|some p=>atT (cE .i64) E (ks++[p.1]) p.1 p.2 m rg),.dead]⟩) ?_ ?_
  ·refine gL ?_;refine AH V (VX 1 V V V (λhn N=>?_) (λq v hn hs hw hq bu=>?_))
   ·refine sNt ?_;refine sA ?_ (BY V V V) (Av (Au I8));refine Ax ?_;refine As ⟨iY,λq=>(N q).trans (aw q),?_⟩;exact AU
   ·refine sNt ?_;refine sA ?_ (BY V V V) (Av (Au I8));refine Ax ?_;refine As ⟨iZ (q,v),⟨hw,hq,bu⟩,?_⟩;exact AU
  rintro o ho;refine Ae λdi cn=>?_
  refine Am V (λJ=>?_) (λJ=>?_)
  ·obtain⟨⟨q,v⟩,rfl⟩:=iW.1 J;obtain⟨W,aj,br⟩:=ho;have W:wfB .i64 q=aK:=W;have aj:getK E q=iZ v:=aj;have bt:q∈keysK E0:=(aw q).1 (fB.2 ⟨(q,v),(CS al.1).1 aj,rfl⟩);have ap:(ks++[q]).Nodup:=fJ.2 ⟨av,by simp,λa c b F=>by rw[fG.1 F];exact λe=>br (e▸c)⟩;have U:∀x∈ks++[q],x∈keysK E0:=λx hx=>(eU.1 hx).elim (ao x) λe=>by rw[fG.1 e];exact bt
   have aa:=Dq ap U;obtain⟨H,ak⟩:∃H,H=(getK G.near q).getD []:=⟨_,rfl⟩
   have cp:H.length<=2147483648:=by rw[ak];exact B.nearl q
   have bf:∀k∈H,Ci k:=by rw[ak];exact B.near q
   refine Ao ?_;refine cn _ ?_;refine nT ?_;refine Ah ?_;refine wR (hx:=by((repeat(first|refine sA ?_ (NQ 1 V V V)|refine sA ?_|refine AR ?_|refine sAG ?_|refine Bt ?_));exact C1 V)) ?_;refine AN _ (JM (i:=1) (R':=TN (cE .i64) E (ks++[q]) m rg) V (λ_ h=>h) (λ_ _ h=>h.1) V) ?_;refine nT ?_;refine wR (hx:=by((repeat(first|refine sA ?_ (AI V V V)|refine sA ?_ (Co V V)|refine sA ?_ (Cs V Tryz.underlying77 V V W)|refine sA ?_|refine AR ?_|refine sAG ?_|refine Bt ?_));exact C1 V)) ?_;refine Ah ?_;refine AJ (λk:Nat=>⟨(A2 (.bp (Ko Bf) G 0::A2 (.bp (R3 (.map (iZ m))) () 0::A2 (.lit (.int .i64 q)::A20 (A10 (A2 (.lit (.pointer (iZ ⟨rg,0,iY⟩))::A9 (.bs tInt H::.lit (.int .i64 (H.length:Int))::.lit (.int .i64 (k:Int))::A40 (A20 (A10 (A7 []))))))))))),[.dead,.res (TN (cE .i64) ((H.take k).foldl (UG q) E) (ks++[q]) m rg),.dead]⟩) (λk=>k<=H.length) (λk=>H.length - k) 0 (iV _) (by rw[ak];exact AU) ?_;rintro k hk;obtain⟨cc,bm,bl⟩:=Ma E q (H.take k) al (λ_=>rfl) aj;obtain⟨D,hD⟩:∃D,D=(H.take k).foldl (UG q) E:=⟨_,rfl⟩
   rw[<-hD]at cc bm bl;rw[<-hD];refine wR ?_;refine Ae λdh cm=>?_
   refine Am V (λah=>?_) (λah=>?_)
   ·have u:k < H.length:=by simpa using ah
    obtain⟨z,hz⟩:∃z,H[k]? =iZ z:=⟨_,dZ u⟩
    have bo:wfB .i64 z=aK:=bf z (fC hz);have cb:D.length < cT:=by rw[bl,az];unfold cT;omega
    have ca:(getK D q).isSome=aK:=by rw[bm q,if_pos V];rfl
    refine Ao ?_;refine cm _ ?_;refine nT ?_;refine Ae λdg bn=>?_
    refine Ah ?_;refine wR ?_;refine wR (hx:=by((repeat(first|refine sA ?_ (AI V V V)|refine sA ?_ (QR 1 V Tryz.underlying51 Ea V V bo V)|refine sA ?_|refine AR ?_|refine sAG ?_|refine Bt ?_));exact C1 V)) ?_;refine wR ?_;refine Am V (λag=>?_) (λag=>?_)
    ·have hs:(getK D z).isSome=aK:=ag;have ax:UG q D z=Cf D q (aR.wrap ((getK D q).getD 0+1)):=by unfold UG;rw[if_pos hs]
     refine wRE (hx:=by((repeat(first|refine sA ?_ (AI V V V)|refine sA ?_ (VG 1 V Tryz.underlying51 Ea V V W V)|(refine AH V (Acv 1 V Tryz.underlying51 V V V W cb ca V ?_);refine sNt ?_)|refine sA ?_|refine AR ?_|refine sAG ?_|refine Bt ?_));exact C1 V)) (hk:=?_);refine bn _ ?_;refine nT ?_;refine wRE ?_;refine As ⟨k+1,u,by omega,?_⟩;try dsimp only
     rw[fR,hz,dR,<-hD,show(iZ z).toList.foldl (UG q) D=_ from ax];exact AU
    ·have hs:(getK D z).isSome=aH:=ag;have ax:UG q D z=D:=by unfold UG;rw[if_neg (by rw[hs];simp)]
     refine Ao ?_;refine bn _ ?_;refine nT ?_;refine wRE ?_;refine As ⟨k+1,u,by omega,?_⟩;try dsimp only
     rw[fR,hz,dR,<-hD,show(iZ z).toList.foldl (UG q) D=_ from ax];exact AU
   ·obtain rfl:k=H.length:=by have:¬k < H.length:=(by simpa using ah);omega
    refine AA ?_;repeat(first|refine BF ?_|refine exO (by decide) ?_|refine asE ?_)
    refine exN ?_;repeat(first|refine abN ?_|refine asN ?_)
    have ay:(ks++[q]).foldl (SK G) E0=D:=by
     rw[dR,<-hE,hD,fV,ak];rfl
    refine As ⟨ks++[q],⟨ap,U⟩,by rw[eI,eJ,eN]at aa⊢;simp only[keysK,eM]at aa;omega,?_⟩;try dsimp only
    rw[ay];exact AU
  ·obtain rfl:o=iY:=by cases o with|none=>rfl|some p=>cases J
   refine AA ?_;refine co _ ?_;refine nT ?_;have N:E=Iq G out:=by
    rw[hE];unfold Iq;rw[<-an];exact Amg G h0 av ho
   refine AN _ (JM (i:=1) (R':=ER (cE .i64) E m) V (λ_ h=>.inl h) (λ_ _ h=>by obtain⟨h0,left,cnt,h1,_⟩:=h;exact⟨h0,h1.owns⟩) V) ?_;refine nT ?_;rw[N];clear N aw ba al az hE ho J;refine wR ?_;refine Bw 3 V V V (λg=>(A2 (.bp (Ko Bf) G 0::A2 (.bp (R3 (.map (iZ m))) () 0::A7 (.lit (.pointer (iZ ⟨g,0,iY⟩))::A80 (A20 (A10 (A7 [])))))))) (λg=>(by(repeat(first|exact OpnB.nil|refine OpnB.ptr ?_|refine OpnB.any ?_|refine OpnB.keep V ?_)))) λg=>?_
   refine AN _ (Kg 3 tInt (by decide)) ?_;refine nT ?_;refine wS ?_;refine sA ?_ (FV V) (Av (Av Gv));refine sT (wN ?_);refine Ae λdf ck=>?_
   refine Awp.label ?_;refine ck _ ?_;refine nT ?_;refine Ae λde cj=>?_
   refine Ah ?_;refine AJ (λp:List (Int×Int)×List Int×cC=>⟨(A2 (.bp (Ko Bf) G 0::A2 (.bp (R3 (.map (iZ m))) () 0::A7 (.lit (.pointer (iZ ⟨g,0,iY⟩))::Zx g m G::A80 (A20 (A10 (A6 []))))))),[.dead,.res (ER (cE .i64) p.1 m),.dead,.res (Bh g [.lit p.2.2]),.res (rowR p.2.2 3 tInt p.2.1)]⟩) (λp=>OrdI G out p.1 p.2.1) (λp=>p.1.length) (Iq G out,[],.slice iY 0 0) (Js B) (AU) ?_;rintro⟨E,l,v⟩ hI;have hI:OrdI G out E l:=hI;have am:E.length<=2147483648:=by have:=hI.len;omega
   have bg:l.length<=2147483648:=by have:=hI.len;omega
   refine Ae λdd ci=>?_
   refine wR (hx:=by((repeat(first|refine sA ?_ (AI V V V)|refine sA ?_ (Ace 1 V Tryz.underlying51 V V)|refine sA ?_|refine AR ?_|refine sAG ?_|refine Bt ?_));exact C1 V)) ?_;refine Am V (λaf=>?_) (λaf=>?_)
   ·have bv:E.length≠0:=by have:(0:Int) < (E.length:Int):=(by simpa using af);omega
    refine Ao ?_;refine ci _ ?_;refine nT ?_;refine Ah ?_;refine Ae λdc ch=>?_
    refine wR (hx:=by((repeat(first|refine sA ?_ (AI V V V)|refine sA ?_ (Co V V)|refine sA ?_|refine AR ?_|refine sAG ?_|refine Bt ?_));exact C1 V)) ?_;refine Ah ?_;refine AJ (λk:Nat=>⟨(A2 (.bp (Ko Bf) G 0::A2 (.bp (R3 (.map (iZ m))) () 0::A7 (.lit (.pointer (iZ ⟨g,0,iY⟩))::Zx g m G::A40 (A20 (.any::.bs tInt G.regs::.lit (.int .i64 (G.regs.length:Int))::.lit (.int .i64 (k:Int))::A40 (A10 (A2 [])))))))),[.dead,.res (ER (cE .i64) E m),.dead,.res (Bh g [.lit v]),.res (rowR v 3 tInt l)]⟩) (λk=>k<=G.regs.length/\∀j y,j < k->G.regs[j]? =iZ y->Ri G E y=aH) (λk=>G.regs.length - k) 0 ⟨iV _,λj y h=>by omega⟩ (AU) ?_;rintro k ⟨hk,au⟩;refine wR ?_;refine Ae λdb cg=>?_
    refine Am V (λae=>?_) (λae=>?_)
    ·have u:k < G.regs.length:=by simpa using ae
     obtain⟨r,O⟩:∃r,G.regs[k]? =iZ r:=⟨_,dZ u⟩
     have A:wfB .i64 r=aK:=B.regs r (fC O);have c1:(!((getK E r).isSome)||(wfB .i64 r))=aK:=by rw[A];simp
     refine Ao ?_;refine cg _ ?_;refine nT ?_;refine Ae λda cf=>?_
     refine Ah ?_;refine wR ?_;refine wR (hx:=by((repeat(first|refine sA ?_ (AI V V V)|refine sA ?_ (ID 1 V Tryz.underlying51 Ea V V A V)|refine sA ?_|refine AR ?_|refine sAG ?_|refine Bt ?_));exact C1 V)) ?_;refine wS (sT (sT ?_));refine sGt V ?_;refine sGt V ?_;refine sG (g:=((getK E r).isSome)) (hg:=Oq V) (hq:=λhg=>Co V ((Aw (Aw (Aq (Aq (Aq FQ))))).trans (BL hg _ _))) (ht:=(Av (Av (Au (Au (Au JW)))))) (hk:=?_);refine sGt V ?_;refine sGt V ?_;refine sGt V ?_;refine sG (g:=((getK E r).isSome)) (hg:=Oq V) (hq:=λhg=>Cs V bT ((Aw (Aw (Aq (Aq (Aq G8))))).trans (BL hg _ _)) ((Aw (Aw (Aq (Aq (Aq GY))))).trans (BL hg _ _)) (Ro c1 hg)) (ht:=(Av (Av (Av GS)))) (hk:=?_);refine sGt V ?_;refine sGt V (sT (wN ?_));refine Am V (λad=>?_) (λad=>?_)
     ·have I:LP G E=iZ r:=by unfold LP;rw[Ahm O ad au]
      obtain⟨bc,Z⟩:=hI.take I;refine wRK λcz bj=>?_
      refine sA ?_ (AX.move V (Aq G8)) (Av (Av (Av JW)));refine sA ?_ (AX.move V (Aq (Aq IL))) (Av (Av (Av Gv)));refine GN V (DP 4 1 (by decide) V V) ?_;refine GN V (DP 3 4 (by decide) V V) ?_;refine AH V (IJ (i:=3) V V (Aw (Aw (Aw Gt))) (To G g m v l E r A hI.asc am bg (B.near r) (B.nearl r)) (λ_=>rfl) V V λv'=>?_);refine DS ?_ (Av (Av (Av Hh)));refine Ax (bj _ ?_);refine AN _ (Fp 3 4 (by decide) V V) ?_;refine AN _ (Fp 4 1 (by decide) V V) ?_;refine nT ?_;refine AA ?_;repeat(first|refine BF ?_|refine exO (by decide) ?_|refine asE ?_)
      refine exN ?_;repeat(first|refine abN ?_|refine asN ?_)
      exact As ⟨(KJ G E r,l++[r],v'),bc,Z,AU⟩
     ·have X:Ri G E r=aH:=ad;refine Ao ?_;refine cf _ ?_;refine nT ?_;refine wRE ?_;refine As ⟨k+1,⟨u,λj y hj hy=>?_⟩,by omega,AU⟩;rcases iQ j k with hj'|hj'
      ·exact au j y hj' hy
      ·obtain rfl:j=k:=by omega
       rw[O]at hy;cases hy;exact X
    ·refine AA ?_;refine ch _ ?_;refine nT ?_;obtain rfl:k=G.regs.length:=by have:¬k < G.regs.length:=(by simpa using ae);omega
     have ar:G.regs.find? (Ri G E)=iY:=Arl au;have k1:=VQ (GQ (l:=G.cheap) (Ag (decide_eq_true (iO B.cheap (by decide))) (Al _)));have c2:EM (G.cheap.length+G.regs.length) 8=aK:=by
      have h1:=B.cheap;unfold EM;simp only[zag];unfold cT;omega
     obtain⟨L,hL⟩:∃L,L=G.cheap++G.regs:=⟨_,rfl⟩
     have ct:L.length<=2147483648:=by rw[hL,eI];have h1:=B.cheap;omega
     have bx:∀r∈L,Ci r:=λr O=>by
      rw[hL]at O;rcases eU.1 O with h|h
      ·exact B.cheapw r h
      ·exact B.regs r h
     refine AN ⟨A2 (.bp (Ko Bf) G 0::A2 (.bp (R3 (.map (iZ m))) () 0::A7 (.lit (.pointer (iZ ⟨g,0,iY⟩))::(Zx g m G)::A80 (A20 (A10 (A6 [])))))),[.dead,.res (ER (cE .i64) E m),.dead,.res (Bh g [.lit v]),.res (rowR v 3 tInt l),.dead]⟩ (iH AU (Lh 1 V)) ?_;refine Ae λcv bw=>?_
     refine Qj (n:=12) (λb=>⟨A2 (.bp (Ko Bf) G 0::A2 (.bp (R3 (.map (iZ m))) () 0::A7 (.lit (.pointer (iZ ⟨g,0,iY⟩))::(Zx g m G)::A80 (A9 ((bif b 0 then .bp Bf G 0 else .any)::(bif b 1 then .bp Bf G 0 else .any)::(bif b 2 then .bp Bf G 5 else .any)::(bif b 3 then .bs tInt G.cheap else .any)::(bif b 4 then .own 5 0 else .any)::(bif b 5 then .bp Bf G 0 else .any)::(bif b 6 then .bp Bf G 0 else .any)::(bif b 7 then .bp Bf G 0 else .any)::(bif b 8 then .bs tInt G.regs else .any)::(bif b 9 then .own 5 (0+1)else .any)::(bif b 10 then .lit (.int .i64 ((G.cheap++G.regs).length:Int))else .any)::(bif b 11 then .lit (.int .i64 0)else .any)::A10 (A5 [])))))),[.dead,.res (ER (cE .i64) E m),.dead,.res (Bh g [.lit v]),.res (rowR v 3 tInt l),(bif b 9 then .row (0+1) 3 tInt (G.cheap++G.regs)else(bif b 4 then .row 0 3 tInt G.cheap else .dead))]⟩) V (by kernel_rfl) (by kernel_rfl) ?_ (bw _ ?_)
     ·refine BU (λb F c hc=>?_) ?_
      ·try dsimp only
       refine Ba (AI V FD V) ?_;exact iG
      refine BU (λb F c hc=>?_) ?_
      ·have h0:b 0=aK:=c 0 _ V V;try dsimp only
       refine Ba (Co V ((Aw (Aw (Aw (Aq IL)))).trans (BL h0 _ _))) ?_;exact iG
      refine BU (λb F c hc=>?_) ?_
      ·have h1:b 1=aK:=c 0 _ V V;try dsimp only
       refine Ba (Cw V ((Aw (Aw (Aw (Aq GH)))).trans (BL h1 _ _))) ?_;exact iG
      refine BU (λb F c hc=>?_) ?_
      ·have h2:b 2=aK:=c 0 _ V V;try dsimp only
       refine Ba (AI V ((Aw (Aw (Aw (Aq FD)))).trans (BL h2 _ _)) V) ?_;exact iG
      refine BU (λb F c hc=>?_) ?_
      ·have h3:b 3=aK:=c 0 _ V V;have h9:b 9=aH:=AZ hc (i:=4) (j:=9) (k:=0) V V V V F;have u9:upd b 4 9=aH:=h9;try dsimp only
       refine KG 5 V (Pu ((Aw (Aw (Aw (Aq FQ)))).trans (BL h3 _ _)) V) k1 (by decide) V (congrArg iZ ((C3 h9 _ _).trans (C3 F _ _))) (by repeat(first|exact Af0|refine GC V ?_|refine GC (N3 V V) ?_|refine GC (N3 V (N3 V V)) ?_|refine GC (N3 V (N3 V (N3 V V))) ?_)) (by repeat(first|exact Afz|refine FH V ?_|refine FH (Auw F V) ?_|refine FH (Auw h9 V) ?_|refine FH (AAo V V) ?_)) ?_;simp only[C3 u9];exact iG
      refine BU (λb F c hc=>?_) ?_
      ·try dsimp only
       refine Ba (AI V FD V) ?_;exact iG
      refine BU (λb F c hc=>?_) ?_
      ·have h5:b 5=aK:=c 0 _ V V;try dsimp only
       refine Ba (Co V ((Aw (Aw (Aw (Aq Fu)))).trans (BL h5 _ _))) ?_;exact iG
      refine BU (λb F c hc=>?_) ?_
      ·have h6:b 6=aK:=c 0 _ V V;try dsimp only
       refine Ba (Cw V ((Aw (Aw (Aw (Aq G8)))).trans (BL h6 _ _))) ?_;exact iG
      refine BU (λb F c hc=>?_) ?_
      ·have h7:b 7=aK:=c 0 _ V V;try dsimp only
       refine Ba (AI V ((Aw (Aw (Aw (Aq GY)))).trans (BL h7 _ _)) V) ?_;exact iG
      refine BU (λb F c hc=>?_) ?_
      ·have h4:b 4=aK:=c 0 _ V V;have h8:b 8=aK:=c 1 _ V V;try dsimp only
       refine Kn V ((Aw (Aw (Aw (Aq Gt)))).trans (BL h4 _ _)) (congrArg iZ ((C3 F _ _).trans (SM h4 _ _))) ((Aw (Aw (Aw (Aq (Aq IL))))).trans (BL h8 _ _)) V c2 ?_;exact iG
      refine BU (λb F c hc=>?_) ?_
      ·have h9:b 9=aK:=c 0 _ V V;try dsimp only
       refine Ba (Fq V ((Aw (Aw (Aw (Aq (Aq GH))))).trans (BL h9 _ _)) (congrArg iZ (SM h9 _ _))) ?_;exact iG
      refine BU (λb F c hc=>?_) ?_
      ·try dsimp only
       refine Ba (AX.move V Ac2) ?_;exact iG
      exact Ag9
     refine AN ⟨A2 (.bp (Ko Bf) G 0::A2 (.bp (R3 (.map (iZ m))) () 0::A7 (.lit (.pointer (iZ ⟨g,0,iY⟩))::(Zx g m G)::A80 (A9 (.bp Bf G 0::.bp Bf G 0::.bp Bf G 5::.bs tInt G.cheap::.own 5 0::.bp Bf G 0::.bp Bf G 0::.bp Bf G 0::.bs tInt G.regs::.own 5 (0+1)::.lit (.int .i64 ((G.cheap++G.regs).length:Int))::.lit (.int .i64 0)::A10 (A5 [])))))),[.dead,.res (ER (cE .i64) E m),.dead,.res (Bh g [.lit v]),.res (rowR v 3 tInt l),.row (0+1) 3 tInt (G.cheap++G.regs)]⟩ iG ?_;refine Ah ?_;refine AJ (λk:Nat=>⟨(A2 (.bp (Ko Bf) G 0::A2 (.bp (R3 (.map (iZ m))) () 0::A7 (.lit (.pointer (iZ ⟨g,0,iY⟩))::Zx g m G::A80 (A10 (A8 (.own 5 1::.lit (.int .i64 (L.length:Int))::.lit (.int .i64 (k:Int))::A10 (A5 [])))))))),[.dead,.res (ER (cE .i64) E m),.dead,.res (Bh g [.lit v]),.res (rowR v 3 tInt l),.row 1 3 tInt L]⟩) (λk=>k<=L.length/\∀j y,j < k->L[j]? =iZ y->(getK E y).isSome=aH) (λk=>L.length - k) 0 ⟨iV _,λj y h=>by omega⟩ (by rw[hL];exact AU) ?_;rintro k2 ⟨cq,Y⟩;refine wR ?_;refine Ae λcy ce=>?_
     refine Am V (λac=>?_) (λac=>?_)
     ·have aq:k2 < L.length:=by simpa using ac
      obtain⟨r,O⟩:∃r,L[k2]? =iZ r:=⟨_,dZ aq⟩
      have A:wfB .i64 r=aK:=bx r (fC O);refine Ao ?_;refine ce _ ?_;refine nT ?_;refine Ae λcx cd=>?_
      refine Ah ?_;refine wR ?_;refine wR (hx:=by((repeat(first|refine sA ?_ (AI V V V)|refine sA ?_ (ID 1 V Tryz.underlying51 Ea V V A V)|refine sA ?_|refine AR ?_|refine sAG ?_|refine Bt ?_));exact C1 V)) ?_;refine wR ?_;refine Am V (λab=>?_) (λab=>?_)
      ·have I:LP G E=iZ r:=by unfold LP;rw[ar,<-hL];exact Ahm O ab Y
       obtain⟨bc,Z⟩:=hI.take I;refine wRK λcw bi=>?_
       refine sA (hq:=AX.move V (Aq G8)) (ht:=(Av (Av (Av (Au (Au (Au Hh))))))) (hk:=?_);refine sA (hq:=AX.move V (Aq (Aq Gt))) (ht:=(Av (Av (Av (Au (Au (Au GR))))))) (hk:=?_);refine GN V (DP 4 1 (by decide) V V) ?_;refine GN V (DP 3 4 (by decide) V V) ?_;refine AH V (IJ (i:=3) V V (Aw (Aw (Aw (Aq (Aq (Aq G8)))))) (To G g m v l E r A hI.asc am bg (B.near r) (B.nearl r)) (λ_=>rfl) V V λv'=>?_);refine DS ?_ (Av (Av (Av (Av GS))));refine Ax (bi _ ?_);refine AN _ (Fp 3 4 (by decide) V V) ?_;refine AN _ (Fp 4 1 (by decide) V V) ?_;refine nT ?_;refine AA ?_;repeat(first|refine BF ?_|refine exO (by decide) ?_|refine asE ?_)
       refine exN ?_;repeat(first|refine abN ?_|refine asN ?_)
       exact As ⟨(KJ G E r,l++[r],v'),bc,Z,Ky (.cons (.cons (.cons (.cons (.cons (gT _))))))⟩
      ·have X:(getK E r).isSome=aH:=ab;refine Ao ?_;refine cd _ ?_;refine nT ?_;refine wRE ?_;refine As ⟨k2+1,⟨aq,λj y hj hy=>?_⟩,by omega,AU⟩;rcases iQ j k2 with hj'|hj'
       ·exact Y j y hj' hy
       ·obtain rfl:j=k2:=by omega
        rw[O]at hy;cases hy;exact X
     ·exfalso;obtain rfl:k2=L.length:=by have:¬k2 < L.length:=(by simpa using ac);omega
      obtain⟨x,hx⟩:=Ak4 bv;obtain⟨j,hj⟩:=fA.1 (show x∈L by rw[hL];exact eW _ (hI.inr x hx));have:=Y j x (eB.1 hj).1 hj;rw[hx]at this;cases this
   ·have hz:E.length=0:=by have:¬(0:Int) < (E.length:Int):=(by simpa using af);omega
    have bh:l=C5 G out:=by have:=hI.eq;rw[hz]at this;exact this
    refine AA ?_;refine cj _ ?_;refine nT ?_;refine wR (hx:=by((repeat(first|refine sA ?_ (Bc (i:=3) (g:=g) V V V V V)|refine sA ?_|refine AR ?_|refine sAG ?_|refine Bt ?_));exact C1 V)) (hk:=?_);rw[<-bh];exact Az ⟨.inr V,Ana 4 V⟩
end Mu
namespace Mu
end Mu
namespace Mu
open Go Go.RowKit Go.Proofs
variable{k:Nat}{l:List iF}{p:iF->Bool}{x:iF}
theorem Aot{h:List gD}{a b:Bool}(e:a=b)(c:mkD h= []:=by rfl):Fin h (.lit (.bool a)) (.lit (.bool b)):=by subst e;exact gU V c
def Are(p:iF->Bool)(l:List iF):Int:=match l.findIdx? p with|some i=>(i:Int)|none=> -1
theorem Ard(h:∀x∈l.take k,p x=aH)(hx:l[k]? =iZ x)(c:p x=aK):Are p l=(k:Int):=by
 have:l.findIdx? p=iZ k:=by
  rw[dP];obtain⟨hk,e⟩:=eB.1 hx;refine⟨hk,by rw[e];exact c,λj u=>?_⟩;have:=h (l[j]'(by omega)) (by
   rw[fH];exact⟨j,by omega,rfl⟩)
  rw[this];simp
 unfold Are;rw[this]
theorem Ag1(h:∀x∈l,p x=aH):Are p l= -1:=by
 have:l.findIdx? p=iY:=by
  rw[dO];exact h
 unfold Are;rw[this]
theorem Zw(h:∀x∈l.take k,p x=aH)(hx:l[k]? =iZ x)(c:p x=aH):∀y∈l.take (k+1),p y=aH:=by
 rw[fR,hx];intro y hy;rcases eU.1 hy with hy|hy
 ·exact h y hy
 ·rw[fG.1 hy];exact c
theorem Alr:aL (Are p l≥0)=l.any p:=by
 unfold Are;cases h:l.findIdx? p with
 |none=>
  rw[dO]at h;have:l.any p=aH:=by rw[List.any_eq_false];intro x hx;rw[h x hx];simp
  rw[this];rfl
 |some i=>
  rw[dP]at h;obtain⟨hi,c,_⟩:=h;have:l.any p=aK:=dA.2 ⟨_,List.getElem_mem hi,c⟩;rw[this];exact decide_eq_true (by simp only;omega)
theorem Arb(l:List iF)(U:l.length<=2147483648)(f:aP)(c:List AV)(H:Bl c=aK)(p:iF->Bool)(J:∀x∈l,Fn bH f (.agg (CK x)::c) (.lit (.bool (p x)))):Fn bH 76 [.bs CI l,.fn f c] (.lit (.int .i64 (Are p l))):=by
 have L:gI (.fn f c)=aK:=by unfold gI;exact H
 refine AT Tryz.func76 V (by kernel_rfl) V Tryz.ntmps76 λC W=>?_
 simp only[Nat.reduceAdd,Nat.reduceSub,zaa];refine wR ?_;refine Ae λZ h2=>?_
 refine wR ?_;refine Ah ?_;refine AJ (λk:Nat=>⟨(.bs CI l::.fn f c::A5 (.lit (.int .i64 (l.length:Int))::.lit (.int .i64 (k:Int))::A10 [])),[]⟩) (λk=>k<=l.length/\∀x∈l.take k,p x=aH) (λk=>l.length - k) 0 ⟨iV _,by simp⟩ (AU) ?_;rintro k ⟨hk,z⟩;refine wR ?_;refine Ae λY O=>?_
 refine Am V (λA=>?_) (λA=>?_)
 ·have B:k < l.length:=by simpa using A
  obtain⟨x,hx⟩:∃x,l[k]? =iZ x:=⟨_,dZ B⟩
  have I:=J x (fC hx);refine Ao ?_;refine O _ ?_;refine nT ?_;refine Ae λX N=>?_
  refine Ah ?_;refine wR ?_;refine wR ?_;refine Am V (λu=>?_) (λu=>?_)
  ·refine wR ?_;rw[Ard z hx u];exact Az ⟨.inr V,gU V⟩
  ·refine Ao ?_;refine N _ ?_;refine nT ?_;refine wRE ?_;refine As ⟨k+1,⟨by omega,Zw z hx u⟩,by omega,AU⟩
 ·refine AA ?_;refine h2 _ ?_;refine nT ?_;refine wR ?_;have F:k=l.length:=by have:¬k < l.length:=(by simpa using A);omega
  rw[Ag1 (by rw[F,fV]at z;exact z)];exact Az ⟨.inr V,gU V⟩
theorem Ar4(l:List iF)(B:l.length<=2147483648)(f:aP)(c:List AV)(u:Bl c=aK)(p:iF->Bool)(A:∀x∈l,Fn bH f (.agg (CK x)::c) (.lit (.bool (p x)))):Fn bH 40 [.bs CI l,.fn f c] (.lit (.bool (l.any p))):=by
 have z:gI (.fn f c)=aK:=by unfold gI;exact u
 have F:=Arb l B f c u p A;refine AT Tryz.func40 V (by kernel_rfl) V Tryz.ntmps40 λC H=>?_
 simp only[Nat.reduceAdd,Nat.reduceSub,zaa];refine wR ?_;refine wR (hx:=by((repeat(first|refine sA ?_ (AX.call V F V (by show(true&&(AV.cl (.fn f c)&&true))=true;rw[z];rfl) V)|refine sA ?_|refine AR ?_|refine sAG ?_|refine Bt ?_));exact C1 V)) (hk:=?_);exact Az ⟨.inr V,Aot Alr⟩
noncomputable section
end
noncomputable section
end
end Mu
namespace Mu
open Go Go.RowKit Go.ChangeShapes Go.WideShapes Go.Proofs
section
variable{P:aW}{C:Ctx}{t:List AV}{h:List gD}{o:aU}{K:St->Prop}
end
end Mu
namespace Mu
open Go Go.RowKit Go.Proofs
variable{i:Nat}{l:List AV}{r:Bool}
section
variable{P:aW}{C:Ctx}{o:aU}{t:List AV}{h:List gD}
end
noncomputable section
end
def NF(c:Int)(u:gY):M Bool:=iA ((aL (c < 0))||(aL (c≥u.regs)))
theorem QJ{c:Int}{u:gY}(H:(NF c u).to r):Fn bH 31 [.lit (.int .i64 c),.bp Dg u 0] (.lit (.bool r)):=by
 delta NF at H;try dsimp only at H
 refine AT Tryz.func31 V (by kernel_rfl) V Tryz.ntmps31 λC z=>?_
 simp only[Nat.reduceAdd,Nat.reduceSub,zaa];refine wS (sT (wN ?_));refine wS (sT (sT (sT ?_)));refine sGf V ?_;refine sGf V ?_;refine sGf V ?_;refine sGf V (sT (sT (wN ?_)));obtain rfl:=Af.1 H;exact Az ⟨.inr V,gU V⟩
def KB(x:iF)(c:Plan):M Bool:=g8 (Cd c.at_ x.a) (g8 (Cd c.at_ x.b) (iA ((ixD c.at_ x.a) ==(ixD c.at_ x.b))))
theorem N8{x:iF}{c:Plan}(H:(KB x c).to r):Fn bH 42 [.agg (CK x),.bp Tp c 0] (.lit (.bool r)):=by
 delta KB at H;try dsimp only at H
 refine AT Tryz.func42 V (by kernel_rfl) V Tryz.ntmps42 λC A=>?_
 simp only[Nat.reduceAdd,Nat.reduceSub,zaa];refine wS (sB (sT (wN ?_)));obtain⟨z,H⟩:=Aj.1 H;obtain⟨u,H⟩:=Aj.1 H;refine dS 14 (hq:=?_);refine qT (qT (qT (qT (qX z (qT (qT (qT (qT (qT (qX u (qT ?_)))))))))));refine qT (qT (qN (wN ?_)));obtain rfl:=Af.1 H;exact Az ⟨.inr V,gU V⟩
theorem Aio(l:List Int)(B:l.length<=2147483648)(f:aP)(c:List AV)(u:Bl c=aK)(p:Int->Bool)(A:∀x∈l,Fn bH f (.lit (.int .i64 x)::c) (.lit (.bool (p x)))):Fn bH 29 [.bs tInt l,.fn f c] (.lit (.bool (l.any p))):=by
 have z:gI (.fn f c)=aK:=by unfold gI;exact u
 have F:=Ag0 l B f c u p A;refine AT Tryz.func29 V (by kernel_rfl) V Tryz.ntmps29 λC H=>?_
 simp only[Nat.reduceAdd,Nat.reduceSub,zaa];refine wR ?_;refine wR (hx:=by((repeat(first|refine sA ?_ (AX.call V F V (by show(true&&(AV.cl (.fn f c)&&true))=true;rw[z];rfl) V)|refine sA ?_|refine AR ?_|refine sAG ?_|refine Bt ?_));exact C1 V)) (hk:=?_);exact Az ⟨.inr V,Aot Alq⟩
theorem Ale{h:List gD}{f:gY}(hi:h[i]? =iZ (.box (An f)))(u:okFunc f):Nj h (.ptr i 0) (.bp Dg f 0):=
 .of (.box hi V λ_ _ _ _ _ _ c=>Sf u c)
theorem Yy{h:List gD}{p:Plan}(hi:h[i]? =iZ (.box (BS p)))(u:okPlan p):Nj h (.ptr i 0) (.bp Tp p 0):=
 .of (.box hi V λ_ _ _ _ _ _ c=>Akn u c)
def Ak3(f:gY):Bool:=(((aL (f.regs < 0)||decide (f.regs > 4096))||decide (f.args < 0))||decide (f.args > (if(6:Int) < f.regs then 6 else f.regs)))
def Ht(f:gY):Bool:=!Ak3 f&&!((regsB f).any λr=>decide (r < 0)||decide (r≥f.regs))
theorem Af9(f:gY)(z:FineF f)(A:(regsB f).length<=2147483648):Fn bH 11 [.agg (An f)] (.lit (.bool (Ht f))):=by
 have F:=LI f z.ok z.small z.all;have u:=Aio (regsB f) A 31 [.bp Dg f 0] V (λr=>decide (r < 0)||decide (r≥f.regs)) λr _=>QJ (Al _)
 refine AT Tryz.func11 V (by kernel_rfl) V Tryz.ntmps11 λC B=>?_
 simp only[Nat.reduceAdd,Nat.reduceSub,zaa];refine wR ?_;refine Ae λH h2=>?_
 refine wR ?_;refine Am V (λc=>?_) (λc=>?_)
 ·refine wR ?_;have e:Ht f=aH:=by unfold Ht;rw[show Ak3 f=aK from c];rfl
  rw[e];exact Az ⟨.inr V,gU V⟩
 ·refine Ao ?_;refine h2 _ ?_;refine nT ?_;refine wR (hx:=by((repeat(first|refine sA (hq:=CR V u (.cons (.cl V) (.cons (.fn (.cons (Ale V z.ok) .nil)) .nil))) (hk:=?_)|refine sA ?_|refine AR ?_|refine sAG ?_|refine Bt ?_));exact C1 V)) (hk:=?_);have e:Ht f= !((regsB f).any λr=>decide (r < 0)||decide (r≥f.regs)):=by unfold Ht;rw[show Ak3 f=aH from c];rfl
  rw[e];exact Az ⟨.inr V,gU V⟩
inductive Ones(h:List ABlk):List AV->Prop
 |nil:Ones h []
 |cons {x:AV} {l:List AV} (hx:One h x) (hl:Ones h l):Ones h (x::l)
theorem Ones.mem{h:List gD}(H:Ones h l):∀x∈l,One h x:=by
 induction H with
 |nil=>intro x hx;cases hx
 |cons hx _ c=>
  intro y hy;rcases eX.1 hy with rfl|hy
  ·exact hx
  ·exact c y hy
theorem RO{h:List gD}(H:Ones h l):Qd h (.agg l) l:=Qd.agg H.mem
theorem Ach{P:aW}{C:Ctx}{t:List AV}{h:List gD}{o:aU}{ty:cB}{c:Array (Nat×aV)}{zs:List cC}{z:List (Nat×Nat)}{rs:List AV}[ZC P ty zs](F:o.op= .build ty c)(u:EB P ty=iZ z)
 (A:putCells z (zs.map .lit) (c.toList.map λp=>(p.1,evA t p.2))=iZ rs)(h1:Ones h (c.toList.map λp=>evA t p.2)):AX P C t h o (.agg rs):=
 AX.build F ZC.eq u A λp B=>h1.mem _ (fB.2 ⟨p,B,rfl⟩)
end Mu
namespace Mu
open Go Go.RowKit Go.Proofs Go.Maps
def Gf(k:Int)(c:List (Int×Int))(u:Int):M Bool:=g8 (wfB .i64 k) (iA (((getK c k).isSome)&&(u ==((getK c k).getD 0))))
theorem JI{k:Int}{u:List (Int×Int)}{c:Int}{r:Bool}(H:(Gf k u c).to r):Fn bH 95 [.lit (.int .i64 k),.bp tMapI u 0,.bp tInt c 0] (.lit (.bool r)):=by
 delta Gf at H;try dsimp only at H
 refine AT Tryz.func95 V (by kernel_rfl) V Tryz.ntmps95 λC z=>?_
 simp only[Nat.reduceAdd,Nat.reduceSub,zaa];refine wS (sT (wN ?_));obtain⟨c,H⟩:=Aj.1 H;refine wS (sT (sT ?_));refine sA ?_ (KD V bS (Aq IL) (Aq GH) c) (Au KP);refine sT (sT (sT (sT (sT (wN ?_)))));refine wS (sT (sT ?_));refine sGt V ?_;refine sGt V ?_;refine sGt V (sT (sT (wN ?_)));obtain rfl:=Af.1 H;exact Az ⟨.inr V,gU V⟩
def freeP(at_:List (Int×Int))(p k:Int):Bool:=((getK at_ k).isSome)&&(p ==((getK at_ k).getD 0))
def Gu(G:gP)(at_:List (Int×Int))(r p:Int):Bool:=!((getK G.near r).getD []).any (freeP at_ p)
theorem SD(G:gP)(at_:List (Int×Int))(r p:Int)(u:Ci r)(z:Ci p)(A:∀k∈(getK G.near r).getD [],Ci k)(B:((getK G.near r).getD []).length<=2147483648):Fn bH 55 [.bp Bf G 0,.lit (.int .i64 r),.lit (.int .i64 p),.tv tMapI at_] (.lit (.bool (Gu G at_ r p))):=by
 have c:=Aio ((getK G.near r).getD []) B 95 [.bp tMapI at_ 0,.bp tInt p 0] V (freeP at_ p) λk hk=>JI (Ag (A k hk) (Al _))
 refine AT Tryz.func55 V (by kernel_rfl) V Tryz.ntmps55 λC F=>?_
 simp only[Nat.reduceAdd,Nat.reduceSub,zaa];refine wR (hx:=by((repeat(first|(refine AH V (AOp.boxI 0 V V (Qd.one (One.lit V)).weak ?_);refine sNt ?_)|(refine AH V (AOp.boxI 1 V V (Qd.one (One.tv J4)).weak ?_);refine sNt ?_)|refine sA ?_|refine AR ?_|refine sAG ?_|refine Bt ?_));exact C1 V)) (hk:=?_);refine wR (hx:=by((repeat(first|refine sA ?_ (Co V V)|refine sA ?_ (Cs V Tryz.underlying77 V V u)|refine sA (hq:=CR V c (.cons (.cl V) (.cons (.fn (.cons (RP V V .tv) (.cons (RP V V (Nj.int z)) .nil))) .nil))) (hk:=?_)|refine sA ?_|refine AR ?_|refine sAG ?_|refine Bt ?_));exact C1 V)) (hk:=?_);exact Az ⟨.inr V,gU V⟩
def Fa(f:gY)(c:List (Int×Int)):(Int×(List Int))->M ((Int×(List Int))⊕((List Int))):=λ(x2,l4)=>g9 (aL (x2 < ((fO (cW f.regs) (0:Int)).length:Int))) (gZ (g8 (Cd l4 x2) (g8 (wfB .i64 x2) (g9 ((getK c x2).isSome) (g8 (Cd (l4.set (cW x2) (-1)) x2) (g8 (wfB .i64 ((getK c x2).getD 0)) (iA ((l4.set (cW x2) (-1)).set (cW x2) ((getK c x2).getD 0))))) (iA (l4.set (cW x2) (-1)))))) λu=>iA (.inl (aR.wrap (x2+1),u))) (iA (.inr l4))
def Ix(f:gY)(c:List (Int×Int))(leaf:Bool)(slots:Int):M Plan:=g8 (V3 f.regs 8) (gZ (hZ (Fa f c) (0,fO (cW f.regs) (0:Int))) λu=>iA ⟨leaf,slots,u⟩)
theorem Ml{f:gY}{c:List (Int×Int)}{leaf:Bool}{slots:Int}{r:Plan}(H:(Ix f c leaf slots).to r):Fn bH 27 [.agg (An f),.tv tMapI c,.lit (.bool leaf),.lit (.int .i64 slots)] (.agg (BS r)):=by
 delta Ix at H;try dsimp only at H
 refine Kj Tryz.func27 V (by kernel_rfl) V (by kernel_rfl:RG bH 29=iZ (aK,3)) Tryz.ntmps27 λC hC=>?_
 simp only[Nat.reduceAdd,Nat.reduceSub,zaa];refine wS (sB (sA0 (wN ?_)));obtain⟨c1,H⟩:=Aj.1 H;refine wS (sT (sT (sT (sT ?_))));(refine AH V (Qn 2 V (T:=tInt) (e:=3) (v:=.int .i64 0) (bytes:=8) (0:Int) V (by kernel_rfl) V (λ_ _=>⟨rfl,by decide⟩) V V c1 ?_);refine DS ?_ (Au (Au JX)));refine sA ?_ (Ach (rs:=[.lit (.bool leaf),.lit (.int .i64 slots),.own 2 0]) V Ans V (.cons (iD V) (.cons (iD V) (.cons (iE V) .nil)))) (Au (Au KP));refine sA0 ?_;(refine AH V (CZ V V V (RO (.cons (iD V) (.cons (iD V) (.cons (iE V) .nil)))) V (iL V) ?_);refine DS ?_ QA);refine wN ?_;obtain⟨z5,af,ae⟩:=Ar.1 H;refine Bk (β:=((List Int))×(Nat)) (λI=>z5=I.1) (λI=>⟨A8 (.ptr 1 0::.ptr 3 0::A20 (A10 (A3 []))),[.dead,.box [.lit (.bool aH),.lit (.int .i64 0),.lit (.slice iY 0 0)],.row I.2 3 tInt I.1,.box [.lit (.bool leaf),.lit (.int .i64 slots),.own 2 I.2]]⟩) ?_ ?_
 ·refine wS (sT (sT (sT (sT (wN ?_)))));refine Ah ?_;refine By af (λs5 b5=>⟨.any::.tv tMapI c::A6 (.ptr 1 0::.ptr 3 0::A10 (.any::.lit (.int .i64 ((fO (cW f.regs) (0:Int)).length:Int))::.lit (.int .i64 s5.1)::A20 [])),[.dead,.box [.lit (.bool aH),.lit (.int .i64 0),.lit (.slice iY 0 0)],.row b5 3 tInt s5.2,.box [.lit (.bool leaf),.lit (.int .i64 slots),.own 2 b5]]⟩) 0 (?_) ?_
  ·try dsimp only
   exact leC (gR (gQ (gQ (gQ (gT _)))))
  ·rintro⟨X,l4⟩ Y x5 H ad;try dsimp only
   dsimp only[Fa]at H;refine wS (sT (wN ?_));refine Ae λag aa=>?_
   refine Am V (λB=>?_) (λB=>?_)
   ·have H:=AK B H;refine Ao ?_;refine aa _ ?_;refine nT ?_;obtain⟨W,U,O⟩:=Ar.1 H;refine Bk (β:=((List Int))×(Nat)) (λu=>W=u.1) (λu=>⟨.any::.tv tMapI c::A6 (.ptr 1 0::.ptr 3 0::A10 (.any::.lit (.int .i64 ((fO (cW f.regs) (0:Int)).length:Int))::.lit (.int .i64 X)::A6 (.tup [.lit (.int .i64 ((getK c X).getD 0)),.lit (.bool ((getK c X).isSome))]::A10 (A3 [])))),[.dead,.box [.lit (.bool aH),.lit (.int .i64 0),.lit (.slice iY 0 0)],.row u.2 3 tInt u.1,.box [.lit (.bool leaf),.lit (.int .i64 slots),.own 2 u.2]]⟩) ?_ ?_
    ·have H:=U;refine Ah ?_;refine wS (sT (sT (wN ?_)));obtain⟨N,H⟩:=Aj.1 H;refine wS (sT (sT (sT ?_)));refine sA ?_ (BO V (Aq (Aq (Aq FD))) V (Aq (Aq (Aq FQ))) V N) (Au (Au (Au JW)));(refine AH V (CY V V V (BN N) (gX (FA (by decide))) V ?_);refine DS ?_ QA);refine wN ?_;obtain⟨ac,H⟩:=Aj.1 H;refine wS (sT (sT ?_));refine sA ?_ (KD V bS (Aq (Aq (Aq G8))) (Aq (Aq (Aq GY))) ac) (Av GS);refine sT (sT (sT (sT (sT (wN ?_)))));refine wS (sT (wN ?_));refine Am V (λz=>?_) (λz=>?_)
     ·have H:=AK z H;obtain⟨L,H⟩:=Aj.1 H;obtain⟨ab,H⟩:=Aj.1 H;refine wSE (sT (sT (sT (sT ?_))));refine sA ?_ (BO V (Aw Fu) V (Aw G8) V L) (Av (Au GS));(refine AH V (CY V V V (BN L) (gX ab) V ?_);refine DS ?_ QA);refine wN ?_;have F:=Af.1 H;repeat(first|refine abN ?_|refine asN ?_)
      refine As ⟨(_,Y),F.symm,?_⟩;try dsimp only
      exact AU
     ·have H:=AL z H;refine Ao ?_;have F:=Af.1 H;repeat(first|refine abN ?_|refine asN ?_)
      refine As ⟨(_,Y),F.symm,?_⟩;try dsimp only
      exact AU
    ·rintro⟨ah,Z⟩ A;try dsimp only at A
     have H:=O;rw[A]at H;try dsimp only
     refine wSE (sT (sT (wN ?_)));have e5:=Af.1 H;repeat(first|refine abN ?_|refine asN ?_)
     refine As ⟨_,Z,e5.symm,?_⟩;try dsimp only
     exact AU
   ·have H:=AL B H;refine AA ?_;repeat(first|refine BF ?_|refine exO (by decide) ?_|refine asE ?_)
    refine exN ?_;have e5:=ad _ (Af.1 H).symm;repeat(first|refine abN ?_|refine asN ?_)
    refine As ⟨(_,Y),e5.symm,?_⟩;try dsimp only
    exact AU
 ·rintro⟨l7,v6⟩ J;try dsimp only at J
  have H:=ae;rw[J]at H;try dsimp only
  refine wS (sT ?_);(refine AH V (CZ V V V (RO (.cons (iD V) (.cons (iD V) (.cons (iE V) .nil)))) V (iL V) ?_);refine DS ?_ QA);refine wN ?_;obtain rfl:=Af.1 H;refine AN _ (RK hC 2 V (by(simp only[fzH,Du,gJ,gE,eR,eT,Nat.reduceEqDiff,zam,zaf];first|done|exact V)) (by(simp only[fzH,Du,gJ,gE,eR,eT,Nat.reduceEqDiff,zam,zaf];first|done|exact V))) ?_;exact Az ⟨⟨.inr V,1,_,rfl,rfl,gU V⟩,λi cells e1 e2=>by cases e1;cases e2;rfl⟩
end Mu
namespace Mu
open Go Go.RowKit
variable{N:Nat}{gf:aP}{lb:List AV}{Φ:Res->Prop}
def Asb(P:aW)(gf:aP)(lb:List AV)(Φ:Res->Prop)(encs:Nat->List AV)(N stop:Nat):Prop:=
 Ch P gf=aK/\∀(w:cF) (S:Nat->Prop) (ι:Type) (l:Nat) (c:Nat->ι->Res) (u:ι->Res),(∀k p,(c k p).mrk= [])->(∀p,(u p).mrk= [])->(∀k p,k < N->k < stop->P6 P l S w.heap.size (c k p) (encs k) aK (c (k+1)))->(stop < N->∀p,P6 P l S w.heap.size (c stop p) (encs stop) aH u)->
  ∀p vs,(∀k,S k->k < w.heap.size/\¬(c 0 p).F k)->(∀g,(c 0 p).F g->g < w.heap.size)->(c 0 p).R w S->Φ (c 0 p)->Ak w S [] ψ0 lb vs->
   aN aO 3 P gf (#[cD (.yield l) #[] #[]]++vs.toArray) w λe w'=>(∃v,e= .returned v)/\Gr (λg=>(c 0 p).F g) w w'/\∃q S',(∀k,S k->S' k)/\(if stop < N then u q else c N q).R w' S'/\(∀k,S' k->k < w'.heap.size/\¬(if stop < N then u q else c N q).F k)/\(∀k,S' k->S k\/w.heap.size<=k)/\∀g,(if stop < N then u q else c N q).F g->((c 0 p).F g\/w.heap.size<=g)/\g < w'.heap.size
theorem VO{P:aW}{fn:Go.Func}{c:Code}{encs:Nat->List AV}{stop n:Nat}(I:P.funcs[gf]? =iZ fn)(hb:fn.body=iZ c)(hE:Ch P gf=aK)(A:fn.results= #[])(X:fn.ntmps=n)(ac:Bl lb=aK)
 (h:∀(C:Ctx),C.rd=iY->∀(ι:Type) (l:Nat) (u:Nat->ι->Res) (z:ι->Res),(∀k p,(u k p).mrk= [])->(∀p,(z p).mrk= [])->(∀k p,k < N->k < stop->P6 P l C.S0 C.w0.heap.size (u k p) (encs k) aK (u (k+1)))->(stop < N->∀p,P6 P l C.S0 C.w0.heap.size (u stop p) (encs stop) aH z)->∀p,Φ (u 0 p)->(∀k,k < C.w0.heap.size->C.N k\/(u 0 p).F k)->
  Awp P C c (Asa (λq=>if stop < N then z q else u N q)) ⟨(.lit (.func (.yield l) #[] #[])::lb)++fO (n - (lb.length+1)) (.lit undef),[.res (u 0 p)]⟩):Asb P gf lb Φ encs N stop:=by
 refine⟨hE,λw S ι l u z hm Y hY ad p vs hS hF hR L F=>callsIn_of_wp I hb trivial ?_⟩;rw[X];let N0:Nat->Prop:=λk=>k < w.heap.size/\¬(u 0 p).F k
 have hH:HRel ⟨w,S,N0,iY⟩ [.res (u 0 p)] S ψ0 w:=by
  refine⟨Kp.refl _ _,λk hk=>hk.1,λk hk=>(hS k hk).1,λ_ h=>h,λ_ h=>.inl h,λi b hi=>?_,λi j ab hi hj g h1 h2=>?_⟩
  ·rcases i with _|i
   ·have:b= .res (u 0 p):=by simpa using hi.symm
    subst this;exact⟨λg hg=>⟨λX=>X.2 hg,λhs=>(hS g hs).2 hg,hF g hg⟩,hR⟩
   ·simp at hi
  ·rcases i with _|i
   ·rcases j with _|j
    ·exact ab V
    ·simp[gF]at hj
   ·simp[gF]at hi
 have O:vs.length=lb.length:=BB F;have U:St.rel ⟨w,S,N0,iY⟩ ⟨(.lit (.func (.yield l) #[] #[])::lb)++fO (n - (lb.length+1)) (.lit undef),[.res (u 0 p)]⟩ {tmps:=(#[cD (.yield l) #[] #[]]++vs.toArray)++aD (n - (#[cD (.yield l) #[] #[]]++vs.toArray).size) undef,defers:=[]} w:=by
  refine⟨?_,S,ψ0,hH,?_⟩
  ·show []=mkD _;simp[mkD,gG,hm 0 p]
  ·have e:((#[cD (.yield l) #[] #[]]++vs.toArray)++aD (n - (#[cD (.yield l) #[] #[]]++vs.toArray).size) undef).toList=(cD (.yield l) #[] #[]::vs)++fO (n - (lb.length+1)) undef:=by
    simp[Nat.add_comm 1 vs.length,O]
   rw[e,show fO (n - (lb.length+1)) (AV.lit undef)=(fO (n - (lb.length+1)) undef).map AV.lit by simp];refine BP ?_ (F4 _);unfold Ak;exact⟨_,_,rfl,by unfold gK;rfl,Bn _ _ ac F⟩
 have hw:=h ⟨w,S,N0,iY⟩ V ι l u z hm Y hY ad p L (λk hk=>(Classical.em ((u 0 p).F k)).elim .inr λI=>.inl ⟨hk,I⟩) _ w U;refine wpIn_mono (Al0 (m:=3) hw) ?_;rintro e a' w' ⟨s,⟨he,q,h0,Z⟩,hd,S1,ψ,H,hl⟩;rw[Z]at hd;have hq:=H.blk 0 _ h0;obtain⟨JF,J⟩:∃JF:ι->Res,JF=λq=>if stop < N then z q else u N q:=⟨_,rfl⟩
 rw[<-J]at hq;have B:(∃v,Ending.returned (.tuple #[])= .returned v)/\Gr (λg=>(u 0 p).F g) w w'/\∃q S',(∀k,S k->S' k)/\(if stop < N then z q else u N q).R w' S'/\(∀k,S' k->k < w'.heap.size/\¬(if stop < N then z q else u N q).F k)/\(∀k,S' k->S k\/w.heap.size<=k)/\∀g,(if stop < N then z q else u N q).F g->((u 0 p).F g\/w.heap.size<=g)/\g < w'.heap.size:=by
  refine⟨⟨_,rfl⟩,⟨H.bel.os,H.bel.tape,H.bel.output,H.bel.size,λk hk W=>H.bel.block k ⟨hk,W⟩⟩,q,S1,H.sub,?_⟩;rw[show(if stop < N then z q else u N q)=JF q by rw[J]];refine⟨hq.2,λk hk=>⟨H.lt k hk,λI=>(hq.1 k I).2.1 hk⟩,H.new,λg hg=>⟨?_,(hq.1 g hg).2.2⟩⟩;have h1:=(hq.1 g hg).1;by_cases aa:g < w.heap.size
  ·by_cases h2:(u 0 p).F g
   ·exact .inl h2
   ·exact absurd ⟨aa,h2⟩ h1
  ·exact .inr (by show w.heap.size<=g;omega)
 rcases he with rfl|rfl
 ·exact⟨hd,_,results_none A _ _ _,B⟩
 ·exact⟨hd,_,results_none A _ _ _,B⟩
theorem Aif{S u:Nat->Prop}{w:cF}{c:Loop}{hk:List gD}{R:Res}{Φ:cF->Prop}(j:Nat)(z:hk[j]? =iZ (.res R))(A:∀W T,R.R W T->Φ W)(p:Ajp):∀W T,(Ams 0 S u w c hk p).R W T->Φ W:=λW T B=>by
 obtain⟨_,_,_,_,H,_⟩:=(show BetY 0 S u w c hk p.1 p.2.1 p.2.2 W T from B)
 exact A W _ (H.blk j _ z).2
section
variable{P:aW}
theorem Acp{C:Ctx}{g:aV}{ps:Array Tmp}{assign body:Code}{Q:Exit->St->Prop}{t:List AV}{h:List gD}{stop:Nat}{encs:Nat->List AV}(xid:Nat)(σ:Nat->List gD)(τ:List gD)
 (hin:NU C)(hg:evA t g= .fn gf lb)(hcl:Bl lb=aK)(hmh:mkD h= [])
 (h0:Drops h (σ 0))(hmσ:∀k,mkD (σ k)= [])(hmτ:mkD τ= [])(ht:Bl t=aK)(hes:∀k,Bl (encs k)=aK)(hps:∀k,(encs k).length=ps.size)
 (hit:Asb P gf lb Φ encs N stop)(hΦ:∀S own0 w rec_ p,Φ (Ams 0 S own0 w rec_ (σ 0) p))
 (hround:∀k,k < N->k < stop->∀C':Ctx,NU C'->Awp P C' assign (Ku (Hi P body iY (λ_:Unit=>σ (k+1))) (λ_ _=>False)) ⟨Nv t ps.toList (encs k),σ k⟩)
 (hstop:stop < N->∀C':Ctx,NU C'->Awp P C' assign (Ku (Hi P body (iZ xid) (λ_:Unit=>τ)) (λ_ _=>False)) ⟨Nv t ps.toList (encs stop),σ stop⟩)
 (hdone:¬stop < N->Q .normal ⟨t,σ N⟩)(hleft:stop < N->Q (.exit xid) ⟨t,τ⟩):Awp P C (.rangeFunc g ps assign body) Q ⟨t,h⟩:=λa w ⟨hd,S,ψ,H,hl⟩=>by
 obtain⟨l0,r0,hrd,hNl0,hl00⟩:=hin;have hl0:w.heap[l0]? =iZ (.loop r0):=(H.bel.block l0 hNl0).trans hl00;rw[hrd];have H0:=H.cut h0.cut h0.bd;have hgv:=BA hl g;rw[hg]at hgv;unfold gK at hgv;obtain⟨vc,hgv,hvc⟩:=hgv;have hvc:Ak w S [] ψ0 lb vc:=Bn _ _ hcl hvc;have hlit:Ak w S [] ψ0 t a.tmps.toList:=Bn _ _ ht hl;have hdn:a.defers= []:=hd.trans hmh;obtain⟨own0,hown0⟩:∃o,o=owns (σ 0) ψ:=⟨_,rfl⟩
 have ho0:∀g,own0 g->g < w.heap.size:=λg hg=>by rw[hown0]at hg;exact(H0.own_lt hg).2.1
 have hSo:∀g,S g->¬own0 g:=λg hg ho=>by rw[hown0]at ho;exact(H0.own_lt ho).2.2 hg
 refine wpIn_rangeFunc λfn _=>?_
 obtain⟨rec_,hrec⟩:∃rec_:LoopState->Option Code->Loop,rec_=λst pe=>{state:=st,pending:=pe,fn,tmps:=a.tmps,params:=ps,assign,body,defers:=r0.defers}:=⟨_,rfl⟩
 have hst:∀x z y,({rec_ x z with state:=y}:Loop)=rec_ y z:=λx z y=>by rw[hrec]
 have hrst:∀z,(rec_ .ready z).state= .ready:=λz=>by rw[hrec]
 have hen:∀x z y u,({rec_ x z with state:=y,pending:=u}:Loop)=rec_ y u:=λx z y u=>by rw[hrec]
 obtain⟨W1,hW1⟩:∃W1,W1=w.alloc (.loop (rec_ .ready iY)):=⟨_,rfl⟩
 have hW1s:W1.heap.size=w.heap.size+1:=by rw[hW1];simp
 have hL1:W1.heap[w.heap.size]? =iZ (.loop (rec_ .ready iY)):=by rw[hW1];exact cP w _
 have hb1:Below w.heap.size w W1:=by rw[hW1];exact(bY _ w).alloc (iN _) _
 have hJ0:BetY 0 S own0 w (rec_ .ready iY) (σ 0) S ψ (λ_=>False) W1 S:=by
  refine⟨hL1,λ_ h=>absurd h (Nat.not_lt_zero _),by omega,λg hg=>hb1.block g (H.lt g hg),?_,λ_ h=>h,λ_ h=>.inl h,λg hg=>.inl (by rw[hown0];exact hg),λ_ h=>.inr h⟩;exact H0.re (λk hk=>hb1.block k (H.lt k hk)) (λk hk=>hb1.block k (H0.own_lt hk).2.1) _ (λ_ h=>h.elim) iY
 have rnd:∀(k:Nat) (jump:Option Nat) (h':List gD),(∀C':Ctx,NU C'->Awp P C' assign (Ku (Hi P body jump (λ_:Unit=>h')) (λ_ _=>False)) ⟨Nv t ps.toList (encs k),σ k⟩)->∀p:Unit×Ajp,
  P6 P w.heap.size S W1.heap.size (Ams 0 S own0 w (rec_ .ready iY) (σ k) p.2) (encs k) jump.isNone (λp:Unit×Ajp=>Ams 0 S own0 w (rec_ (if jump.isNone then .ready else .done) (jump.map Code.exit)) h' p.2):=by
  intro k jump h' hA p W SI vs hI1 hI2 hI3 hFlt hB hev;have hB:BetY 0 S own0 w (rec_ .ready iY) (σ k) p.2.1 p.2.2.1 p.2.2.2 W SI:=hB;have hvl:vs.length=ps.size:=by rw[BB hev,hps]
  have hy:=run_yield (P:=P) (args:=vs.toArray) hB.loop (by rw[hrec];simpa using hvl);have hR:=X9 (J:=Unit) (d:=0) (P:=P) (fn:=fn) (ps:=ps) (tmps:=a.tmps) (body:=body) (p:=p.2) jump hst hrst hen ho0 H.lt ht (hes k) hlit hev (hmσ k) hI1 (λg hg=>by have:=hI2 g hg;rw[hW1s]at this;exact this) hI3 hB hA;have e1:((rec_ .ready iY).params.zip vs.toArray).foldl (λtmps (t,a)=>tmps.setIfInBounds t a) (rec_ .ready iY).tmps=(ps.toList.zip vs).foldl (λt p=>t.setIfInBounds p.1 p.2) a.tmps:=by
   rw[hrec,<-Array.foldl_toList,Array.toList_zip]
  rw[e1]at hy;rw[show(rec_ .ready iY).fn=fn by rw[hrec],show(rec_ .ready iY).assign=assign by rw[hrec],show(rec_ .ready iY).body=body by rw[hrec]]at hy;exact⟨fn,_,assign,body,hy,hR⟩
 refine⟨w.heap.size,[],W1,{target:=.fn (.func gf) vc.toArray,args:=#[.func (.yield w.heap.size) #[] #[]]},W1,gf,#[.func (.yield w.heap.size) #[] #[]]++vc.toArray,W1,?_,?_,λ_ _=>trivial,?_,λ_=>by omega,?_⟩
 ·rw[hW1,hrec];exact run_enterLoop_inner hl0 _ _ _ _ _
 ·simp only[resolve,hgv];simp[go_sem]
 ·simp[invoke,go_sem,PL hit.1]
 ·have key:=hit.2 W1 S (Unit×Ajp) w.heap.size (λk p=>Ams 0 S own0 w (rec_ .ready iY) (σ k) p.2) (λp=>Ams 0 S own0 w (rec_ .done (iZ (.exit xid))) τ p.2) (λ_ _=>rfl) (λ_=>rfl) ?_ ?_ ((),S,ψ,λ_=>False) vc (λk hk=>⟨by have:=H.lt k hk;omega,?_⟩) (λg hg=>?_) hJ0 (hΦ _ _ _ _ _) (AE (Ext.grow [] ψ0 (λk hk=>hb1.block k (H.lt k hk)) λ_ h=>h) _ _ hvc)
  ·refine(show aN (fnc (iZ l0)) 3 P gf _ W1 _ from key).mono ?_;rintro e W' ⟨⟨v,rfl⟩,hgr,⟨_,q⟩,S',hSS,hJ,hS'lt,hS'new,hFq⟩;have fin:∀(hk:List gD) (rc:Loop),mkD hk= []->rc.state≠.busy->BetY 0 S own0 w rc hk q.1 q.2.1 q.2.2 W' S'->∀(W5:cF) (ob:Obj),W5=W'.putObj w.heap.size ob->St.rel C ⟨t,hk⟩ {a with defers:=[]++a.defers} W5:=by
    intro hk rc hmk _ hJ W5 ob hW5;obtain⟨hlp,_,hsz,hsame,Hk,hs1,hs2,hs3,_⟩:=hJ;have hot:∀g,g≠w.heap.size->W5.heap[g]? =W'.heap[g]?:=λg hg=>by rw[hW5];exact World.putObj_heap_other hg
    have hsz5:W5.heap.size=W'.heap.size:=by rw[hW5];simp
    have hSne:∀g,q.1 g->g≠w.heap.size:=λg hg=>by
     rcases hs2 g hg with h1|h1
     ·have:=H.lt g h1;omega
     ·omega
    have hOne:∀g,owns hk q.2.1 g->g≠w.heap.size:=λg hg=>by
     rcases hs3 g hg with h1|h1
     ·have:=ho0 g h1;omega
     ·omega
    have hkeep:∀g,g < w.heap.size->¬own0 g->W5.heap[g]? =w.heap[g]?:=λg h1 h2=>by
     rw[hot g (by omega),hgr.block g (by omega) ?_,hb1.block g h1];intro h4;have h4:(w.heap.size<=g/\g<=w.heap.size+0)\/owns (σ 0) ψ g\/False:=h4;rcases h4 with h4|h4|h4
     ·omega
     ·exact h2 (by rw[hown0];exact h4)
     ·exact h4
    have hH5:=Hk.re (W':=W5) (λk hk=>hot k (hSne k hk)) (λk hk=>hot k (hOne k hk)) (λ_=>False) (λ_ h=>h.elim) iY;have hkp5:Kp C.N w W5:=⟨by rw[hW5];exact hgr.os.trans hb1.os,by rw[hW5];exact hgr.tape.trans hb1.tape,by rw[hW5];exact hgr.output.trans hb1.output,by omega,λk hk=>hkeep k (iP (H.nlt k hk) H.bel.size) λho=>by rw[hown0]at ho;exact(H0.own_lt ho).1 hk⟩
    have hH6:HRel C hk q.1 q.2.1 W5:=hH5.to (H.bel.trans hkp5) H.nlt (λk hk=>hs1 k (H.sub k hk)) (λk hk=>by
     rcases hs2 k hk with h1|h1
     ·exact H.new k h1
     ·right;have:=H.bel.size;omega) λg hg hn=>by
      rcases hs3 g hg with h1|h1
      ·rw[hown0]at h1;exact(H0.own_lt h1).1 hn
      ·have:=H.nlt g hn;have:=H.bel.size;omega
    refine⟨?_,q.1,q.2.1,hH6,?_⟩
    ·show []++a.defers=mkD hk;rw[hdn,hmk];rfl
    ·exact Bn _ _ ht (AE (Ext.grow [] ψ0 (λk hk=>(hot k (by have:=H.lt k hk;omega)).trans (hsame k hk)) hs1) _ _ hlit)
   by_cases hsN:stop < N
   ·rw[if_pos hsN]at hJ;have hJ:BetY 0 S own0 w (rec_ .done (iZ (.exit xid))) τ q.1 q.2.1 q.2.2 W' S':=hJ;have hend:=run_endLoop (P:=P) hJ.loop (by rw[hrec];simp);rw[show(rec_ .done (iZ (Code.exit xid))).pending=iZ (.exit xid)by rw[hrec]]at hend;refine⟨iZ (.exit xid),_,hend,?_⟩;exact wpIn_exit ⟨⟨t,τ⟩,hleft hsN,fin τ _ hmτ (by rw[hrec];simp) hJ _ _ V⟩
   ·rw[if_neg hsN]at hJ;have hJ:BetY 0 S own0 w (rec_ .ready iY) (σ N) q.1 q.2.1 q.2.2 W' S':=hJ;have hend:=run_endLoop (P:=P) hJ.loop (by rw[hrec];simp);rw[show(rec_ .ready iY).pending=iY by rw[hrec]]at hend;exact⟨iY,_,hend,⟨t,σ N⟩,hdone hsN,fin (σ N) _ (hmσ N) (by rw[hrec];simp) hJ _ _ V⟩
  ·exact λk p hkN hks=>rnd k iY _ (hround k hkN hks) p
  ·exact λhsN p=>rnd stop (iZ xid) _ (hstop hsN) p
  ·intro hf;have hf:(w.heap.size<=k/\k<=w.heap.size+0)\/owns (σ 0) ψ k\/False:=hf;have:=H.lt k hk;rcases hf with hf|hf|hf
   ·omega
   ·exact hSo k hk (by rw[hown0];exact hf)
   ·exact hf
  ·have hg:(w.heap.size<=g/\g<=w.heap.size+0)\/owns (σ 0) ψ g\/False:=hg;rcases hg with hg|hg|hg
   ·omega
   ·have:=(H0.own_lt hg).2.1;omega
   ·exact hg.elim
end
open Go.Proofs
variable{k:Nat}{ll:List (List Int)}{x:List Int}
theorem VD{C:Ctx}{R:Res}(U:∀k,k < C.w0.heap.size->C.N k\/R.F k){t:List AV}{h:List gD}(i j r:Nat){ver:Nat}{e:cB}{α:Type}{T:Ty α}{l:List α}(z:i≠r)(c:h[r]? =iZ (.res R))(hi:h[i]? =iZ (.row ver e T l))(J:t[j]? =iZ (.own i ver)):St.le C ⟨t,h⟩ ⟨t.set j (.bs T l),h.set i .dead⟩:=
 HV i j hi V V J (λS ψ w H k hk=>iM λA=>(U k A).elim ((H.blk i _ hi).lt V k hk).1 λL=>H.dis i r z (by rw[hi];rfl) (by rw[c];rfl) k (by rw[hi];exact hk) (by rw[c];exact L)) λS ψ w v H B=>by
  obtain⟨cells,I,X,F,W⟩:=H.blk i _ hi;unfold gK at B;have u:=(B.2 _ (by rw[hi];rfl)).2 V;unfold gK;rw[u];exact Dh I (λi d O=>T.keepS (F i d O) (λ_ _=>rfl) λk hk=>.inl hk) λq hq=>.inr (AY hq)
theorem Ay0{n m:Nat}(c:n+m < 9223372036854775808):Hy .add .i64 (n:Int) (m:Int)=iZ (.int .i64 ((n+m:Nat):Int)):=by
 unfold Hy;simp only;rw[IntWalk.i64_in _ (by omega)];rfl
theorem Ag8(n:Nat)(J:n<=5000000000):JR bH 116 [.lit (.slice iY 0 0),.lit (.int .i64 (n:Int))] 3 tInt []:=by
 have I:Hy .sub .i64 ((0:Nat):Int) ((0:Nat):Int)=iZ (.int .i64 ((0:Nat):Int)):=rfl;have H:Hy .sub .i64 (n:Int) ((0:Nat):Int)=iZ (.int .i64 (n:Int)):=by
  unfold Hy;simp only;rw[IntWalk.i64_in _ (by omega)];simp
 have B:n<=cT:=by unfold cT;omega
 have A:n * 8<=140737488355328:=by omega
 refine Es Tryz.func116 V (by kernel_rfl) V Tryz.ntmps116 YD λC L=>?_
 simp only[Nat.reduceAdd,Nat.reduceSub,zaa];refine wR ?_;refine Ae λU h2=>?_
 refine wR ?_;refine Am V (λz=>?_) (λz=>?_)
 ·have:=of_decide_eq_true z;omega
 ·refine Ao ?_;refine h2 _ ?_;refine nT ?_;refine Ae λO F=>?_
  refine wR (hx:=by((repeat(first|refine sA ?_ (VK V V)|refine sA ?_|refine AR ?_|refine sAG ?_|refine Bt ?_));exact C1 V)) ?_;refine wR ?_;refine Am V (λu=>?_) (λu=>?_)
  ·have c:0 < n:=by have:=of_decide_eq_true u;omega
   refine wRE (hx:=by((repeat(first|refine sA ?_ (VK V V)|refine sA ?_ (VF V V V)|(refine AH V (Ang (kk:=.i64) (by kernel_rfl) V V V c B A ?_);refine sNt ?_)|(refine AH V (Nm (m:=0) V V V V ⟨_,rfl⟩ (Nat.zero_le _) ?_);refine sNt ?_)|refine sA ?_|refine AR ?_|refine sAG ?_|refine Bt ?_));exact C1 V)) (hk:=?_);refine F _ ?_;refine nT ?_;refine wR ?_;exact Az ⟨.inr V,rfl,0,1,rfl,rfl⟩
  ·refine Ao ?_;refine F _ ?_;refine nT ?_;refine wR ?_;refine AN _ (CG 4 3 tInt V (by decide)) ?_;exact Az ⟨.inr V,rfl,0,0,rfl,rfl⟩
def Ks(ll:List (List Int)):Nat:=(ll.map eH).sum
theorem Rn(h:ll[k]? =iZ x):Ks (ll.take (k+1))=Ks (ll.take k)+x.length:=by
 unfold Ks;rw[fR,h];simp
theorem Rm(ll:List (List Int))(k:Nat):Ks (ll.take k)<=Ks ll:=by
 unfold Ks
 conv=>rhs;rw[<-fS k ll]
 rw[eQ,List.sum_append];omega
theorem Aa4(h:ll[k]? =iZ x):(ll.take (k+1)).flatten=(ll.take k).flatten++x:=by
 rw[fR,h];simp
theorem Ahi(ll:List (List Int)):ll.flatten.length=Ks ll:=by
 unfold Ks;rw[List.length_flatten]
theorem Xh(ll:List (List Int))(hl:ll.length<=2147483648)(ht:Ks ll<=5000000000):JR bH 94 [.bs tInt.slice ll] 3 tInt ll.flatten:=by
 have O:=Ag8 (Ks ll) (by omega);refine Es Tryz.func94 V (by kernel_rfl) V Tryz.ntmps94 YD λC hC=>?_
 simp only[Nat.reduceAdd,Nat.reduceSub,zaa];refine wR ?_;refine wR ?_;refine Ae λK3 h3=>?_
 refine wR ?_;refine Ah ?_;refine AJ (λk:Nat=>⟨(.bs tInt.slice ll::A2 (.lit (.int .i64 (Ks (ll.take k):Int))::A5 (.bs tInt.slice ll::.lit (.int .i64 (ll.length:Int))::.lit (.int .i64 (k:Int))::A20 (A4 [])))),[]⟩) (λk=>k<=ll.length) (λk=>ll.length - k) 0 (iV _) (by rw[show Ks (ll.take 0)=0 by rw[gB];rfl];exact AU) ?_;intro k hk;refine wR ?_;refine Ae λK7 h7=>?_
 refine Am V (λA=>?_) (λA=>?_)
 ·have z:k < ll.length:=by simpa using A
  obtain⟨x,hx⟩:∃x,ll[k]? =iZ x:=⟨_,dZ z⟩
  have B:=Rn hx;have I:=Rm ll (k+1);have Z:Hy .add .i64 (Ks (ll.take k):Int) (x.length:Int)=iZ (.int .i64 (Ks (ll.take (k+1)):Int)):=by
   rw[B];exact Ay0 (by omega)
  refine Ao ?_;refine h7 _ ?_;refine nT ?_;refine Ae λK9 h9=>?_
  refine Ah ?_;refine wR ?_;refine wR ?_;refine wR ?_;refine Am V (λu=>?_) (λu=>?_)
  ·have:=of_decide_eq_true u;omega
  ·refine Ao ?_;refine h9 _ ?_;refine nT ?_;refine wRE ?_;refine As ⟨k+1,by omega,by omega,AU⟩
 ·refine AA ?_;refine h3 _ ?_;refine nT ?_;have J:k=ll.length:=by have:¬k < ll.length:=(by simpa using A);omega
  have H:Ks (ll.take k)=Ks ll:=by rw[J,fV]
  rw[H];refine wR (hx:=by((repeat(first|(refine AH V (Lp V O (by decide) V V ?_);refine sNt ?_)|refine sA ?_|refine AR ?_|refine sAG ?_|refine Bt ?_));exact C1 V)) (hk:=?_);refine Ae λae Y=>?_
  refine wR ?_;refine Ah ?_;refine AJ (λp:Nat×Nat=>⟨(A6 (.own 0 p.2::A10 (A8 (.bs tInt.slice ll::.lit (.int .i64 (ll.length:Int))::.lit (.int .i64 (p.1:Int))::A8 [])))),[.row p.2 3 tInt (ll.take p.1).flatten]⟩) (λp=>p.1<=ll.length) (λp=>ll.length - p.1) (0,0) (iV _) (AU) ?_;rintro⟨j,ver⟩ hj;dsimp only at hj⊢;refine wR ?_;refine Ae λad X=>?_
  refine Am V (λc=>?_) (λc=>?_)
  ·have z:j < ll.length:=by simpa using c
   obtain⟨x,hx⟩:∃x,ll[j]? =iZ x:=⟨_,dZ z⟩
   have B:=Rn hx;have I:=Rm ll (j+1);have U:=Ahi (ll.take j);have F:=Aa4 hx;generalize (ll.take j).flatten=F0 at U F⊢;have ab:F0.length+x.length<=cT:=by unfold cT;omega
   have aa:(F0.length+x.length) * 8<=140737488355328:=by omega
   refine Ao ?_;refine X _ ?_;refine nT ?_;refine Ae λac W=>?_
   refine Ah ?_;refine wR ?_;refine wRE ?_;refine W _ ?_;refine nT ?_;refine wRE ?_;refine As ⟨(j+1,ver+1),by dsimp only;omega,by dsimp only;omega,?_⟩;dsimp only;rw[F];exact AU
  ·refine AA ?_;refine Y _ ?_;refine nT ?_;refine wR ?_;have L:j=ll.length:=by have:¬j < ll.length:=(by simpa using c);omega
   refine Az ⟨.inr V,rfl,0,ver,rfl,?_⟩;rw[L,fV];rfl
open Go.Maps
variable{A:List (Int×Int)}{G:gP}{L c:List Int}{k:Nat}{out:List (Int×Int)}{p r x:Int}
abbrev XW(G:gP)(r:Int)(m:Nat):AV:=.fn 93 [.bp (Ko Bf) G 0,.bp tInt r 0,.bp (R3 (.map (iZ m))) () 0]
theorem Ajt(G:gP)(r:Int)(m:Nat)(z:Ci r):Fn bH 54 [.bp Bf G 0,.lit (.int .i64 r),.lit (.map (iZ m))] (XW G r m):=by
 refine AT Tryz.func54 V (by kernel_rfl) V Tryz.ntmps54 λC u=>?_
 simp only[Nat.reduceAdd,Nat.reduceSub,zaa];refine wR (hx:=by((repeat(first|(refine AH V (AOp.boxI 0 V V (Qd.one One.bp).weak ?_);refine sNt ?_)|(refine AH V (AOp.boxI 1 V V (Qd.one (One.lit V)).weak ?_);refine sNt ?_)|(refine AH V (AOp.boxI 2 V V (Qd.one (One.lit V)).weak ?_);refine sNt ?_)|refine sA ?_|refine AR ?_|refine sAG ?_|refine Bt ?_));exact C1 V)) (hk:=?_);refine AN _ (EY u 0 3 V V Zj.bp) ?_;refine AN _ (EY u 1 4 V V (Zj.int z)) ?_;refine AN _ (EY u 2 5 V V (Zj.lit (v:=.map (iZ m)) V)) ?_;refine nT ?_;refine wR (hx:=by((repeat(first|refine sA ?_ (FV V)|refine sA ?_|refine AR ?_|refine sAG ?_|refine Bt ?_));exact C1 V)) ?_;exact Az ⟨.inr V,gU V⟩
instance Ayh:RT bH 66 27 1 24:=⟨by kernel_rfl⟩
def Tk(G:gP)(at_:List (Int×Int))(r:Int):List Int:=((getK G.moves r).getD []).filterMap (getK at_)
def Zt(G:gP)(at_:List (Int×Int))(r:Int):List Int:=((getK G.likes r).getD [])++Tk G at_ r++((getK G.cls r).getD [])
def Ei(G:gP)(at_:List (Int×Int))(r:Int):List Int:=(Zt G at_ r).filter λp=>((getK G.cls r).getD []).contains p
def QM(c L:List Int)(k:Nat):Nat:=((L.take k).filter λp=>c.contains p).length
theorem Amh(hx:L[k]? =iZ x)(hc:c.contains x=aK):QM c L (k+1)=QM c L k+1/\(L.filter λp=>c.contains p)[QM c L k]? =iZ x:=by
 constructor
 ·unfold QM;rw[fR,hx,dJ,eI];rw[show(iZ x).toList= [x]from V,dK,if_pos hc];rfl
 ·have e:L=L.take k++x::L.drop (k+1):=by
   have h1:=(eB.1 hx)
   obtain⟨h2,u⟩:=h1;rw[<-u,List.getElem_cons_drop,fS]
  unfold QM
  conv=>lhs;rw[e]
  rw[dJ,dK,hc];have h2:k<=L.length:=Nat.le_of_lt (eB.1 hx).1;rw[show(L.take k++x::L.drop (k+1)).take k=L.take k by rw[<-e]];simp
theorem Arx(hx:L[k]? =iZ x)(hc:c.contains x=aH):QM c L (k+1)=QM c L k:=by
 unfold QM;rw[fR,hx,dJ,eI];rw[show(iZ x).toList= [x]from V,dK,if_neg (by rw[hc];simp)];rfl
theorem Y2(c L:List Int):QM c L L.length=(L.filter λp=>c.contains p).length:=by
 unfold QM;rw[fV]
theorem QS{C:Ctx}{t:List AV}{h:List gD}{o:aU}{ty e:cB}{x y:aV}{m:Nat}{k:Int}{R:Res}{l:List (Int×Int)}(i:Nat)(F:o.op= .lookup ty x y aK)(u:bH.underlying ty=iZ (.map 3 e))(z:∀w,(zeroValue e).run bH w= .ok (.int .i64 0) w)(hx:evA t x= .lit (.map (iZ m)))(B:evA t y= .lit (.int .i64 k))(hk:wfB .i64 k=aK)(hi:h[i]? =iZ (.res R))(H:Am6 R m (mapK (cE .i64) l)):
 AX bH C t h o (.tup [.lit (.int .i64 ((getK l k).getD 0)),.lit (.bool (getK l k).isSome)]):=by
 have h1:=IE (C:=C) i F u z hx B hk hi H;rw[CH]at h1;cases hg:getK l k with
 |none=>rw[hg]at h1;exact h1
 |some v=>rw[hg]at h1;exact h1
structure OkT(G:CGraph)(at_:List (Int×Int))(r:Int):Prop where
 rw:Ci r
 moves:∀k∈(getK G.moves r).getD [],Ci k
 movesl:((getK G.moves r).getD []).length<=1073741824
 likes:∀k∈(getK G.likes r).getD [],Ci k
 likesl:((getK G.likes r).getD []).length<=1073741824
 cls:∀k∈(getK G.cls r).getD [],Ci k
 clsl:((getK G.cls r).getD []).length<=1073741824
 at_:∀k v,getK at_ k=some v->Ci v
theorem Zu(G:gP)(at_:List (Int×Int))(r:Int)(m stop:Nat)(hO:OkT G at_ r):Asb bH 93 [.bp (Ko Bf) G 0,.bp tInt r 0,.bp (R3 (.map (iZ m))) () 0] (λR=>Am6 R m (mapK (cE .i64) at_)) (λk=>[.lit (.int .i64 ((Ei G at_ r).getD k 0))]) (Ei G at_ r).length stop:=by
 have hr:wfB .i64 r=aK:=hO.rw;obtain⟨B,ac⟩:∃B,B=(getK G.moves r).getD []:=⟨_,rfl⟩
 have bb:B.length<=1073741824:=by rw[ac];exact hO.movesl
 have ai:∀k∈B,Ci k:=by rw[ac];exact hO.moves
 obtain⟨cl,F⟩:∃cl,cl=(getK G.cls r).getD []:=⟨_,rfl⟩
 have am:cl.length<=1073741824:=by rw[F];exact hO.clsl
 obtain⟨L,hL⟩:∃L,L=Zt G at_ r:=⟨_,rfl⟩
 have hN:Ei G at_ r=L.filter λp=>cl.contains p:=by rw[hL,F];rfl
 have bc:(Tk G at_ r).length<=1073741824:=iO (eK _ _) hO.movesl;have bf:L.length<=3221225472:=by
  rw[hL];unfold Zt;rw[eI,eI];have h1:=hO.likesl;have h2:=hO.clsl;omega
 have H:=(Xh [(getK G.likes r).getD [],Tk G at_ r,cl] (by show 3<=2147483648;decide) (by
  have h1:=hO.likesl;show([((getK G.likes r).getD []).length,(Tk G at_ r).length,cl.length]:List Nat).sum<=5000000000;simp only[List.sum_cons,List.sum_nil];omega)).fn
 have ay:([(getK G.likes r).getD [],Tk G at_ r,cl]:List (List Int)).flatten=L:=by
  rw[hL,F];unfold Zt;simp
 rw[ay]at H;refine VO Tryz.func93 V (by kernel_rfl) V Tryz.ntmps93 V λC ag ι l Jr Jx hm ah hY aw p ap af=>?_
 simp only[Nat.reduceAdd,Nat.reduceSub,zaa];refine wR ?_;refine Ae λK2 h2=>?_
 refine wD 8 (hq:=by((repeat(first|refine qA ?_ (AI V V V)|refine qA ?_ (Co V V)|refine qA ?_ (Cs V Tryz.underlying77 V V hr)|refine qA ?_|refine Hp ?_|refine qAG (hk:=?_)));exact Aur V)) (hx:=by((repeat(first|refine sA ?_ (AI V V V)|refine sA ?_ (Co V V)|refine sA ?_ (Cs V Tryz.underlying77 V V hr)|refine sA ?_|refine AR ?_|refine sAG ?_|refine Bt ?_));exact C1 V)) (hk:=?_);refine Ah ?_;refine AN _ (D6 5 3 tInt V (by decide)) ?_;refine nT ?_;refine AJ (λq:Nat×Nat=>⟨(.lit (.func (.yield l) #[] #[])::.bp (Ko Bf) G 0::.bp tInt r 0::.bp (R3 (.map (iZ m))) () 0::.any::.own 1 q.2::A10 (.any::.bs tInt B::.lit (.int .i64 (B.length:Int))::.lit (.int .i64 (q.1:Int))::A40 (A10 []))),[.res (Jr 0 p),.row q.2 3 tInt ((B.take q.1).filterMap (getK at_))]⟩) (λq=>q.1<=B.length) (λq=>B.length - q.1) (0,0) (iV _) (by rw[ac];exact AU) ?_;rintro⟨k,ver⟩ hk;have hk:k<=B.length:=hk;refine wR ?_;refine Ae λK6 h6=>?_
 refine Am V (λae=>?_) (λae=>?_)
 ·have I:k < B.length:=by simpa using ae
  obtain⟨z,hz⟩:∃z,B[k]? =iZ z:=⟨_,dZ I⟩
  have aq:wfB .i64 z=aK:=ai z (fC hz);have be:((B.take k).filterMap (getK at_)).length<=1073741824:=by
   have h1:=eK (getK at_) (B.take k);have h2:(B.take k).length<=B.length:=by rw[eP];omega
   omega
  have ak:(B.take (k+1)).filterMap (getK at_)=(B.take k).filterMap (getK at_)++(getK at_ z).toList:=by
   rw[fR,hz,List.filterMap_append];simp only[i7];rw[List.filterMap_cons];cases getK at_ z <;> rfl
  refine Ao ?_;refine h6 _ ?_;refine nT ?_;refine Ae λK8 h8=>?_
  refine Ah ?_;refine wR ?_;refine wR (hx:=by((repeat(first|refine sA ?_ (AI V V V)|refine sA ?_ (QS 0 V Tryz.underlying51 Ea V V aq V ap)|refine sA ?_|refine AR ?_|refine sAG ?_|refine Bt ?_));exact C1 V)) ?_;refine wR ?_;refine Am V (λZ=>?_) (λZ=>?_)
  ·have hs:(getK at_ z).isSome=aK:=Z;obtain⟨u,hu⟩:=iW.1 hs;have ar:wfI .i64 ((getK at_ z).getD 0):=by rw[hu];exact hO.at_ z u hu
   have O:(B.take (k+1)).filterMap (getK at_)=(B.take k).filterMap (getK at_)++[(getK at_ z).getD 0]:=by rw[ak,hu];rfl
   have av:EM (((B.take k).filterMap (getK at_)).length+ [(getK at_ z).getD 0].length) 8=aK:=by
    unfold EM;simp only[zag,zai];unfold cT;omega
   refine wRE (hx:=by((repeat(first|refine sA ?_ (Cm (T:=tInt) V V V (by rfl) (by decide) (Fit.int ar))|(refine AH V (Kn V V V V V av ?_);refine sNt ?_)|refine sA ?_|refine AR ?_|refine sAG ?_|refine Bt ?_));exact C1 V)) (hk:=?_);refine h8 _ ?_;refine nT ?_;refine wRE ?_;refine As ⟨(k+1,ver+1),I,by show B.length - (k+1) < B.length - k;omega,?_⟩;try dsimp only
   rw[O];exact AU
  ·have hs:(getK at_ z).isSome=aH:=Z;have O:(B.take (k+1)).filterMap (getK at_)=(B.take k).filterMap (getK at_):=by
    rw[ak];cases hu:getK at_ z with
    |none=>simp
    |some u=>rw[hu]at hs;cases hs
   refine Ao ?_;refine h8 _ ?_;refine nT ?_;refine wRE ?_;refine As ⟨(k+1,ver),I,by show B.length - (k+1) < B.length - k;omega,?_⟩;try dsimp only
   rw[O];exact AU
 ·obtain rfl:k=B.length:=by have:¬k < B.length:=(by simpa using ae);omega
  have au:(B.take B.length).filterMap (getK at_)=Tk G at_ r:=by rw[fV,ac];rfl
  rw[au];refine AA ?_;refine h2 _ ?_;refine nT ?_;refine AN _ (VD af 1 5 0 (by decide) V V V) ?_;refine nT ?_;refine wD 17 (hq:=by((repeat(first|refine qA ?_ (AI V V V)|refine qA ?_ (Co V V)|refine qA ?_ (Cs V Tryz.underlying77 V V hr)|refine qA ?_ (AX.lt (xs:=[.tmp 40,.tmp 41,.tmp 47]) (T:=tInt.slice) (ds:=[(getK G.likes r).getD [],Tk G at_ r,(getK G.cls r).getD []]) V V V (by rfl) (by decide) (.cons Fit.bs (.cons Fit.bs (.cons Fit.bs .nil))))|refine qA ?_ (AO V V (by rw[<-F];exact H) V V)|refine qA ?_|refine Hp ?_|refine qAG (hk:=?_)));exact Aur V)) (hx:=by((repeat(first|refine sA ?_ (AI V V V)|refine sA ?_ (Co V V)|refine sA ?_ (Cs V Tryz.underlying77 V V hr)|refine sA ?_ (AX.lt (xs:=[.tmp 40,.tmp 41,.tmp 47]) (T:=tInt.slice) (ds:=[(getK G.likes r).getD [],Tk G at_ r,(getK G.cls r).getD []]) V V V (by rfl) (by decide) (.cons Fit.bs (.cons Fit.bs (.cons Fit.bs .nil))))|refine sA ?_ (AO V V (by rw[<-F];exact H) V V)|refine sA ?_|refine AR ?_|refine sAG ?_|refine Bt ?_));exact C1 V)) (hk:=?_);refine Ah ?_;refine AJ (λq:Nat×ι=>⟨(.lit (.func (.yield l) #[] #[])::.bp (Ko Bf) G 0::.bp tInt r 0::A40 (A6 (.bs tInt L::.lit (.int .i64 (L.length:Int))::.lit (.int .i64 (q.1:Int))::A10 (A8 [])))),[.res (Jr (QM cl L q.1) q.2),.dead]⟩) (λq=>q.1<=L.length/\QM cl L q.1<=stop) (λq=>L.length - q.1) (0,p) ⟨iV _,iV _⟩ (AU) ?_;rintro⟨k,q⟩ ⟨hk,J⟩;have hk:k<=L.length:=hk;have J:QM cl L k<=stop:=J;refine wR ?_;refine Ae λbh ba=>?_
  refine Am V (λY=>?_) (λY=>?_)
  ·have I:k < L.length:=by simpa using Y
   obtain⟨x,hx⟩:∃x,L[k]? =iZ x:=⟨_,dZ I⟩
   have U:=JH cl x (iO am (by decide));refine Ao ?_;refine ba _ ?_;refine nT ?_;refine Ae λbg az=>?_
   refine Ah ?_;refine wR ?_;refine Bk (β:=Bool×ι) (λb=>if b.1=aK then stop < (Ei G at_ r).length else QM cl L (k+1)<=stop) (λb=>⟨(.lit (.func (.yield l) #[] #[])::.bp (Ko Bf) G 0::.bp tInt r 0::A40 (A6 (.bs tInt L::.lit (.int .i64 (L.length:Int))::.lit (.int .i64 (k:Int))::A10 (A6 [.lit (.bool b.1),.any])))),[.res (if b.1=aK then Jx b.2 else Jr (QM cl L (k+1)) b.2),.dead]⟩) ?_ ?_
   ·cases hc:cl.contains x with
    |true=>
     rw[hc,F]at U;obtain⟨W,ao⟩:=Amh hx hc;have an:QM cl L k < (Ei G at_ r).length:=by rw[hN];exact(eB.1 ao).1
     have ad:(Ei G at_ r).getD (QM cl L k) 0=x:=by rw[hN,dU,ao];rfl
     rcases iQ (QM cl L k) stop with hst|hst
     ·have aa:=hY (QM cl L k) q an hst;rw[ad]at aa;refine My 11 (by kernel_rfl) (by kernel_rfl) ?_;simp only[zad];refine qA ?_ (AI V GH V) (Av (Au (Au GR)));refine qA ?_ (Co V (Aw (Aq (Aq GY)))) (Av (Au (Au (Au GS))));refine qA ?_ (Cw V (Aw (Aq (Aq (Aq IL))))) (Av (Au (Au (Au JX))));refine qA ?_ (AI V (Aw (Aq (Aq (Aq GH)))) V) (Av (Au (Au (Au KP))));refine qA ?_ (AI V FD V) (Av (Au (Au (Au I8))));refine qA ?_ (Cs V bT (Aw (Aq (Aq (Aq FD)))) (Aw (Aq (Aq (Aq FQ)))) hr) (Av (Au (Au (Au JW))));refine qA ?_ (AX.move V (Aq FQ)) (Av (Au (Au (Au Gv))));refine qA ?_ (AO V V U V V) (Av (Au (Au (Au Hh))));refine qA ?_ (AX.move V (Aw (Aq (Aq (Aq G8))))) (Av (Au (Au (Au GR))));refine qA ?_ (AX.move V IL) (Av (Av GS));refine qA ?_ (AX.move V (Aq FQ)) (Av (Av JX));refine Fo ?_;refine P5 V (Lo (i:=0) ag V (λp=>by rw[hm,hm]) V V V V aa λq'=>?_);refine Dr (by(try simp only[Br,zac]);exact V) (by(try simp only[Nat.reduceAdd,zab]);exact V) ?_;refine Iz V (Ba (Cu V V) ?_);refine Dr (by(try simp only[Br,zac]);exact V) (by(try simp only[Nat.reduceAdd,zab]);exact V) ?_;refine Iz V (Ba (AX.pick V V V) ?_);refine Dr (by(try simp only[Br,zac]);exact V) (by(try simp only[Nat.reduceAdd,zab]);exact V) ?_;refine Gk ?_;refine As ⟨(aH,q'),by rw[W];exact hst,?_⟩;dsimp only;rw[W];exact AU
     ·have al:QM cl L k=stop:=iK J hst;have ab:stop < (Ei G at_ r).length:=by rw[<-al];exact an
      have aa:=aw ab q;rw[<-al,ad]at aa;refine My 11 (by kernel_rfl) (by kernel_rfl) ?_;simp only[zad];refine qA ?_ (AI V GH V) (Av (Au (Au GR)));refine qA ?_ (Co V (Aw (Aq (Aq GY)))) (Av (Au (Au (Au GS))));refine qA ?_ (Cw V (Aw (Aq (Aq (Aq IL))))) (Av (Au (Au (Au JX))));refine qA ?_ (AI V (Aw (Aq (Aq (Aq GH)))) V) (Av (Au (Au (Au KP))));refine qA ?_ (AI V FD V) (Av (Au (Au (Au I8))));refine qA ?_ (Cs V bT (Aw (Aq (Aq (Aq FD)))) (Aw (Aq (Aq (Aq FQ)))) hr) (Av (Au (Au (Au JW))));refine qA ?_ (AX.move V (Aq FQ)) (Av (Au (Au (Au Gv))));refine qA ?_ (AO V V U V V) (Av (Au (Au (Au Hh))));refine qA ?_ (AX.move V (Aw (Aq (Aq (Aq G8))))) (Av (Au (Au (Au GR))));refine qA ?_ (AX.move V IL) (Av (Av GS));refine qA ?_ (AX.move V (Aq FQ)) (Av (Av JX));refine Fo ?_;refine P5 V (Lo (i:=0) ag V (λp=>by rw[ah,hm]) V V V V aa λq'=>?_);refine Dr (by(try simp only[Br,zac]);exact V) (by(try simp only[Nat.reduceAdd,zab]);exact V) ?_;refine Iz V (Ba (Cu V V) ?_);refine Dr (by(try simp only[Br,zac]);exact V) (by(try simp only[Nat.reduceAdd,zab]);exact V) ?_;refine Iz V (Ba (AX.pick V V V) ?_);refine Dr (by(try simp only[Br,zac]);exact V) (by(try simp only[Nat.reduceAdd,zab]);exact V) ?_;refine Gk ?_;refine As ⟨(aK,q'),ab,?_⟩;exact AU
    |false=>
     rw[hc,F]at U;have W:=Arx hx hc
     ·refine My 11 (by kernel_rfl) (by kernel_rfl) ?_;simp only[zad];refine qA ?_ (AI V GH V) (Av (Au (Au GR)));refine qA ?_ (Co V (Aw (Aq (Aq GY)))) (Av (Au (Au (Au GS))));refine qA ?_ (Cw V (Aw (Aq (Aq (Aq IL))))) (Av (Au (Au (Au JX))));refine qA ?_ (AI V (Aw (Aq (Aq (Aq GH)))) V) (Av (Au (Au (Au KP))));refine qA ?_ (AI V FD V) (Av (Au (Au (Au I8))));refine qA ?_ (Cs V bT (Aw (Aq (Aq (Aq FD)))) (Aw (Aq (Aq (Aq FQ)))) hr) (Av (Au (Au (Au JW))));refine qA ?_ (AX.move V (Aq FQ)) (Av (Au (Au (Au Gv))));refine qA ?_ (AO V V U V V) (Av (Au (Au (Au Hh))));refine qA ?_ (AX.move V (Aw (Aq (Aq (Aq G8))))) (Av (Au (Au (Au GR))));refine Hp (ht:=(Av (Av GS))) ?_;refine Hp (ht:=(Av (Av JX))) ?_;refine Fo ?_;refine RH V ?_;refine Dr (by(try simp only[Br,zac]);exact V) (by(try simp only[Nat.reduceAdd,zab]);exact V) ?_;refine RH V ?_;refine Dr (by(try simp only[Br,zac]);exact V) (by(try simp only[Nat.reduceAdd,zab]);exact V) ?_;refine Iz V (Ba (AX.pick V V V) ?_);refine Dr (by(try simp only[Br,zac]);exact V) (by(try simp only[Nat.reduceAdd,zab]);exact V) ?_;refine Gk ?_;refine As ⟨(aH,q),by rw[W];exact J,?_⟩;dsimp only;rw[W];exact AU
   rintro⟨b,q'⟩ hb;refine Am V (λX=>?_) (λX=>?_)
   ·obtain rfl:b=aK:=X;have ab:stop < (Ei G at_ r).length:=hb;exact Az ⟨.inr V,q',by(show _=iZ (ABlk.res (if stop < (Ei G at_ r).length then Jx q' else Jr (Ei G at_ r).length q'));rw[if_pos ab];rfl),by simp[mkD,gG,ah]⟩
   ·obtain rfl:b=aH:=X;have aj:QM cl L (k+1)<=stop:=hb;refine Ao ?_;refine az _ ?_;refine nT ?_;refine wRE ?_;refine As ⟨(k+1,q'),⟨I,aj⟩,by show L.length - (k+1) < L.length - k;omega,?_⟩;exact AU
  ·obtain rfl:k=L.length:=by have:¬k < L.length:=(by simpa using Y);omega
   have ax:¬stop < (Ei G at_ r).length:=by rw[Y2,<-hN]at J;omega
   refine AA ?_;exact⟨.inl V,q,by(show _=iZ (ABlk.res (if stop < (Ei G at_ r).length then Jx q else Jr (Ei G at_ r).length q));rw[if_neg ax,hN,<-Y2];rfl),by simp[mkD,gG,hm]⟩
structure OkGr(G:CGraph):Prop extends OkG G where
 mov:∀r,(∀k∈(getK G.moves r).getD [],Ci k)/\((getK G.moves r).getD []).length<=1073741824
 lik:∀r,(∀k∈(getK G.likes r).getD [],Ci k)/\((getK G.likes r).getD []).length<=1073741824
 cl:∀r,(∀k∈(getK G.cls r).getD [],Ci k)/\((getK G.cls r).getD []).length<=1073741824
def MO(G:gP)(A:List (Int×Int))(r:Int):Option Int:=(Ei G A r).find? (Gu G A r)
def EP(G:gP)(s:List (Int×Int)×List Int)(r:Int):List (Int×Int)×List Int:=match MO G s.1 r with
 |some p=>(Cf s.1 r p,s.2)
 |none=>(s.1,s.2++[r])
def Jm(G:gP)(out:List (Int×Int))(k:Nat):List (Int×Int)×List Int:=((C5 G out).reverse.take k).foldl (EP G) ([],[])
def BJ(G:gP)(out:List (Int×Int)):List (Int×Int)×List Int:=(C5 G out).reverse.foldl (EP G) ([],[])
theorem MP(G:gP)(out:List (Int×Int)):Jm G out (C5 G out).length=BJ G out:=by
 unfold Jm BJ;rw[fW (by simp)]
theorem Pd(h:(C5 G out)[(C5 G out).length - 1 - k]? =iZ r)(hk:k < (C5 G out).length):Jm G out (k+1)=EP G (Jm G out k) r:=by
 unfold Jm;rw[fR,List.getElem?_reverse hk,h,dR];rfl
theorem Pf{G:gP}:∀(n:Nat) {E:List (Int×Int)} {l:List Int},Em E->(∀x,(getK E x).isSome=aK->x∈G.regs)->(∀x∈l,x∈G.regs)->∀x∈DX G n E l,x∈G.regs
 |0,E,l,_,_,u=>u
 |n+1,E,l,B,hk,u=>by
  unfold DX;cases F:LP G E with
  |none=>exact u
  |some r=>
   have z:=LO F;refine Pf n (Lu B z).1 (λx hx=>hk x ?_) λx hx=>?_
   ·rw[G9 B]at hx;simp only[aG]at hx;exact hx.1
   ·rcases eU.1 hx with h|h
    ·exact u x h
    ·rw[fG.1 h];exact hk r z
theorem KX{G:gP}:∀(n:Nat) (E:List (Int×Int)) (l:List Int),(DX G n E l).length<=l.length+n
 |0,E,l=>by unfold DX;omega
 |n+1,E,l=>by
  unfold DX;cases LP G E with
  |none=>show l.length<=_;omega
  |some r=>
   have:=KX (G:=G) n (KJ G E r) (l++[r]);rw[eI,eJ,eN]at this;show(DX G n (KJ G E r) (l++[r])).length<=_;omega
theorem Z3(u:OkG G):∀x∈C5 G out,x∈G.regs:=by
 have h:=Js (out:=out) u;exact Pf _ h.asc h.inr λx hx=>by cases hx
theorem Rg(u:OkG G):(C5 G out).length<=1073741824:=by
 have h:=(Js (out:=out) u).len;have:=KX (G:=G) (Iq G out).length (Iq G out) [];unfold C5;simp only[eN]at this h;omega
structure PntI(G:CGraph)(s:List (Int×Int)×List Int)(k:Nat):Prop where
 asc:Em s.1
 wf:∀q v,getK s.1 q=some v->Ci v
 len:s.1.length+s.2.length<=k
theorem Xq(u:OkGr G)(h:p∈Ei G A r):Ci p:=by
 unfold Ei at h;have:=(List.mem_filter.1 h).2;rw[dE]at this;exact(u.cl r).1 p this
theorem Ub(h:MO G A r=iZ p):p∈Ei G A r:=List.mem_of_find?_eq_some h
theorem PntI.next(z:OkGr G){s:List (Int×Int)×List Int}(h:PntI G s k)(r:Int):PntI G (EP G s r) (k+1):=by
 unfold EP;cases u:MO G s.1 r with
 |none=>
  refine⟨h.asc,h.wf,?_⟩;have:=h.len;show s.1.length+(s.2++[r]).length<=k+1;rw[eI,eJ,eN];omega
 |some p=>
  refine⟨h.asc.put r p,λq v hq=>?_,?_⟩
  ·have hq:getK (Cf s.1 r p) q=iZ v:=hq;rw[BM h.asc]at hq;by_cases e:q=r
   ·rw[if_pos e]at hq;cases hq;exact Xq z (Ub u)
   ·rw[if_neg e]at hq;exact h.wf q v hq
  ·have h1:=h.len;have h2:=E9 (l:=s.1) r p;show(Cf s.1 r p).length+s.2.length<=k+1;omega
theorem J2{G:gP}(u:OkGr G)(out:List (Int×Int)):∀k,k<=(C5 G out).length->PntI G (Jm G out k) k
 |0,_=>⟨Em.nil,λq v h=>(by cases h),iV _⟩
 |k+1,hk=>by
  obtain⟨r,z⟩:∃r,(C5 G out)[(C5 G out).length - 1 - k]? =iZ r:=⟨_,dZ (by omega)⟩
  rw[Pd z (by omega)];exact(J2 u out k (by omega)).next u r
theorem YM{α:Type}(p:α->Bool):∀(l:List α),(l.findIdx p < l.length->∃x,l[l.findIdx p]? =iZ x/\p x=aK/\l.find? p=iZ x)/\(¬l.findIdx p < l.length->l.find? p=iY)/\∀j x,j < l.findIdx p->l[j]? =iZ x->p x=aH
 | []=>⟨λh=>by simp at h,λ_=>rfl,λj x h=>by simp at h⟩
 |a::l=>by
  obtain⟨h1,h2,I⟩:=YM p l;rw[List.findIdx_cons,dM];cases z:p a with
  |true=>exact⟨λ_=>⟨a,rfl,z,rfl⟩,λh=>absurd (by simp) h,λj x h=>by simp at h⟩
  |false=>
   refine⟨λh=>?_,λh=>?_,λj x h u=>?_⟩
   ·obtain⟨x,H,F,B⟩:=h1 (by simpa using h);exact⟨x,by simpa using H,F,B⟩
   ·exact h2 (by simpa using h)
   ·cases j with
    |zero=>simp at u;rw[<-u];exact z
    |succ j=>exact I j x (by simpa using h) (by simpa using u)
def slotN(G:gP)(A:List (Int×Int))(r:Int):Nat:=(fN (((getK G.near r).getD []).length+1)).findIdx λk:Nat=>Gu G A r (32+(k:Int))
theorem ME(G:gP)(A:List (Int×Int))(r:Int):
 slotN G A r<=((getK G.near r).getD []).length/\Gu G A r (32+(slotN G A r:Int))=aK/\∀k,k < slotN G A r->Gu G A r (32+(k:Int))=aH:=by
 obtain⟨L,I⟩:∃x,x=(getK G.near r).getD []:=⟨_,rfl⟩
 have F:∃k∈fN (L.length+1),Gu G A r (32+(k:Int))=aK:=by
  refine Classical.byContradiction λO=>?_
  have W:∀k,k < L.length+1->Gu G A r (32+(k:Int))=aH:=λk hk=>by
   cases U:Gu G A r (32+(k:Int))with
   |false=>rfl
   |true=>exact absurd ⟨k,fF.2 hk,U⟩ O
  have B:=Fg (l:=(fN (L.length+1)).map λk:Nat=>(32+(k:Int))) (m:=L.map λx=>(getK A x).getD 0)
   (fL.2 (cX (λ{a b:Nat} (H:a≠b) (e:32+(a:Int)=32+(b:Int))=>H (by omega)) List.nodup_range))
   (λx hx=>by
    obtain⟨k,hk,rfl⟩:=fB.1 hx;have h1:=W k (fF.1 hk);unfold Gu at h1;rw[aI,<-I]at h1;obtain⟨y,J,z⟩:=dA.1 h1;unfold freeP at z;rw[aG]at z;exact fB.2 ⟨y,J,(eq_of_beq z.2).symm⟩)
  rw[eM,eM,eO]at B;omega
 unfold slotN;rw[<-I];have u:(fN (L.length+1)).findIdx (λk:Nat=>Gu G A r (32+(k:Int))) < (fN (L.length+1)).length:=List.findIdx_lt_length_of_exists F;refine⟨?_,?_,λk hk=>?_⟩
 ·rw[eO]at u;omega
 ·have h:=List.findIdx_getElem (w:=u);rwa [eF]at h
 ·have h:=List.not_of_lt_findIdx hk;rw[eF]at h;exact h
def I2(G:gP)(s:List (Int×Int)×Int)(r:Int):List (Int×Int)×Int:=(Cf s.1 r (32+(slotN G s.1 r:Int)),max s.2 ((slotN G s.1 r:Int)+1))
def I1(G:gP)(out A:List (Int×Int))(k:Nat):List (Int×Int)×Int:=((keysK out).take k).foldl (I2 G) (A,0)
def I0(G:gP)(out A:List (Int×Int)):List (Int×Int)×Int:=(keysK out).foldl (I2 G) (A,0)
theorem ZJ(G:gP)(out A:List (Int×Int)):I1 G out A (keysK out).length=I0 G out A:=by
 unfold I1 I0;rw[fV]
theorem We(h:(keysK out)[k]? =iZ r):I1 G out A (k+1)=I2 G (I1 G out A k) r:=by
 unfold I1;rw[fR,h,dR];rfl
open Go.Shelf
variable{α:Type}{l:List (Int×α)}
theorem CW{k:Int}:k∈keysK l↔(getK l k).isSome=aK:=by
 cases hg:getK l k with
 |none=>
  have h:=JA.1 hg;exact⟨λhk=>by
   obtain⟨p,u,e⟩:=fB.1 hk;exact absurd e (h p u),λh=>by cases h⟩
 |some v=>
  refine⟨λ_=>rfl,λ_=>?_⟩;refine Classical.byContradiction λz=>?_
  have:getK l k=iY:=JA.2 λp u e=>z (fB.2 ⟨p,u,e⟩)
  rw[hg]at this;cases this
theorem Mr(h:Em l):Asc (keysK l):=fL.2 h
theorem UF(l:List (Int×cC)):cR (Mb l)=keysK l:=by
 simp only[cR,Mb,keysK,eS];rfl
theorem Adr{w:cF}{S:Nat->Prop}{v:cC}{d:List (Int×Int)}(h:tMapI.RS w S [v] d):∃z,v= .map z:=by
 obtain⟨_,⟨u,_⟩|⟨b,_,u,_⟩⟩:=h
 ·cases u;exact⟨_,rfl⟩
 ·cases u;exact⟨_,rfl⟩
theorem Agl(d:List (Int×Int)):Nk bH 57 [.tv tMapI d] (λp=>Bh p [.tv tMapI d]) (λp=>.func (.func 97) #[] #[.pointer (iZ ⟨p,0,iY⟩)]):=by
 refine⟨by kernel_rfl,λw S vs H F=>?_⟩;obtain⟨v,J,rfl,h0,h1⟩:=F;unfold Ak at h1;subst h1;have B:tMapI.RS w S [v] d:=h0;obtain⟨z,rfl⟩:=Adr B;have I:aN aO 5 bH 57 #[.map z] w λe w'=>e= .returned (.func (.func 97) #[] #[.pointer (iZ ⟨w.heap.size,0,iY⟩)])/\w'=w.alloc (.cells #[.map z] 51):=AnyZI.keys_in bD aO 5 trivial V z w
 refine((callsIn_wide (n:=5)).1 I).mono ?_;rintro e w' ⟨rfl,rfl⟩;have u:Below w.heap.size w (w.alloc (.cells #[.map z] 51)):=(bY _ _).alloc (iN _) _;exact⟨_,rfl,⟨u.os,u.tape,u.output,u.size,λk hk _=>u.block k hk⟩,w.heap.size,rfl,⟨[.map z],51,cP w _,⟨_,_,rfl,tMapI.keepS B (λk hk=>u.block k (H k hk)) λ_ h=>h,rfl⟩⟩,λk hk=>by
  have hk:k=w.heap.size:=hk;subst hk;exact⟨.inr (iN _),by simp⟩⟩
theorem ZA(p:Nat)(d:List (Int×Int))(hd:d.length<=1073741824):
 FnR bH 56 (Bh p [.tv tMapI d]) [.lit (.func (.func 97) #[] #[.pointer (iZ ⟨p,0,iY⟩)])] (.bs tInt (keysK d)):=by
 refine⟨by kernel_rfl,λw T vs hT ac W hr=>?_⟩;obtain⟨us,rfl,h0⟩:=Ev hr;unfold Ak at h0;subst h0;obtain⟨cs,e,hp,aa⟩:=W;obtain⟨v,us,rfl,h0,h1⟩:=aa;unfold Ak at h1;subst h1;have X:tMapI.RS w T [v] d:=h0;have O:=ac p V;have F:okK d:=X.1;have Z:∃(Q:List Int->Prop) (N:Nat),SeqGives aO 2 bH 97 #[.pointer (iZ ⟨p,0,iY⟩)] encZ Q N w/\N<=d.length/\∀ss,Q ss->ss.Perm (keysK d):=by
  obtain⟨_,⟨Y,rfl⟩|⟨b,xs,Y,hS,hm,h1,h2⟩⟩:=X
  ·cases Y;have u:w.cell? ⟨p,0,iY⟩=iZ (.map iY):=by simp[cG,hp]
   exact⟨λss:List Int=>ss= [],0,AnyZI.keys_gives_nil (ρ:=bE) {bD with} aO _ trivial rfl p _ O u,iN _,λss h=>by rw[h];exact List.Perm.refl _⟩
  ·cases Y;have u:w.cell? ⟨p,0,iY⟩=iZ (.map (iZ b)):=by simp[cG,hp]
   have hk:keysK xs=keysK d:=G7 (Mr hm.1.1) (Mr F.1) λk=>by rw[CW,CW,h1 k]
   have H:xs.length=d.length:=by have:=congrArg eH hk;simpa[keysK]using this
   have U:=hm.2;have ae:xs.length<=cT:=by rw[H];unfold cT;omega
   have z:SeqGives aO 2 bH 97 #[.pointer (iZ ⟨p,0,iY⟩)] encZ (λss=>ss.Perm (cR (Mb xs))) (Maps.size (Mb xs)) w:=AnyZI.keys_gives (ρ:=bE) {bD with} aO _ trivial rfl (by omega) p b xs.length (Mb xs) w O u U;exact⟨_,_,z,Nat.le_of_eq ((OP xs).trans H),λss (h:ss.Perm (cR (Mb xs)))=>by
    rw[UF,hk]at h;exact h⟩
 obtain⟨Q,N,z,hN,hQ⟩:=Z;have cS:=AnyZI.sorted_in Tryz.sortedM aO 5 trivial trivial trivial trivial V (by omega) (Ad7 _) (enters_of Tryz.func62 (by kernel_rfl) V) 97 #[.pointer (iZ ⟨p,0,iY⟩)] trivial (enters_of Tryz.func97 (by kernel_rfl) V) _ N (by unfold cT;omega) (by omega) _ z;change aN _ _ bH 56 _ _ _ at cS;refine((callsIn_wide (n:=5)).1 cS).mono ?_;rintro e w' ⟨v,ss,rfl,ab,J,ad,hb⟩;have I:ss.Perm (keysK d):=hQ ss ab;have he:(ss.mergeSort λx y=>decide (x<=y))=keysK d:=
  G7 (Oy (I.nodup_iff.2 (Mr F.1).nodup)) (Mr F.1) (λx=>((fI ss _).mem_iff).trans I.mem_iff)
 have B:w'.ownsRow w.heap.size 3 1 v ss.length ((ss.mergeSort (λx y=>decide (x<=y))).map encZ):=J;rw[he]at B;have hO:Gp w' w.heap.size v (keysK d):=.of B I.length_eq V;refine⟨v,rfl,hb,λk=>T k\/v.ownBlock=iZ k,λ_ h=>.inl h,λk hk=>?_,λk hk=>?_,?_⟩
 ·rcases hk with hk|hk
  ·exact .inl hk
  ·exact .inr (hO.lt k hk).1
 ·rcases hk with hk|hk
  ·exact iP (hT k hk) hb.size
  ·exact(hO.lt k hk).2
 ·unfold gK;exact tInt.slice.keepS (LQ hO λx hx=>by
   obtain⟨q,hq,e⟩:=fB.1 hx;rw[<-e];exact F.2 q hq) (λ_ _=>rfl) λk hk=>.inr hk
end Mu
namespace Mu
open Go Go.RowKit Go.Proofs Go.Maps
theorem Ao7{x:Int}(h:0<=x/\x<=4294967296):Ci x:=by
 have h1:wfB .i64 x=aK:=by
  unfold wfB;simp[Lit.wf,IntKind.min,IntKind.max,IntKind.signed,IntKind.bits];omega
 exact h1
theorem TE(G:gP):∀(l:List Int) (s:List (Int×Int)×Int),(l.foldl (I2 G) s).1.length<=s.1.length+l.length
 | [],s=>iN _
 |r::l,s=>by
  have h1:=TE G l (I2 G s r);have h2:(I2 G s r).1.length<=s.1.length+1:=E9 r _;show(l.foldl (I2 G) (I2 G s r)).1.length<=s.1.length+(l.length+1);omega
theorem ZI(G:gP)(out A:List (Int×Int))(m:Nat)(hG:OkGr G)(Y:okK out)(F:out.length<=1073741824)(hA:Em A)(al:A.length<=1073741824):DU bH 28 (ER (cE .i64) A m) [.bp Bf G 0,.tv tMapI out,.lit (.map (iZ m))] (λ_:Unit=>ER (cE .i64) (I0 G out A).1 m) (λ_:Unit=>.int .i64 (I0 G out A).2):=by
 obtain⟨ks,z⟩:∃x,x=keysK out:=⟨_,rfl⟩
 have ak:ks.length<=1073741824:=by rw[z];simpa[keysK]using F
 have ac:∀r∈ks,Ci r:=by
  rw[z];intro r W;obtain⟨q,hq,e⟩:=fB.1 W;rw[<-e];exact Y.2 q hq
 refine Ta Tryz.func28 V (by kernel_rfl) V Tryz.ntmps28 V (λ_ _ _ _ h=>h) λC=>?_
 simp only[Nat.reduceAdd,Nat.reduceSub,zaa];refine wR ?_;refine wR ?_;refine Ae λK3 h3=>?_
 refine nT ?_;refine wRK λK4 af=>?_
 refine sA ?_ (AX.move V GH) (Au I8);refine AH V (Cx V (Agl out) (λ_=>rfl) V V λp=>?_);refine DS ?_ (Au JW);refine sA ?_ (Lk (i:=1) V V (ZA p out F) V V V) (Au Gv);refine sA ?_ (NN V V V) (Au Hh);refine sA ?_ (AX.move V V) (Au GR);refine Ax (af _ ?_);refine Ah ?_;refine AJ (λk:Nat=>⟨(.bp Bf G 0::.any::.lit (.map (iZ m))::A4 (.lit (.int .i64 (I1 G out A k).2)::A5 (.bs tInt ks::.lit (.int .i64 (ks.length:Int))::.lit (.int .i64 (k:Int))::A20 [.any]))),[.res (ER (cE .i64) (I1 G out A k).1 m),.res (Bh p [.tv tMapI out])]⟩) (λk=>k<=ks.length) (λk=>ks.length - k) 0 (iV _) (by rw[z];exact AU) ?_;rintro k hk;refine wR ?_;refine Ae λK7 h7=>?_
 refine Am V (λH=>?_) (λH=>?_)
 ·have U:k < ks.length:=by simpa using H
  obtain⟨r,W⟩:∃q,ks[k]? =iZ q:=⟨_,dZ U⟩
  have I:wfB .i64 r=aK:=ac r (fC W);obtain⟨B,hB⟩:∃x,x=I1 G out A k:=⟨_,rfl⟩
  have Z:I1 G out A (k+1)=I2 G B r:=by rw[hB];exact We (by rw[<-z];exact W)
  have ag:B.1.length < cT:=by
   have h1:=TE G ((keysK out).take k) (A,0);have h2:((keysK out).take k).length<=k:=List.length_take_le _ _;rw[hB];unfold I1 cT;have h3:(A,(0:Int)).1.length=A.length:=rfl;omega
  rw[<-hB];obtain⟨n,hn⟩:∃x,x=slotN G B.1 r:=⟨_,rfl⟩
  obtain⟨aa,O,J⟩:=ME G B.1 r;rw[<-hn]at aa O J;refine Ao ?_;refine h7 _ ?_;refine nT ?_;refine Ae λK9 h9=>?_
  refine Ah ?_;refine wR ?_;refine wR ?_;refine Ae λan ai=>?_
  refine Ah ?_;refine AJ (λj:Nat=>⟨(.bp Bf G 0::.any::.lit (.map (iZ m))::A4 (.lit (.int .i64 B.2)::.any::.lit (.int .i64 r)::.lit (.int .i64 (32+(j:Int)))::A2 (.bs tInt ks::.lit (.int .i64 (ks.length:Int))::.lit (.int .i64 (k:Int))::A20 [.any]))),[.res (ER (cE .i64) B.1 m),.res (Bh p [.tv tMapI out])]⟩) (λj=>j<=n) (λj=>n - j) 0 (iV _) (AU) ?_;rintro j X;have X:j<=n:=X;have aj:=hG.nearl r;have ad:Ci (32+(j:Int)):=Ao7 (by omega);refine Ae λam ah=>?_
  refine wR (hx:=by((repeat(first|refine sA (hq:=CR V (SD G B.1 r (32+(j:Int)) I ad (hG.near r) (hG.nearl r)) (.cons (.cl V) (.cons (.cl V) (.cons (.cl V) (.cons (Nj.map (i:=0) V) .nil))))) (hk:=?_)|refine sA ?_|refine AR ?_|refine sAG ?_|refine Bt ?_));exact C1 V)) (hk:=?_);refine Am V (λu=>?_) (λu=>?_)
  ·have u:Gu G B.1 r (32+(j:Int))=aH:=by simpa using u
   have ae:j < n:=Nat.lt_of_le_of_ne X λe=>by
    rw[e,O]at u;cases u
   refine Ao ?_;refine ah _ ?_;refine nT ?_;refine Ah ?_;refine wRE (hx:=by((repeat(first|refine sA ?_ (El V V V (by omega))|refine sA ?_|refine AR ?_|refine sAG ?_|refine Bt ?_));exact C1 V)) (hk:=?_);refine abN ?_;refine As ⟨j+1,ae,by omega,?_⟩;try dsimp only
   rw[show((j+1:Nat):Int)=(j:Int)+1 from V,<-Int.add_assoc];exact AU
  ·have u:Gu G B.1 r (32+(j:Int))=aK:=by simpa using u
   obtain rfl:j=n:=iK X (Nat.not_lt.1 λh=>by
    rw[J j h]at u;cases u)
   refine AA ?_;refine ai _ ?_;refine nT ?_;refine wR (hx:=by((repeat(first|(refine AH V (Kk 0 V Tryz.underlying51 V V V I ag V ?_);refine sNt ?_)|refine sA ?_|refine AR ?_|refine sAG ?_|refine Bt ?_));exact C1 V)) (hk:=?_);refine wRE (hx:=by((repeat(first|refine sA ?_ (EZ V V V (by omega))|refine sA ?_ (El V V V (by omega))|refine sA ?_ (AX.max2 V V V)|refine sA ?_|refine AR ?_|refine sAG ?_|refine Bt ?_));exact C1 V)) (hk:=?_);refine h9 _ ?_;refine nT ?_;refine wRE ?_;refine As ⟨k+1,U,by omega,?_⟩;try dsimp only
   rw[Z];have ab:I2 G B r=(Cf B.1 r (32+(j:Int)),if 32+(j:Int) - 32+1 > B.2 then 32+(j:Int) - 32+1 else B.2):=by
    unfold I2;rw[<-hn];refine Prod.ext V ?_;show max B.2 ((j:Int)+1)=_;split <;> omega
   rw[ab];exact AU
 ·obtain rfl:k=ks.length:=by have:¬k < ks.length:=(by simpa using H);omega
  rw[show I1 G out A ks.length=I0 G out A by rw[z];exact ZJ G out A];refine AA ?_;refine h3 _ ?_;refine nT ?_;refine wR ?_;exact Az ⟨.inr V,(),rfl,rfl,rfl⟩
end Mu
