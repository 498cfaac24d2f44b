/-
  Lemmas for S, part 6.
  Conditions: as each lemma says.
-/
import Derived.Test.YtnhheaffnpflfaaGreatCt5
import Derived.OpenShut
set_option maxRecDepth 100000
set_option maxHeartbeats 4000000
set_option linter.unusedSimpArgs false
set_option linter.unusedVariables false
open Bool renaming and_eq_true->aA,false->aB,true->aC
open Decidable renaming decide->aD
open Go.IntKind renaming i64->aE
open Go.Proofs.Tryz renaming prog->aF
open Go.Proofs.YtnhheaffnpflfaaGreat.Rows renaming uptoBulk->aG,uptoBulkAll->aH,uptoBulkEntries->aI
open List renaming append_assoc->aJ,contains_iff_mem->aK,foldl_append->aL,getD_eq_getElem?_getD->aM,getElem?_eq_getElem->aN,getElem?_eq_none->aO,getElem?_eq_some_iff->aP,getElem?_range->aR,length_append->aS,map_append->aT,map_cons->aU,map_nil->aV,mem_append_left->aW,mem_iff_getElem?->aX,mem_map->aY,mem_of_getElem?->aZ,mem_range->a6,nodup_append->a7,prefix_append_right_inj->a8,range->bA,take_add_one->bB,take_length->bC,take_sublist->bD
open Mu renaming FineF->bE,Func->bG,Plan->bN
open Mu.Fit renaming up->bF
open Mu.M renaming bnd->bH,chk->bI,loop->bJ,ok->bK,to_whn->bL,whn->bM
open Nat renaming le_refl->bO,le_trans->bP,zero_le->bR
open Option renaming none->bS,some->bT
namespace Mu
open Go Go.RowKit Go.Proofs
variable{b:Block}{h:Int}{i k:Nat}{l:List Int}{q:Nat}{r:Int}{x:Ins}
section
variable{f:bG}{out:List (List Int)}
theorem Yo:(Je f out).length<=f.blocks.length:=by
 unfold Je;have:=List.length_filter_le (λh=>!(Fs f out h).isEmpty) (An9 f);rwa [Al3]at this
def WA(l:List Int)(L:List Int):List Int:=L.foldl (λl b=>l.set b.toNat (ixD l b+1)) l
theorem Pj{L:List Int}{b:Int}:WA l (L++[b])=(WA l L).set b.toNat (ixD (WA l L) b+1):=by
 unfold WA;rw[aL];rfl
theorem Sc:∀L:List Int,(WA l L).length=l.length:=λL=>by
 induction L using snoc_ind with
 |nil=>rfl
 |append_singleton L b a=>rw[Pj,List.length_set,a]
theorem Af9{x:Int}(hx:0<=x):∀{L:List Int},L.Nodup->(∀b∈L,0<=b/\b.toNat < l.length)->ixD (WA l L) x=ixD l x+if x∈L then 1 else 0:=by
 intro L;induction L using snoc_ind with
 |nil=>intro _ _;simp[WA]
 |append_singleton L b n=>
  intro o m;have d:=a7.1 o;have a:=n d.1 λc hc=>m c (aW _ hc)
  have j:=m b (by simp);rw[Pj];by_cases e:x=b
  ·subst e;have g:x∉L:=λh=>d.2.2 x h x (by simp) V
   rw[if_neg g]at a;unfold ixD at a⊢;rw[aM,List.getElem?_set_self (by rw[Sc];exact j.2),if_pos (by simp)];simp only[Option.getD_some];omega
  ·have h1:x∈L++[b]↔x∈L:=by simp[e]
   simp only[h1];rw[<-a];unfold ixD;rw[aM,List.getElem?_set_ne (by omega),aM]
noncomputable def depthK(f:bG)(out:List (List Int))(k:Nat):List Int:=((Je f out).take k).foldl (λl h=>WA l (Es f out h)) (List.replicate f.blocks.length 0)
noncomputable def C6(f:bG)(out:List (List Int)):List Int:=depthK f out (Je f out).length
theorem Pv(hk:(Je f out)[k]? =bT h):depthK f out (k+1)=WA (depthK f out k) (Es f out h):=by
 unfold depthK;rw[bB,hk,aL];rfl
theorem JW(k:Nat):(depthK f out k).length=f.blocks.length:=by
 unfold depthK;generalize (Je f out).take k=L;induction L using snoc_ind with
 |nil=>simp
 |append_singleton L b a=>rw[aL];simp only[List.foldl_cons,List.foldl_nil];rw[Sc,a]
theorem LO{b:Int}(a:b∈Es f out h):0<=b/\b.toNat < f.blocks.length:=by
 unfold Es at a;split at a
 ·cases a
 ·exact Yb.1 (List.mem_filter.1 a).1
theorem Afq(h:Int):(Es f out h).length<=f.blocks.length:=KO (LP h) λx hx=>LO hx
theorem Ag7{x:Int}(hx:0<=x)(a:x.toNat < f.blocks.length):∀k,k<=(Je f out).length->ixD (depthK f out k) x=((((Je f out).take k).countP λh=>(Es f out h).contains x:Nat):Int):=by
 intro k;induction k with
 |zero=>
  intro _;unfold depthK ixD;simp[List.getElem?_replicate,a]
 |succ k c=>
  intro hk;obtain⟨h,hh⟩:∃h,(Je f out)[k]? =bT h:=⟨_,aN hk⟩
  rw[Pv hh,Af9 hx (PE (LP h)) (λb d=>by rw[JW];exact LO d),c (by omega),bB,hh,List.countP_append];simp only[Option.toList_some,List.countP_cons,List.countP_nil,aK,Nat.zero_add];split <;> simp
theorem UR{x:Int}(hx:0<=x)(a:x.toNat < f.blocks.length)(hk:k<=(Je f out).length):0<=ixD (depthK f out k) x/\ixD (depthK f out k) x<=(k:Int):=by
 rw[Ag7 hx a k hk];have:=List.countP_le_length (p:=λh=>(Es f out h).contains x) (l:=(Je f out).take k);rw[List.length_take]at this;omega
theorem Af8(c:bE f){x:Int}(hk:k < (Je f out).length)(hq:(Es f out h)[q]? =bT x):
 Cm (WA (depthK f out k) ((Es f out h).take q)) x=aC/\wfB .i64 (aE.wrap (ixD (WA (depthK f out k) ((Es f out h).take q)) x+1))=aC/\
  (WA (depthK f out k) ((Es f out h).take q)).set (Int.toNat x) (aE.wrap (ixD (WA (depthK f out k) ((Es f out h).take q)) x+1))=WA (depthK f out k) ((Es f out h).take (q+1)):=by
 have u:=c.small.blocks;have a:=LO (aZ hq);have s:=Yo (f:=f) (out:=out);have v:=UR (f:=f) (out:=out) a.1 a.2 (k:=k) (by omega);have d:=PE (LP (f:=f) (out:=out) h);have j:(Es f out h).take (q+1)=(Es f out h).take q++[x]:=by rw[bB,hq];rfl
 have m:x∉(Es f out h).take q:=λe=>by
  have h2:((Es f out h).take (q+1)).Nodup:=d.sublist (bD _ _);rw[j]at h2;exact(a7.1 h2).2.2 x e x (by simp) V
 have g:=Af9 (l:=depthK f out k) a.1 (d.sublist (bD q _)) λb t=>by rw[JW];exact LO (List.mem_of_mem_take t)
 rw[if_neg m,Int.add_zero]at g;have o:aE.wrap (ixD (depthK f out k) x+1)=ixD (depthK f out k) x+1:=IntWalk.i64_in _ (by omega);refine⟨BL.2 ⟨a.1,by rw[Sc,JW];exact a.2⟩,?_,?_⟩
 ·rw[g,o];exact wfN (n:=f.blocks.length+2) (by omega) (by omega) (by omega)
 ·rw[j,Pj,g,o]
theorem Alm(c:bE f)(d:(Db f).to out)(H:AboveP f out):(Hi f).to (C6 f out):=by
 have m:=c.small.blocks;have g:=Yo (f:=f) (out:=out);unfold Hi;refine Af (by unfold VN maxLen;simp;omega) (Am (Ak6 c d H) (Am (a:=C6 f out) (B9 (step:=Ex f (Je f out)) (λk:Nat=>((k:Int),depthK f out k)) (Je f out).length (λk hk=>?_) ?_ (bR _)) (Aj _)))
 ·obtain⟨h,hh⟩:∃h,(Je f out)[k]? =bT h:=⟨_,aN hk⟩
  simp only[Ex,Cf hh];have e:=Afq (f:=f) (out:=out) h;refine AI (decide_eq_true (by omega)) (Af (E7 hk) (Am (Apk c d H h) (Am (a:=depthK f out (k+1)) ?_ (by rw[Axs hk (by omega)];exact Aj _))));rw[Pv hh];refine B9 (step:=DT (Es f out h)) (λq:Nat=>((q:Int),WA (depthK f out k) ((Es f out h).take q))) (Es f out h).length (λq hq=>?_) ?_ (bR _)
  ·obtain⟨x,hx⟩:∃x,(Es f out h)[q]? =bT x:=⟨_,aN hq⟩
   obtain⟨h1,h2,j⟩:=Af8 c hk hx;simp only[DT,Cf hx];refine AI (decide_eq_true (by omega)) (Af (E7 hq) (Af h1 (Af h2 ?_)));rw[j,Axs hq (by omega)];exact Aj _
  ·rw[bC];simp only[DT];exact AJ (decide_eq_false (by omega)) (Aj _)
 ·simp only[Ex];exact AJ (decide_eq_false (by omega)) (Aj _)
end
def pwI(d:Int):Nat:=(if 4 < d then 4 else d).toNat
def Ep(d:Int):Int:=10 ^ pwI d
theorem Am2(d:Int):pwI d<=4:=by unfold pwI;split <;> omega
theorem At1{d:Int}(h:0<=d):((pwI d:Nat):Int)=if 4 < d then 4 else d:=by unfold pwI;split <;> omega
theorem TL(d:Int):Ep d=1/\pwI d=0\/Ep d=10/\pwI d=1\/Ep d=100/\pwI d=2\/Ep d=1000/\pwI d=3\/Ep d=10000/\pwI d=4:=by
 have h:=Am2 d;unfold Ep;have h2:pwI d=0\/pwI d=1\/pwI d=2\/pwI d=3\/pwI d=4:=by omega
 rcases h2 with e|e|e|e|e <;> rw[e] <;> simp
theorem ZB(d:Int):1<=Ep d/\Ep d<=10000:=by rcases TL d with⟨e,_⟩|⟨e,_⟩|⟨e,_⟩|⟨e,_⟩|⟨e,_⟩ <;> rw[e] <;> omega
def rnG(f:bG)(dl:List Int)(k:Nat):List (Int×Int):=(Nt (f.blocks.getD k default)).map λr=>(r,Ep (ixD dl (k:Int)))
def rnK(f:bG)(dl:List Int)(k:Nat):List (Int×Int):=((bA f.blocks.length).take k).flatMap (rnG f dl)
def rnF(f:bG)(dl:List Int):List (Int×Int):=(bA f.blocks.length).flatMap (rnG f dl)
theorem Yr{a β:Type}(g:a->List β)(l:List a)(k:Nat):(l.take k).flatMap g <+:l.flatMap g:=by
 conv=>rhs;rw[<-List.take_append_drop k l]
 rw[List.flatMap_append];exact List.prefix_append _ _
section
variable{f:bG}{dl:List Int}
theorem XR(hk:k < f.blocks.length):rnK f dl (k+1)=rnK f dl k++rnG f dl k:=by
 unfold rnK;exact Dq (aR hk)
theorem Aov(k:Nat):rnK f dl k <+:rnF f dl:=Yr _ _ _
theorem Aow:rnK f dl f.blocks.length=rnF f dl:=by
 unfold rnK rnF;rw[show(bA f.blocks.length).take f.blocks.length=bA f.blocks.length from List.take_of_length_le (by simp)]
theorem Amx(a:f.blocks[k]? =bT b):rnG f dl k=(Nt b).map λr=>(r,Ep (ixD dl (k:Int))):=by
 unfold rnG;rw[aM,a];rfl
def rnI(f:bG)(dl:List Int)(k:Nat)(b:Block)(i:Nat):List (Int×Int):=rnK f dl k++((b.ins.take i).flatMap By).map λr=>(r,Ep (ixD dl (k:Int)))
def rnR(f:bG)(dl:List Int)(k:Nat)(b:Block)(i:Nat)(x:Ins)(q:Nat):List (Int×Int):=rnI f dl k b i++((By x).take q).map λr=>(r,Ep (ixD dl (k:Int)))
theorem Ajn:rnI f dl k b 0=rnK f dl k:=by simp[rnI]
theorem Aoy(a:f.blocks[k]? =bT b):rnI f dl k b b.ins.length=rnK f dl (k+1):=by
 rw[XR (aP.1 a).1,Amx a];unfold rnI Nt;rw[bC]
theorem Ajm:rnR f dl k b i x 0=rnI f dl k b i:=by simp[rnR]
theorem Ad6(hx:b.ins[i]? =bT x):rnR f dl k b i x (By x).length=rnI f dl k b (i+1):=by
 unfold rnR rnI;rw[bC,Dq hx,aT,aJ]
theorem XQ(a:(By x)[q]? =bT r):rnR f dl k b i x (q+1)=rnR f dl k b i x q++[(r,Ep (ixD dl (k:Int)))]:=by
 unfold rnR;rw[bB,a,aT,aJ];rfl
theorem Aox(a:f.blocks[k]? =bT b):rnI f dl k b i <+:rnF f dl:=by
 refine List.IsPrefix.trans ?_ (Aov (k+1));rw[XR (aP.1 a).1,Amx a];unfold rnI Nt;exact(a8 _).2 ((Yr _ _ _).map _)
theorem Aou(a:f.blocks[k]? =bT b)(hx:b.ins[i]? =bT x):rnR f dl k b i x q <+:rnF f dl:=by
 refine List.IsPrefix.trans ?_ (Aox a (i:=i+1));rw[<-Ad6 hx];unfold rnR;rw[bC];exact(a8 _).2 ((List.take_prefix _ _).map _)
theorem V3:(rnF f dl).map (·.1)=Nv f:=by
 unfold rnF Nv;rw[List.map_flatMap];have e:(bA f.blocks.length).map (λk=>f.blocks.getD k default)=f.blocks:=by
  refine List.ext_getElem? λk=>?_
  rw[List.getElem?_map];by_cases hk:k < f.blocks.length
  ·rw[aR hk];show bT (f.blocks.getD k default)=_;rw[aM,aN hk];rfl
  ·rw[aO (by simpa using hk),aO (by omega)];rfl
 conv=>rhs;rw[<-e]
 rw[List.flatMap_map];congr 1;funext k;unfold rnG;rw[List.map_map];exact List.map_id'' (λ_=>rfl) _
theorem V2:(rnF f dl).length=(Nv f).length:=by rw[<-V3 (dl:=dl),List.length_map]
theorem Aoz{p:Int×Int}(h:p∈rnF f dl):1<=p.2/\p.2<=10000:=by
 unfold rnF at h;obtain⟨k,_,h⟩:=List.mem_flatMap.1 h;unfold rnG at h;obtain⟨r,_,rfl⟩:=aY.1 h;exact ZB _
theorem Ao0(c:okIns x)(d:x.args.length<=2097152):(Jk x).to (By x):=by
 unfold Jk By;have h1:(Kz x).to (readsC x):=Af (by rw[aA];exact⟨DC.2 c,decide_eq_true d⟩) (Aj _);have h2:(IV x).to (if Bd x then x.d else 0,Bd x):=Af (DC.2 c) (Aj _);have e:=Mu d;refine Am h1 (Am (a:=readsC x++if Bd x then [x.d]else []) (Am h2 ?_) (Aj _));cases Bd x with
 |true=>exact AI V (Af c.d (Af (Ajj (by simp only[zai];omega)) (Aj _)))
 |false=>
  simp only[Bool.false_eq_true,if_false,List.append_nil];exact AJ V (Aj _)
theorem Ao2{d:List Int}{k:Int}(h:0<=ixD d k):(bJ (DF d k) (1,0)).to (Ep (ixD d k)):=by
 have c:=At1 h;have m:=Am2 (ixD d k);unfold Ep;refine B9 (step:=DF d k) (λj:Nat=>((10:Int) ^ j,(j:Int))) (pwI (ixD d k)) (λj g=>?_) ?_ (bR _)
 ·simp only[DF];refine AI (decide_eq_true (by rw[<-c];omega)) ?_;have e:aE.wrap ((10:Int) ^ j * 10)=(10:Int) ^ (j+1):=by
   have a:j=0\/j=1\/j=2\/j=3:=by omega
   rcases a with rfl|rfl|rfl|rfl <;> rfl
  rw[e,Aqo g (by omega)];exact Aj _
 ·simp only[DF];exact AJ (decide_eq_false (by rw[<-c];omega)) (Aj _)
theorem Abh(c:bE f)(a:b∈f.blocks)(hx:x∈b.ins):okIns x/\x.args.length<=2097152:=⟨(c.ok.blocks b a).ins x hx,by
 have:=((c.small.all b a).all x hx)
 omega⟩
variable{out:List (List Int)}{σ:Type}{step:σ->Int->Int->M σ}
theorem Aaw(hk:k < f.blocks.length):0<=ixD (C6 f out) (k:Int):=(UR (f:=f) (out:=out) (x:=(k:Int)) (by omega) (by simpa using hk) (bO _)).1
theorem Aq5(c:bE f)(u:(Db f).to out)(H:AboveP f out)(G:List (Int×Int)->σ)(s:∀d p,d++[p] <+:rnF f (C6 f out)->(step (G d) p.1 p.2).to (G (d++[p]))):
 (Jl step f (G [])).to (G (rnF f (C6 f out))):=by
 have w:=c.small.blocks;have o:(C6 f out).length=f.blocks.length:=JW _;unfold Jl;refine Am (Alm c u H) (Am (a:=G (rnF f (C6 f out))) ?_ (Aj _));rw[<-Aow];refine B9 (step:=E9 step f (C6 f out)) (λk:Nat=>((k:Int),G (rnK f (C6 f out) k))) f.blocks.length (λk hk=>?_) ?_ (bR _)
 ·obtain⟨b,e⟩:∃b,f.blocks[k]? =bT b:=⟨_,aN hk⟩
  have v:=c.ins b (aZ e);simp only[E9];refine AI (decide_eq_true (by omega)) (Af (E7 (by omega)) (Am (Ao2 (Aaw hk)) (Af (E7 hk) (Am (a:=G (rnK f (C6 f out) (k+1))) ?_ (by rw[Aqo hk (by omega)];exact Aj _)))));rw[<-Aoy e];refine(show(bJ (DE step f (k:Int) (Ep (ixD (C6 f out) (k:Int)))) (0,G (rnK f (C6 f out) k))).to _ from ?_);rw[<-Ajn (b:=b)];refine B9 (step:=DE step f (k:Int) (Ep (ixD (C6 f out) (k:Int)))) (λi:Nat=>((i:Int),G (rnI f (C6 f out) k b i))) b.ins.length (λi hi=>?_) ?_ (bR _)
  ·obtain⟨x,hx⟩:∃x,b.ins[i]? =bT x:=⟨_,aN hi⟩
   obtain⟨n,g⟩:=Abh c (aZ e) (aZ hx);simp only[DE,Cf e,Cf hx];refine AI (decide_eq_true (by omega)) (Af (E7 hi) (Am (Ao0 n g) (Am (a:=G (rnI f (C6 f out) k b (i+1))) ?_ (by rw[Aqo hi (by omega)];exact Aj _))));rw[<-Ad6 hx,<-Ajm (x:=x)];have t:(By x).length<=2097155:=by
    have:=Mu g;unfold By;rw[aS];split <;> simp <;> omega
   refine B9 (step:=Ew step (Ep (ixD (C6 f out) (k:Int))) (By x)) (λq:Nat=>((q:Int),G (rnR f (C6 f out) k b i x q))) (By x).length (λq hq=>?_) ?_ (bR _)
   ·obtain⟨r,m⟩:∃r,(By x)[q]? =bT r:=⟨_,aN hq⟩
    simp only[Ew,Cf m];have j:=s (rnR f (C6 f out) k b i x q) (r,Ep (ixD (C6 f out) (k:Int))) (by rw[<-XQ m];exact Aou e hx);rw[XQ m];exact AI (decide_eq_true (by omega)) (Af (E7 hq) (Am j (by rw[Aqo hq (by omega)];exact Aj _)))
   ·simp only[Ew];exact AJ (decide_eq_false (by omega)) (Aj _)
  ·simp only[DE,Cf e];exact AJ (decide_eq_false (by omega)) (Aj _)
 ·simp only[E9,o];exact AJ (decide_eq_false (by omega)) (Aj _)
def Kd(r:Int)(l:List (Int×Int)):Int:=((l.filter λp=>p.1 ==r).map (·.2)).sum
theorem Px(r:Int)(l m:List (Int×Int)):Kd r (l++m)=Kd r l+Kd r m:=by simp[Kd,List.filter_append]
theorem Pw(r:Int)(p:Int×Int):Kd r [p]=if p.1 ==r then p.2 else 0:=by
 unfold Kd;rw[List.filter_cons];split <;> simp
theorem UW(r:Int):∀{l:List (Int×Int)},(∀p∈l,1<=p.2/\p.2<=10000)->0<=Kd r l/\Kd r l<=10000 *(l.length:Int)
 | [],_=>by simp[Kd]
 |p::l,h=>by
  have a:=UW r (l:=l) λq hq=>h q (List.mem_cons_of_mem _ hq)
  have c:=h p (by simp);rw[show p::l= [p]++l from V,Px,Pw,aS];simp only[zai];split <;> omega
theorem Ao3{a:List (Int×Int)}(c:bE f)(h:a <+:rnF f dl)(r:Int):0<=Kd r a/\Kd r a<=30000000000:=by
 have h1:=UW r (l:=a) λp d=>Aoz (h.subset d)
 have h2:=h.length_le;have e:=c.all;rw[V2]at h2;omega
def J9(l:List (Int×Int)):List (Int×Int):=l.foldl (λm p=>B7 m p.1 ((getK m p.1).getD 0+p.2)) []
theorem QH(l:List (Int×Int))(p:Int×Int):J9 (l++[p])=B7 (J9 l) p.1 ((getK (J9 l) p.1).getD 0+p.2):=by
 unfold J9;rw[aL];rfl
theorem Rf{l:List (Int×Int)}(h:r∉l.map (·.1)):Kd r l=0:=by
 unfold Kd;rw[List.filter_eq_nil_iff.2 λp a=>by
  intro e;exact h (aY.2 ⟨p,a,by simpa using e⟩)]
 rfl
theorem NU(l:List (Int×Int)):Eb (J9 l)/\(J9 l).length<=l.length/\∀x,getK (J9 l) x=if x∈l.map (·.1)then bT (Kd x l)else bS:=by
 induction l using snoc_ind with
 |nil=>exact⟨Eb.nil,bO _,λx=>rfl⟩
 |append_singleton l p c=>
  obtain⟨h1,h2,a⟩:=c;rw[QH];refine⟨h1.put _ _,?_,λx=>?_⟩
  ·have:=EY (l:=J9 l) p.1 ((getK (J9 l) p.1).getD 0+p.2);rw[aS];simp only[zai];omega
  ·rw[BH h1,aT,Px,Pw];by_cases e:x=p.1
   ·subst e;rw[if_pos V,if_pos (by simp),a];split
    ·simp
    ·rename_i d;rw[Rf d];simp
   ·rw[if_neg e,a];have j:(p.1 ==x)=aB:=by simpa using λk=>e k.symm
    rw[j];have g:x∈l.map (·.1)++[p].map (·.1)↔x∈l.map (·.1):=by simp[e]
    simp only[g];simp
theorem Acv(l:List (Int×Int))(x:Int):Qb (J9 l) x=Kd x l:=by
 unfold Qb;rw[(NU l).2.2 x];split
 ·rfl
 ·rename_i h;rw[Rf h];rfl
theorem Afw:keysK (J9 (rnF f dl))=AF f:=by
 obtain⟨h1,_,g⟩:=NU (rnF f dl);refine GN (List.pairwise_map.2 h1) (CL f).1 λx=>?_
 rw[(CL f).2,<-V3 (dl:=dl)];have a:=g x;constructor
 ·intro hx;obtain⟨p,c,e⟩:=aY.1 hx;have d:getK (J9 (rnF f dl)) x=bT p.2:=(CK h1).2 (by rw[<-e];exact c);rw[d]at a;split at a
  ·assumption
  ·cases a
 ·intro hx;rw[if_pos hx]at a;exact aY.2 ⟨_,(CK h1).1 a,rfl⟩
def An6(f:bG)(dl:List Int):List Int:=Ky (J9 (rnF f dl)) (AF f)
theorem Al0(c:bE f)(s:(Db f).to out)(H:AboveP f out):(MS f).to (An6 f (C6 f out)):=by
 unfold MS;have m:=c.all;have hk:=NU (rnF f (C6 f out));rw[V2]at hk;refine Am (a:=J9 (rnF f (C6 f out))) (Aq5 c s H J9 λd p j=>?_) (Af (decide_eq_true ⟨by omega,hk.1⟩) ?_)
 ·have e:p∈rnF f (C6 f out):=j.subset (by simp);have o:wfB .i64 p.1=aC:=Xg c.ok p.1 (by rw[<-V3 (dl:=C6 f out)];exact aY.2 ⟨p,e,rfl⟩);have g:=j.length_le;rw[V2,aS]at g;have h2:=(NU d).2.1;have t:(getK (J9 d) p.1).getD 0=Kd p.1 d:=Acv d p.1;have n:=Ao3 c j p.1;rw[Px,Pw]at n;simp only[beq_self_eq_true,if_true]at n;rw[QH];simp only[Gx];refine Af o (Af (decide_eq_true (by unfold maxLen;omega)) ?_);rw[t,IntWalk.i64_in _ (by omega)];exact Aj _
 ·rw[Afw];exact Aj _
end
open Go.Maps
variable{f:bG}{r:Bool}
def RR(f:bG)(r:Int):Nat:=((regsB f).filter λy=>FY f r y).length
structure ColOK(f:Func)(r:Plan×Int):Prop where
 no:Ia f=false->r=(⟨false,0,[]⟩,2)
 err:Ia f=true->r.2=0
 right:Ia f=true->C4 f r.1=true
 ok:okPlan r.1
 wf:∀x∈r.1.at_,Ch x
 lf:Ia f=true->leaf f.blocks=true->(∀x∈regsB f,RR f x < 7)->r.1.leaf=true
 few:Ia f=true->(∀x∈regsB f,RR f x < 14)->r.1.slots=0
 many:r.1.slots≠0->r.1.slots+14<=((regsB f).length:Int)
theorem XW(a:List Int)(r:Int):14<=(BA a r aB).length:=by
 rcases TO a r aB with⟨h,_⟩|⟨_,_,h2⟩|⟨_,_,h2⟩
 ·cases h
 ·rw[h2];decide
 ·rw[h2];decide
theorem App(g:CF f=aB):(Rk f).length<=2097152:=by
 have h1:=Oa 250 (λb:Block=>b.ins) f.blocks λb a=>Uv g a
 have h2:=Nm g;show(f.blocks.flatMap λb=>b.ins).length<=_;omega
theorem Ads(G:CGraph)(A:List (Int×Int)):IN G [] A=(A,0):=rfl
theorem Ahg(f:bG)(c:bE f)(ac:Dc.bulk f<=2097152)(g:CF f=aB):∃r:bN×Int,Fn aF 9 [.agg (Ak f)] (.tup [.agg (BF r.1),.lit (.int .i64 r.2)])/\ColOK f r:=by
 have hr:=G2 g;have t:=Afl f c (by omega);cases C:Ia f with
 |false=>
  rw[C]at t;exact⟨(⟨aB,0,[]⟩,2),WW f t,⟨λ_=>rfl,λh=>(by rw[C]at h;cases h),λh=>(by rw[C]at h;cases h),⟨Mm ⟨by decide,by decide⟩⟩,λx hx=>(by cases hx),λh=>(by rw[C]at h;cases h),λh=>(by rw[C]at h;cases h),λh=>absurd V h⟩⟩
 |true=>
  rw[C]at t;have u:=Ns (f:=f) (Af (by rw[aA];exact⟨BM.2 c,decide_eq_true ac⟩) (Aj _));obtain⟨out,ho,HA⟩:=Amd c;have X:=UV (Al0 c ho HA);obtain⟨ch,S⟩:∃x,x=An6 f (C6 f out):=⟨_,rfl⟩
  rw[<-S]at X;have B:ch.Perm (AF f):=by rw[S];exact GT _ _
  have af:=Aqx g;have ab:ch.length<=1000:=by rw[B.length_eq];omega
  have Q:∀r∈ch,r∈AF f:=λr h=>B.mem_iff.1 h
  have hE:(CC f).length<=3600:=LA g _;have hM:(mvL f).length<=3600:=LA g _;have G:∀lf,Fn aF 25 [.agg (Ak f),.lit (.bool lf)] (.bp Bc (Ct f lf ch) 0):=λlf=>Aad f lf ch c (by omega) X (by omega) (by omega) (QX c _) (QX c _) (App g) (bP (Q8 g lf) (by decide)) (λx hx=>by
   obtain⟨h1,n,e,h2,_⟩:=Age hx;exact⟨EW c.ok h1,by rw[e];exact Mm ⟨by omega,by omega⟩⟩) (λr h=>EW c.ok h)
  have w:∀lf,OkGr (Ct f lf ch):=λlf=>Ake c g Q ab
  have T:∀lf,SymG (Ct f lf ch):=λlf=>Ac8
  have d:0<=f.regs/\f.regs<=4096:=by
   have h:=C;unfold Ia Akg at h;simp only[zap]at h;omega
  have E:∀lf r,∀p∈Qw (Ct f lf ch) r,4<=p/\p < 32:=λlf r p y=>by
   rw[Hj]at y;split at y
   ·exact Lx y
   ·cases y
  have D:∀lf m,(∀r,m<=(BA (B5 f) r lf).length)->(∀x∈regsB f,RR f x < m)->∀out,(BD (Ct f lf ch) out).2= []:=λlf m h1 h2 out=>ZH (w lf).toOkG (λr j=>by
   have j:r∈regsB f:=j;rw[Hj,if_pos j];have J:=Afh (f:=f) (lf:=lf) (ch:=ch) r;have h4:=h2 r j;have h5:=h1 r;unfold RR at h4;exact⟨(OR _ _ _).2.2,by omega⟩) out
  by_cases hL:leaf f.blocks=aC/\(BD (Ct f aC ch) []).2= []
  ·obtain⟨W,U⟩:=hL;rw[W]at u;have hq:=Adr (w aC).toOkG (T aC) (out:=[]) Eb.nil (λx v h=>by cases h) (λx h=>by cases h) U;rw[Ads]at hq;obtain⟨A,hA⟩:∃A,A=(BD (Ct f aC ch) []).1:=⟨_,rfl⟩
   rw[<-hA]at hq;have I:∀r p,getK A r=bT p->Ch p:=λr p h=>by
    rcases hq.cl r p h with h1|⟨h1,h2⟩
    ·have:=E aC r p h1;exact Mm ⟨by omega,by omega⟩
    ·exact Mm ⟨by omega,by have h2:p < 32+0:=h2;omega⟩
   have K:=L5 (Aex (lf:=aC) (slots:=0) d.1 d.2 I);obtain⟨Z,Y⟩:=QU C hq (λ_=>⟨W,rfl⟩) (by decide);rw[hA]at K;refine⟨(⟨aC,0,atP f.regs.toNat A⟩,0),?_,⟨λh=>(by rw[C]at h;cases h),λ_=>rfl,λ_=>Z,⟨Mm ⟨by show(-1:Int)<=0;decide,by show(0:Int)<=4294967296;decide⟩⟩,Y,λ_ _ _=>rfl,λ_ _=>rfl,λh=>absurd V h⟩⟩;rw[hA];exact WX f t _ _ u (G aC) (w aC) U K
  ·obtain⟨n,hn,F⟩:=Gt (let ⟨n,h,_⟩:=WY (w aB).toOkG;⟨n,h⟩:∃n,(BD (Ct f aB ch) (DM (Ct f aB ch) n)).2= []);have N:∀k,k < n->(BD (Ct f aB ch) (DM (Ct f aB ch) k)).2≠[]:=λk hk e=>by
    have:=F k e;omega
   obtain⟨O,H⟩:∃O,O=DM (Ct f aB ch) n:=⟨_,rfl⟩
   have hq:=Adr (w aB).toOkG (T aB) (Gl (w aB).toOkG n).1 (LF (w aB).toOkG n) (JM (w aB).toOkG n) hn;rw[<-H]at hq;obtain⟨s,hs⟩:∃s,s=IN (Ct f aB ch) O (BD (Ct f aB ch) O).1:=⟨_,rfl⟩
   rw[<-hs]at hq;have a:s.2<=(O.length:Int):=by
    have y:=XY (w aB).toOkG (T aB) O;have aa:SltQ (Ct f aB ch) ((BD (Ct f aB ch) O).1,0) λx=>x∈(Ct f aB ch).regs/\(getK O x).getD 0=0:=⟨y.asc,y.nocl,λr p h=>.inl (y.cl r p h),λr=>⟨y.key r,λh=>(y.all r h).resolve_right λh=>by rw[H,hn]at h;cases h⟩,Int.le_refl 0,λz h2 J=>by have J:z < 32+0:=J;omega⟩
    have h1:=XK (λr p y=>(E aB r p y).2) (T aB) (keysK O) aa (Cp (by rw[H];exact(Gl (w aB).toOkG n).1)) λx hx hh=>by
     obtain⟨v,hv⟩:=Option.isSome_iff_exists.1 (CN.1 hx);have h2:=hh.2;rw[hv,LF (w aB).toOkG n x v (by rw[<-H];exact hv)]at h2;cases h2
    rw[hs];have h2:(keysK O).length=O.length:=by simp[keysK]
    rw[h2]at h1;have J:(IN (Ct f aB ch) O (BD (Ct f aB ch) O).1).2<=0+(O.length:Int):=h1;omega
   have o:=Ao9 (w aB) (T aB) 14 (λr j=>by
    have j:r∈regsB f:=j;rw[Hj,if_pos j];exact⟨(OR _ _ _).2.2,XW _ _⟩) n N
   rw[<-H]at o;have o:O= []\/O.length+14<=(regsB f).length:=o;have ad:0<=s.2:=hq.pos;have ae:O.length<=126:=by
    rcases o with h|h
    ·rw[h];exact bR _
    ·omega
   have I:∀r p,getK s.1 r=bT p->Ch p:=λr p h=>by
    rcases hq.cl r p h with h1|⟨h1,h2⟩
    ·have:=E aB r p h1;exact Mm ⟨by omega,by omega⟩
    ·exact Mm ⟨by omega,by omega⟩
   have L:=L5 (Aex (lf:=aB) (slots:=s.2) d.1 d.2 I);obtain⟨Z,Y⟩:=QU (lf:=aB) (A:=s.1) (slots:=s.2) C hq (λh=>by cases h) (by omega);have P:(∀x∈regsB f,RR f x < 14)->s.2=0:=λh=>by
    have h1:=D aB 14 (XW _) h [];have h2:n=0:=Nat.le_zero.1 (F 0 h1);have J:O= []:=by rw[H,h2];rfl
    rw[J]at a;have a:s.2<=0:=a;omega
   refine⟨(⟨aB,s.2,atP f.regs.toNat s.1⟩,0),?_,⟨λh=>(by rw[C]at h;cases h),λ_=>rfl,λ_=>Z,⟨Mm ⟨by show -1<=s.2;omega,by show s.2<=_;omega⟩⟩,Y,λ_ h1 h2=>absurd ⟨h1,D aC 7 (λr=>(OR _ _ _).1) h2 []⟩ hL,λ_ h=>P h,λh=>?_⟩⟩
   ·rw[hs,H]at L⊢;exact UX f t _ _ _ n _ u (λ_=>G aC) (w aC) (λh e=>hL ⟨h,e⟩) (G aB) (w aB) hn N L
   ·have h:s.2≠0:=h;show s.2+14<=_;rcases o with h1|h1
    ·rw[h1]at a;have a:s.2<=0:=a;omega
    ·omega
noncomputable section
open Classical in
def Qt(f:bG):bN×Int:=if h:∃r:bN×Int,Fn aF 9 [.agg (Ak f)] (.tup [.agg (BF r.1),.lit (.int .i64 r.2)])/\ColOK f r then h.choose else(⟨aB,0,[]⟩,0)
open Classical in
def CZ(f:bG):M (bN×Int):=bI (aD (∃r:bN×Int,Fn aF 9 [.agg (Ak f)] (.tup [.agg (BF r.1),.lit (.int .i64 r.2)])/\ColOK f r)) (bK (Qt f))
theorem Ey{r:bN×Int}(H:(CZ f).to r):Fn aF 9 [.agg (Ak f)] (.tup [.agg (BF r.1),.lit (.int .i64 r.2)]):=by
 obtain⟨c,H⟩:=Ah.1 H;obtain rfl:=Ad.1 H;have c:=@of_decide_eq_true _ (_) c;unfold Qt;rw[dif_pos c];exact c.choose_spec.1
theorem Ahf(c:bE f)(a:Dc.bulk f<=2097152)(g:CF f=aB):(CZ f).to (Qt f)/\ColOK f (Qt f):=by
 have h:=Ahg f c a g;refine⟨Af (@decide_eq_true _ (Classical.propDecidable _) h) (Aj _),?_⟩;unfold Qt;rw[dif_pos h];exact h.choose_spec.2
def MT(f:bG):M Bool:=bI (MQ f&&aD ((regsB f).length<=2147483648)) (bK (Ia f))
theorem UY(H:(MT f).to r):Fn aF 11 [.agg (Ak f)] (.lit (.bool r)):=by
 obtain⟨c,H⟩:=Ah.1 H;obtain rfl:=Ad.1 H;rw[aA]at c;exact Afl f (BM.1 c.1) (of_decide_eq_true c.2)
def Rj(p:Int):M Bool:=bK (Akw p)
theorem U5{p:Int}(H:(Rj p).to r):Fn aF 23 [.lit (.int .i64 p)] (.lit (.bool r)):=by
 obtain rfl:=Ad.1 H;exact Af2 p
end
end Mu
namespace Mu
open Go Go.RowKit Go.Proofs
noncomputable section
def Hc(args:Int)(regs:Int)(l:List Ins):M bG:=bI (LG ⟨⟨#[]⟩,l⟩) (bK ⟨⟨#[]⟩,args,regs,[⟨⟨#[]⟩,l⟩]⟩)
theorem Ic{args:Int}{regs:Int}{l:List Ins}{r:bG}(H:(Hc args regs l).to r):Fn aF 21 [.lit (.int .i64 args),.lit (.int .i64 regs),.bs Ei l] (.agg (Ak r)):=by
 delta Hc at H;try dsimp only at H
 refine J4 Tryz.func21 V (by kernel_rfl) V (by kernel_rfl:Rl aF 24=bT (aC,4)) Tryz.ntmps21 λC e=>?_
 simp only[Nat.reduceAdd,Nat.reduceSub,zaa];refine wS (sA0 (wN ?_));obtain⟨d,H⟩:=Ah.1 H;refine wS (sT (sT (sT ?_)));refine sA ?_ (BR (rs:=[.lit (.string ⟨#[]⟩),.bs Ei l]) V Ao7 V V) (Ap Mk);refine sA ?_ (AT.lt (xs:=[.tmp 10]) (T:=Cw) (ds:=[⟨⟨#[]⟩,l⟩]) V V V (by rfl) (by decide) (.cons (Agv d) .nil)) (Ap JG);refine sA ?_ (BR (rs:=[.lit (.string ⟨#[]⟩),.lit (.int .i64 args),.lit (.int .i64 regs),.bs Cw [⟨⟨#[]⟩,l⟩]]) V At2 V V) (Ap Ka);refine sW (wN ?_);obtain rfl:=Ad.1 H;exact Aw ⟨⟨.inr V,0,_,rfl,rfl,Fin.cl V⟩,λi cells c a=>by cases c;cases a;rfl⟩
def LR(n:Int):(Int×(List Ins))->M ((Int×(List Ins))⊕((List Ins))):=λ(i1,l3)=>M.cnd (aD (i1 < n)) (bI (E5 ⟨0,i1,0,0,0,0,[],0,0⟩) (bI (Fj (l3.length+([⟨0,i1,0,0,0,0,[],0,0⟩]:List Ins).length) 88) (bK (.inl (aE.wrap (i1+1),l3++([⟨0,i1,0,0,0,0,[],0,0⟩]:List Ins)))))) (bK (.inr l3))
def Kj(n:Int):(Int×(List Ins))->M ((Int×(List Ins))⊕((List Ins))):=λ(i14,l16)=>M.cnd (aD (i14 < n)) (bI (E5 ⟨6,0,i14,0,0,0,[],0,0⟩) (bI (Fj (l16.length+([⟨6,0,i14,0,0,0,[],0,0⟩]:List Ins).length) 88) (bK (.inl (aE.wrap (i14+1),l16++([⟨6,0,i14,0,0,0,[],0,0⟩]:List Ins)))))) (bK (.inr l16))
def Hb(n:Int):M bG:=bH (bJ (LR n) (0,([]:List Ins))) λd=>bI (E5 ⟨7,0,0,0,0,0,[],0,0⟩) (bI (Fj (d.length+([⟨7,0,0,0,0,0,[],0,0⟩]:List Ins).length) 88) (bH (bJ (Kj n) (0,d++([⟨7,0,0,0,0,0,[],0,0⟩]:List Ins))) λa=>bI (E5 ⟨10,0,0,0,0,0,[],0,0⟩) (bI (Fj (a.length+([⟨10,0,0,0,0,0,[],0,0⟩]:List Ins).length) 88) (bH (Hc 0 n (a++([⟨10,0,0,0,0,0,[],0,0⟩]:List Ins))) λc=>bK c))))
theorem Nj{n:Int}{r:bG}(H:(Hb n).to r):Fn aF 22 [.lit (.int .i64 n)] (.agg (Ak r)):=by
 delta Hb at H;try dsimp only at H
 refine J4 Tryz.func22 V (by kernel_rfl) V (by kernel_rfl:Rl aF 24=bT (aC,4)) Tryz.ntmps22 λC hC=>?_
 simp only[Nat.reduceAdd,Nat.reduceSub,zaa];refine wS (sA0 (wN ?_));refine wS (sT (wN ?_));refine AE _ (EB 3 47 Ei V (by decide)) ?_;obtain⟨z4,Y,X⟩:=Aq.1 H;refine Bn (β:=((List Ins))×(Nat)) (λs=>z4=s.1) (λs=>⟨.lit (.int .i64 n)::.any::.ptr 0 0::.own 1 s.2::A20 (A10 (A2 [])),[.box [.lit (.string ⟨#[]⟩),.lit (.int .i64 0),.lit (.int .i64 0),.lit (.slice bS 0 0)],.row s.2 47 Ei s.1]⟩) ?_ ?_
 ·refine wS (sT (wN ?_));refine Ac ?_;refine BB Y (λs4 b4=>⟨.lit (.int .i64 n)::.any::.ptr 0 0::.own 1 b4::.lit (.int .i64 s4.1)::A20 (A10 [.any]),[.box [.lit (.string ⟨#[]⟩),.lit (.int .i64 0),.lit (.int .i64 0),.lit (.slice bS 0 0)],.row b4 47 Ei s4.2]⟩) 0 (?_) ?_
  ·try dsimp only
   exact AS
  ·rintro⟨i1,l3⟩ Z x4 H W;try dsimp only
   dsimp only[LR]at H;refine Ab λab F=>?_
   refine wS (sT (sT (sT (wN ?_))));refine Ag V (λg=>?_) (λg=>?_)
   ·have H:=AN g H;refine Al ?_;refine F _ ?_;refine nT ?_;refine Ab λaa E=>?_
    refine Ac ?_;obtain⟨Q,H⟩:=Ah.1 H;obtain⟨P,H⟩:=Ah.1 H;refine wSE (sT (sT ?_));refine sA ?_ (BR (rs:=[.lit (.int .u8 0),.lit (.int .i64 i1),.lit (.int .i64 0),.lit (.int .i64 0),.lit (.int .u32 0),.lit (.int .i64 0),.lit (.slice bS 0 0),.lit (.int .i64 0),.lit (.int .i64 0)]) V Qi V V) (Ap GY);refine sA (hq:=AT.lt (xs:=[.tmp 13]) (T:=Ei) (ds:=[⟨0,i1,0,0,0,0,[],0,0⟩]) V V V (by rfl) (by decide) (.cons (bF (Qy (.cons (.refl _) (.cons (.refl _) (.cons (.refl _) (.cons (.refl _) (.cons (.refl _) (.cons (.refl _) (.cons (.nil _) (.cons (.refl _) (.cons (.refl _) .nil)))))))))) (GJ Q)) .nil)) (ht:=(Ap HT)) (hk:=?_);refine sP P (sT (wN ?_));refine E _ ?_;refine nT ?_;refine wSE (sT (sT (sT (wN ?_))));have G:=Ad.1 H;repeat(first|refine abN ?_|refine asN ?_)
    refine An ⟨_,Z+1,G.symm,?_⟩;try dsimp only
    exact AS
   ·have H:=AO g H;refine Ay ?_;repeat(first|refine BG ?_|refine exO (by decide) ?_|refine asE ?_)
    refine exN ?_;have G:=W _ (Ad.1 H).symm;repeat(first|refine abN ?_|refine asN ?_)
    refine An ⟨(_,Z),G.symm,?_⟩;try dsimp only
    exact AS
 ·rintro⟨l6,v5⟩ u;try dsimp only at u
  have H:=X;rw[u]at H;try dsimp only
  obtain⟨O,H⟩:=Ah.1 H;obtain⟨N,H⟩:=Ah.1 H;refine wS (sT ?_);refine sA ?_ (BR (rs:=[.lit (.int .u8 7),.lit (.int .i64 0),.lit (.int .i64 0),.lit (.int .i64 0),.lit (.int .u32 0),.lit (.int .i64 0),.lit (.slice bS 0 0),.lit (.int .i64 0),.lit (.int .i64 0)]) V Qi V V) (Ap (Ap JH));refine sA (hq:=AT.lt (xs:=[.tmp 17]) (T:=Ei) (ds:=[⟨7,0,0,0,0,0,[],0,0⟩]) V V V (by rfl) (by decide) (.cons (bF (Qy (.cons (.refl _) (.cons (.refl _) (.cons (.refl _) (.cons (.refl _) (.cons (.refl _) (.cons (.refl _) (.cons (.nil _) (.cons (.refl _) (.cons (.refl _) .nil)))))))))) (GJ O)) .nil)) (ht:=(Ap (Ap Mk))) (hk:=?_);refine sP N (sT (wN ?_));obtain⟨D,B,A⟩:=Aq.1 H;refine Bn (β:=((List Ins))×(Nat)) (λa=>D=a.1) (λa=>⟨.lit (.int .i64 n)::.any::.ptr 0 0::.own 1 a.2::A20 (A10 (A2 [])),[.box [.lit (.string ⟨#[]⟩),.lit (.int .i64 0),.lit (.int .i64 0),.lit (.slice bS 0 0)],.row a.2 47 Ei a.1]⟩) ?_ ?_
  ·refine wS (sT (wN ?_));refine Ac ?_;refine BB B (λo y=>⟨.lit (.int .i64 n)::.any::.ptr 0 0::.own 1 y::.any::.lit (.int .i64 o.1)::A20 (A10 []),[.box [.lit (.string ⟨#[]⟩),.lit (.int .i64 0),.lit (.int .i64 0),.lit (.slice bS 0 0)],.row y 47 Ei o.2]⟩) (v5+1) (?_) ?_
   ·try dsimp only
    exact AS
   ·rintro⟨t,ag⟩ m ac H z;try dsimp only
    dsimp only[Kj]at H;refine Ab λU w=>?_
    refine wS (sT (sT (sT (wN ?_))));refine Ag V (λc=>?_) (λc=>?_)
    ·have H:=AN c H;refine Al ?_;refine w _ ?_;refine nT ?_;refine Ab λS v=>?_
     refine Ac ?_;obtain⟨L,H⟩:=Ah.1 H;obtain⟨K,H⟩:=Ah.1 H;refine wSE (sT (sT ?_));refine sA ?_ (BR (rs:=[.lit (.int .u8 6),.lit (.int .i64 0),.lit (.int .i64 t),.lit (.int .i64 0),.lit (.int .u32 0),.lit (.int .i64 0),.lit (.slice bS 0 0),.lit (.int .i64 0),.lit (.int .i64 0)]) V Qi V V) (Ap (Ap (Ap JG)));refine sA (hq:=AT.lt (xs:=[.tmp 27]) (T:=Ei) (ds:=[⟨6,0,t,0,0,0,[],0,0⟩]) V V V (by rfl) (by decide) (.cons (bF (Qy (.cons (.refl _) (.cons (.refl _) (.cons (.refl _) (.cons (.refl _) (.cons (.refl _) (.cons (.refl _) (.cons (.nil _) (.cons (.refl _) (.cons (.refl _) .nil)))))))))) (GJ L)) .nil)) (ht:=(Ap (Ap (Ap Ka)))) (hk:=?_);refine sP K (sT (wN ?_));refine v _ ?_;refine nT ?_;refine wSE (sT (sT (sT (wN ?_))));have j:=Ad.1 H;repeat(first|refine abN ?_|refine asN ?_)
     refine An ⟨_,m+1,j.symm,?_⟩;try dsimp only
     exact AS
    ·have H:=AO c H;refine Ay ?_;repeat(first|refine BG ?_|refine exO (by decide) ?_|refine asE ?_)
     refine exN ?_;have j:=z _ (Ad.1 H).symm;repeat(first|refine abN ?_|refine asN ?_)
     refine An ⟨(_,m),j.symm,?_⟩;try dsimp only
     exact AS
  ·rintro⟨af,ad⟩ d;try dsimp only at d
   have H:=A;rw[d]at H;try dsimp only
   obtain⟨J,H⟩:=Ah.1 H;obtain⟨I,H⟩:=Ah.1 H;obtain⟨ae,e,H⟩:=Aq.1 H;have e:=Ic e;refine wS (sT (sT ?_));refine sA ?_ (BR (rs:=[.lit (.int .u8 10),.lit (.int .i64 0),.lit (.int .i64 0),.lit (.int .i64 0),.lit (.int .u32 0),.lit (.int .i64 0),.lit (.slice bS 0 0),.lit (.int .i64 0),.lit (.int .i64 0)]) V Qi V V) (Ar HU);refine sA (hq:=AT.lt (xs:=[.tmp 32]) (T:=Ei) (ds:=[⟨10,0,0,0,0,0,[],0,0⟩]) V V V (by rfl) (by decide) (.cons (bF (Qy (.cons (.refl _) (.cons (.refl _) (.cons (.refl _) (.cons (.refl _) (.cons (.refl _) (.cons (.refl _) (.cons (.nil _) (.cons (.refl _) (.cons (.refl _) .nil)))))))))) (GJ J)) .nil)) (ht:=(Ar JH)) (hk:=?_);refine sP I ?_;refine J0 V (YX hC 1 V (by(simp only[fzH,Eh,AV.fz,ABlk.fz,aU,aV,Nat.reduceEqDiff,zan,zag];first|done|exact V)) (by(simp only[fzH,Eh,AV.fz,ABlk.fz,aU,aV,Nat.reduceEqDiff,zan,zag];first|done|exact V))) ?_;refine sC e (sW (wN ?_));obtain rfl:=Ad.1 H;exact Aw ⟨⟨.inr V,0,_,rfl,rfl,Fin.cl V⟩,λi cells e1 e2=>by cases e1;cases e2;rfl⟩
def FC:M Bool:=bI (E5 ⟨1,2,0,1,0,0,[],0,0⟩) (bI (E5 ⟨10,0,2,0,0,0,[],0,0⟩) (bH (Hc 2 3 [⟨1,2,0,1,0,0,[],0,0⟩,⟨10,0,2,0,0,0,[],0,0⟩]) λr3=>bI (E5 ⟨5,1,0,0,0,0,[0],0,0⟩) (bI (E5 ⟨1,1,1,0,0,0,[],0,0⟩) (bI (E5 ⟨10,0,1,0,0,0,[],0,0⟩) (bH (Hc 1 2 [⟨5,1,0,0,0,0,[0],0,0⟩,⟨1,1,1,0,0,0,[],0,0⟩,⟨10,0,1,0,0,0,[],0,0⟩]) λu=>bH (CZ r3) λa=>bH (CZ u) λd=>bH (Hb 22) λt=>bH (CZ t) λc=>bI (E5 ⟨0,1,0,0,0,0,[],0,0⟩) (bH (Hc 0 1 [⟨0,1,0,0,0,0,[],0,0⟩]) λs=>bH (CZ s) λm=>M.cnd (((((a.2 !=0)||(d.2 !=0))||(c.2 !=0))||((a.1.at_.length:Int) !=3))||((d.1.at_.length:Int) !=2)) (bK aB) (bI (!(a.1.leaf&&(a.1.slots ==0))||(Cm a.1.at_ 0)) (bI (!(a.1.leaf&&(a.1.slots ==0))||(Cm a.1.at_ 1)) (bH (bM ((a.1.leaf&&(a.1.slots ==0))&&((ixD a.1.at_ 0) !=(ixD a.1.at_ 1))) aB (E4 r3 a.1)) λe=>bI (!((((a.1.leaf&&(a.1.slots ==0))&&((ixD a.1.at_ 0) !=(ixD a.1.at_ 1)))&&e)&&(!d.1.leaf))||(Cm d.1.at_ 0)) (bH (bM ((((a.1.leaf&&(a.1.slots ==0))&&((ixD a.1.at_ 0) !=(ixD a.1.at_ 1)))&&e)&&(!d.1.leaf)) aB (Rj (ixD d.1.at_ 0))) λg=>bI (!(((((a.1.leaf&&(a.1.slots ==0))&&((ixD a.1.at_ 0) !=(ixD a.1.at_ 1)))&&e)&&(!d.1.leaf))&&g)||(Cm d.1.at_ 0)) (bH (bM ((((((((a.1.leaf&&(a.1.slots ==0))&&((ixD a.1.at_ 0) !=(ixD a.1.at_ 1)))&&e)&&(!d.1.leaf))&&g)&&(aD ((ixD d.1.at_ 0) < 32)))&&(!c.1.leaf))&&(c.1.slots ==8)) ⟨⟨#[]⟩,0,0,[]⟩ (Hb 22)) λo=>bH (bM ((((((((a.1.leaf&&(a.1.slots ==0))&&((ixD a.1.at_ 0) !=(ixD a.1.at_ 1)))&&e)&&(!d.1.leaf))&&g)&&(aD ((ixD d.1.at_ 0) < 32)))&&(!c.1.leaf))&&(c.1.slots ==8)) aB (E4 o c.1)) λj=>bH (bM ((((((((((a.1.leaf&&(a.1.slots ==0))&&((ixD a.1.at_ 0) !=(ixD a.1.at_ 1)))&&e)&&(!d.1.leaf))&&g)&&(aD ((ixD d.1.at_ 0) < 32)))&&(!c.1.leaf))&&(c.1.slots ==8))&&j)&&(m.2 ==2)) aB (MT r3)) λn=>bK (((((((((((a.1.leaf&&(a.1.slots ==0))&&((ixD a.1.at_ 0) !=(ixD a.1.at_ 1)))&&e)&&(!d.1.leaf))&&g)&&(aD ((ixD d.1.at_ 0) < 32)))&&(!c.1.leaf))&&(c.1.slots ==8))&&j)&&(m.2 ==2))&&n))))))))))))
theorem Nk{r:Bool}(H:(FC).to r):Fn aF 8 [] (.lit (.bool r)):=by
 delta FC at H;try dsimp only at H
 refine AQ Tryz.func8 V (by kernel_rfl) V Tryz.ntmps8 λC hC=>?_
 simp only[Nat.reduceAdd,Nat.reduceSub,zaa];refine wS (sT (wN ?_));obtain⟨c1,H⟩:=Ah.1 H;obtain⟨c2,H⟩:=Ah.1 H;obtain⟨r3,B,H⟩:=Aq.1 H;have B:=Ic B;refine wS ?_;refine sA ?_ (BR (rs:=[.lit (.int .u8 1),.lit (.int .i64 2),.lit (.int .i64 0),.lit (.int .i64 1),.lit (.int .u32 0),.lit (.int .i64 0),.lit (.slice bS 0 0),.lit (.int .i64 0),.lit (.int .i64 0)]) V Qi V V) (Ap JG);refine sA ?_ (BR (rs:=[.lit (.int .u8 10),.lit (.int .i64 0),.lit (.int .i64 2),.lit (.int .i64 0),.lit (.int .u32 0),.lit (.int .i64 0),.lit (.slice bS 0 0),.lit (.int .i64 0),.lit (.int .i64 0)]) V Qi V V) (Ap Ka);refine sA (hq:=AT.lt (xs:=[.tmp 11,.tmp 12]) (T:=Ei) (ds:=[⟨1,2,0,1,0,0,[],0,0⟩,⟨10,0,2,0,0,0,[],0,0⟩]) V V V (by rfl) (by decide) (.cons (bF (Qy (.cons (.refl _) (.cons (.refl _) (.cons (.refl _) (.cons (.refl _) (.cons (.refl _) (.cons (.refl _) (.cons (.nil _) (.cons (.refl _) (.cons (.refl _) .nil)))))))))) (GJ c1)) (.cons (bF (Qy (.cons (.refl _) (.cons (.refl _) (.cons (.refl _) (.cons (.refl _) (.cons (.refl _) (.cons (.refl _) (.cons (.nil _) (.cons (.refl _) (.cons (.refl _) .nil)))))))))) (GJ c2)) .nil))) (ht:=(Ap GY)) (hk:=?_);refine sC B (sA0 (sW (wN ?_)));obtain⟨Z,H⟩:=Ah.1 H;obtain⟨Y,H⟩:=Ah.1 H;obtain⟨X,H⟩:=Ah.1 H;obtain⟨r7,A,H⟩:=Aq.1 H;have A:=Ic A;refine wS ?_;refine sA ?_ (AT.lt (xs:=[.const (.int .i64 0)]) (T:=tInt) (ds:=[0]) V V V (by rfl) (by decide) (.cons (Fit.int (Xy (by decide))) .nil)) (Ap Hy);refine sA ?_ (BR (rs:=[.lit (.int .u8 5),.lit (.int .i64 1),.lit (.int .i64 0),.lit (.int .i64 0),.lit (.int .u32 0),.lit (.int .i64 0),.bs tInt [0],.lit (.int .i64 0),.lit (.int .i64 0)]) V Qi V V) (Ap (Ap HU));refine sA ?_ (BR (rs:=[.lit (.int .u8 1),.lit (.int .i64 1),.lit (.int .i64 1),.lit (.int .i64 0),.lit (.int .u32 0),.lit (.int .i64 0),.lit (.slice bS 0 0),.lit (.int .i64 0),.lit (.int .i64 0)]) V Qi V V) (Ap (Ap JH));refine sA ?_ (BR (rs:=[.lit (.int .u8 10),.lit (.int .i64 0),.lit (.int .i64 1),.lit (.int .i64 0),.lit (.int .u32 0),.lit (.int .i64 0),.lit (.slice bS 0 0),.lit (.int .i64 0),.lit (.int .i64 0)]) V Qi V V) (Ap (Ap Mk));refine sA (hq:=AT.lt (xs:=[.tmp 16,.tmp 17,.tmp 18]) (T:=Ei) (ds:=[⟨5,1,0,0,0,0,[0],0,0⟩,⟨1,1,1,0,0,0,[],0,0⟩,⟨10,0,1,0,0,0,[],0,0⟩]) V V V (by rfl) (by decide) (.cons (GJ Z) (.cons (bF (Qy (.cons (.refl _) (.cons (.refl _) (.cons (.refl _) (.cons (.refl _) (.cons (.refl _) (.cons (.refl _) (.cons (.nil _) (.cons (.refl _) (.cons (.refl _) .nil)))))))))) (GJ Y)) (.cons (bF (Qy (.cons (.refl _) (.cons (.refl _) (.cons (.refl _) (.cons (.refl _) (.cons (.refl _) (.cons (.refl _) (.cons (.nil _) (.cons (.refl _) (.cons (.refl _) .nil)))))))))) (GJ X)) .nil)))) (ht:=(Ap (Ap JG))) (hk:=?_);refine sC A (sA0 (sW (wN ?_)));obtain⟨a,z,H⟩:=Aq.1 H;have z:=Ey z;refine wS (sT (sC z (sT (sT (sT (sA0 (sW (sT (wN ?_)))))))));obtain⟨e,y,H⟩:=Aq.1 H;have y:=Ey y;refine wS (sT (sC y (sT (sT (sT (sA0 (sW (sT (wN ?_)))))))));obtain⟨W,t,H⟩:=Aq.1 H;have t:=Nj t;obtain⟨c,s,H⟩:=Aq.1 H;have s:=Ey s;refine wS (sC t (sC s (sT (sT (sT (sA0 (sW (sT (wN ?_)))))))));obtain⟨O,H⟩:=Ah.1 H;obtain⟨U,o,H⟩:=Aq.1 H;have o:=Ic o;obtain⟨v,n,H⟩:=Aq.1 H;have n:=Ey n;refine wS ?_;refine sA ?_ (BR (rs:=[.lit (.int .u8 0),.lit (.int .i64 1),.lit (.int .i64 0),.lit (.int .i64 0),.lit (.int .u32 0),.lit (.int .i64 0),.lit (.slice bS 0 0),.lit (.int .i64 0),.lit (.int .i64 0)]) V Qi V V) (Ar GY);refine sA (hq:=AT.lt (xs:=[.tmp 37]) (T:=Ei) (ds:=[⟨0,1,0,0,0,0,[],0,0⟩]) V V V (by rfl) (by decide) (.cons (bF (Qy (.cons (.refl _) (.cons (.refl _) (.cons (.refl _) (.cons (.refl _) (.cons (.refl _) (.cons (.refl _) (.cons (.nil _) (.cons (.refl _) (.cons (.refl _) .nil)))))))))) (GJ O)) .nil)) (ht:=(Ar HT)) (hk:=?_);refine sC o (sC n (sT (sT (sT (sA0 (sW (sT (wN ?_))))))));refine Ab λP w=>?_
 refine wS (sT (sT (sT ?_)));refine sGf V ?_;refine sGf V (sT (sT ?_));refine sGf V ?_;refine sGf V (sT (sT ?_));refine sGf V ?_;refine sGf V ?_;refine sGf V ?_;refine sGf V (sT (sT ?_));refine sGf V ?_;refine sGf V ?_;refine sGf V ?_;refine sGf V (sT (wN ?_));refine Ag V (λm=>?_) (λm=>?_)
 ·have H:=AN m H;refine wS (sT (wN ?_));obtain rfl:=Ad.1 H;exact Aw ⟨.inr V,Fin.cl V⟩
 ·have H:=AO m H;refine Al ?_;refine w _ ?_;refine nT ?_;obtain⟨N,H⟩:=Ah.1 H;obtain⟨L,H⟩:=Ah.1 H;obtain⟨d,I,H⟩:=Aq.1 H;obtain⟨K,H⟩:=Ah.1 H;obtain⟨j,G,H⟩:=Aq.1 H;obtain⟨J,H⟩:=Ah.1 H;obtain⟨S,F,H⟩:=Aq.1 H;obtain⟨u,E,H⟩:=Aq.1 H;obtain⟨Q,D,H⟩:=Aq.1 H
  (try simp only[List.append_eq,List.cons_append,List.nil_append])
  refine dS 66 (hq:=?_);refine qT (qT (qT ?_));refine qGt V ?_;refine qGt V ?_;refine qGt V (qT (qT ?_));refine qGt V ?_;refine qGt V ?_;refine Arp V N ?_;refine qGt V ?_;refine qGt V ?_;refine qGt V ?_;refine Arp V L ?_;refine qGt V ?_;refine qGt V (qT (qT ?_));refine qG (g:=((a.1.leaf&&(a.1.slots ==0))&&((ixD a.1.at_ 0) !=(ixD a.1.at_ 1)))) (hg:=Pm V) (hq:=λhg=>AR V GP V V) (ht:=(Ar (Ar (Ap (Ap Ka))))) ?_;refine qG (g:=((a.1.leaf&&(a.1.slots ==0))&&((ixD a.1.at_ 0) !=(ixD a.1.at_ 1)))) (hg:=Pm V) (hq:=λhg=>AR V FF V V) (ht:=(Ar (Ar (Ap (Ap GY))))) ?_;refine qG (g:=((a.1.leaf&&(a.1.slots ==0))&&((ixD a.1.at_ 0) !=(ixD a.1.at_ 1)))) (hg:=Pm V) (hq:=λhg=>by((try simp only[BJ hg]);(try simp only[Qv hg]);exact AH V V (KD (bL I hg)) V V)) (ht:=(Ar (Ar (Ap (Ap HT))))) ?_;refine qT (qT ?_);refine qGt V ?_;refine qGt V ?_;refine qGt V (qT (qT ?_));refine qGt V ?_;refine qGt V ?_;refine Arp V K ?_;refine qGt V ?_;refine qG (g:=((((a.1.leaf&&(a.1.slots ==0))&&((ixD a.1.at_ 0) !=(ixD a.1.at_ 1)))&&d)&&(!e.1.leaf))) (hg:=Pm V) (hq:=λhg=>by((try simp only[BJ hg]);(try simp only[Qv hg]);exact AH V V (U5 (bL G hg)) V V)) (ht:=(Ar (Ar (Ar Mk)))) (hk:=?_);refine qT (qT ?_);refine qGt V ?_;refine qGt V ?_;refine Arp V J ?_;refine qGt V ?_;refine qGt V (qT (qT ?_));refine qGt V ?_;refine qGt V ?_;refine qGt V (qT (qT ?_));refine qGt V ?_;refine qGt V ?_;refine qGt V (qT (qT ?_));refine qG (g:=((((((((a.1.leaf&&(a.1.slots ==0))&&((ixD a.1.at_ 0) !=(ixD a.1.at_ 1)))&&d)&&(!e.1.leaf))&&j)&&(aD ((ixD e.1.at_ 0) < 32)))&&(!c.1.leaf))&&(c.1.slots ==8))) (hg:=Pm V) (hq:=λhg=>by((try simp only[BJ hg]);(try simp only[Qv hg]);exact AH V V (Nj (bL F hg)) V V)) (ht:=(Ar (Ar (Ar (Ap (Ap HT)))))) (hk:=?_);refine qG (g:=((((((((a.1.leaf&&(a.1.slots ==0))&&((ixD a.1.at_ 0) !=(ixD a.1.at_ 1)))&&d)&&(!e.1.leaf))&&j)&&(aD ((ixD e.1.at_ 0) < 32)))&&(!c.1.leaf))&&(c.1.slots ==8))) (hg:=Pm V) (hq:=λhg=>AR V Hd V V) (ht:=(Ar (Ar (Ar (Ap (Ap Hy)))))) (hk:=?_);refine qG (g:=((((((((a.1.leaf&&(a.1.slots ==0))&&((ixD a.1.at_ 0) !=(ixD a.1.at_ 1)))&&d)&&(!e.1.leaf))&&j)&&(aD ((ixD e.1.at_ 0) < 32)))&&(!c.1.leaf))&&(c.1.slots ==8))) (hg:=Pm V) (hq:=λhg=>by((try simp only[BJ hg]);(try simp only[Qv hg]);exact AH V V (KD (bL E hg)) V V)) (ht:=(Ar (Ar (Ar (Ap (Ap (Ap HU))))))) (hk:=?_);refine qT (qT ?_);refine qGt V ?_;refine qGt V (qT (qT ?_));refine qG (g:=((((((((((a.1.leaf&&(a.1.slots ==0))&&((ixD a.1.at_ 0) !=(ixD a.1.at_ 1)))&&d)&&(!e.1.leaf))&&j)&&(aD ((ixD e.1.at_ 0) < 32)))&&(!c.1.leaf))&&(c.1.slots ==8))&&u)&&(v.2 ==2))) (hg:=Pm V) (hq:=λhg=>AR V GP V V) (ht:=(Ar (Ar (Ar (Ap (Ap (Ap Hy))))))) (hk:=?_);refine qG (g:=((((((((((a.1.leaf&&(a.1.slots ==0))&&((ixD a.1.at_ 0) !=(ixD a.1.at_ 1)))&&d)&&(!e.1.leaf))&&j)&&(aD ((ixD e.1.at_ 0) < 32)))&&(!c.1.leaf))&&(c.1.slots ==8))&&u)&&(v.2 ==2))) (hg:=Pm V) (hq:=λhg=>by((try simp only[BJ hg]);(try simp only[Qv hg]);exact AH V V (UY (bL D hg)) V V)) (ht:=(Ar (Ar (Ar (Ar HU))))) (hk:=?_);refine qT (qT (qN (wN ?_)));obtain rfl:=Ad.1 H;exact Aw ⟨.inr V,Fin.cl V⟩
def DD(f:bG)(p:bN):M Bool:=bH (OQ f) λr2=>M.cnd (r2||(aD ((p.at_.length:Int) > 300))) (bH FC λr4=>bK r4) (bH (Jp f p) λc=>bH (E4 f p) λa=>bH (bM (c ==a) aB FC) λd=>bK ((c ==a)&&d))
theorem KJ{f:bG}{p:bN}{r:Bool}(H:(DD f p).to r):Fn aF 4 [.agg (Ak f),.agg (BF p)] (.lit (.bool r)):=by
 delta DD at H;try dsimp only at H
 refine AQ Tryz.func4 V (by kernel_rfl) V Tryz.ntmps4 λC v=>?_
 simp only[Nat.reduceAdd,Nat.reduceSub,zaa];refine wS (sB (sB (sT (wN ?_))));refine Ab λn m=>?_
 obtain⟨r2,j,H⟩:=Aq.1 H;have j:=Wc j;refine wS (sT (sC j (sT ?_)));refine sGf V ?_;refine sGf V ?_;refine sGf V ?_;refine sGf V (sT (wN ?_));refine Ag V (λa=>?_) (λa=>?_)
 ·have H:=AN a H;obtain⟨r4,e,H⟩:=Aq.1 H;have e:=Nk e;refine wS (sC e (sT (wN ?_)));obtain rfl:=Ad.1 H;exact Aw ⟨.inr V,Fin.cl V⟩
 ·have H:=AO a H;refine Al ?_;refine m _ ?_;refine nT ?_;obtain⟨s,d,H⟩:=Aq.1 H;have d:=Qp d;obtain⟨o,c,H⟩:=Aq.1 H;have c:=KD c;obtain⟨u,t,H⟩:=Aq.1 H;refine dS 11 (hq:=?_);refine qT (qT (qC d (qT (qT (qC c ?_)))));refine qA ?_ (PV V (Ao (Ao IG)) (Ao (Ao FF)) V) (Ap (Ap Ka));refine qT ?_;refine qG (g:=(s ==o)) (hg:=Pm V) (hq:=λhg=>by((try simp only[BJ hg]);(try simp only[Qv hg]);exact AH V V (Nk (bL t hg)) V V)) (ht:=(Ap (Ap HT))) ?_;refine qT (qT (qN (wN ?_)));obtain rfl:=Ad.1 H;exact Aw ⟨.inr V,Fin.cl V⟩
end
end Mu
namespace Mu
open Go Go.RowKit Go.Proofs Go.Maps
variable{f:bG}{r:bN×Int}
def Aal:bG:=⟨⟨#[]⟩,2,3,[⟨⟨#[]⟩,[⟨1,2,0,1,0,0,[],0,0⟩,⟨10,0,2,0,0,0,[],0,0⟩]⟩]⟩
def WJ:bG:=⟨⟨#[]⟩,1,2,[⟨⟨#[]⟩,[⟨5,1,0,0,0,0,[0],0,0⟩,⟨1,1,1,0,0,0,[],0,0⟩,⟨10,0,1,0,0,0,[],0,0⟩]⟩]⟩
def Qc:bG:=⟨⟨#[]⟩,0,22,[⟨⟨#[]⟩,((bA 22).map λ(i:Nat)=>(⟨0,(i:Int),0,0,0,0,[],0,0⟩:Ins))++⟨7,0,0,0,0,0,[],0,0⟩::(((bA 22).map λ(i:Nat)=>(⟨6,0,(i:Int),0,0,0,[],0,0⟩:Ins))++[⟨10,0,0,0,0,0,[],0,0⟩])⟩]⟩
def Axy:bG:=⟨⟨#[]⟩,0,1,[⟨⟨#[]⟩,[⟨0,1,0,0,0,0,[],0,0⟩]⟩]⟩
theorem SY:(Hb 22).to Qc:=⟨40,by kernel_rfl⟩
structure Fit22(f:Func):Prop where
 c:MQ f=true
 b:Dc.bulk f<=2097152
 g:CF f=false
theorem Aze:Fit22 Aal:=⟨by decide+kernel,by decide+kernel,by decide+kernel⟩
theorem AAg:Fit22 WJ:=⟨by decide+kernel,by decide+kernel,by decide+kernel⟩
theorem Azy:Fit22 Qc:=⟨by decide+kernel,by decide+kernel,by decide+kernel⟩
theorem AAf:Fit22 Axy:=⟨by decide+kernel,by decide+kernel,by decide+kernel⟩
theorem Atz:regsB Aal= [0,1,2]:=by rw[<-G3];decide+kernel
theorem Amy:regsB WJ= [0,1]:=by rw[<-G3];decide+kernel
theorem Ay9:regsB Axy= [1]:=by rw[<-G3];decide+kernel
theorem Ao1:regsB Qc=(bA 22).map λ(i:Nat)=>(i:Int):=by rw[<-G3];decide+kernel
theorem Aiu:Ia Aal=aC/\leaf Aal.blocks=aC/\regsB Aal= [0,1,2]/\(⟨0,1⟩:Pair)∈CC Aal:=by unfold Ia;rw[Atz];decide+kernel
theorem AAi:∀x∈regsB Aal,RR Aal x < 7:=by unfold RR;rw[Atz];decide+kernel
theorem Arq:Ia WJ=aC/\leaf WJ.blocks=aB/\regsB WJ= [0,1]/\(B5 WJ).contains 0=aC:=by unfold Ia;rw[Amy];decide+kernel
theorem AAh:∀x∈regsB WJ,RR WJ x < 14:=by unfold RR;rw[Amy];decide+kernel
theorem AAd:Ia Axy=aB:=by unfold Ia;rw[Ay9];decide+kernel
theorem Ayk:Ia Qc=aC/\leaf Qc.blocks=aB:=by unfold Ia;rw[Ao1];decide+kernel
theorem An5:B5 Qc=(bA 22).map λ(i:Nat)=>(i:Int):=by decide+kernel
theorem Ax1:∀b∈bA 22,∀a∈bA b,(⟨(a:Int),(b:Int)⟩:Pair)∈CC Qc:=by decide+kernel
theorem At8:∀y∈BA [0] 0 aB,Akw y=aC/\y < 32:=by decide
theorem ColOK.p(H:ColOK f r)(a:Ia f=aC):RightP f r.1:=(Tt H.wf).1 (H.right a)
theorem Akn(a:Ia f=aC):0<=f.regs/\f.regs<=4096:=by
 unfold Ia Akg at a;simp only[zap]at a;omega
theorem ColOK.len(H:ColOK f r):r.1.at_.length<=4096:=by
 cases a:Ia f with
 |false=>rw[H.no a];exact bR _
 |true=>
  have h1:=(H.p a).len;have h2:=Akn a;omega
theorem Fit22.col(h:Fit22 f):(CZ f).to (Qt f)/\ColOK f (Qt f):=Ahf (BM.1 h.c) h.b h.g
theorem Fit22.right(h:Fit22 f){p:bN}(a:∀x∈p.at_,Ch x)(c:p.at_.length<=4096):(E4 f p).to (C4 f p):=QO (BM.1 h.c) h.b a (by omega) (by have:=G2 h.g;omega)
theorem RightP.val{p:bN}(H:RightP f p){r:Int}(a:r∈regsB f):∃x,p.at_[r.toNat]? =bT x/\ixD p.at_ r=x/\Cm p.at_ r=aC/\(x∈BA (B5 f) r p.leaf\/(32<=x/\x < 32+p.slots)):=by
 obtain⟨h1,h2⟩:=Ud H.may a;have c:=H.len;obtain⟨x,hx⟩:∃x,p.at_[r.toNat]? =bT x:=⟨_,aN (by omega)⟩
 have e:((r.toNat:Nat):Int)=r:=by omega
 refine⟨x,hx,?_,?_,?_⟩
 ·rw[<-e];exact Cf hx
 ·exact BL.2 ⟨h1,by omega⟩
 ·have:=H.reg r.toNat x hx (by rw[e];exact a);rw[e]at this;exact this
theorem Y7(H:RightP Qc (Qt Qc).1)(w:ColOK Qc (Qt Qc)):(Qt Qc).1.leaf=aB/\(Qt Qc).1.slots=8:=by
 obtain⟨p,u⟩:∃p,p=(Qt Qc).1:=⟨_,rfl⟩
 have a:=w.many;rw[<-u]at H a⊢;have m:p.leaf=aB:=by
  cases e:p.leaf with
  |false=>rfl
  |true=>have:=(H.lf e).1;rw[Ayk.2]at this;cases this
 refine⟨m,?_⟩;have n:p.at_.length=22:=by
  have h:=H.len;have e:Qc.regs=22:=rfl;rw[e]at h;omega
 have g:∀j:Nat,j < 22->(j:Int)∈regsB Qc:=λj c=>by rw[Ao1];exact aY.2 ⟨j,a6.2 c,rfl⟩
 have o:p.at_.Nodup:=by
  rw[List.Nodup,List.pairwise_iff_getElem];intro i j hi c s e;have y:=Ax1 j (a6.2 (by omega)) i (a6.2 s);refine H.apart _ y ?_;show ixD p.at_ (i:Int)=ixD p.at_ (j:Int);rw[Cf (aN hi),Cf (aN c),e]
 have d:∀x∈p.at_,x∈BA (B5 Qc) 0 aB++NI p:=λx hx=>by
  obtain⟨j,c⟩:=aX.1 hx;have v:=(aP.1 c).1;rcases H.reg j x c (g j (by omega))with h|h
  ·rw[m]at h;have e:BA (B5 Qc) (j:Int) aB=BA (B5 Qc) 0 aB:=by
    have h1:∀k:Nat,k < 22->(B5 Qc).contains (k:Int)=aC:=λk hk=>by rw[An5];exact aK.2 (aY.2 ⟨k,a6.2 hk,rfl⟩)
    rw[Dn,Dn,h1 j (by omega),show(0:Int)=((0:Nat):Int)from V,h1 0 (by omega)]
   rw[e]at h;exact aW _ h
  ·exact List.mem_append_right _ ((Lj H.pos).2 h)
 have h1:=Dh o d;have h2:(BA (B5 Qc) 0 aB).length=14:=by
  rw[An5];decide
 have B:(NI p).length=p.slots.toNat:=by simp[NI]
 rw[aS,h2,B,n]at h1;have A:(regsB Qc).length=22:=by rw[Ao1];rfl
 have t:=H.pos;have z:=a (by omega);rw[A]at z;omega
theorem Ut:FC.to aC:=by
 obtain⟨J,d⟩:=Aze.col;obtain⟨I,o⟩:=AAg.col;obtain⟨G,c⟩:=Azy.col;obtain⟨H,K⟩:=AAf.col;have g:=d.p Aiu.1;have m:=o.p Arq.1;have j:=c.p Ayk.1;have a1:=d.err Aiu.1;have B:=d.lf Aiu.1 Aiu.2.1 AAi;have a3:=(g.lf B).2;obtain⟨x0,P,S,u,_⟩:=g.val (r:=0) (by rw[Aiu.2.2.1];decide);obtain⟨x1,O,Q,t,_⟩:=g.val (r:=1) (by rw[Aiu.2.2.1];decide);have Z:((ixD (Qt Aal).1.at_ 0) !=(ixD (Qt Aal).1.at_ 1))=aC:=by
  have:=g.apart _ Aiu.2.2.2;simpa using this
 have Y:((Qt Aal).1.at_.length:Int)=3:=g.len;have X:=o.err Arq.1;have A:(Qt WJ).1.leaf=aB:=by
  cases e:(Qt WJ).1.leaf with
  |false=>rfl
  |true=>have:=(m.lf e).1;rw[Arq.2.1]at this;cases this
 have W:=o.few Arq.1 AAh;have U:((Qt WJ).1.at_.length:Int)=2:=m.len;obtain⟨C,N,v,s,n⟩:=m.val (r:=0) (by rw[Arq.2.2.1];decide);have z:Akw (ixD (Qt WJ).1.at_ 0)=aC/\aD ((ixD (Qt WJ).1.at_ 0) < 32)=aC:=by
  rw[v];rcases n with h|h
  ·rw[A]at h;have e:BA (B5 WJ) 0 aB=BA [0] 0 aB:=by rw[Dn,Dn,Arq.2.2.2];rfl
   rw[e]at h;have:=At8 C h;exact⟨this.1,decide_eq_true this.2⟩
  ·rw[W]at h;omega
 have F:=c.err Ayk.1;obtain⟨E,D⟩:=Y7 j c;have T:(Qt Axy).2=2:=by rw[K.no AAd]
 have y:=Aze.right d.wf d.len;rw[d.right Aiu.1]at y;have w:=Azy.right c.wf c.len;rw[c.right Ayk.1]at w;have L:(MT Aal).to aC:=by
  refine Af (by rw[Aze.c,Aiu.2.2.1];rfl) ?_;rw[Aiu.1];exact Aj _
 unfold FC;refine Af V (Af V (Am (a:=Aal) (Af (by kernel_rfl) (Aj _)) (Af V (Af V (Af V (Am (a:=WJ) (Af (by kernel_rfl) (Aj _)) (Am J (Am I (Am SY (Am G (Af V (Am (a:=Axy) (Af (by kernel_rfl) (Aj _)) (Am H ?_)))))))))))));simp only[a1,B,a3,Z,Y,X,A,z.2,U,F,E,D,T,u,t,s];refine AJ V (Af V (Af V (Am (BW V y) (Af V (Am (a:=aC) (BW V (Ad.2 z.1)) (Af V (Am (BW V SY) (Am (BW V w) (Am (BW V L) (Aj _))))))))))
theorem Aaa(c:bE f):(OQ f).to (CF f):=Af (BM.2 c) (Aj _)
theorem Qr{p:bN}(c:bE f)(d:Dc.bulk f<=2097152)(j:okPlan p)(e:∀x∈p.at_,Ch x):(DD f p).to aC:=by
 unfold DD;refine Am (Aaa c) ?_;cases hg:(CF f||decide ((p.at_.length:Int) > 300))with
 |true=>exact AI V (Am Ut (Aj _))
 |false=>
  rw[Bool.or_eq_false_iff,decide_eq_false_iff_not]at hg;obtain⟨g,n⟩:=hg;have m:=G2 g;refine AJ V (Am (Ajo c d g j e (by omega)) (Am (QO c d e (by omega) (by omega)) (Am (a:=aC) (BW (by simp) Ut) ?_)));simp only[beq_self_eq_true,Bool.and_self];exact Aj _
theorem Qs(f:bG)(p:bN)(e:okFunc f)(a:Dc.bulk f<=2097152)(d:okPlan p)(c:∀x∈p.at_,Ch x):Fn aF 4 [.agg (Ak f),.agg (BF p)] (.lit (.bool aC)):=KJ (Qr (Agw e a) a d c)
end Mu
namespace Mu
open Go Go.RowKit Go.ChangeShapes Go.WideShapes Go.Proofs
variable{H:Type}{W:World}{d:DataW H}{enc:TypeId×Value->H}{p:List MemPlace}{t:TypeId}{v:Value}
theorem Aku:laidOutB aF=aC:=by kernel_rfl
mutual
theorem Ahn{H:Type}:∀d:DataW H,FA d<=aG d
 | .lit (.string _)=>bO _
 | .lit (.bool _)=>bO _
 | .lit (.int _ _)=>bO _
 | .lit (.float _ _)=>bO _
 | .lit .nil=>bO _
 | .nil=>bO _
 | .ptr d=>by show 1<=aG d+1;omega
 | .slice e s=>by
  have h1:=Od e;have h2:=Od s;show FA.go e+FA.go s+1<=aH e+aH s+1;omega
 | .agg p=>by
  have h1:=Od p;show FA.go p+1<=aH p+1;omega
 | .iface _ d=>by show 1<=aG d+1;omega
 | .map m=>by show 1<=aI m+1;omega
 | .held _=>bO _
theorem Od{H:Type}:∀l:List (DataW H),FA.go l<=aH l
 | []=>bO _
 |d::r=>by
  have h1:=Ahn d;have h2:=Od r;show FA d+FA.go r<=aG d+aH r;omega
end
theorem TY{e:Type}{T:Ty e}(j:Opens aF t T)(s:1 < T.size)
 (h:DataW.Trod enc aF W 0 (λ_=>aC) aC t v d p)(g:∀x∈p,x.block < W.heap.size):
 ∃cs x,v= .agg cs.toArray/\T.R W W.heap.size cs x/\T.bulk x<=aG d:=by
 obtain⟨a,n⟩:=h;obtain⟨x,c,o⟩:=j.go H enc W 0 _ aC a _ (d,p) W.heap.size n g;have m:=T.len c;refine⟨v.cells.toList,x,?_,c,bP o (Ahn d)⟩;cases v <;> first
  |(simp[Value.cells]at m;omega)
  |simp[Value.cells]
theorem stays{W':World}(a:aF.readableRec t=aC)(ht:t < aF.types.size)
 (h:DataW.Trod enc aF W 0 (λ_=>aC) aC t v d p)(e:Below W.heap.size W W')(c:∀x∈p,x.block < W.heap.size):
 DataW.Trod enc aF W' 0 (λb=>decide (b < W.heap.size)) aC t v d p:=Below.trod Aku a ht h e c
end Mu
namespace Mu
open Go Go.RowKit Go.Proofs
variable{S:Nat->Prop}{W:World}{cs:List Value}{p:bN}
theorem Ajq{h:List ABlk}{ψ:Nat->Value}(a:Mn.RS W S cs p):AV.rel W S h ψ (.agg (BF p)) (.agg cs.toArray):=by
 unfold AV.rel;exact⟨cs,rfl,EncOf.ok (T:=Mn) W S h ψ cs p a⟩
theorem Ao6(n:Mn.RS W S cs p):∀x∈p.at_,Ch x:=λx hx=>by
 obtain⟨j,m⟩:=aX.1 hx;obtain⟨s,rfl,_,g⟩:=RF.1 n;obtain⟨A,c,_,_,_,hi⟩:=g;obtain⟨b,off,_,e⟩:=hi j x m;obtain⟨_,cs,a,_⟩:=e;exact a.2
end Mu
