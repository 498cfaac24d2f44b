/-
  Lemmas for N, part 6.
  Conditions: as each lemma says.
-/
import Derived.Test.YtnhheaffnpflfaaGreatCn5
import Derived.OpenShut
set_option maxRecDepth 100000
set_option maxHeartbeats 4000000
set_option linter.unusedSimpArgs false
set_option linter.unusedVariables false
open Bool renaming and_eq_true->aA,false->aB,true->aC
open Decidable renaming decide->aD
open Go.IntKind renaming bits->aE,i64->aF,max->aG,min->aH,signed->aI
open Go.Proofs.Tryz renaming prog->aJ
open Go.Proofs.YtnhheaffnpflfaaGreat.Rows renaming uptoBulk->aK,uptoBulkAll->aL,uptoBulkEntries->aM
open Int renaming tmod->aN,tmod_eq_emod_of_nonneg->aO,toNat_natCast->aP
open List renaming append_assoc->aR,getD_eq_getElem?_getD->aS,getElem?_eq_getElem->aT,getElem?_eq_none->aU,getElem?_eq_some_iff->aV,getElem?_range->aW,getElem?_set_self->aX,length_append->aY,length_nil->aZ,length_set->a6,map_append->a7,map_cons->a8,map_nil->bA,mem_append_left->bB,mem_append_right->bC,mem_iff_getElem?->bD,mem_map->bE,mem_of_getElem?->bF,mem_range->bG,nil_append->bH,prefix_append_right_inj->bI,range->bJ,take_length->bK
open Mu renaming FineF->bM,Func->bP,Plan->bY,RightP->bZ
open Mu.Fin renaming cl->bL
open Mu.Fit renaming int->bN,up->bO
open Mu.M renaming bnd->bR,chk->bS,cnd->bT,loop->bU,ok->bV,to_whn->bW,whn->bX
open Nat renaming le_refl->b9,le_trans->cA,zero_le->cB
open Option renaming none->cC,some->cD
namespace Mu
open Go Go.RowKit Go.Proofs
variable{b:Block}{i k q:Nat}{r:Int}{x:Ins}
def pwI(d:Int):Nat:=(if 4 < d then 4 else d).toNat
def EA(d:Int):Int:=10 ^ pwI d
theorem Anq(d:Int):pwI d<=4:=by unfold pwI;split <;> omega
theorem Aus{d:Int}(h:0<=d):((pwI d:Nat):Int)=if 4 < d then 4 else d:=by unfold pwI;split <;> omega
theorem T7(d:Int):EA d=1/\pwI d=0\/EA d=10/\pwI d=1\/EA d=100/\pwI d=2\/EA d=1000/\pwI d=3\/EA d=10000/\pwI d=4:=by
 have h:=Anq d;unfold EA;have h2:pwI d=0\/pwI d=1\/pwI d=2\/pwI d=3\/pwI d=4:=by omega
 rcases h2 with e|e|e|e|e <;> rw[e] <;> simp
theorem ZW(d:Int):1<=EA d/\EA d<=10000:=by rcases T7 d with⟨e,_⟩|⟨e,_⟩|⟨e,_⟩|⟨e,_⟩|⟨e,_⟩ <;> rw[e] <;> omega
def rnG(f:bP)(dl:List Int)(k:Nat):List (Int×Int):=(NI (f.blocks.getD k default)).map λr=>(r,EA (ixD dl (k:Int)))
def rnK(f:bP)(dl:List Int)(k:Nat):List (Int×Int):=((bJ f.blocks.length).take k).flatMap (rnG f dl)
def rnF(f:bP)(dl:List Int):List (Int×Int):=(bJ f.blocks.length).flatMap (rnG f dl)
theorem YK{a β:Type}(g:a->List β)(l:List a)(k:Nat):(l.take k).flatMap g <+:l.flatMap g:=by
 conv=>rhs;rw[<-List.take_append_drop k l]
 rw[List.flatMap_append];exact List.prefix_append _ _
section
variable{f:bP}{dl:List Int}
theorem Yb(hk:k < f.blocks.length):rnK f dl (k+1)=rnK f dl k++rnG f dl k:=by
 unfold rnK;exact Dz (aW hk)
theorem Apm(k:Nat):rnK f dl k <+:rnF f dl:=YK _ _ _
theorem Apn:rnK f dl f.blocks.length=rnF f dl:=by
 unfold rnK rnF;rw[show(bJ f.blocks.length).take f.blocks.length=bJ f.blocks.length from List.take_of_length_le (by simp)]
theorem Anl(a:f.blocks[k]? =cD b):rnG f dl k=(NI b).map λr=>(r,EA (ixD dl (k:Int))):=by
 unfold rnG;rw[aS,a];rfl
def rnI(f:bP)(dl:List Int)(k:Nat)(b:Block)(i:Nat):List (Int×Int):=rnK f dl k++((b.ins.take i).flatMap BC).map λr=>(r,EA (ixD dl (k:Int)))
def rnR(f:bP)(dl:List Int)(k:Nat)(b:Block)(i:Nat)(x:Ins)(q:Nat):List (Int×Int):=rnI f dl k b i++((BC x).take q).map λr=>(r,EA (ixD dl (k:Int)))
theorem Akb:rnI f dl k b 0=rnK f dl k:=by simp[rnI]
theorem App(a:f.blocks[k]? =cD b):rnI f dl k b b.ins.length=rnK f dl (k+1):=by
 rw[Yb (aV.1 a).1,Anl a];unfold rnI NI;rw[bK]
theorem Aka:rnR f dl k b i x 0=rnI f dl k b i:=by simp[rnR]
theorem Aeu(hx:b.ins[i]? =cD x):rnR f dl k b i x (BC x).length=rnI f dl k b (i+1):=by
 unfold rnR rnI;rw[bK,Dz hx,a7,aR]
theorem Ya(a:(BC x)[q]? =cD r):rnR f dl k b i x (q+1)=rnR f dl k b i x q++[(r,EA (ixD dl (k:Int)))]:=by
 unfold rnR;rw[List.take_add_one,a,a7,aR];rfl
theorem Apo(a:f.blocks[k]? =cD b):rnI f dl k b i <+:rnF f dl:=by
 refine List.IsPrefix.trans ?_ (Apm (k+1));rw[Yb (aV.1 a).1,Anl a];unfold rnI NI;exact(bI _).2 ((YK _ _ _).map _)
theorem Apl(a:f.blocks[k]? =cD b)(hx:b.ins[i]? =cD x):rnR f dl k b i x q <+:rnF f dl:=by
 refine List.IsPrefix.trans ?_ (Apo a (i:=i+1));rw[<-Aeu hx];unfold rnR;rw[bK];exact(bI _).2 ((List.take_prefix _ _).map _)
theorem Wk:(rnF f dl).map (·.1)=NK f:=by
 unfold rnF NK;rw[List.map_flatMap];have e:(bJ f.blocks.length).map (λk=>f.blocks.getD k default)=f.blocks:=by
  refine List.ext_getElem? λk=>?_
  rw[List.getElem?_map];by_cases hk:k < f.blocks.length
  ·rw[aW hk];show cD (f.blocks.getD k default)=_;rw[aS,aT hk];rfl
  ·rw[aU (by simpa using hk),aU (by omega)];rfl
 conv=>rhs;rw[<-e]
 rw[List.flatMap_map];congr 1;funext k;unfold rnG;rw[List.map_map];exact List.map_id'' (λ_=>rfl) _
theorem Wj:(rnF f dl).length=(NK f).length:=by rw[<-Wk (dl:=dl),List.length_map]
theorem Apq{p:Int×Int}(h:p∈rnF f dl):1<=p.2/\p.2<=10000:=by
 unfold rnF at h;obtain⟨k,_,h⟩:=List.mem_flatMap.1 h;unfold rnG at h;obtain⟨r,_,rfl⟩:=bE.1 h;exact ZW _
theorem Apr(c:okIns x)(d:x.args.length<=2097152):(JD x).to (BC x):=by
 unfold JD BC;have h1:(KO x).to (readsC x):=Ag (by rw[aA];exact⟨DK.2 c,decide_eq_true d⟩) (Al _);have h2:(I7 x).to (if Bg x then x.d else 0,Bg x):=Ag (DK.2 c) (Al _);have e:=MI d;refine Ap h1 (Ap (a:=readsC x++if Bg x then [x.d]else []) (Ap h2 ?_) (Al _));cases Bg x with
 |true=>exact AM V (Ag c.d (Ag (Aj7 (by simp only[zai];omega)) (Al _)))
 |false=>
  simp only[Bool.false_eq_true,if_false,List.append_nil];exact AF V (Al _)
theorem Apt{d:List Int}{k:Int}(h:0<=ixD d k):(bU (DN d k) (1,0)).to (EA (ixD d k)):=by
 have c:=Aus h;have l:=Anq (ixD d k);unfold EA;refine BZ (step:=DN d k) (λj:Nat=>((10:Int) ^ j,(j:Int))) (pwI (ixD d k)) (λj g=>?_) ?_ (cB _)
 ·simp only[DN];refine AM (decide_eq_true (by rw[<-c];omega)) ?_;have e:aF.wrap ((10:Int) ^ j * 10)=(10:Int) ^ (j+1):=by
   have a:j=0\/j=1\/j=2\/j=3:=by omega
   rcases a with rfl|rfl|rfl|rfl <;> rfl
  rw[e,Arf g (by omega)];exact Al _
 ·simp only[DN];exact AF (decide_eq_false (by rw[<-c];omega)) (Al _)
theorem Ab3(c:bM f)(a:b∈f.blocks)(hx:x∈b.ins):okIns x/\x.args.length<=2097152:=⟨(c.ok.blocks b a).ins x hx,by
 have:=((c.small.all b a).all x hx)
 omega⟩
variable{out:List (List Int)}{σ:Type}{step:σ->Int->Int->M σ}
theorem Abi(hk:k < f.blocks.length):0<=ixD (Di f out) (k:Int):=(U6 (f:=f) (out:=out) (x:=(k:Int)) (by omega) (by simpa using hk) (b9 _)).1
theorem Arw(c:bM f)(s:(Dm f).to out)(H:AboveP f out)(G:List (Int×Int)->σ)(n:∀d p,d++[p] <+:rnF f (Di f out)->(step (G d) p.1 p.2).to (G (d++[p]))):
 (JE step f (G [])).to (G (rnF f (Di f out))):=by
 have u:=c.small.blocks;have m:(Di f out).length=f.blocks.length:=Kc _;unfold JE;refine Ap (Al8 c s H) (Ap (a:=G (rnF f (Di f out))) ?_ (Al _));rw[<-Apn];refine BZ (step:=Fj step f (Di f out)) (λk:Nat=>((k:Int),G (rnK f (Di f out) k))) f.blocks.length (λk hk=>?_) ?_ (cB _)
 ·obtain⟨b,e⟩:∃b,f.blocks[k]? =cD b:=⟨_,aT hk⟩
  have t:=c.ins b (bF e);simp only[Fj];refine AM (decide_eq_true (by omega)) (Ag (Fh (by omega)) (Ap (Apt (Abi hk)) (Ag (Fh hk) (Ap (a:=G (rnK f (Di f out) (k+1))) ?_ (by rw[Arf hk (by omega)];exact Al _)))));rw[<-App e];refine(show(bU (DM step f (k:Int) (EA (ixD (Di f out) (k:Int)))) (0,G (rnK f (Di f out) k))).to _ from ?_);rw[<-Akb (b:=b)];refine BZ (step:=DM step f (k:Int) (EA (ixD (Di f out) (k:Int)))) (λi:Nat=>((i:Int),G (rnI f (Di f out) k b i))) b.ins.length (λi hi=>?_) ?_ (cB _)
  ·obtain⟨x,hx⟩:∃x,b.ins[i]? =cD x:=⟨_,aT hi⟩
   obtain⟨l,g⟩:=Ab3 c (bF e) (bF hx);simp only[DM,BV e,BV hx];refine AM (decide_eq_true (by omega)) (Ag (Fh hi) (Ap (Apr l g) (Ap (a:=G (rnI f (Di f out) k b (i+1))) ?_ (by rw[Arf hi (by omega)];exact Al _))));rw[<-Aeu hx,<-Aka (x:=x)];have o:(BC x).length<=2097155:=by
    have:=MI g;unfold BC;rw[aY];split <;> simp <;> omega
   refine BZ (step:=EG step (EA (ixD (Di f out) (k:Int))) (BC x)) (λq:Nat=>((q:Int),G (rnR f (Di f out) k b i x q))) (BC x).length (λq hq=>?_) ?_ (cB _)
   ·obtain⟨r,j⟩:∃r,(BC x)[q]? =cD r:=⟨_,aT hq⟩
    simp only[EG,BV j];have h:=n (rnR f (Di f out) k b i x q) (r,EA (ixD (Di f out) (k:Int))) (by rw[<-Ya j];exact Apl e hx);rw[Ya j];exact AM (decide_eq_true (by omega)) (Ag (Fh hq) (Ap h (by rw[Arf hq (by omega)];exact Al _)))
   ·simp only[EG];exact AF (decide_eq_false (by omega)) (Al _)
  ·simp only[DM,BV e];exact AF (decide_eq_false (by omega)) (Al _)
 ·simp only[Fj,m];exact AF (decide_eq_false (by omega)) (Al _)
def Kt(r:Int)(l:List (Int×Int)):Int:=((l.filter λp=>p.1 ==r).map (·.2)).sum
theorem PR(r:Int)(l m:List (Int×Int)):Kt r (l++m)=Kt r l+Kt r m:=by simp[Kt,List.filter_append]
theorem PQ(r:Int)(p:Int×Int):Kt r [p]=if p.1 ==r then p.2 else 0:=by
 unfold Kt;rw[List.filter_cons];split <;> simp
theorem Vb(r:Int):∀{l:List (Int×Int)},(∀p∈l,1<=p.2/\p.2<=10000)->0<=Kt r l/\Kt r l<=10000 *(l.length:Int)
 | [],_=>by simp[Kt]
 |p::l,h=>by
  have a:=Vb r (l:=l) λq hq=>h q (List.mem_cons_of_mem _ hq)
  have c:=h p (by simp);rw[show p::l= [p]++l from V,PR,PQ,aY];simp only[zai];split <;> omega
theorem Apu{a:List (Int×Int)}(c:bM f)(h:a <+:rnF f dl)(r:Int):0<=Kt r a/\Kt r a<=30000000000:=by
 have h1:=Vb r (l:=a) λp d=>Apq (h.subset d)
 have h2:=h.length_le;have e:=c.all;rw[Wj]at h2;omega
def Kq(l:List (Int×Int)):List (Int×Int):=l.foldl (λm p=>Cf m p.1 ((getK m p.1).getD 0+p.2)) []
theorem QX(l:List (Int×Int))(p:Int×Int):Kq (l++[p])=Cf (Kq l) p.1 ((getK (Kq l) p.1).getD 0+p.2):=by
 unfold Kq;rw[List.foldl_append];rfl
theorem Rz{l:List (Int×Int)}(h:r∉l.map (·.1)):Kt r l=0:=by
 unfold Kt;rw[List.filter_eq_nil_iff.2 λp a=>by
  intro e;exact h (bE.2 ⟨p,a,by simpa using e⟩)]
 rfl
theorem Oc(l:List (Int×Int)):Em (Kq l)/\(Kq l).length<=l.length/\∀x,getK (Kq l) x=if x∈l.map (·.1)then cD (Kt x l)else cC:=by
 induction l using snoc_ind with
 |nil=>exact⟨Em.nil,b9 _,λx=>rfl⟩
 |append_singleton l p c=>
  obtain⟨h1,h2,a⟩:=c;rw[QX];refine⟨h1.put _ _,?_,λx=>?_⟩
  ·have:=E9 (l:=Kq l) p.1 ((getK (Kq l) p.1).getD 0+p.2);rw[aY];simp only[zai];omega
  ·rw[BM h1,a7,PR,PQ];by_cases e:x=p.1
   ·subst e;rw[if_pos V,if_pos (by simp),a];split
    ·simp
    ·rename_i d;rw[Rz d];simp
   ·rw[if_neg e,a];have h:(p.1 ==x)=aB:=by simpa using λk=>e k.symm
    rw[h];have g:x∈l.map (·.1)++[p].map (·.1)↔x∈l.map (·.1):=by simp[e]
    simp only[g];simp
theorem Adh(l:List (Int×Int))(x:Int):Qs (Kq l) x=Kt x l:=by
 unfold Qs;rw[(Oc l).2.2 x];split
 ·rfl
 ·rename_i h;rw[Rz h];rfl
theorem Agk:keysK (Kq (rnF f dl))=AC f:=by
 obtain⟨h1,_,g⟩:=Oc (rnF f dl);refine G7 (List.pairwise_map.2 h1) (CU f).1 λx=>?_
 rw[(CU f).2,<-Wk (dl:=dl)];have a:=g x;constructor
 ·intro hx;obtain⟨p,c,e⟩:=bE.1 hx;have d:getK (Kq (rnF f dl)) x=cD p.2:=(CS h1).2 (by rw[<-e];exact c);rw[d]at a;split at a
  ·assumption
  ·cases a
 ·intro hx;rw[if_pos hx]at a;exact bE.2 ⟨_,(CS h1).1 a,rfl⟩
def Aov(f:bP)(dl:List Int):List Int:=KN (Kq (rnF f dl)) (AC f)
theorem Amm(c:bM f)(n:(Dm f).to out)(H:AboveP f out):(M7 f).to (Aov f (Di f out)):=by
 unfold M7;have j:=c.all;have hk:=Oc (rnF f (Di f out));rw[Wj]at hk;refine Ap (a:=Kq (rnF f (Di f out))) (Arw c n H Kq λd p h=>?_) (Ag (decide_eq_true ⟨by omega,hk.1⟩) ?_)
 ·have e:p∈rnF f (Di f out):=h.subset (by simp);have m:wfB .i64 p.1=aC:=Xz c.ok p.1 (by rw[<-Wk (dl:=Di f out)];exact bE.2 ⟨p,e,rfl⟩);have g:=h.length_le;rw[Wj,aY]at g;have h2:=(Oc d).2.1;have o:(getK (Kq d) p.1).getD 0=Kt p.1 d:=Adh d p.1;have l:=Apu c h p.1;rw[PR,PQ]at l;simp only[beq_self_eq_true,if_true]at l;rw[QX];simp only[GK];refine Ag m (Ag (decide_eq_true (by unfold maxLen;omega)) ?_);rw[o,IntWalk.i64_in _ (by omega)];exact Al _
 ·rw[Agk];exact Al _
end
open Go.Maps
variable{f:bP}{r:Bool}
def Si(f:bP)(r:Int):Nat:=((regsB f).filter λy=>DT f r y).length
structure ColOK(f:Func)(r:Plan×Int):Prop where
 no:Ht f=false->r=(⟨false,0,[]⟩,2)
 err:Ht f=true->r.2=0
 right:Ht f=true->CT f r.1=true
 ok:okPlan r.1
 wf:∀x∈r.1.at_,Ci x
 lf:Ht f=true->leaf f.blocks=true->(∀x∈regsB f,Si f x < 7)->r.1.leaf=true
 few:Ht f=true->(∀x∈regsB f,Si f x < 14)->r.1.slots=0
 many:r.1.slots≠0->r.1.slots+14<=((regsB f).length:Int)
theorem Yg(cross:List Int)(r:Int):14<=(BD cross r aB).length:=by
 rcases Ua cross r aB with⟨h,_⟩|⟨_,_,h2⟩|⟨_,_,h2⟩
 ·cases h
 ·rw[h2];decide
 ·rw[h2];decide
theorem Aqf(g:CJ f=aB):(RF f).length<=2097152:=by
 have h1:=Or 250 (λb:Block=>b.ins) f.blocks λb a=>UL g a
 have h2:=NC g;show(f.blocks.flatMap λb=>b.ins).length<=_;omega
theorem Aef(G:CGraph)(A:List (Int×Int)):I0 G [] A=(A,0):=rfl
theorem Ah4(f:bP)(c:bM f)(ac:Dg.bulk f<=2097152)(g:CJ f=aB):∃r:bY×Int,Fn aJ 9 [.agg (An f)] (.tup [.agg (BS r.1),.lit (.int .i64 r.2)])/\ColOK f r:=by
 have hr:=Hj g;have o:=Af9 f c (by omega);cases B:Ht f with
 |false=>
  rw[B]at o;exact⟨(⟨aB,0,[]⟩,2),Xl f o,⟨λ_=>rfl,λh=>(by rw[B]at h;cases h),λh=>(by rw[B]at h;cases h),⟨Ls ⟨by decide,by decide⟩⟩,λx hx=>(by cases hx),λh=>(by rw[B]at h;cases h),λh=>(by rw[B]at h;cases h),λh=>absurd V h⟩⟩
 |true=>
  rw[B]at o;have t:=NH (f:=f) (Ag (by rw[aA];exact⟨BG.2 c,decide_eq_true ac⟩) (Al _));obtain⟨out,ho,HA⟩:=Amz c;have W:=Va (Amm c ho HA);obtain⟨ch,Q⟩:∃x,x=Aov f (Di f out):=⟨_,rfl⟩
  rw[<-Q]at W;have y:ch.Perm (AC f):=by rw[Q];exact Hd _ _
  have af:=Aro g;have ab:ch.length<=1000:=by rw[y.length_eq];omega
  have P:∀r∈ch,r∈AC f:=λr h=>y.mem_iff.1 h
  have hE:(Cp f).length<=3600:=Jl g _;have hM:(mvL f).length<=3600:=Jl g _;have F:∀lf,Fn aJ 25 [.agg (An f),.lit (.bool lf)] (.bp Bf (Cz f lf ch) 0):=λlf=>Aaz f lf ch c (by omega) W (by omega) (by omega) (Rc c _) (Rc c _) (Aqf g) (cA (Rp g lf) (by decide)) (λx hx=>by
   obtain⟨h1,n,e,h2,_⟩:=Ag2 hx;exact⟨E7 c.ok h1,by rw[e];exact Ls ⟨by omega,by omega⟩⟩) (λr h=>E7 c.ok h)
  have u:∀lf,OkGr (Cz f lf ch):=λlf=>Ak1 c g P ab
  have S:∀lf,SymG (Cz f lf ch):=λlf=>Adv
  have d:0<=f.regs/\f.regs<=4096:=by
   have h:=B;unfold Ht Ak3 at h;simp only[zap]at h;omega
  have D:∀lf r,∀p∈QN (Cz f lf ch) r,4<=p/\p < 32:=λlf r p w=>by
   rw[HI]at w;split at w
   ·exact Jk w
   ·cases w
  have C:∀lf m,(∀r,m<=(BD (B9 f) r lf).length)->(∀x∈regsB f,Si f x < m)->∀out,(BJ (Cz f lf ch) out).2= []:=λlf m h1 h2 out=>Z2 (u lf).toOkG (λr j=>by
   have j:r∈regsB f:=j;rw[HI,if_pos j];have I:=Af5 (f:=f) (lf:=lf) (ch:=ch) r;have h4:=h2 r j;have h5:=h1 r;unfold Si at h4;exact⟨(O7 _ _ _).2.2,by omega⟩) out
  by_cases hL:leaf f.blocks=aC/\(BJ (Cz f aC ch) []).2= []
  ·obtain⟨U,T⟩:=hL;rw[U]at t;have hq:=Aee (u aC).toOkG (S aC) (out:=[]) Em.nil (λx v h=>by cases h) (λx h=>by cases h) T;rw[Aef]at hq;obtain⟨A,hA⟩:∃A,A=(BJ (Cz f aC ch) []).1:=⟨_,rfl⟩
   rw[<-hA]at hq;have H:∀r p,getK A r=cD p->Ci p:=λr p h=>by
    rcases hq.cl r p h with h1|⟨h1,h2⟩
    ·have:=D aC r p h1;exact Ls ⟨by omega,by omega⟩
    ·exact Ls ⟨by omega,by have h2:p < 32+0:=h2;omega⟩
   have J:=Ml (Afj (lf:=aC) (slots:=0) d.1 d.2 H);obtain⟨Y,X⟩:=Q9 B hq (λ_=>⟨U,rfl⟩) (by decide);rw[hA]at J;refine⟨(⟨aC,0,atP f.regs.toNat A⟩,0),?_,⟨λh=>(by rw[B]at h;cases h),λ_=>rfl,λ_=>Y,⟨Ls ⟨by show(-1:Int)<=0;decide,by show(0:Int)<=4294967296;decide⟩⟩,X,λ_ _ _=>rfl,λ_ _=>rfl,λh=>absurd V h⟩⟩;rw[hA];exact Xm f o _ _ t (F aC) (u aC) T J
  ·obtain⟨n,hn,E⟩:=GE (let ⟨n,h,_⟩:=Xn (u aB).toOkG;⟨n,h⟩:∃n,(BJ (Cz f aB ch) (DW (Cz f aB ch) n)).2= []);have L:∀k,k < n->(BJ (Cz f aB ch) (DW (Cz f aB ch) k)).2≠[]:=λk hk e=>by
    have:=E k e;omega
   obtain⟨O,G⟩:∃O,O=DW (Cz f aB ch) n:=⟨_,rfl⟩
   have hq:=Aee (u aB).toOkG (S aB) (Gy (u aB).toOkG n).1 (LT (u aB).toOkG n) (J3 (u aB).toOkG n) hn;rw[<-G]at hq;obtain⟨s,Z⟩:∃s,s=I0 (Cz f aB ch) O (BJ (Cz f aB ch) O).1:=⟨_,rfl⟩
   rw[<-Z]at hq;have a:s.2<=(O.length:Int):=by
    have w:=Yi (u aB).toOkG (S aB) O;have aa:SltQ (Cz f aB ch) ((BJ (Cz f aB ch) O).1,0) λx=>x∈(Cz f aB ch).regs/\(getK O x).getD 0=0:=⟨w.asc,w.nocl,λr p h=>.inl (w.cl r p h),λr=>⟨w.key r,λh=>(w.all r h).resolve_right λh=>by rw[G,hn]at h;cases h⟩,Int.le_refl 0,λz h2 I=>by have I:z < 32+0:=I;omega⟩
    have h1:=X4 (λr p w=>(D aB r p w).2) (S aB) (keysK O) aa (Cv (by rw[G];exact(Gy (u aB).toOkG n).1)) λx hx hh=>by
     obtain⟨v,hv⟩:=Option.isSome_iff_exists.1 (CW.1 hx);have h2:=hh.2;rw[hv,LT (u aB).toOkG n x v (by rw[<-G];exact hv)]at h2;cases h2
    rw[Z];have h2:(keysK O).length=O.length:=by simp[keysK]
    rw[h2]at h1;have I:(I0 (Cz f aB ch) O (BJ (Cz f aB ch) O).1).2<=0+(O.length:Int):=h1;omega
   have l:=Apz (u aB) (S aB) 14 (λr j=>by
    have j:r∈regsB f:=j;rw[HI,if_pos j];exact⟨(O7 _ _ _).2.2,Yg _ _⟩) n L
   rw[<-G]at l;have l:O= []\/O.length+14<=(regsB f).length:=l;have ad:0<=s.2:=hq.pos;have ae:O.length<=126:=by
    rcases l with h|h
    ·rw[h];exact cB _
    ·omega
   have H:∀r p,getK s.1 r=cD p->Ci p:=λr p h=>by
    rcases hq.cl r p h with h1|⟨h1,h2⟩
    ·have:=D aB r p h1;exact Ls ⟨by omega,by omega⟩
    ·exact Ls ⟨by omega,by omega⟩
   have K:=Ml (Afj (lf:=aB) (slots:=s.2) d.1 d.2 H);obtain⟨Y,X⟩:=Q9 (lf:=aB) (A:=s.1) (slots:=s.2) B hq (λh=>by cases h) (by omega);have N:(∀x∈regsB f,Si f x < 14)->s.2=0:=λh=>by
    have h1:=C aB 14 (Yg _) h [];have h2:n=0:=Nat.le_zero.1 (E 0 h1);have I:O= []:=by rw[G,h2];rfl
    rw[I]at a;have a:s.2<=0:=a;omega
   refine⟨(⟨aB,s.2,atP f.regs.toNat s.1⟩,0),?_,⟨λh=>(by rw[B]at h;cases h),λ_=>rfl,λ_=>Y,⟨Ls ⟨by show -1<=s.2;omega,by show s.2<=_;omega⟩⟩,X,λ_ h1 h2=>absurd ⟨h1,C aC 7 (λr=>(O7 _ _ _).1) h2 []⟩ hL,λ_ h=>N h,λh=>?_⟩⟩
   ·rw[Z,G]at K⊢;exact Vd f o _ _ _ n _ t (λ_=>F aC) (u aC) (λh e=>hL ⟨h,e⟩) (F aB) (u aB) hn L K
   ·have h:s.2≠0:=h;show s.2+14<=_;rcases l with h1|h1
    ·rw[h1]at a;have a:s.2<=0:=a;omega
    ·omega
noncomputable section
open Classical in
def Iy(f:bP):bY×Int:=if h:∃r:bY×Int,Fn aJ 9 [.agg (An f)] (.tup [.agg (BS r.1),.lit (.int .i64 r.2)])/\ColOK f r then h.choose else(⟨aB,0,[]⟩,0)
open Classical in
def CL(f:bP):M (bY×Int):=bS (aD (∃r:bY×Int,Fn aJ 9 [.agg (An f)] (.tup [.agg (BS r.1),.lit (.int .i64 r.2)])/\ColOK f r)) (bV (Iy f))
theorem DA{r:bY×Int}(H:(CL f).to r):Fn aJ 9 [.agg (An f)] (.tup [.agg (BS r.1),.lit (.int .i64 r.2)]):=by
 obtain⟨c,H⟩:=Aj.1 H;obtain rfl:=Af.1 H;have c:=@of_decide_eq_true _ (_) c;unfold Iy;rw[dif_pos c];exact c.choose_spec.1
theorem Vc(c:bM f)(a:Dg.bulk f<=2097152)(g:CJ f=aB):(CL f).to (Iy f)/\ColOK f (Iy f):=by
 have h:=Ah4 f c a g;refine⟨Ag (@decide_eq_true _ (Classical.propDecidable _) h) (Al _),?_⟩;unfold Iy;rw[dif_pos h];exact h.choose_spec.2
def M8(f:bP):M Bool:=bS (Mi f&&aD ((regsB f).length<=2147483648)) (bV (Ht f))
theorem Ve(H:(M8 f).to r):Fn aJ 11 [.agg (An f)] (.lit (.bool r)):=by
 obtain⟨c,H⟩:=Aj.1 H;obtain rfl:=Af.1 H;rw[aA]at c;exact Af9 f (BG.1 c.1) (of_decide_eq_true c.2)
def RE(p:Int):M Bool:=bV (Ali p)
theorem Vl{p:Int}(H:(RE p).to r):Fn aJ 23 [.lit (.int .i64 p)] (.lit (.bool r)):=by
 obtain rfl:=Af.1 H;exact Agq p
end
end Mu
namespace Mu
open Go Go.RowKit Go.Proofs
noncomputable section
def Hx(args:Int)(regs:Int)(l:List Ins):M bP:=bS (LU ⟨⟨#[]⟩,l⟩) (bV ⟨⟨#[]⟩,args,regs,[⟨⟨#[]⟩,l⟩]⟩)
theorem Ir{args:Int}{regs:Int}{l:List Ins}{r:bP}(H:(Hx args regs l).to r):Fn aJ 21 [.lit (.int .i64 args),.lit (.int .i64 regs),.bs Et l] (.agg (An r)):=by
 delta Hx at H;try dsimp only at H
 refine Kj Tryz.func21 V (by kernel_rfl) V (by kernel_rfl:RG aJ 24=cD (aC,4)) Tryz.ntmps21 λC e=>?_
 simp only[Nat.reduceAdd,Nat.reduceSub,zaa];refine wS (sA0 (wN ?_));obtain⟨d,H⟩:=Aj.1 H;refine wS (sT (sT (sT ?_)));refine sA ?_ (BT (rs:=[.lit (.string ⟨#[]⟩),.bs Et l]) V Apx V V) (Au KP);refine sA ?_ (AX.lt (xs:=[.tmp 10]) (T:=Ct) (ds:=[⟨⟨#[]⟩,l⟩]) V V V (by rfl) (by decide) (.cons (Ahk d) .nil)) (Au I8);refine sA ?_ (BT (rs:=[.lit (.string ⟨#[]⟩),.lit (.int .i64 args),.lit (.int .i64 regs),.bs Ct [⟨⟨#[]⟩,l⟩]]) V Aut V V) (Au JW);refine sW (wN ?_);obtain rfl:=Af.1 H;exact Az ⟨⟨.inr V,0,_,rfl,rfl,bL V⟩,λi cells c a=>by cases c;cases a;rfl⟩
def L6(n:Int):(Int×(List Ins))->M ((Int×(List Ins))⊕((List Ins))):=λ(i1,l3)=>bT (aD (i1 < n)) (bS (Ff ⟨0,i1,0,0,0,0,[],0,0⟩) (bS (EM (l3.length+([⟨0,i1,0,0,0,0,[],0,0⟩]:List Ins).length) 88) (bV (.inl (aF.wrap (i1+1),l3++([⟨0,i1,0,0,0,0,[],0,0⟩]:List Ins)))))) (bV (.inr l3))
def Kz(n:Int):(Int×(List Ins))->M ((Int×(List Ins))⊕((List Ins))):=λ(i14,l16)=>bT (aD (i14 < n)) (bS (Ff ⟨6,0,i14,0,0,0,[],0,0⟩) (bS (EM (l16.length+([⟨6,0,i14,0,0,0,[],0,0⟩]:List Ins).length) 88) (bV (.inl (aF.wrap (i14+1),l16++([⟨6,0,i14,0,0,0,[],0,0⟩]:List Ins)))))) (bV (.inr l16))
def Hw(n:Int):M bP:=bR (bU (L6 n) (0,([]:List Ins))) λd=>bS (Ff ⟨7,0,0,0,0,0,[],0,0⟩) (bS (EM (d.length+([⟨7,0,0,0,0,0,[],0,0⟩]:List Ins).length) 88) (bR (bU (Kz n) (0,d++([⟨7,0,0,0,0,0,[],0,0⟩]:List Ins))) λa=>bS (Ff ⟨10,0,0,0,0,0,[],0,0⟩) (bS (EM (a.length+([⟨10,0,0,0,0,0,[],0,0⟩]:List Ins).length) 88) (bR (Hx 0 n (a++([⟨10,0,0,0,0,0,[],0,0⟩]:List Ins))) λc=>bV c))))
theorem NA{n:Int}{r:bP}(H:(Hw n).to r):Fn aJ 22 [.lit (.int .i64 n)] (.agg (An r)):=by
 delta Hw at H;try dsimp only at H
 refine Kj Tryz.func22 V (by kernel_rfl) V (by kernel_rfl:RG aJ 24=cD (aC,4)) Tryz.ntmps22 λC hC=>?_
 simp only[Nat.reduceAdd,Nat.reduceSub,zaa];refine wS (sA0 (wN ?_));refine wS (sT (wN ?_));refine AN _ (D6 3 47 Et V (by decide)) ?_;obtain⟨z4,W,U⟩:=Ar.1 H;refine Bk (β:=((List Ins))×(Nat)) (λm=>z4=m.1) (λm=>⟨.lit (.int .i64 n)::.any::.ptr 0 0::.own 1 m.2::A20 (A10 (A2 [])),[.box [.lit (.string ⟨#[]⟩),.lit (.int .i64 0),.lit (.int .i64 0),.lit (.slice cC 0 0)],.row m.2 47 Et m.1]⟩) ?_ ?_
 ·refine wS (sT (wN ?_));refine Ah ?_;refine By W (λY b4=>⟨.lit (.int .i64 n)::.any::.ptr 0 0::.own 1 b4::.lit (.int .i64 Y.1)::A20 (A10 [.any]),[.box [.lit (.string ⟨#[]⟩),.lit (.int .i64 0),.lit (.int .i64 0),.lit (.slice cC 0 0)],.row b4 47 Et Y.2]⟩) 0 (?_) ?_
  ·try dsimp only
   exact AU
  ·rintro⟨Z,l3⟩ X x4 H S;try dsimp only
   dsimp only[L6]at H;refine Ae λab D=>?_
   refine wS (sT (sT (sT (wN ?_))));refine Am V (λg=>?_) (λg=>?_)
   ·have H:=AK g H;refine Ao ?_;refine D _ ?_;refine nT ?_;refine Ae λaa B=>?_
    refine Ah ?_;obtain⟨O,H⟩:=Aj.1 H;obtain⟨N,H⟩:=Aj.1 H;refine wSE (sT (sT ?_));refine sA ?_ (BT (rs:=[.lit (.int .u8 0),.lit (.int .i64 Z),.lit (.int .i64 0),.lit (.int .i64 0),.lit (.int .u32 0),.lit (.int .i64 0),.lit (.slice cC 0 0),.lit (.int .i64 0),.lit (.int .i64 0)]) V QB V V) (Au Gv);refine sA (hq:=AX.lt (xs:=[.tmp 13]) (T:=Et) (ds:=[⟨0,Z,0,0,0,0,[],0,0⟩]) V V V (by rfl) (by decide) (.cons (bO (QP (.cons (.refl _) (.cons (.refl _) (.cons (.refl _) (.cons (.refl _) (.cons (.refl _) (.cons (.refl _) (.cons (.nil _) (.cons (.refl _) (.cons (.refl _) .nil)))))))))) (G2 O)) .nil)) (ht:=(Au Hh)) (hk:=?_);refine sP N (sT (wN ?_));refine B _ ?_;refine nT ?_;refine wSE (sT (sT (sT (wN ?_))));have E:=Af.1 H;repeat(first|refine abN ?_|refine asN ?_)
    refine As ⟨_,X+1,E.symm,?_⟩;try dsimp only
    exact AU
   ·have H:=AL g H;refine AA ?_;repeat(first|refine BF ?_|refine exO (by decide) ?_|refine asE ?_)
    refine exN ?_;have E:=S _ (Af.1 H).symm;repeat(first|refine abN ?_|refine asN ?_)
    refine As ⟨(_,X),E.symm,?_⟩;try dsimp only
    exact AU
 ·rintro⟨l6,v5⟩ s;try dsimp only at s
  have H:=U;rw[s]at H;try dsimp only
  obtain⟨L,H⟩:=Aj.1 H;obtain⟨K,H⟩:=Aj.1 H;refine wS (sT ?_);refine sA ?_ (BT (rs:=[.lit (.int .u8 7),.lit (.int .i64 0),.lit (.int .i64 0),.lit (.int .i64 0),.lit (.int .u32 0),.lit (.int .i64 0),.lit (.slice cC 0 0),.lit (.int .i64 0),.lit (.int .i64 0)]) V QB V V) (Au (Au JX));refine sA (hq:=AX.lt (xs:=[.tmp 17]) (T:=Et) (ds:=[⟨7,0,0,0,0,0,[],0,0⟩]) V V V (by rfl) (by decide) (.cons (bO (QP (.cons (.refl _) (.cons (.refl _) (.cons (.refl _) (.cons (.refl _) (.cons (.refl _) (.cons (.refl _) (.cons (.nil _) (.cons (.refl _) (.cons (.refl _) .nil)))))))))) (G2 L)) .nil)) (ht:=(Au (Au KP))) (hk:=?_);refine sP K (sT (wN ?_));obtain⟨A,z,y⟩:=Ar.1 H;refine Bk (β:=((List Ins))×(Nat)) (λa=>A=a.1) (λa=>⟨.lit (.int .i64 n)::.any::.ptr 0 0::.own 1 a.2::A20 (A10 (A2 [])),[.box [.lit (.string ⟨#[]⟩),.lit (.int .i64 0),.lit (.int .i64 0),.lit (.slice cC 0 0)],.row a.2 47 Et a.1]⟩) ?_ ?_
  ·refine wS (sT (wN ?_));refine Ah ?_;refine By z (λl v=>⟨.lit (.int .i64 n)::.any::.ptr 0 0::.own 1 v::.any::.lit (.int .i64 l.1)::A20 (A10 []),[.box [.lit (.string ⟨#[]⟩),.lit (.int .i64 0),.lit (.int .i64 0),.lit (.slice cC 0 0)],.row v 47 Et l.2]⟩) (v5+1) (?_) ?_
   ·try dsimp only
    exact AU
   ·rintro⟨o,ag⟩ j ac H w;try dsimp only
    dsimp only[Kz]at H;refine Ae λQ u=>?_
    refine wS (sT (sT (sT (wN ?_))));refine Am V (λc=>?_) (λc=>?_)
    ·have H:=AK c H;refine Ao ?_;refine u _ ?_;refine nT ?_;refine Ae λP t=>?_
     refine Ah ?_;obtain⟨J,H⟩:=Aj.1 H;obtain⟨I,H⟩:=Aj.1 H;refine wSE (sT (sT ?_));refine sA ?_ (BT (rs:=[.lit (.int .u8 6),.lit (.int .i64 0),.lit (.int .i64 o),.lit (.int .i64 0),.lit (.int .u32 0),.lit (.int .i64 0),.lit (.slice cC 0 0),.lit (.int .i64 0),.lit (.int .i64 0)]) V QB V V) (Au (Au (Au I8)));refine sA (hq:=AX.lt (xs:=[.tmp 27]) (T:=Et) (ds:=[⟨6,0,o,0,0,0,[],0,0⟩]) V V V (by rfl) (by decide) (.cons (bO (QP (.cons (.refl _) (.cons (.refl _) (.cons (.refl _) (.cons (.refl _) (.cons (.refl _) (.cons (.refl _) (.cons (.nil _) (.cons (.refl _) (.cons (.refl _) .nil)))))))))) (G2 J)) .nil)) (ht:=(Au (Au (Au JW)))) (hk:=?_);refine sP I (sT (wN ?_));refine t _ ?_;refine nT ?_;refine wSE (sT (sT (sT (wN ?_))));have h:=Af.1 H;repeat(first|refine abN ?_|refine asN ?_)
     refine As ⟨_,j+1,h.symm,?_⟩;try dsimp only
     exact AU
    ·have H:=AL c H;refine AA ?_;repeat(first|refine BF ?_|refine exO (by decide) ?_|refine asE ?_)
     refine exN ?_;have h:=w _ (Af.1 H).symm;repeat(first|refine abN ?_|refine asN ?_)
     refine As ⟨(_,j),h.symm,?_⟩;try dsimp only
     exact AU
  ·rintro⟨af,ad⟩ d;try dsimp only at d
   have H:=y;rw[d]at H;try dsimp only
   obtain⟨G,H⟩:=Aj.1 H;obtain⟨F,H⟩:=Aj.1 H;obtain⟨ae,e,H⟩:=Ar.1 H;have e:=Ir e;refine wS (sT (sT ?_));refine sA ?_ (BT (rs:=[.lit (.int .u8 10),.lit (.int .i64 0),.lit (.int .i64 0),.lit (.int .i64 0),.lit (.int .u32 0),.lit (.int .i64 0),.lit (.slice cC 0 0),.lit (.int .i64 0),.lit (.int .i64 0)]) V QB V V) (Av GS);refine sA (hq:=AX.lt (xs:=[.tmp 32]) (T:=Et) (ds:=[⟨10,0,0,0,0,0,[],0,0⟩]) V V V (by rfl) (by decide) (.cons (bO (QP (.cons (.refl _) (.cons (.refl _) (.cons (.refl _) (.cons (.refl _) (.cons (.refl _) (.cons (.refl _) (.cons (.nil _) (.cons (.refl _) (.cons (.refl _) .nil)))))))))) (G2 G)) .nil)) (ht:=(Av JX)) (hk:=?_);refine sP F ?_;refine GN V (RK hC 1 V (by(simp only[fzH,Du,AV.fz,ABlk.fz,a8,bA,Nat.reduceEqDiff,zam,zaf];first|done|exact V)) (by(simp only[fzH,Du,AV.fz,ABlk.fz,a8,bA,Nat.reduceEqDiff,zam,zaf];first|done|exact V))) ?_;refine sC e (sW (wN ?_));obtain rfl:=Af.1 H;exact Az ⟨⟨.inr V,0,_,rfl,rfl,bL V⟩,λi cells e1 e2=>by cases e1;cases e2;rfl⟩
def Eo:M Bool:=bS (Ff ⟨1,2,0,1,0,0,[],0,0⟩) (bS (Ff ⟨10,0,2,0,0,0,[],0,0⟩) (bR (Hx 2 3 [⟨1,2,0,1,0,0,[],0,0⟩,⟨10,0,2,0,0,0,[],0,0⟩]) λr3=>bS (Ff ⟨5,1,0,0,0,0,[0],0,0⟩) (bS (Ff ⟨1,1,1,0,0,0,[],0,0⟩) (bS (Ff ⟨10,0,1,0,0,0,[],0,0⟩) (bR (Hx 1 2 [⟨5,1,0,0,0,0,[0],0,0⟩,⟨1,1,1,0,0,0,[],0,0⟩,⟨10,0,1,0,0,0,[],0,0⟩]) λs=>bR (CL r3) λa=>bR (CL s) λd=>bR (Hw 22) λo=>bR (CL o) λc=>bS (Ff ⟨0,1,0,0,0,0,[],0,0⟩) (bR (Hx 0 1 [⟨0,1,0,0,0,0,[],0,0⟩]) λn=>bR (CL n) λj=>bT (((((a.2 !=0)||(d.2 !=0))||(c.2 !=0))||((a.1.at_.length:Int) !=3))||((d.1.at_.length:Int) !=2)) (bV aB) (bS (!(a.1.leaf&&(a.1.slots ==0))||(Cd a.1.at_ 0)) (bS (!(a.1.leaf&&(a.1.slots ==0))||(Cd a.1.at_ 1)) (bR (bX ((a.1.leaf&&(a.1.slots ==0))&&((ixD a.1.at_ 0) !=(ixD a.1.at_ 1))) aB (F6 r3 a.1)) λe=>bS (!((((a.1.leaf&&(a.1.slots ==0))&&((ixD a.1.at_ 0) !=(ixD a.1.at_ 1)))&&e)&&(!d.1.leaf))||(Cd d.1.at_ 0)) (bR (bX ((((a.1.leaf&&(a.1.slots ==0))&&((ixD a.1.at_ 0) !=(ixD a.1.at_ 1)))&&e)&&(!d.1.leaf)) aB (RE (ixD d.1.at_ 0))) λg=>bS (!(((((a.1.leaf&&(a.1.slots ==0))&&((ixD a.1.at_ 0) !=(ixD a.1.at_ 1)))&&e)&&(!d.1.leaf))&&g)||(Cd d.1.at_ 0)) (bR (bX ((((((((a.1.leaf&&(a.1.slots ==0))&&((ixD a.1.at_ 0) !=(ixD a.1.at_ 1)))&&e)&&(!d.1.leaf))&&g)&&(aD ((ixD d.1.at_ 0) < 32)))&&(!c.1.leaf))&&(c.1.slots ==8)) ⟨⟨#[]⟩,0,0,[]⟩ (Hw 22)) λm=>bR (bX ((((((((a.1.leaf&&(a.1.slots ==0))&&((ixD a.1.at_ 0) !=(ixD a.1.at_ 1)))&&e)&&(!d.1.leaf))&&g)&&(aD ((ixD d.1.at_ 0) < 32)))&&(!c.1.leaf))&&(c.1.slots ==8)) aB (F6 m c.1)) λh=>bR (bX ((((((((((a.1.leaf&&(a.1.slots ==0))&&((ixD a.1.at_ 0) !=(ixD a.1.at_ 1)))&&e)&&(!d.1.leaf))&&g)&&(aD ((ixD d.1.at_ 0) < 32)))&&(!c.1.leaf))&&(c.1.slots ==8))&&h)&&(j.2 ==2)) aB (M8 r3)) λl=>bV (((((((((((a.1.leaf&&(a.1.slots ==0))&&((ixD a.1.at_ 0) !=(ixD a.1.at_ 1)))&&e)&&(!d.1.leaf))&&g)&&(aD ((ixD d.1.at_ 0) < 32)))&&(!c.1.leaf))&&(c.1.slots ==8))&&h)&&(j.2 ==2))&&l))))))))))))
theorem GF{r:Bool}(H:(Eo).to r):Fn aJ 8 [] (.lit (.bool r)):=by
 delta Eo at H;try dsimp only at H
 refine AT Tryz.func8 V (by kernel_rfl) V Tryz.ntmps8 λC hC=>?_
 simp only[Nat.reduceAdd,Nat.reduceSub,zaa];refine wS (sT (wN ?_));obtain⟨Z,H⟩:=Aj.1 H;obtain⟨Y,H⟩:=Aj.1 H;obtain⟨r3,z,H⟩:=Ar.1 H;have z:=Ir z;refine wS ?_;refine sA ?_ (BT (rs:=[.lit (.int .u8 1),.lit (.int .i64 2),.lit (.int .i64 0),.lit (.int .i64 1),.lit (.int .u32 0),.lit (.int .i64 0),.lit (.slice cC 0 0),.lit (.int .i64 0),.lit (.int .i64 0)]) V QB V V) (Au I8);refine sA ?_ (BT (rs:=[.lit (.int .u8 10),.lit (.int .i64 0),.lit (.int .i64 2),.lit (.int .i64 0),.lit (.int .u32 0),.lit (.int .i64 0),.lit (.slice cC 0 0),.lit (.int .i64 0),.lit (.int .i64 0)]) V QB V V) (Au JW);refine sA (hq:=AX.lt (xs:=[.tmp 11,.tmp 12]) (T:=Et) (ds:=[⟨1,2,0,1,0,0,[],0,0⟩,⟨10,0,2,0,0,0,[],0,0⟩]) V V V (by rfl) (by decide) (.cons (bO (QP (.cons (.refl _) (.cons (.refl _) (.cons (.refl _) (.cons (.refl _) (.cons (.refl _) (.cons (.refl _) (.cons (.nil _) (.cons (.refl _) (.cons (.refl _) .nil)))))))))) (G2 Z)) (.cons (bO (QP (.cons (.refl _) (.cons (.refl _) (.cons (.refl _) (.cons (.refl _) (.cons (.refl _) (.cons (.refl _) (.cons (.nil _) (.cons (.refl _) (.cons (.refl _) .nil)))))))))) (G2 Y)) .nil))) (ht:=(Au Gv)) (hk:=?_);refine sC z (sA0 (sW (wN ?_)));obtain⟨X,H⟩:=Aj.1 H;obtain⟨W,H⟩:=Aj.1 H;obtain⟨U,H⟩:=Aj.1 H;obtain⟨r7,y,H⟩:=Ar.1 H;have y:=Ir y;refine wS ?_;refine sA ?_ (AX.lt (xs:=[.const (.int .i64 0)]) (T:=tInt) (ds:=[0]) V V V (by rfl) (by decide) (.cons (bN (FA (by decide))) .nil)) (Au GR);refine sA ?_ (BT (rs:=[.lit (.int .u8 5),.lit (.int .i64 1),.lit (.int .i64 0),.lit (.int .i64 0),.lit (.int .u32 0),.lit (.int .i64 0),.bs tInt [0],.lit (.int .i64 0),.lit (.int .i64 0)]) V QB V V) (Au (Au GS));refine sA ?_ (BT (rs:=[.lit (.int .u8 1),.lit (.int .i64 1),.lit (.int .i64 1),.lit (.int .i64 0),.lit (.int .u32 0),.lit (.int .i64 0),.lit (.slice cC 0 0),.lit (.int .i64 0),.lit (.int .i64 0)]) V QB V V) (Au (Au JX));refine sA ?_ (BT (rs:=[.lit (.int .u8 10),.lit (.int .i64 0),.lit (.int .i64 1),.lit (.int .i64 0),.lit (.int .u32 0),.lit (.int .i64 0),.lit (.slice cC 0 0),.lit (.int .i64 0),.lit (.int .i64 0)]) V QB V V) (Au (Au KP));refine sA (hq:=AX.lt (xs:=[.tmp 16,.tmp 17,.tmp 18]) (T:=Et) (ds:=[⟨5,1,0,0,0,0,[0],0,0⟩,⟨1,1,1,0,0,0,[],0,0⟩,⟨10,0,1,0,0,0,[],0,0⟩]) V V V (by rfl) (by decide) (.cons (G2 X) (.cons (bO (QP (.cons (.refl _) (.cons (.refl _) (.cons (.refl _) (.cons (.refl _) (.cons (.refl _) (.cons (.refl _) (.cons (.nil _) (.cons (.refl _) (.cons (.refl _) .nil)))))))))) (G2 W)) (.cons (bO (QP (.cons (.refl _) (.cons (.refl _) (.cons (.refl _) (.cons (.refl _) (.cons (.refl _) (.cons (.refl _) (.cons (.nil _) (.cons (.refl _) (.cons (.refl _) .nil)))))))))) (G2 U)) .nil)))) (ht:=(Au (Au I8))) (hk:=?_);refine sC y (sA0 (sW (wN ?_)));obtain⟨a,w,H⟩:=Ar.1 H;have w:=DA w;refine wS (sT (sC w (sT (sT (sT (sA0 (sW (sT (wN ?_)))))))));obtain⟨e,v,H⟩:=Ar.1 H;have v:=DA v;refine wS (sT (sC v (sT (sT (sT (sA0 (sW (sT (wN ?_)))))))));obtain⟨S,o,H⟩:=Ar.1 H;have o:=NA o;obtain⟨c,n,H⟩:=Ar.1 H;have n:=DA n;refine wS (sC o (sC n (sT (sT (sT (sA0 (sW (sT (wN ?_)))))))));obtain⟨L,H⟩:=Aj.1 H;obtain⟨Q,m,H⟩:=Ar.1 H;have m:=Ir m;obtain⟨t,l,H⟩:=Ar.1 H;have l:=DA l;refine wS ?_;refine sA ?_ (BT (rs:=[.lit (.int .u8 0),.lit (.int .i64 1),.lit (.int .i64 0),.lit (.int .i64 0),.lit (.int .u32 0),.lit (.int .i64 0),.lit (.slice cC 0 0),.lit (.int .i64 0),.lit (.int .i64 0)]) V QB V V) (Av Gv);refine sA (hq:=AX.lt (xs:=[.tmp 37]) (T:=Et) (ds:=[⟨0,1,0,0,0,0,[],0,0⟩]) V V V (by rfl) (by decide) (.cons (bO (QP (.cons (.refl _) (.cons (.refl _) (.cons (.refl _) (.cons (.refl _) (.cons (.refl _) (.cons (.refl _) (.cons (.nil _) (.cons (.refl _) (.cons (.refl _) .nil)))))))))) (G2 L)) .nil)) (ht:=(Av Hh)) (hk:=?_);refine sC m (sC l (sT (sT (sT (sA0 (sW (sT (wN ?_))))))));refine Ae λN u=>?_
 refine wS (sT (sT (sT ?_)));refine sGf V ?_;refine sGf V (sT (sT ?_));refine sGf V ?_;refine sGf V (sT (sT ?_));refine sGf V ?_;refine sGf V ?_;refine sGf V ?_;refine sGf V (sT (sT ?_));refine sGf V ?_;refine sGf V ?_;refine sGf V ?_;refine sGf V (sT (wN ?_));refine Am V (λj=>?_) (λj=>?_)
 ·have H:=AK j H;refine wS (sT (wN ?_));obtain rfl:=Af.1 H;exact Az ⟨.inr V,bL V⟩
 ·have H:=AL j H;refine Ao ?_;refine u _ ?_;refine nT ?_;obtain⟨K,H⟩:=Aj.1 H;obtain⟨J,H⟩:=Aj.1 H;obtain⟨d,F,H⟩:=Ar.1 H;obtain⟨I,H⟩:=Aj.1 H;obtain⟨h,E,H⟩:=Ar.1 H;obtain⟨G,H⟩:=Aj.1 H;obtain⟨P,D,H⟩:=Ar.1 H;obtain⟨s,B,H⟩:=Ar.1 H;obtain⟨O,A,H⟩:=Ar.1 H
  (try simp only[List.append_eq,List.cons_append,bH])
  refine dS 66 (hq:=?_);refine qT (qT (qT ?_));refine qGt V ?_;refine qGt V ?_;refine qGt V (qT (qT ?_));refine qGt V ?_;refine qGt V ?_;refine Ash V K ?_;refine qGt V ?_;refine qGt V ?_;refine qGt V ?_;refine Ash V J ?_;refine qGt V ?_;refine qGt V (qT (qT ?_));refine qG (g:=((a.1.leaf&&(a.1.slots ==0))&&((ixD a.1.at_ 0) !=(ixD a.1.at_ 1)))) (hg:=Oq V) (hq:=λhg=>AW V GH V V) (ht:=(Av (Av (Au (Au JW))))) ?_;refine qG (g:=((a.1.leaf&&(a.1.slots ==0))&&((ixD a.1.at_ 0) !=(ixD a.1.at_ 1)))) (hg:=Oq V) (hq:=λhg=>AW V FQ V V) (ht:=(Av (Av (Au (Au Gv))))) ?_;refine qG (g:=((a.1.leaf&&(a.1.slots ==0))&&((ixD a.1.at_ 0) !=(ixD a.1.at_ 1)))) (hg:=Oq V) (hq:=λhg=>by((try simp only[BL hg]);(try simp only[Qu hg]);exact AO V V (O3 (bW F hg)) V V)) (ht:=(Av (Av (Au (Au Hh))))) ?_;refine qT (qT ?_);refine qGt V ?_;refine qGt V ?_;refine qGt V (qT (qT ?_));refine qGt V ?_;refine qGt V ?_;refine Ash V I ?_;refine qGt V ?_;refine qG (g:=((((a.1.leaf&&(a.1.slots ==0))&&((ixD a.1.at_ 0) !=(ixD a.1.at_ 1)))&&d)&&(!e.1.leaf))) (hg:=Oq V) (hq:=λhg=>by((try simp only[BL hg]);(try simp only[Qu hg]);exact AO V V (Vl (bW E hg)) V V)) (ht:=(Av (Av (Av KP)))) (hk:=?_);refine qT (qT ?_);refine qGt V ?_;refine qGt V ?_;refine Ash V G ?_;refine qGt V ?_;refine qGt V (qT (qT ?_));refine qGt V ?_;refine qGt V ?_;refine qGt V (qT (qT ?_));refine qGt V ?_;refine qGt V ?_;refine qGt V (qT (qT ?_));refine qG (g:=((((((((a.1.leaf&&(a.1.slots ==0))&&((ixD a.1.at_ 0) !=(ixD a.1.at_ 1)))&&d)&&(!e.1.leaf))&&h)&&(aD ((ixD e.1.at_ 0) < 32)))&&(!c.1.leaf))&&(c.1.slots ==8))) (hg:=Oq V) (hq:=λhg=>by((try simp only[BL hg]);(try simp only[Qu hg]);exact AO V V (NA (bW D hg)) V V)) (ht:=(Av (Av (Av (Au (Au Hh)))))) (hk:=?_);refine qG (g:=((((((((a.1.leaf&&(a.1.slots ==0))&&((ixD a.1.at_ 0) !=(ixD a.1.at_ 1)))&&d)&&(!e.1.leaf))&&h)&&(aD ((ixD e.1.at_ 0) < 32)))&&(!c.1.leaf))&&(c.1.slots ==8))) (hg:=Oq V) (hq:=λhg=>AW V GY V V) (ht:=(Av (Av (Av (Au (Au GR)))))) (hk:=?_);refine qG (g:=((((((((a.1.leaf&&(a.1.slots ==0))&&((ixD a.1.at_ 0) !=(ixD a.1.at_ 1)))&&d)&&(!e.1.leaf))&&h)&&(aD ((ixD e.1.at_ 0) < 32)))&&(!c.1.leaf))&&(c.1.slots ==8))) (hg:=Oq V) (hq:=λhg=>by((try simp only[BL hg]);(try simp only[Qu hg]);exact AO V V (O3 (bW B hg)) V V)) (ht:=(Av (Av (Av (Au (Au (Au GS))))))) (hk:=?_);refine qT (qT ?_);refine qGt V ?_;refine qGt V (qT (qT ?_));refine qG (g:=((((((((((a.1.leaf&&(a.1.slots ==0))&&((ixD a.1.at_ 0) !=(ixD a.1.at_ 1)))&&d)&&(!e.1.leaf))&&h)&&(aD ((ixD e.1.at_ 0) < 32)))&&(!c.1.leaf))&&(c.1.slots ==8))&&s)&&(t.2 ==2))) (hg:=Oq V) (hq:=λhg=>AW V GH V V) (ht:=(Av (Av (Av (Au (Au (Au GR))))))) (hk:=?_);refine qG (g:=((((((((((a.1.leaf&&(a.1.slots ==0))&&((ixD a.1.at_ 0) !=(ixD a.1.at_ 1)))&&d)&&(!e.1.leaf))&&h)&&(aD ((ixD e.1.at_ 0) < 32)))&&(!c.1.leaf))&&(c.1.slots ==8))&&s)&&(t.2 ==2))) (hg:=Oq V) (hq:=λhg=>by((try simp only[BL hg]);(try simp only[Qu hg]);exact AO V V (Ve (bW A hg)) V V)) (ht:=(Av (Av (Av (Av GS))))) (hk:=?_);refine qT (qT (qN (wN ?_)));obtain rfl:=Af.1 H;exact Az ⟨.inr V,bL V⟩
def Cr(f:bP)(d:bY×Int)(c:List Pair):Int->M (Int⊕((Unit)⊕(Bool))):=λa=>bT (aD (a < (c.length:Int))) (bS (EM (([]:List Int).length+d.1.at_.length) 8) (bS (Cd c a) (bS (!(!(aD (((ixD c a).a) < 0)))||(Cd c a)) (bT ((aD (((ixD c a).a) < 0))||(aD (((ixD c a).b)≥((([]:List Int)++d.1.at_).length:Int)))) (bV (.inr (.inr aB))) (bS (Cd c a) (bS (Cd (([]:List Int)++d.1.at_) ((ixD c a).b)) (bS (Cd (([]:List Int)++d.1.at_) ((ixD c a).a)) (bS (wfB .i64 (ixD (([]:List Int)++d.1.at_) ((ixD c a).b))) (bR (Fk ⟨f.name,f.args,f.regs,f.blocks⟩ ⟨d.1.leaf,d.1.slots,(([]:List Int)++d.1.at_).set (Int.toNat ((ixD c a).a)) (ixD (([]:List Int)++d.1.at_) ((ixD c a).b))⟩) λe=>bT e (bV (.inr (.inr aB))) (bV (.inl (aF.wrap (a+1))))))))))))) (bV (.inr (.inl ())))
def DL(f:bP)(a:Int):M Bool:=bR (O6 f) λr2=>bT (r2||(aD (f.regs > 300))) (bR Eo λr4=>bV r4) (bR (CL f) λc=>bT ((c.2 !=0)||((c.1.at_.length:Int) !=f.regs)) (bR (bX (c.2 !=0) aB Eo) λl=>bV ((c.2 !=0)&&l)) (bR (Fk f ⟨c.1.leaf,aF.wrap (c.1.slots+1),c.1.at_⟩) λj=>bT j (bV aB) (bR (Ho f) λh=>M.els (bU (Cr f c h) 0) λ_=>bT (f.regs ==0) (bR Eo λg=>bV g) (bS (EM (([]:List Int).length+c.1.at_.length) 8) (bS (f.regs !=0) (bS (([0,1,2,3,5,6,7,14,15,30,31,(-2)].length:Int) !=0) (bS (Cd [0,1,2,3,5,6,7,14,15,30,31,(-2)] (aN (aF.wrap a) ([0,1,2,3,5,6,7,14,15,30,31,(-2)].length:Int))) (bS (Cd (([]:List Int)++c.1.at_) (aN (aF.wrap a) f.regs)) (bS (wfB .i64 (ixD [0,1,2,3,5,6,7,14,15,30,31,(-2)] (aN (aF.wrap a) ([0,1,2,3,5,6,7,14,15,30,31,(-2)].length:Int)))) (bR (Fk ⟨f.name,f.args,f.regs,f.blocks⟩ ⟨c.1.leaf,c.1.slots,(([]:List Int)++c.1.at_).set (Int.toNat (aN (aF.wrap a) f.regs)) (ixD [0,1,2,3,5,6,7,14,15,30,31,(-2)] (aN (aF.wrap a) ([0,1,2,3,5,6,7,14,15,30,31,(-2)].length:Int)))⟩) λd=>bR (bX (!d) aB Eo) λe=>bV ((!d)&&e)))))))))))
theorem K0{f:bP}{a:Int}{r:Bool}(H:(DL f a).to r):Fn aJ 6 [.agg (An f),.lit (.int .u8 a)] (.lit (.bool r)):=by
 delta DL at H;try dsimp only at H
 refine AT Tryz.func6 V (by kernel_rfl) V Tryz.ntmps6 λC hC=>?_
 simp only[Nat.reduceAdd,Nat.reduceSub,zaa];refine wS (sB (sT (wN ?_)));refine Ae λau ad=>?_
 obtain⟨r2,k2,H⟩:=Ar.1 H;have k2:=Ws k2;refine wS (sT (sC k2 (sT ?_)));refine sGf V ?_;refine sGf V ?_;refine sGf V (sT (wN ?_));refine Am V (λB=>?_) (λB=>?_)
 ·have H:=AK B H;obtain⟨r4,k4,H⟩:=Ar.1 H;have k4:=GF k4;refine wS (sC k4 (sT (wN ?_)));obtain rfl:=Af.1 H;exact Az ⟨.inr V,bL V⟩
 ·have H:=AL B H;refine Ao ?_;refine ad _ ?_;refine nT ?_;obtain⟨s,Z,H⟩:=Ar.1 H;have Z:=DA Z;refine wS (sT (sC Z (sT (sT (sT (sA0 (sW (sT (wN ?_)))))))));refine Ae λar ac=>?_
  refine wS (sT (sT (sT ?_)));refine sGf V ?_;refine sGf V ?_;refine sGf V ?_;refine sGf V ?_;refine sGf V ?_;refine sGf V (sT (wN ?_));refine Am V (λA=>?_) (λA=>?_)
  ·have H:=AK A H;obtain⟨r8,k8,H⟩:=Ar.1 H;refine wS (sT (sT (sT ?_)));refine sG (g:=(s.2 !=0)) (hg:=Oq V) (hq:=λhg=>by((try simp only[BL hg]);(try simp only[Qu hg]);exact AO V V (GF (bW k8 hg)) V V)) (ht:=(Av GR)) ?_;refine sT (sT (wN ?_));obtain rfl:=Af.1 H;exact Az ⟨.inr V,bL V⟩
  ·have H:=AL A H;refine Ao ?_;refine ac _ ?_;refine nT ?_;refine wS (sT (sA0 (sW (wN ?_))));refine wS (sT (sT (sT (sT (sW (wN ?_))))));refine Ae λaq ab=>?_
   obtain⟨az,z,H⟩:=Ar.1 H;have z:=G5 z;refine wS (sT (sT (sC z (wN ?_))));refine Am V (λj=>?_) (λj=>?_)
   ·have H:=AK j H;refine wS (sT (wN ?_));obtain rfl:=Af.1 H;exact Az ⟨.inr V,bL V⟩
   ·have H:=AL j H;refine Ao ?_;refine ab _ ?_;refine nT ?_;obtain⟨t,y,H⟩:=Ar.1 H;have y:=Wt y;refine wS (sT (sC y (sT (wN ?_))));obtain⟨W,U,S,o⟩:=CF H;refine Bk (β:=(Unit)×(Unit)) (λE=>W= .inl E.1) (λE=>⟨.any::.lit (.int .u8 a)::.ptr 0 0::A2 (.ptr 1 0::A80 (A40 (A8 []))),[.box [.lit (.string f.name),.lit (.int .i64 f.args),.lit (.int .i64 f.regs),.bs Ct f.blocks],.box [.lit (.bool s.1.leaf),.lit (.int .i64 s.1.slots),.bs tInt s.1.at_],.dead]⟩) ?_ ?_
    ·refine wS (sT (wN ?_));refine Ah ?_;refine By U (λX ba=>⟨.any::.lit (.int .u8 a)::.ptr 0 0::A2 (.ptr 1 0::A2 (.bs CI t::.lit (.int .i64 X)::A80 (A40 (A4 [])))),[.box [.lit (.string f.name),.lit (.int .i64 f.args),.lit (.int .i64 f.regs),.bs Ct f.blocks],.box [.lit (.bool s.1.leaf),.lit (.int .i64 s.1.slots),.bs tInt s.1.at_],.dead]⟩) () (?_) ?_
     ·try dsimp only
      exact leC (Cut.cons (Cut.cons (Cut.dead (Cut.nil _))))
     ·rintro F _ av H l;try dsimp only
      dsimp only[Cr]at H;refine Ae λap K=>?_
      refine wS (sT (sT (sT (sT (wN ?_)))));refine Am V (λh=>?_) (λh=>?_)
      ·have H:=AK h H;refine Ao ?_;refine K _ ?_;refine nT ?_;refine Ae λao J=>?_
       refine Ah ?_;refine wS (sT (sA0 (sW (wN ?_))));obtain⟨al,H⟩:=Aj.1 H;refine wS ?_;(refine AH V (Km 4 V (xs:=[]) (T:=tInt) (ds:=([]:List Int)) V V V (RT.eq (n:=1) (bytes:=8)) (by decide) (by decide) .nil ?_);refine DS ?_ (Av (Au (Au (Au KP)))));refine sT (sT (sP al (sT (sW (wN ?_)))));refine Ae λan I=>?_
       obtain⟨ak,H⟩:=Aj.1 H;obtain⟨aj,H⟩:=Aj.1 H;refine dS 17 (hq:=?_);refine qT (qT (qX ak (qT (qT (qT (qT ?_))))));refine qGf V ?_;refine qGf V ?_;refine qG (g:=(!(aD (((ixD t F).a) < 0)))) (hg:=Aha V) (hq:=λhg=>EK V ((Aw (Aw G8)).trans (BL hg _ _)) ((Aw (Aw GY)).trans (BL hg _ _)) V (Ro aj hg)) (ht:=(Av (Av (Au GS)))) (hk:=?_);refine qGf V ?_;refine qGf V ?_;refine qGf V ?_;refine qGf V ?_;refine qG (g:=(!(aD (((ixD t F).a) < 0)))) (hg:=Aha V) (hq:=λhg=>Fq V ((Aw (Aw (Aq Gt))).trans (BL hg _ _)) V) (ht:=(Av (Av (Au Gv)))) (hk:=?_);refine qGf V (qT (qN (wN ?_)));refine Am V (λe=>?_) (λe=>?_)
       ·have H:=AK e H;refine wS (sT (wN ?_));have H:=Af.2 (o _ (l _ (Af.1 H).symm).symm);obtain rfl:=Af.1 H;exact Az ⟨.inr V,bL V⟩
       ·have H:=AL e H;refine Ao ?_;refine I _ ?_;refine nT ?_;obtain⟨Q,H⟩:=Aj.1 H;obtain⟨P,H⟩:=Aj.1 H;obtain⟨O,H⟩:=Aj.1 H;obtain⟨ai,H⟩:=Aj.1 H;refine dS 17 (hq:=?_);refine qT (qT (qT (qT (qX Q (qT (qT (qT (qT (qT (qT (qX Q ?_)))))))))));refine qT (qT ?_);refine qA (hq:=BO V (Aw (Aw (Aq (Aq (Aq IL))))) V (Aw (Aw (Aq (Aq (Aq Fu))))) V P) (ht:=(Av (Av (Au (Au (Au Hh)))))) (hk:=?_);refine qA (hq:=Bp V (Aw (Aw (Aq (Aq (Aq G8))))) V (BN P) V) (ht:=(Av (Av (Au (Au (Au GR)))))) (hk:=?_);refine qA ?_ (BO V (Aw (Aw (Aq (Aq GH)))) V (Aw (Aw (Aq (Aq G8)))) V O) (Av (Av (Av GS)));refine qN ?_;(refine AH V (CY V V V (BN O) (bN ai) V ?_);refine DS ?_ QA);refine wN ?_;obtain⟨ay,w,H⟩:=Ar.1 H;have w:=G5 w;refine wS (sT (sT ?_));refine GN V (RK hC 4 V (by(simp only[fzH,Du,AV.fz,ABlk.fz,a8,bA,Nat.reduceEqDiff,zam,zaf];first|done|exact V)) (by(simp only[fzH,Du,AV.fz,ABlk.fz,a8,bA,Nat.reduceEqDiff,zam,zaf];first|done|exact V))) ?_;refine sC w (wN ?_);refine Am V (λd=>?_) (λd=>?_)
        ·have H:=AK d H;refine wS (sT (wN ?_));have H:=Af.2 (o _ (l _ (Af.1 H).symm).symm);obtain rfl:=Af.1 H;exact Az ⟨.inr V,bL V⟩
        ·have H:=AL d H;refine Ao ?_;refine J _ ?_;refine nT ?_;refine wSE (sT (sT (sT (wN ?_))));have D:=Af.1 H;repeat(first|refine abN ?_|refine asN ?_)
         refine As ⟨_,(),D.symm,?_⟩;try dsimp only
         exact leC (Cut.cons (Cut.cons (Cut.cons (Cut.nil _))))
      ·have H:=AL h H;refine AA ?_;repeat(first|refine BF ?_|refine exO (by decide) ?_|refine asE ?_)
       refine exN ?_;have D:=l _ (Af.1 H).symm;repeat(first|refine abN ?_|refine asN ?_)
       refine As ⟨(_,()),D.symm,?_⟩;try dsimp only
       exact AU
    ·rintro⟨_,_⟩ m;try dsimp only at m
     have H:=S _ m;try dsimp only
     refine Ae λam G=>?_
     refine wS (sT (sT (sT (wN ?_))));refine Am V (λc=>?_) (λc=>?_)
     ·have H:=AK c H;obtain⟨ax,v,H⟩:=Ar.1 H;have v:=GF v;refine wS (sC v (sT (wN ?_)));obtain rfl:=Af.1 H;exact Az ⟨.inr V,bL V⟩
     ·have H:=AL c H;refine Ao ?_;refine G _ ?_;refine nT ?_;refine wS ?_;(refine AH V (Km 3 V (xs:=[.const (.int .i64 0),.const (.int .i64 1),.const (.int .i64 2),.const (.int .i64 3),.const (.int .i64 5),.const (.int .i64 6),.const (.int .i64 7),.const (.int .i64 14),.const (.int .i64 15),.const (.int .i64 30),.const (.int .i64 31),.const (.int .i64 (-2))]) (T:=tInt) (ds:=[0,1,2,3,5,6,7,14,15,30,31,(-2)]) V V V (RT.eq (n:=1) (bytes:=8)) (by decide) (by decide) (.cons (bN (FA (by decide))) (.cons (bN (FA (by decide))) (.cons (bN (FA (by decide))) (.cons (bN (FA (by decide))) (.cons (bN (FA (by decide))) (.cons (bN (FA (by decide))) (.cons (bN (FA (by decide))) (.cons (bN (FA (by decide))) (.cons (bN (FA (by decide))) (.cons (bN (FA (by decide))) (.cons (bN (FA (by decide))) (.cons (bN (FA (by decide))) .nil)))))))))))) ?_);refine DS ?_ (Av (Av (Av (Au GS)))));refine sT (wN ?_);refine wS (sT (sA0 (sW (wN ?_))));obtain⟨ah,H⟩:=Aj.1 H;refine wS ?_;(refine AH V (Km 5 V (xs:=[]) (T:=tInt) (ds:=([]:List Int)) V V V (RT.eq (n:=1) (bytes:=8)) (by decide) (by decide) .nil ?_);refine DS ?_ (Av (Av (Av (Au KP)))));refine sT (sT (sP ah (sT (sW (wN ?_)))));obtain⟨ag,H⟩:=Aj.1 H;obtain⟨af,H⟩:=Aj.1 H;obtain⟨N,H⟩:=Aj.1 H;obtain⟨L,H⟩:=Aj.1 H;obtain⟨ae,H⟩:=Aj.1 H;refine dS 16 (hq:=?_);refine qT (qT (qT ?_));refine qA (hq:=OB V (Aw (Aw (Aw (Aq (Aq GH))))) V) (ht:=(Av (Av (Av (Au (Au KP)))))) (hk:=?_);refine qT (qT ?_);refine qA (hq:=RM V (Aw (Aw (Aw (Aq (Aq FD))))) (Aw (Aw (Aw (Aq (Aq Gt))))) ag) (ht:=(Av (Av (Av (Au (Au Gv)))))) (hk:=?_);refine qT (qT ?_);refine qA (hq:=OB V (Aw (Aw (Aw (Aq (Aq GY))))) V) (ht:=(Av (Av (Av (Au (Au (Au GS))))))) (hk:=?_);refine qT (qT ?_);refine qA (hq:=RM V (Aw (Aw (Aw (Aq (Aq (Aq IL)))))) (Aw (Aw (Aw (Aq (Aq (Aq FD)))))) af) (ht:=(Av (Av (Av (Au (Au (Au I8))))))) (hk:=?_);refine qA (hq:=BO V (Aw (Aw (Aw (Aq (Aq G8))))) V (Aw (Aw (Aw (Aq (Aq (Aq FQ)))))) V N) (ht:=(Av (Av (Av (Au (Au (Au JW))))))) (hk:=?_);refine qA (hq:=Bp V (Aw (Aw (Aw (Aq (Aq (Aq Gt)))))) V (BN N) V) (ht:=(Av (Av (Av (Au (Au (Au Gv))))))) (hk:=?_);refine qA (hq:=BO V (Aw (Aw (Aw (Aq (Aq IL))))) V (Aw (Aw (Aw (Aq (Aq Fu))))) V L) (ht:=(Av (Av (Av (Au (Au (Au Hh))))))) (hk:=?_);refine qN ?_;(refine AH V (CY V V V (BN L) (bN ae) V ?_);refine DS ?_ QA);refine wN ?_;obtain⟨Y,u,H⟩:=Ar.1 H;have u:=G5 u;obtain⟨aw,aa,H⟩:=Ar.1 H;refine wS (sT (sT ?_));refine GN V (RK hC 5 V (by(simp only[fzH,Du,AV.fz,ABlk.fz,a8,bA,Nat.reduceEqDiff,zam,zaf];first|done|exact V)) (by(simp only[fzH,Du,AV.fz,ABlk.fz,a8,bA,Nat.reduceEqDiff,zam,zaf];first|done|exact V))) ?_;refine sC u (sT (sT ?_));refine sG (g:=(!Y)) (hg:=Oq V) (hq:=λhg=>by((try simp only[BL hg]);(try simp only[Qu hg]);exact AO V V (GF (bW aa hg)) V V)) (ht:=(Av (Av (Av (Av JW))))) ?_;refine sT (sT (wN ?_));obtain rfl:=Af.1 H;exact Az ⟨.inr V,bL V⟩
end
end Mu
namespace Mu
open Go Go.RowKit Go.Proofs Go.Maps
variable{f:bP}{l:List Int}{r v z:Int}
def Aa6:bP:=⟨⟨#[]⟩,2,3,[⟨⟨#[]⟩,[⟨1,2,0,1,0,0,[],0,0⟩,⟨10,0,2,0,0,0,[],0,0⟩]⟩]⟩
def W7:bP:=⟨⟨#[]⟩,1,2,[⟨⟨#[]⟩,[⟨5,1,0,0,0,0,[0],0,0⟩,⟨1,1,1,0,0,0,[],0,0⟩,⟨10,0,1,0,0,0,[],0,0⟩]⟩]⟩
def Qt:bP:=⟨⟨#[]⟩,0,22,[⟨⟨#[]⟩,((bJ 22).map λ(i:Nat)=>(⟨0,(i:Int),0,0,0,0,[],0,0⟩:Ins))++⟨7,0,0,0,0,0,[],0,0⟩::(((bJ 22).map λ(i:Nat)=>(⟨6,0,(i:Int),0,0,0,[],0,0⟩:Ins))++[⟨10,0,0,0,0,0,[],0,0⟩])⟩]⟩
def Ayp:bP:=⟨⟨#[]⟩,0,1,[⟨⟨#[]⟩,[⟨0,1,0,0,0,0,[],0,0⟩]⟩]⟩
theorem Tl:(Hw 22).to Qt:=⟨40,by kernel_rfl⟩
structure Fit22(f:Func):Prop where
 c:Mi f=true
 b:Dg.bulk f<=2097152
 g:CJ f=false
theorem Az5:Fit22 Aa6:=⟨by decide+kernel,by decide+kernel,by decide+kernel⟩
theorem AA7:Fit22 W7:=⟨by decide+kernel,by decide+kernel,by decide+kernel⟩
theorem AAp:Fit22 Qt:=⟨by decide+kernel,by decide+kernel,by decide+kernel⟩
theorem AA6:Fit22 Ayp:=⟨by decide+kernel,by decide+kernel,by decide+kernel⟩
theorem Auq:regsB Aa6= [0,1,2]:=by rw[<-Hl];decide+kernel
theorem Anm:regsB W7= [0,1]:=by rw[<-Hl];decide+kernel
theorem Az0:regsB Ayp= [1]:=by rw[<-Hl];decide+kernel
theorem Aps:regsB Qt=(bJ 22).map λ(i:Nat)=>(i:Int):=by rw[<-Hl];decide+kernel
theorem Aji:Ht Aa6=aC/\leaf Aa6.blocks=aC/\regsB Aa6= [0,1,2]/\(⟨0,1⟩:Pair)∈Cp Aa6:=by unfold Ht;rw[Auq];decide+kernel
theorem AA9:∀x∈regsB Aa6,Si Aa6 x < 7:=by unfold Si;rw[Auq];decide+kernel
theorem Asi:Ht W7=aC/\leaf W7.blocks=aB/\regsB W7= [0,1]/\(B9 W7).contains 0=aC:=by unfold Ht;rw[Anm];decide+kernel
theorem AA8:∀x∈regsB W7,Si W7 x < 14:=by unfold Si;rw[Anm];decide+kernel
theorem AA4:Ht Ayp=aB:=by unfold Ht;rw[Az0];decide+kernel
theorem Azb:Ht Qt=aC/\leaf Qt.blocks=aB:=by unfold Ht;rw[Aps];decide+kernel
theorem Aou:B9 Qt=(bJ 22).map λ(i:Nat)=>(i:Int):=by decide+kernel
theorem Ays:∀b∈bJ 22,∀a∈bJ b,(⟨(a:Int),(b:Int)⟩:Pair)∈Cp Qt:=by decide+kernel
theorem Auz:∀y∈BD [0] 0 aB,Ali y=aC/\y < 32:=by decide
theorem ColOK.p{r:bY×Int}(H:ColOK f r)(a:Ht f=aC):bZ f r.1:=(OX H.wf).1 (H.right a)
theorem Yv(a:Ht f=aC):0<=f.regs/\f.regs<=4096:=by
 unfold Ht Ak3 at a;simp only[zap]at a;omega
theorem ColOK.len{r:bY×Int}(H:ColOK f r):r.1.at_.length<=4096:=by
 cases a:Ht f with
 |false=>rw[H.no a];exact cB _
 |true=>
  have h1:=(H.p a).len;have h2:=Yv a;omega
theorem Fit22.col(h:Fit22 f):(CL f).to (Iy f)/\ColOK f (Iy f):=Vc (BG.1 h.c) h.b h.g
theorem Fit22.right(h:Fit22 f){p:bY}(a:∀x∈p.at_,Ci x)(c:p.at_.length<=4096):(F6 f p).to (CT f p):=ZO (BG.1 h.c) h.b a (by omega) (by have:=Hj h.g;omega)
theorem RightP.val{p:bY}(H:bZ f p)(a:r∈regsB f):∃x,p.at_[r.toNat]? =cD x/\ixD p.at_ r=x/\Cd p.at_ r=aC/\(x∈BD (B9 f) r p.leaf\/(32<=x/\x < 32+p.slots)):=by
 obtain⟨h1,h2⟩:=Uw H.may a;have c:=H.len;obtain⟨x,hx⟩:∃x,p.at_[r.toNat]? =cD x:=⟨_,aT (by omega)⟩
 have e:((r.toNat:Nat):Int)=r:=by omega
 refine⟨x,hx,?_,?_,?_⟩
 ·rw[<-e];exact BV hx
 ·exact BK.2 ⟨h1,by omega⟩
 ·have:=H.reg r.toNat x hx (by rw[e];exact a);rw[e]at this;exact this
theorem Zq(H:bZ Qt (Iy Qt).1)(y:ColOK Qt (Iy Qt)):(Iy Qt).1.leaf=aB/\(Iy Qt).1.slots=8:=by
 obtain⟨p,u⟩:∃p,p=(Iy Qt).1:=⟨_,rfl⟩
 have a:=y.many;rw[<-u]at H a⊢;have m:p.leaf=aB:=by
  cases e:p.leaf with
  |false=>rfl
  |true=>have:=(H.lf e).1;rw[Azb.2]at this;cases this
 refine⟨m,?_⟩;have n:p.at_.length=22:=by
  have h:=H.len;have e:Qt.regs=22:=rfl;rw[e]at h;omega
 have g:∀j:Nat,j < 22->(j:Int)∈regsB Qt:=λj c=>by rw[Aps];exact bE.2 ⟨j,bG.2 c,rfl⟩
 have o:p.at_.Nodup:=by
  rw[List.Nodup,List.pairwise_iff_getElem];intro i j hi c s e;have A:=Ays j (bG.2 (by omega)) i (bG.2 s);refine H.apart _ A ?_;show ixD p.at_ (i:Int)=ixD p.at_ (j:Int);rw[BV (aT hi),BV (aT c),e]
 have d:∀x∈p.at_,x∈BD (B9 Qt) 0 aB++NX p:=λx hx=>by
  obtain⟨j,c⟩:=bD.1 hx;have w:=(aV.1 c).1;rcases H.reg j x c (g j (by omega))with h|h
  ·rw[m]at h;have e:BD (B9 Qt) (j:Int) aB=BD (B9 Qt) 0 aB:=by
    have h1:∀k:Nat,k < 22->(B9 Qt).contains (k:Int)=aC:=λk hk=>by rw[Aou];exact List.contains_iff_mem.2 (bE.2 ⟨k,bG.2 hk,rfl⟩)
    rw[Db,Db,h1 j (by omega),show(0:Int)=((0:Nat):Int)from V,h1 0 (by omega)]
   rw[e]at h;exact bB _ h
  ·exact bC _ ((LA H.pos).2 h)
 have h1:=Dq o d;have h2:(BD (B9 Qt) 0 aB).length=14:=by
  rw[Aou];decide
 have D:(NX p).length=p.slots.toNat:=by simp[NX]
 rw[aY,h2,D,n]at h1;have C:(regsB Qt).length=22:=by rw[Aps];rfl
 have t:=H.pos;have B:=a (by omega);rw[C]at B;omega
theorem Md:Eo.to aC:=by
 obtain⟨L,d⟩:=Az5.col;obtain⟨K,o⟩:=AA7.col;obtain⟨I,c⟩:=AAp.col;obtain⟨J,N⟩:=AA6.col;have g:=d.p Aji.1;have m:=o.p Asi.1;have j:=c.p Azb.1;have a1:=d.err Aji.1;have D:=d.lf Aji.1 Aji.2.1 AA9;have a3:=(g.lf D).2;obtain⟨x0,S,U,u,_⟩:=g.val (r:=0) (by rw[Aji.2.2.1];decide);obtain⟨x1,Q,T,t,_⟩:=g.val (r:=1) (by rw[Aji.2.2.1];decide);have a4:((ixD (Iy Aa6).1.at_ 0) !=(ixD (Iy Aa6).1.at_ 1))=aC:=by
  have:=g.apart _ Aji.2.2.2;simpa using this
 have a5:((Iy Aa6).1.at_.length:Int)=3:=g.len;have Z:=o.err Asi.1;have C:(Iy W7).1.leaf=aB:=by
  cases e:(Iy W7).1.leaf with
  |false=>rfl
  |true=>have:=(m.lf e).1;rw[Asi.2.1]at this;cases this
 have Y:=o.few Asi.1 AA8;have X:((Iy W7).1.at_.length:Int)=2:=m.len;obtain⟨E,P,w,s,n⟩:=m.val (r:=0) (by rw[Asi.2.2.1];decide);have B:Ali (ixD (Iy W7).1.at_ 0)=aC/\aD ((ixD (Iy W7).1.at_ 0) < 32)=aC:=by
  rw[w];rcases n with h|h
  ·rw[C]at h;have e:BD (B9 W7) 0 aB=BD [0] 0 aB:=by rw[Db,Db,Asi.2.2.2];rfl
   rw[e]at h;have:=Auz E h;exact⟨this.1,decide_eq_true this.2⟩
  ·rw[Y]at h;omega
 have H:=c.err Azb.1;obtain⟨G,F⟩:=Zq j c;have W:(Iy Ayp).2=2:=by rw[N.no AA4]
 have A:=Az5.right d.wf d.len;rw[d.right Aji.1]at A;have y:=AAp.right c.wf c.len;rw[c.right Azb.1]at y;have O:(M8 Aa6).to aC:=by
  refine Ag (by rw[Az5.c,Aji.2.2.1];rfl) ?_;rw[Aji.1];exact Al _
 unfold Eo;refine Ag V (Ag V (Ap (a:=Aa6) (Ag (by kernel_rfl) (Al _)) (Ag V (Ag V (Ag V (Ap (a:=W7) (Ag (by kernel_rfl) (Al _)) (Ap L (Ap K (Ap Tl (Ap I (Ag V (Ap (a:=Ayp) (Ag (by kernel_rfl) (Al _)) (Ap J ?_)))))))))))));simp only[a1,D,a3,a4,a5,Z,C,B.2,X,H,G,F,W,u,t,s];refine AF V (Ag V (Ag V (Ap (BX V A) (Ag V (Ap (a:=aC) (BX V (Af.2 B.1)) (Ag V (Ap (BX V Tl) (Ap (BX V y) (Ap (BX V O) (Al _))))))))))
theorem Aaw(c:bM f):(O6 f).to (CJ f):=Ag (BG.2 c) (Al _)
theorem Aul{x:Int}(h:wfI .u8 x):0<=x/\x<=255:=by
 simpa[wfI,Lit.wf,aH,aG,aI,aE]using h
theorem Pn{p:bY}(a:∀x∈p.at_,Ci x)(h:¬bZ f p):CT f p=aB:=by
 cases e:CT f p with
 |false=>rfl
 |true=>exact absurd ((OX a).1 e) h
theorem RightP.more{p:bY}(H:bZ f p):¬bZ f ⟨p.leaf,p.slots+1,p.at_⟩:=λK=>by
 have e:=H.pos;have d:32+p.slots∈p.at_:=K.use _ (by omega) (by show 32+p.slots < 32+(p.slots+1);omega);obtain⟨j,c⟩:=bD.1 d;by_cases a:(j:Int)∈regsB f
 ·rcases H.reg j _ c a with h|h
  ·have:=Jk h;omega
  ·omega
 ·have:=H.non j _ c a;omega
theorem Apf(h0:0<=r)(h1:r.toNat < l.length):ixD (l.set r.toNat v) r=v:=by
 have e:((r.toNat:Nat):Int)=r:=by omega
 rw[<-e,aP];exact BV (aX h1)
theorem Aej{q:Int}(h0:0<=r)(h1:0<=q)(h:r≠q):ixD (l.set r.toNat v) q=ixD l q:=by
 unfold ixD;rw[aS,aS,List.getElem?_set_ne (by omega)]
theorem Anh(a:∀x∈l,Ci x){k:Nat}(c:Ci v):∀x∈l.set k v,Ci x:=λx hx=>by
 rcases List.mem_or_eq_of_mem_set hx with h|h
 ·exact a x h
 ·rw[h];exact c
def Anw:List Int:=[0,1,2,3,5,6,7,14,15,30,31,(-2)]
theorem Afy{cross:List Int}{leaf:Bool}(a:z∈Anw):z∉BD cross r leaf/\z < 32/\z≠-1/\-1<=z+1:=by
 have h1:∀y∈Anw,y∉YS++Jt/\y < 32/\y≠-1/\-1<=y+1:=by decide
 obtain⟨h2,c⟩:=h1 z a;refine⟨λh=>h2 ?_,c⟩;rw[Db]at h;split at h
 ·exact bB _ h
 split at h
 ·exact bC _ h
 ·exact h
theorem Ap6{p:bY}{j:Nat}(d:j < p.at_.length)(c:z∈Anw):¬bZ f ⟨p.leaf,p.slots,p.at_.set j z⟩:=λK=>by
 have hg:(p.at_.set j z)[j]? =cD z:=aX d;obtain⟨h1,h2,e,_⟩:=Afy (cross:=B9 f) (r:=(j:Int)) (leaf:=p.leaf) c;by_cases a:(j:Int)∈regsB f
 ·rcases K.reg j z hg a with h|h
  ·exact h1 h
  ·have h:32<=z/\z < 32+p.slots:=h;omega
 ·exact e (K.non j z hg a)
theorem Aai{a:bY×Int}(c:bM f)(o:Dg.bulk f<=2097152)(g:CJ f=aB)(C:Ht f=aC)(H:ColOK f a):(bU (Cr f a (Cp f)) 0).to (.inl ()):=by
 have u:=H.len;have R:=H.p C;have E:(Cp f).length<=3600:=Jl g _;refine BZ (λk:Nat=>(k:Int)) (Cp f).length (λk hk=>?_) ?_ (cB _)
 ·obtain⟨x,hx⟩:∃x,(Cp f)[k]? =cD x:=⟨_,aT hk⟩
  have e:=bF hx;obtain⟨h1,h2,F⟩:=Eb e;obtain⟨y,D,G,t,_⟩:=R.val (B7 h1);obtain⟨z,A,w,s,_⟩:=R.val (B7 h2);have d:Cd (Cp f) (k:Int)=aC:=MZ hk;have h:Ci z:=H.wf z (bF A);have m:=BK.1 t;have n:=BK.1 s;have j:=Anh (k:=x.a.toNat) H.wf h;have r1:=R8 (p:=⟨a.1.leaf,a.1.slots,a.1.at_.set x.a.toNat z⟩) c o g ⟨H.ok.slots⟩ j (by show(a.1.at_.set _ _).length<=_;rw[a6];omega);have B:¬bZ f ⟨a.1.leaf,a.1.slots,a.1.at_.set x.a.toNat z⟩:=λK=>K.apart x e (by
   show ixD (a.1.at_.set x.a.toNat z) x.a=ixD (a.1.at_.set x.a.toNat z) x.b;rw[Apf m.1 m.2,Aej m.1 n.1 (by omega),w])
  rw[Pn j B]at r1;simp only[Cr,bH];rw[BV hx,w,w23 hk (by omega)];refine AM (decide_eq_true (by omega)) (Ag (Ank (by simp only[aZ];omega) (by omega)) (Ag d (Ag (by rw[d,Bool.or_true]) (AF ?_ (Ag d (Ag s (Ag t (Ag h (Ap r1 (AF V (Al _)))))))))));rw[decide_eq_false (by have:=m.1;omega:¬x.a < 0),decide_eq_false (by have:=n.1;have:=n.2;omega:¬x.b≥(a.1.at_.length:Int))];rfl
 ·simp only[Cr];exact AF (decide_eq_false (by omega)) (Al _)
theorem QK(c:bM f)(a:Dg.bulk f<=2097152)(s:0<=v/\v<=255):(DL f v).to aC:=by
 unfold DL;rw[IntWalk.i64_in v (by omega)];refine Ap (Aaw c) ?_;cases hg:(CJ f||decide (f.regs > 300))with
 |true=>exact AM V (Ap Md (Al _))
 |false=>
  rw[Bool.or_eq_false_iff]at hg;obtain⟨g,_⟩:=hg;obtain⟨t,H⟩:=Vc c a g;have w:=H.len;refine AF V (Ap t ?_);cases n:Ht f with
  |false=>
   rw[H.no n];exact AM V (Ap (BX V Md) (Al _))
  |true=>
   have R:=H.p n;have B:=Yv n;have A:(Iy f).1.slots<=200:=by
    have h1:=H.many;have h2:=Hj g;by_cases e:(Iy f).1.slots=0
    ·omega
    ·have:=h1 e;omega
   have u:=R.pos;have F:=R.len;refine AF (by rw[H.err n,R.len];simp) ?_;rw[IntWalk.i64_in ((Iy f).1.slots+1) (by omega)];have r1:=R8 (p:=⟨(Iy f).1.leaf,(Iy f).1.slots+1,(Iy f).1.at_⟩) c a g ⟨Ls ⟨by show -1<=(Iy f).1.slots+1;omega,by show(Iy f).1.slots+1<=_;omega⟩⟩ H.wf (by show(Iy f).1.at_.length<=_;omega);rw[Pn (p:=⟨(Iy f).1.leaf,(Iy f).1.slots+1,(Iy f).1.at_⟩) H.wf R.more]at r1;refine Ap r1 (AF V (Ap (Xa c) (M.els_l (Aai c a g n H) ?_)));by_cases h0:f.regs=0
   ·exact AM (by rw[h0];rfl) (Ap Md (Al _))
   have E:(f.regs ==0)=aB:=by simpa using h0
   rw[show([0,1,2,3,5,6,7,14,15,30,31,(-2)]:List Int)=Anw from V,bH];obtain⟨k,hk,C⟩:∃k:Nat,k < Anw.length/\aN v (Anw.length:Int)=(k:Int):=by
    have e:aN v (Anw.length:Int)=v % 12:=aO s.1;rw[e];exact⟨(v % 12).toNat,by show _ < 12;omega,by omega⟩
   obtain⟨j,y,D⟩:∃j:Nat,j < (Iy f).1.at_.length/\aN v f.regs=(j:Int):=by
    have e:aN v f.regs=v % f.regs:=aO s.1;have h1:=Int.emod_nonneg v h0;have h2:=Int.emod_lt_of_pos v (by omega:0 < f.regs);rw[e];exact⟨(v % f.regs).toNat,by omega,by omega⟩
   obtain⟨z,o⟩:∃z,Anw[k]? =cD z:=⟨_,aT hk⟩
   have d:=bF o;have h:Ci z:=by
    have:=Afy (cross:=[]) (r:=0) (leaf:=aC) d;have h1:wfB .i64 z=aC:=by
     unfold wfB;simp[Lit.wf,aH,aG,aI,aE];omega
    exact h1
   have m:=Anh (k:=j) H.wf h;rw[C,D,BV o,aP];have r2:=R8 (p:=⟨(Iy f).1.leaf,(Iy f).1.slots,(Iy f).1.at_.set j z⟩) c a g ⟨H.ok.slots⟩ m (by show((Iy f).1.at_.set _ _).length<=_;rw[a6];omega);rw[Pn m (Ap6 (p:=(Iy f).1) y d)]at r2;refine AF E (Ag (Ank (by simp only[aZ];omega) (by omega)) (Ag (by simpa using h0) (Ag V (Ag (MZ hk) (Ag (MZ y) (Ag h (Ap r2 (Ap (BX V Md) (Al _)))))))))
theorem QL(f:bP)(v:Int)(d:okFunc f)(a:Dg.bulk f<=2097152)(c:wfI .u8 v):Fn aJ 6 [.agg (An f),.lit (.int .u8 v)] (.lit (.bool aC)):=K0 (QK (Ahl d a) a (Aul c))
end Mu
namespace Mu
open Go Go.RowKit Go.ChangeShapes Go.WideShapes Go.Proofs
variable{H:Type}{W:World}{d:DataW H}{enc:TypeId×Value->H}{p:List MemPlace}{t:TypeId}{v:Value}
theorem Alg:laidOutB aJ=aC:=by kernel_rfl
mutual
theorem Aib{H:Type}:∀d:DataW H,Gh d<=aK d
 | .lit (.string _)=>b9 _
 | .lit (.bool _)=>b9 _
 | .lit (.int _ _)=>b9 _
 | .lit (.float _ _)=>b9 _
 | .lit .nil=>b9 _
 | .nil=>b9 _
 | .ptr d=>by show 1<=aK d+1;omega
 | .slice e s=>by
  have h1:=Ov e;have h2:=Ov s;show Gh.go e+Gh.go s+1<=aL e+aL s+1;omega
 | .agg p=>by
  have h1:=Ov p;show Gh.go p+1<=aL p+1;omega
 | .iface _ d=>by show 1<=aK d+1;omega
 | .map m=>by show 1<=aM m+1;omega
 | .held _=>b9 _
theorem Ov{H:Type}:∀l:List (DataW H),Gh.go l<=aL l
 | []=>b9 _
 |d::r=>by
  have h1:=Aib d;have h2:=Ov r;show Gh d+Gh.go r<=aK d+aL r;omega
end
theorem Afo{e:Type}{T:Ty e}(j:Opens aJ t T)(s:1 < T.size)
 (h:DataW.Trod enc aJ W 0 (λ_=>aC) aC t v d p)(g:∀x∈p,x.block < W.heap.size):
 ∃cs x,v= .agg cs.toArray/\T.R W W.heap.size cs x/\T.bulk x<=aK d:=by
 obtain⟨a,n⟩:=h;obtain⟨x,c,o⟩:=j.go H enc W 0 _ aC a _ (d,p) W.heap.size n g;have m:=T.len c;refine⟨v.cells.toList,x,?_,c,cA o (Aib d)⟩;cases v <;> first
  |(simp[Value.cells]at m;omega)
  |simp[Value.cells]
theorem stays{W':World}(a:aJ.readableRec t=aC)(ht:t < aJ.types.size)
 (h:DataW.Trod enc aJ W 0 (λ_=>aC) aC t v d p)(e:Below W.heap.size W W')(c:∀x∈p,x.block < W.heap.size):
 DataW.Trod enc aJ W' 0 (λb=>decide (b < W.heap.size)) aC t v d p:=Below.trod Alg a ht h e c
end Mu
namespace Mu
open Go Go.RowKit Go.Proofs
end Mu
