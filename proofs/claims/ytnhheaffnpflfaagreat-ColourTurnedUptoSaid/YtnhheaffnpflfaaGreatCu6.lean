/-
  Lemmas for T, part 6.
  Conditions: as each lemma says.
-/
import Derived.Test.YtnhheaffnpflfaaGreatCu5
import Derived.OpenShut
set_option maxRecDepth 100000
set_option maxHeartbeats 4000000
set_option linter.unusedSimpArgs false
set_option linter.unusedVariables false
open Bool renaming and_eq_true->aA,decide_and->aB,false->aC,true->aD
open Decidable renaming decide->aE
open Go.IntKind renaming i64->aF
open Go.Proofs.Tryz renaming prog->aG
open Go.Proofs.YtnhheaffnpflfaaGreat.Rows renaming uptoBulk->aH,uptoBulkAll->aI,uptoBulkEntries->aJ
open Int renaming tmod->aK
open List renaming getElem?_eq_getElem->aL,getElem?_eq_some_iff->aM,getElem?_map->aN,length_append->aO,length_map->aP,length_take->aR,map_cons->aS,map_nil->aT,mem_map->aU,mem_range->aV,range->aW
open Mu renaming Func->a6,Plan->bG,RightP->bH
open Mu.Fin renaming cl->aX
open Mu.Fit renaming int->aY,up->aZ
open Mu.M renaming bnd->a7,chk->a8,cnd->bA,loop->bB,ok->bC,to_whn->bD,whn->bE,whn_f->bF
open Nat renaming le_refl->bI,le_trans->bJ,zero_le->bK
open Option renaming none->bL,some->bM
namespace Mu
open Go Go.RowKit Go.Proofs Go.Maps
variable{f:a6}{r:Bool}
def R4(f:a6)(r:Int):Nat:=((regsB f).filter λy=>F1 f r y).length
structure ColOK(f:Func)(r:Plan×Int):Prop where
 no:HU f=false->r=(⟨false,0,[]⟩,2)
 err:HU f=true->r.2=0
 right:HU f=true->C8 f r.1=true
 ok:okPlan r.1
 wf:∀x∈r.1.at_,Cm x
 lf:HU f=true->leaf f.blocks=true->(∀x∈regsB f,R4 f x < 7)->r.1.leaf=true
 few:HU f=true->(∀x∈regsB f,R4 f x < 14)->r.1.slots=0
 many:r.1.slots≠0->r.1.slots+14<=((regsB f).length:Int)
theorem Ya(a:List Int)(r:Int):14<=(Br a r aC).length:=by
 rcases TY a r aC with⟨h,_⟩|⟨_,_,h2⟩|⟨_,_,h2⟩
 ·cases h
 ·rw[h2];decide
 ·rw[h2];decide
theorem Ap5(g:CI f=aC):(Rv f).length<=2097152:=by
 have h1:=Ok 250 (λb:Block=>b.ins) f.blocks λb a=>UC g a
 have h2:=Nw g;show(f.blocks.flatMap λb=>b.ins).length<=_;omega
theorem Aea(G:CGraph)(A:List (Int×Int)):IX G [] A=(A,0):=rfl
theorem Ah0(f:a6)(c:FineF f)(aa:Dh.bulk f<=2097152)(g:CI f=aC):∃r:bG×Int,Fn aG 9 [.agg (Ak f)] (.tup [.agg (BE r.1),.lit (.int .i64 r.2)])/\ColOK f r:=by
 have hr:=Hc g;have j:=Af4 f c (by omega);cases u:HU f with
 |false=>
  rw[u]at j;exact⟨(⟨aC,0,[]⟩,2),Xc f j,⟨λ_=>rfl,λh=>(by rw[u]at h;cases h),λh=>(by rw[u]at h;cases h),⟨IT ⟨by decide,by decide⟩⟩,λx hx=>(by cases hx),λh=>(by rw[u]at h;cases h),λh=>(by rw[u]at h;cases h),λh=>absurd V h⟩⟩
 |true=>
  rw[u]at j;have l:=NB (f:=f) (Ae (by rw[aA];exact⟨BM.2 c,decide_eq_true aa⟩) (Ag _));obtain⟨out,ho,HA⟩:=Amu c;have S:=U2 (Amh c ho HA);obtain⟨ch,L⟩:∃x,x=Aoo f (Da f out):=⟨_,rfl⟩
  rw[<-L]at S;have t:ch.Perm (AL f):=by rw[L];exact G5 _ _
  have ad:=Are g;have Z:ch.length<=1000:=by rw[t.length_eq];omega
  have K:∀r∈ch,r∈AL f:=λr h=>t.mem_iff.1 h
  have hE:(CE f).length<=3600:=LL g _;have hM:(mvL f).length<=3600:=LL g _;have C:∀lf,Fn aG 25 [.agg (Ak f),.lit (.bool lf)] (.bp Bc (Cu f lf ch) 0):=λlf=>Aaq f lf ch c (by omega) S (by omega) (by omega) (Q6 c _) (Q6 c _) (Ap5 g) (bJ (Rh g lf) (by decide)) (λx hx=>by
   obtain⟨h1,n,e,h2,_⟩:=Agz hx;exact⟨E1 c.ok h1,by rw[e];exact IT ⟨by omega,by omega⟩⟩) (λr h=>E1 c.ok h)
  have o:∀lf,OkGr (Cu f lf ch):=λlf=>Akv c g K Z
  have N:∀lf,SymG (Cu f lf ch):=λlf=>Adq
  have b:0<=f.regs/\f.regs<=4096:=by
   have h:=u;unfold HU Akx at h;simp only[zap]at h;omega
  have y:∀lf r,∀p∈QH (Cu f lf ch) r,4<=p/\p < 32:=λlf r p q=>by
   rw[Hv]at q;split at q
   ·exact LI q
   ·cases q
  have w:∀lf m,(∀r,m<=(Br (B9 f) r lf).length)->(∀x∈regsB f,R4 f x < m)->∀out,(BH (Cu f lf ch) out).2= []:=λlf m h1 h2 out=>ZU (o lf).toOkG (λr d=>by
   have d:r∈regsB f:=d;rw[Hv,if_pos d];have F:=Af0 (f:=f) (lf:=lf) (ch:=ch) r;have h4:=h2 r d;have h5:=h1 r;unfold R4 at h4;exact⟨(O5 _ _ _).2.2,by omega⟩) out
  by_cases hL:leaf f.blocks=aD/\(BH (Cu f aD ch) []).2= []
  ·obtain⟨Q,P⟩:=hL;rw[Q]at l;have hq:=Ad9 (o aD).toOkG (N aD) (out:=[]) Ef.nil (λx v h=>by cases h) (λx h=>by cases h) P;rw[Aea]at hq;obtain⟨A,hA⟩:∃A,A=(BH (Cu f aD ch) []).1:=⟨_,rfl⟩
   rw[<-hA]at hq;have E:∀r p,getK A r=bM p->Cm p:=λr p h=>by
    rcases hq.cl r p h with h1|⟨h1,h2⟩
    ·have:=y aD r p h1;exact IT ⟨by omega,by omega⟩
    ·exact IT ⟨by omega,by have h2:p < 32+0:=h2;omega⟩
   have G:=Mf (Aff (lf:=aD) (slots:=0) b.1 b.2 E);obtain⟨U,T⟩:=Q3 u hq (λ_=>⟨Q,rfl⟩) (by decide);rw[hA]at G;refine⟨(⟨aD,0,atP f.regs.toNat A⟩,0),?_,⟨λh=>(by rw[u]at h;cases h),λ_=>rfl,λ_=>U,⟨IT ⟨by show(-1:Int)<=0;decide,by show(0:Int)<=4294967296;decide⟩⟩,T,λ_ _ _=>rfl,λ_ _=>rfl,λh=>absurd V h⟩⟩;rw[hA];exact Xd f j _ _ l (C aD) (o aD) P G
  ·obtain⟨n,Y,B⟩:=Gw (let ⟨n,h,_⟩:=Xe (o aC).toOkG;⟨n,h⟩:∃n,(BH (Cu f aC ch) (DR (Cu f aC ch) n)).2= []);have I:∀k,k < n->(BH (Cu f aC ch) (DR (Cu f aC ch) k)).2≠[]:=λk hk e=>by
    have:=B k e;omega
   obtain⟨O,D⟩:∃O,O=DR (Cu f aC ch) n:=⟨_,rfl⟩
   have hq:=Ad9 (o aC).toOkG (N aC) (Gq (o aC).toOkG n).1 (LP (o aC).toOkG n) (JU (o aC).toOkG n) Y;rw[<-D]at hq;obtain⟨s,W⟩:∃s,s=IX (Cu f aC ch) O (BH (Cu f aC ch) O).1:=⟨_,rfl⟩
   rw[<-W]at hq;have a:s.2<=(O.length:Int):=by
    have q:=Yc (o aC).toOkG (N aC) O;have X:SltQ (Cu f aC ch) ((BH (Cu f aC ch) O).1,0) λx=>x∈(Cu f aC ch).regs/\(getK O x).getD 0=0:=⟨q.asc,q.nocl,λr p h=>.inl (q.cl r p h),λr=>⟨q.key r,λh=>(q.all r h).resolve_right λh=>by rw[D,Y]at h;cases h⟩,Int.le_refl 0,λz h2 F=>by have F:z < 32+0:=F;omega⟩
    have h1:=XU (λr p q=>(y aC r p q).2) (N aC) (keysK O) X (Cq (by rw[D];exact(Gq (o aC).toOkG n).1)) λx hx hh=>by
     obtain⟨v,hv⟩:=Option.isSome_iff_exists.1 (CQ.1 hx);have h2:=hh.2;rw[hv,LP (o aC).toOkG n x v (by rw[<-D];exact hv)]at h2;cases h2
    rw[W];have h2:(keysK O).length=O.length:=by simp[keysK]
    rw[h2]at h1;have F:(IX (Cu f aC ch) O (BH (Cu f aC ch) O).1).2<=0+(O.length:Int):=h1;omega
   have i:=Apq (o aC) (N aC) 14 (λr d=>by
    have d:r∈regsB f:=d;rw[Hv,if_pos d];exact⟨(O5 _ _ _).2.2,Ya _ _⟩) n I
   rw[<-D]at i;have i:O= []\/O.length+14<=(regsB f).length:=i;have ab:0<=s.2:=hq.pos;have ac:O.length<=126:=by
    rcases i with h|h
    ·rw[h];exact bK _
    ·omega
   have E:∀r p,getK s.1 r=bM p->Cm p:=λr p h=>by
    rcases hq.cl r p h with h1|⟨h1,h2⟩
    ·have:=y aC r p h1;exact IT ⟨by omega,by omega⟩
    ·exact IT ⟨by omega,by omega⟩
   have H:=Mf (Aff (lf:=aC) (slots:=s.2) b.1 b.2 E);obtain⟨U,T⟩:=Q3 (lf:=aC) (A:=s.1) (slots:=s.2) u hq (λh=>by cases h) (by omega);have J:(∀x∈regsB f,R4 f x < 14)->s.2=0:=λh=>by
    have h1:=w aC 14 (Ya _) h [];have h2:n=0:=Nat.le_zero.1 (B 0 h1);have F:O= []:=by rw[D,h2];rfl
    rw[F]at a;have a:s.2<=0:=a;omega
   refine⟨(⟨aC,s.2,atP f.regs.toNat s.1⟩,0),?_,⟨λh=>(by rw[u]at h;cases h),λ_=>rfl,λ_=>U,⟨IT ⟨by show -1<=s.2;omega,by show s.2<=_;omega⟩⟩,T,λ_ h1 h2=>absurd ⟨h1,w aD 7 (λr=>(O5 _ _ _).1) h2 []⟩ hL,λ_ h=>J h,λh=>?_⟩⟩
   ·rw[W,D]at H⊢;exact U5 f j _ _ _ n _ l (λ_=>C aD) (o aD) (λh e=>hL ⟨h,e⟩) (C aC) (o aC) Y I H
   ·have h:s.2≠0:=h;show s.2+14<=_;rcases i with h1|h1
    ·rw[h1]at a;have a:s.2<=0:=a;omega
    ·omega
noncomputable section
open Classical in
def J5(f:a6):bG×Int:=if h:∃r:bG×Int,Fn aG 9 [.agg (Ak f)] (.tup [.agg (BE r.1),.lit (.int .i64 r.2)])/\ColOK f r then h.choose else(⟨aC,0,[]⟩,0)
open Classical in
def CF(f:a6):M (bG×Int):=a8 (aE (∃r:bG×Int,Fn aG 9 [.agg (Ak f)] (.tup [.agg (BE r.1),.lit (.int .i64 r.2)])/\ColOK f r)) (bC (J5 f))
theorem Dw{r:bG×Int}(H:(CF f).to r):Fn aG 9 [.agg (Ak f)] (.tup [.agg (BE r.1),.lit (.int .i64 r.2)]):=by
 obtain⟨c,H⟩:=Aj.1 H;obtain rfl:=Ac.1 H;have c:=@of_decide_eq_true _ (_) c;unfold J5;rw[dif_pos c];exact c.choose_spec.1
theorem U4(c:FineF f)(a:Dh.bulk f<=2097152)(g:CI f=aC):(CF f).to (J5 f)/\ColOK f (J5 f):=by
 have h:=Ah0 f c a g;refine⟨Ae (@decide_eq_true _ (Classical.propDecidable _) h) (Ag _),?_⟩;unfold J5;rw[dif_pos h];exact h.choose_spec.2
def M2(f:a6):M Bool:=a8 (MZ f&&aE ((regsB f).length<=2147483648)) (bC (HU f))
theorem U6(H:(M2 f).to r):Fn aG 11 [.agg (Ak f)] (.lit (.bool r)):=by
 obtain⟨c,H⟩:=Aj.1 H;obtain rfl:=Ac.1 H;rw[aA]at c;exact Af4 f (BM.1 c.1) (of_decide_eq_true c.2)
def Ru(p:Int):M Bool:=bC (Ale p)
theorem Vd{p:Int}(H:(Ru p).to r):Fn aG 23 [.lit (.int .i64 p)] (.lit (.bool r)):=by
 obtain rfl:=Ac.1 H;exact Agm p
end
end Mu
namespace Mu
open Go Go.RowKit Go.Proofs
noncomputable section
def Hm(args:Int)(regs:Int)(l:List Ins):M a6:=a8 (LQ ⟨⟨#[]⟩,l⟩) (bC ⟨⟨#[]⟩,args,regs,[⟨⟨#[]⟩,l⟩]⟩)
theorem Ij{args:Int}{regs:Int}{l:List Ins}{r:a6}(H:(Hm args regs l).to r):Fn aG 21 [.lit (.int .i64 args),.lit (.int .i64 regs),.bs Em l] (.agg (Ak r)):=by
 delta Hm at H;try dsimp only at H
 refine Kc Tryz.func21 V (by kernel_rfl) V (by kernel_rfl:Rw aG 24=bM (aD,4)) Tryz.ntmps21 λC d=>?_
 simp only[Nat.reduceAdd,Nat.reduceSub,zaa];refine wS (sA0 (wN ?_));obtain⟨c,H⟩:=Aj.1 H;refine wS (sT (sT (sT ?_)));refine sA ?_ (BT (rs:=[.lit (.string ⟨#[]⟩),.bs Em l]) V Apo V V) (Aq KK);refine sA ?_ (AT.lt (xs:=[.tmp 10]) (T:=Cy) (ds:=[⟨⟨#[]⟩,l⟩]) V V V (by rfl) (by decide) (.cons (Ahg c) .nil)) (Aq IF);refine sA ?_ (BT (rs:=[.lit (.string ⟨#[]⟩),.lit (.int .i64 args),.lit (.int .i64 regs),.bs Cy [⟨⟨#[]⟩,l⟩]]) V Auj V V) (Aq I5);refine sW (wN ?_);obtain rfl:=Ac.1 H;exact Aw ⟨⟨.inr V,0,_,rfl,rfl,aX V⟩,λi cells b a=>by cases b;cases a;rfl⟩
def L2(n:Int):(Int×(List Ins))->M ((Int×(List Ins))⊕((List Ins))):=λ(i1,l3)=>bA (aE (i1 < n)) (a8 (E8 ⟨0,i1,0,0,0,0,[],0,0⟩) (a8 (EZ (l3.length+([⟨0,i1,0,0,0,0,[],0,0⟩]:List Ins).length) 88) (bC (.inl (aF.wrap (i1+1),l3++([⟨0,i1,0,0,0,0,[],0,0⟩]:List Ins)))))) (bC (.inr l3))
def Ks(n:Int):(Int×(List Ins))->M ((Int×(List Ins))⊕((List Ins))):=λ(i14,l16)=>bA (aE (i14 < n)) (a8 (E8 ⟨6,0,i14,0,0,0,[],0,0⟩) (a8 (EZ (l16.length+([⟨6,0,i14,0,0,0,[],0,0⟩]:List Ins).length) 88) (bC (.inl (aF.wrap (i14+1),l16++([⟨6,0,i14,0,0,0,[],0,0⟩]:List Ins)))))) (bC (.inr l16))
def Hl(n:Int):M a6:=a7 (bB (L2 n) (0,([]:List Ins))) λc=>a8 (E8 ⟨7,0,0,0,0,0,[],0,0⟩) (a8 (EZ (c.length+([⟨7,0,0,0,0,0,[],0,0⟩]:List Ins).length) 88) (a7 (bB (Ks n) (0,c++([⟨7,0,0,0,0,0,[],0,0⟩]:List Ins))) λa=>a8 (E8 ⟨10,0,0,0,0,0,[],0,0⟩) (a8 (EZ (a.length+([⟨10,0,0,0,0,0,[],0,0⟩]:List Ins).length) 88) (a7 (Hm 0 n (a++([⟨10,0,0,0,0,0,[],0,0⟩]:List Ins))) λb=>bC b))))
theorem Nu{n:Int}{r:a6}(H:(Hl n).to r):Fn aG 22 [.lit (.int .i64 n)] (.agg (Ak r)):=by
 delta Hl at H;try dsimp only at H
 refine Kc Tryz.func22 V (by kernel_rfl) V (by kernel_rfl:Rw aG 24=bM (aD,4)) Tryz.ntmps22 λC hC=>?_
 simp only[Nat.reduceAdd,Nat.reduceSub,zaa];refine wS (sA0 (wN ?_));refine wS (sT (wN ?_));refine AK _ (ED 3 47 Em V (by decide)) ?_;obtain⟨Z,P,O⟩:=An.1 H;refine Bi (β:=((List Ins))×(Nat)) (λk=>Z=k.1) (λk=>⟨.lit (.int .i64 n)::.any::.ptr 0 0::.own 1 k.2::A20 (A10 (A2 [])),[.box [.lit (.string ⟨#[]⟩),.lit (.int .i64 0),.lit (.int .i64 0),.lit (.slice bL 0 0)],.row k.2 47 Em k.1]⟩) ?_ ?_
 ·refine wS (sT (wN ?_));refine Ad ?_;refine BB P (λS W=>⟨.lit (.int .i64 n)::.any::.ptr 0 0::.own 1 W::.lit (.int .i64 S.1)::A20 (A10 [.any]),[.box [.lit (.string ⟨#[]⟩),.lit (.int .i64 0),.lit (.int .i64 0),.lit (.slice bL 0 0)],.row W 47 Em S.2]⟩) 0 (?_) ?_
  ·try dsimp only
   exact AS
  ·rintro⟨U,l3⟩ Q x4 H N;try dsimp only
   dsimp only[L2]at H;refine Ab λY y=>?_
   refine wS (sT (sT (sT (wN ?_))));refine Ah V (λe=>?_) (λe=>?_)
   ·have H:=AI e H;refine Al ?_;refine y _ ?_;refine nT ?_;refine Ab λX x=>?_
    refine Ad ?_;obtain⟨J,H⟩:=Aj.1 H;obtain⟨I,H⟩:=Aj.1 H;refine wSE (sT (sT ?_));refine sA ?_ (BT (rs:=[.lit (.int .u8 0),.lit (.int .i64 U),.lit (.int .i64 0),.lit (.int .i64 0),.lit (.int .u32 0),.lit (.int .i64 0),.lit (.slice bL 0 0),.lit (.int .i64 0),.lit (.int .i64 0)]) V Qy V V) (Aq GK);refine sA (hq:=AT.lt (xs:=[.tmp 13]) (T:=Em) (ds:=[⟨0,U,0,0,0,0,[],0,0⟩]) V V V (by rfl) (by decide) (.cons (aZ (QK (.cons (.refl _) (.cons (.refl _) (.cons (.refl _) (.cons (.refl _) (.cons (.refl _) (.cons (.refl _) (.cons (.nil _) (.cons (.refl _) (.cons (.refl _) .nil)))))))))) (GS J)) .nil)) (ht:=(Aq GZ)) (hk:=?_);refine sP I (sT (wN ?_));refine x _ ?_;refine nT ?_;refine wSE (sT (sT (sT (wN ?_))));have z:=Ac.1 H;repeat(first|refine abN ?_|refine asN ?_)
    refine Ap ⟨_,Q+1,z.symm,?_⟩;try dsimp only
    exact AS
   ·have H:=AJ e H;refine Ay ?_;repeat(first|refine BF ?_|refine exO (by decide) ?_|refine asE ?_)
    refine exN ?_;have z:=N _ (Ac.1 H).symm;repeat(first|refine abN ?_|refine asN ?_)
    refine Ap ⟨(_,Q),z.symm,?_⟩;try dsimp only
    exact AS
 ·rintro⟨l6,v5⟩ m;try dsimp only at m
  have H:=O;rw[m]at H;try dsimp only
  obtain⟨G,H⟩:=Aj.1 H;obtain⟨F,H⟩:=Aj.1 H;refine wS (sT ?_);refine sA ?_ (BT (rs:=[.lit (.int .u8 7),.lit (.int .i64 0),.lit (.int .i64 0),.lit (.int .i64 0),.lit (.int .u32 0),.lit (.int .i64 0),.lit (.slice bL 0 0),.lit (.int .i64 0),.lit (.int .i64 0)]) V Qy V V) (Aq (Aq IK));refine sA (hq:=AT.lt (xs:=[.tmp 17]) (T:=Em) (ds:=[⟨7,0,0,0,0,0,[],0,0⟩]) V V V (by rfl) (by decide) (.cons (aZ (QK (.cons (.refl _) (.cons (.refl _) (.cons (.refl _) (.cons (.refl _) (.cons (.refl _) (.cons (.refl _) (.cons (.nil _) (.cons (.refl _) (.cons (.refl _) .nil)))))))))) (GS G)) .nil)) (ht:=(Aq (Aq KK))) (hk:=?_);refine sP F (sT (wN ?_));obtain⟨w,v,u⟩:=An.1 H;refine Bi (β:=((List Ins))×(Nat)) (λa=>w=a.1) (λa=>⟨.lit (.int .i64 n)::.any::.ptr 0 0::.own 1 a.2::A20 (A10 (A2 [])),[.box [.lit (.string ⟨#[]⟩),.lit (.int .i64 0),.lit (.int .i64 0),.lit (.slice bL 0 0)],.row a.2 47 Em a.1]⟩) ?_ ?_
  ·refine wS (sT (wN ?_));refine Ad ?_;refine BB v (λj s=>⟨.lit (.int .i64 n)::.any::.ptr 0 0::.own 1 s::.any::.lit (.int .i64 j.1)::A20 (A10 []),[.box [.lit (.string ⟨#[]⟩),.lit (.int .i64 0),.lit (.int .i64 0),.lit (.slice bL 0 0)],.row s 47 Em j.2]⟩) (v5+1) (?_) ?_
   ·try dsimp only
    exact AS
   ·rintro⟨l,ae⟩ h aa H t;try dsimp only
    dsimp only[Ks]at H;refine Ab λL q=>?_
    refine wS (sT (sT (sT (wN ?_))));refine Ah V (λb=>?_) (λb=>?_)
    ·have H:=AI b H;refine Al ?_;refine q _ ?_;refine nT ?_;refine Ab λK o=>?_
     refine Ad ?_;obtain⟨E,H⟩:=Aj.1 H;obtain⟨D,H⟩:=Aj.1 H;refine wSE (sT (sT ?_));refine sA ?_ (BT (rs:=[.lit (.int .u8 6),.lit (.int .i64 0),.lit (.int .i64 l),.lit (.int .i64 0),.lit (.int .u32 0),.lit (.int .i64 0),.lit (.slice bL 0 0),.lit (.int .i64 0),.lit (.int .i64 0)]) V Qy V V) (Aq (Aq (Aq IF)));refine sA (hq:=AT.lt (xs:=[.tmp 27]) (T:=Em) (ds:=[⟨6,0,l,0,0,0,[],0,0⟩]) V V V (by rfl) (by decide) (.cons (aZ (QK (.cons (.refl _) (.cons (.refl _) (.cons (.refl _) (.cons (.refl _) (.cons (.refl _) (.cons (.refl _) (.cons (.nil _) (.cons (.refl _) (.cons (.refl _) .nil)))))))))) (GS E)) .nil)) (ht:=(Aq (Aq (Aq I5)))) (hk:=?_);refine sP D (sT (wN ?_));refine o _ ?_;refine nT ?_;refine wSE (sT (sT (sT (wN ?_))));have g:=Ac.1 H;repeat(first|refine abN ?_|refine asN ?_)
     refine Ap ⟨_,h+1,g.symm,?_⟩;try dsimp only
     exact AS
    ·have H:=AJ b H;refine Ay ?_;repeat(first|refine BF ?_|refine exO (by decide) ?_|refine asE ?_)
     refine exN ?_;have g:=t _ (Ac.1 H).symm;repeat(first|refine abN ?_|refine asN ?_)
     refine Ap ⟨(_,h),g.symm,?_⟩;try dsimp only
     exact AS
  ·rintro⟨ad,ab⟩ c;try dsimp only at c
   have H:=u;rw[c]at H;try dsimp only
   obtain⟨B,H⟩:=Aj.1 H;obtain⟨A,H⟩:=Aj.1 H;obtain⟨ac,d,H⟩:=An.1 H;have d:=Ij d;refine wS (sT (sT ?_));refine sA ?_ (BT (rs:=[.lit (.int .u8 10),.lit (.int .i64 0),.lit (.int .i64 0),.lit (.int .i64 0),.lit (.int .u32 0),.lit (.int .i64 0),.lit (.slice bL 0 0),.lit (.int .i64 0),.lit (.int .i64 0)]) V Qy V V) (Ar G9);refine sA (hq:=AT.lt (xs:=[.tmp 32]) (T:=Em) (ds:=[⟨10,0,0,0,0,0,[],0,0⟩]) V V V (by rfl) (by decide) (.cons (aZ (QK (.cons (.refl _) (.cons (.refl _) (.cons (.refl _) (.cons (.refl _) (.cons (.refl _) (.cons (.refl _) (.cons (.nil _) (.cons (.refl _) (.cons (.refl _) .nil)))))))))) (GS B)) .nil)) (ht:=(Ar IK)) (hk:=?_);refine sP A ?_;refine J8 V (Vx hC 1 V (by(simp only[fzH,DP,AV.fz,ABlk.fz,aS,aT,Nat.reduceEqDiff,zam,zaf];first|done|exact V)) (by(simp only[fzH,DP,AV.fz,ABlk.fz,aS,aT,Nat.reduceEqDiff,zam,zaf];first|done|exact V))) ?_;refine sC d (sW (wN ?_));obtain rfl:=Ac.1 H;exact Aw ⟨⟨.inr V,0,_,rfl,rfl,aX V⟩,λi cells e1 e2=>by cases e1;cases e2;rfl⟩
def Eh:M Bool:=a8 (E8 ⟨1,2,0,1,0,0,[],0,0⟩) (a8 (E8 ⟨10,0,2,0,0,0,[],0,0⟩) (a7 (Hm 2 3 [⟨1,2,0,1,0,0,[],0,0⟩,⟨10,0,2,0,0,0,[],0,0⟩]) λr3=>a8 (E8 ⟨5,1,0,0,0,0,[0],0,0⟩) (a8 (E8 ⟨1,1,1,0,0,0,[],0,0⟩) (a8 (E8 ⟨10,0,1,0,0,0,[],0,0⟩) (a7 (Hm 1 2 [⟨5,1,0,0,0,0,[0],0,0⟩,⟨1,1,1,0,0,0,[],0,0⟩,⟨10,0,1,0,0,0,[],0,0⟩]) λm=>a7 (CF r3) λa=>a7 (CF m) λc=>a7 (Hl 22) λl=>a7 (CF l) λb=>a8 (E8 ⟨0,1,0,0,0,0,[],0,0⟩) (a7 (Hm 0 1 [⟨0,1,0,0,0,0,[],0,0⟩]) λk=>a7 (CF k) λh=>bA (((((a.2 !=0)||(c.2 !=0))||(b.2 !=0))||((a.1.at_.length:Int) !=3))||((c.1.at_.length:Int) !=2)) (bC aC) (a8 (!(a.1.leaf&&(a.1.slots ==0))||(Ci a.1.at_ 0)) (a8 (!(a.1.leaf&&(a.1.slots ==0))||(Ci a.1.at_ 1)) (a7 (bE ((a.1.leaf&&(a.1.slots ==0))&&((ixD a.1.at_ 0) !=(ixD a.1.at_ 1))) aC (FW r3 a.1)) λd=>a8 (!((((a.1.leaf&&(a.1.slots ==0))&&((ixD a.1.at_ 0) !=(ixD a.1.at_ 1)))&&d)&&(!c.1.leaf))||(Ci c.1.at_ 0)) (a7 (bE ((((a.1.leaf&&(a.1.slots ==0))&&((ixD a.1.at_ 0) !=(ixD a.1.at_ 1)))&&d)&&(!c.1.leaf)) aC (Ru (ixD c.1.at_ 0))) λe=>a8 (!(((((a.1.leaf&&(a.1.slots ==0))&&((ixD a.1.at_ 0) !=(ixD a.1.at_ 1)))&&d)&&(!c.1.leaf))&&e)||(Ci c.1.at_ 0)) (a7 (bE ((((((((a.1.leaf&&(a.1.slots ==0))&&((ixD a.1.at_ 0) !=(ixD a.1.at_ 1)))&&d)&&(!c.1.leaf))&&e)&&(aE ((ixD c.1.at_ 0) < 32)))&&(!b.1.leaf))&&(b.1.slots ==8)) ⟨⟨#[]⟩,0,0,[]⟩ (Hl 22)) λj=>a7 (bE ((((((((a.1.leaf&&(a.1.slots ==0))&&((ixD a.1.at_ 0) !=(ixD a.1.at_ 1)))&&d)&&(!c.1.leaf))&&e)&&(aE ((ixD c.1.at_ 0) < 32)))&&(!b.1.leaf))&&(b.1.slots ==8)) aC (FW j b.1)) λg=>a7 (bE ((((((((((a.1.leaf&&(a.1.slots ==0))&&((ixD a.1.at_ 0) !=(ixD a.1.at_ 1)))&&d)&&(!c.1.leaf))&&e)&&(aE ((ixD c.1.at_ 0) < 32)))&&(!b.1.leaf))&&(b.1.slots ==8))&&g)&&(h.2 ==2)) aC (M2 r3)) λi=>bC (((((((((((a.1.leaf&&(a.1.slots ==0))&&((ixD a.1.at_ 0) !=(ixD a.1.at_ 1)))&&d)&&(!c.1.leaf))&&e)&&(aE ((ixD c.1.at_ 0) < 32)))&&(!b.1.leaf))&&(b.1.slots ==8))&&g)&&(h.2 ==2))&&i))))))))))))
theorem Gx{r:Bool}(H:(Eh).to r):Fn aG 8 [] (.lit (.bool r)):=by
 delta Eh at H;try dsimp only at H
 refine AQ Tryz.func8 V (by kernel_rfl) V Tryz.ntmps8 λC W=>?_
 simp only[Nat.reduceAdd,Nat.reduceSub,zaa];refine wS (sT (wN ?_));obtain⟨S,H⟩:=Aj.1 H;obtain⟨Q,H⟩:=Aj.1 H;obtain⟨r3,u,H⟩:=An.1 H;have u:=Ij u;refine wS ?_;refine sA ?_ (BT (rs:=[.lit (.int .u8 1),.lit (.int .i64 2),.lit (.int .i64 0),.lit (.int .i64 1),.lit (.int .u32 0),.lit (.int .i64 0),.lit (.slice bL 0 0),.lit (.int .i64 0),.lit (.int .i64 0)]) V Qy V V) (Aq IF);refine sA ?_ (BT (rs:=[.lit (.int .u8 10),.lit (.int .i64 0),.lit (.int .i64 2),.lit (.int .i64 0),.lit (.int .u32 0),.lit (.int .i64 0),.lit (.slice bL 0 0),.lit (.int .i64 0),.lit (.int .i64 0)]) V Qy V V) (Aq I5);refine sA (hq:=AT.lt (xs:=[.tmp 11,.tmp 12]) (T:=Em) (ds:=[⟨1,2,0,1,0,0,[],0,0⟩,⟨10,0,2,0,0,0,[],0,0⟩]) V V V (by rfl) (by decide) (.cons (aZ (QK (.cons (.refl _) (.cons (.refl _) (.cons (.refl _) (.cons (.refl _) (.cons (.refl _) (.cons (.refl _) (.cons (.nil _) (.cons (.refl _) (.cons (.refl _) .nil)))))))))) (GS S)) (.cons (aZ (QK (.cons (.refl _) (.cons (.refl _) (.cons (.refl _) (.cons (.refl _) (.cons (.refl _) (.cons (.refl _) (.cons (.nil _) (.cons (.refl _) (.cons (.refl _) .nil)))))))))) (GS Q)) .nil))) (ht:=(Aq GK)) (hk:=?_);refine sC u (sA0 (sW (wN ?_)));obtain⟨P,H⟩:=Aj.1 H;obtain⟨O,H⟩:=Aj.1 H;obtain⟨N,H⟩:=Aj.1 H;obtain⟨U,t,H⟩:=An.1 H;have t:=Ij t;refine wS ?_;refine sA ?_ (AT.lt (xs:=[.const (.int .i64 0)]) (T:=tInt) (ds:=[0]) V V V (by rfl) (by decide) (.cons (aY (XI (by decide))) .nil)) (Aq GY);refine sA ?_ (BT (rs:=[.lit (.int .u8 5),.lit (.int .i64 1),.lit (.int .i64 0),.lit (.int .i64 0),.lit (.int .u32 0),.lit (.int .i64 0),.bs tInt [0],.lit (.int .i64 0),.lit (.int .i64 0)]) V Qy V V) (Aq (Aq G9));refine sA ?_ (BT (rs:=[.lit (.int .u8 1),.lit (.int .i64 1),.lit (.int .i64 1),.lit (.int .i64 0),.lit (.int .u32 0),.lit (.int .i64 0),.lit (.slice bL 0 0),.lit (.int .i64 0),.lit (.int .i64 0)]) V Qy V V) (Aq (Aq IK));refine sA ?_ (BT (rs:=[.lit (.int .u8 10),.lit (.int .i64 0),.lit (.int .i64 1),.lit (.int .i64 0),.lit (.int .u32 0),.lit (.int .i64 0),.lit (.slice bL 0 0),.lit (.int .i64 0),.lit (.int .i64 0)]) V Qy V V) (Aq (Aq KK));refine sA (hq:=AT.lt (xs:=[.tmp 16,.tmp 17,.tmp 18]) (T:=Em) (ds:=[⟨5,1,0,0,0,0,[0],0,0⟩,⟨1,1,1,0,0,0,[],0,0⟩,⟨10,0,1,0,0,0,[],0,0⟩]) V V V (by rfl) (by decide) (.cons (GS P) (.cons (aZ (QK (.cons (.refl _) (.cons (.refl _) (.cons (.refl _) (.cons (.refl _) (.cons (.refl _) (.cons (.refl _) (.cons (.nil _) (.cons (.refl _) (.cons (.refl _) .nil)))))))))) (GS O)) (.cons (aZ (QK (.cons (.refl _) (.cons (.refl _) (.cons (.refl _) (.cons (.refl _) (.cons (.refl _) (.cons (.refl _) (.cons (.nil _) (.cons (.refl _) (.cons (.refl _) .nil)))))))))) (GS N)) .nil)))) (ht:=(Aq (Aq IF))) (hk:=?_);refine sC t (sA0 (sW (wN ?_)));obtain⟨a,s,H⟩:=An.1 H;have s:=Dw s;refine wS (sT (sC s (sT (sT (sT (sA0 (sW (sT (wN ?_)))))))));obtain⟨d,q,H⟩:=An.1 H;have q:=Dw q;refine wS (sT (sC q (sT (sT (sT (sA0 (sW (sT (wN ?_)))))))));obtain⟨L,l,H⟩:=An.1 H;have l:=Nu l;obtain⟨b,k,H⟩:=An.1 H;have k:=Dw k;refine wS (sC l (sC k (sT (sT (sT (sA0 (sW (sT (wN ?_)))))))));obtain⟨F,H⟩:=Aj.1 H;obtain⟨K,j,H⟩:=An.1 H;have j:=Ij j;obtain⟨n,i,H⟩:=An.1 H;have i:=Dw i;refine wS ?_;refine sA ?_ (BT (rs:=[.lit (.int .u8 0),.lit (.int .i64 1),.lit (.int .i64 0),.lit (.int .i64 0),.lit (.int .u32 0),.lit (.int .i64 0),.lit (.slice bL 0 0),.lit (.int .i64 0),.lit (.int .i64 0)]) V Qy V V) (Ar GK);refine sA (hq:=AT.lt (xs:=[.tmp 37]) (T:=Em) (ds:=[⟨0,1,0,0,0,0,[],0,0⟩]) V V V (by rfl) (by decide) (.cons (aZ (QK (.cons (.refl _) (.cons (.refl _) (.cons (.refl _) (.cons (.refl _) (.cons (.refl _) (.cons (.refl _) (.cons (.nil _) (.cons (.refl _) (.cons (.refl _) .nil)))))))))) (GS F)) .nil)) (ht:=(Ar GZ)) (hk:=?_);refine sC j (sC i (sT (sT (sT (sA0 (sW (sT (wN ?_))))))));refine Ab λG o=>?_
 refine wS (sT (sT (sT ?_)));refine sGf V ?_;refine sGf V (sT (sT ?_));refine sGf V ?_;refine sGf V (sT (sT ?_));refine sGf V ?_;refine sGf V ?_;refine sGf V ?_;refine sGf V (sT (sT ?_));refine sGf V ?_;refine sGf V ?_;refine sGf V ?_;refine sGf V (sT (wN ?_));refine Ah V (λh=>?_) (λh=>?_)
 ·have H:=AI h H;refine wS (sT (wN ?_));obtain rfl:=Ac.1 H;exact Aw ⟨.inr V,aX V⟩
 ·have H:=AJ h H;refine Al ?_;refine o _ ?_;refine nT ?_;obtain⟨E,H⟩:=Aj.1 H;obtain⟨D,H⟩:=Aj.1 H;obtain⟨c,z,H⟩:=An.1 H;obtain⟨B,H⟩:=Aj.1 H;obtain⟨e,y,H⟩:=An.1 H;obtain⟨A,H⟩:=Aj.1 H;obtain⟨J,x,H⟩:=An.1 H;obtain⟨m,w,H⟩:=An.1 H;obtain⟨I,v,H⟩:=An.1 H
  (try simp only[List.append_eq,List.cons_append,List.nil_append])
  refine dS 66 (hq:=?_);refine qT (qT (qT ?_));refine qGt V ?_;refine qGt V ?_;refine qGt V (qT (qT ?_));refine qGt V ?_;refine qGt V ?_;refine Ar6 V E ?_;refine qGt V ?_;refine qGt V ?_;refine qGt V ?_;refine Ar6 V D ?_;refine qGt V ?_;refine qGt V (qT (qT ?_));refine qG (g:=((a.1.leaf&&(a.1.slots ==0))&&((ixD a.1.at_ 0) !=(ixD a.1.at_ 1)))) (hg:=MV V) (hq:=λhg=>AR V Gi V V) (ht:=(Ar (Ar (Aq (Aq I5))))) ?_;refine qG (g:=((a.1.leaf&&(a.1.slots ==0))&&((ixD a.1.at_ 0) !=(ixD a.1.at_ 1)))) (hg:=MV V) (hq:=λhg=>AR V Fw V V) (ht:=(Ar (Ar (Aq (Aq GK))))) ?_;refine qG (g:=((a.1.leaf&&(a.1.slots ==0))&&((ixD a.1.at_ 0) !=(ixD a.1.at_ 1)))) (hg:=MV V) (hq:=λhg=>by((try simp only[BD hg]);(try simp only[M3 hg]);exact AE V V (O1 (bD z hg)) V V)) (ht:=(Ar (Ar (Aq (Aq GZ))))) ?_;refine qT (qT ?_);refine qGt V ?_;refine qGt V ?_;refine qGt V (qT (qT ?_));refine qGt V ?_;refine qGt V ?_;refine Ar6 V B ?_;refine qGt V ?_;refine qG (g:=((((a.1.leaf&&(a.1.slots ==0))&&((ixD a.1.at_ 0) !=(ixD a.1.at_ 1)))&&c)&&(!d.1.leaf))) (hg:=MV V) (hq:=λhg=>by((try simp only[BD hg]);(try simp only[M3 hg]);exact AE V V (Vd (bD y hg)) V V)) (ht:=(Ar (Ar (Ar KK)))) (hk:=?_);refine qT (qT ?_);refine qGt V ?_;refine qGt V ?_;refine Ar6 V A ?_;refine qGt V ?_;refine qGt V (qT (qT ?_));refine qGt V ?_;refine qGt V ?_;refine qGt V (qT (qT ?_));refine qGt V ?_;refine qGt V ?_;refine qGt V (qT (qT ?_));refine qG (g:=((((((((a.1.leaf&&(a.1.slots ==0))&&((ixD a.1.at_ 0) !=(ixD a.1.at_ 1)))&&c)&&(!d.1.leaf))&&e)&&(aE ((ixD d.1.at_ 0) < 32)))&&(!b.1.leaf))&&(b.1.slots ==8))) (hg:=MV V) (hq:=λhg=>by((try simp only[BD hg]);(try simp only[M3 hg]);exact AE V V (Nu (bD x hg)) V V)) (ht:=(Ar (Ar (Ar (Aq (Aq GZ)))))) (hk:=?_);refine qG (g:=((((((((a.1.leaf&&(a.1.slots ==0))&&((ixD a.1.at_ 0) !=(ixD a.1.at_ 1)))&&c)&&(!d.1.leaf))&&e)&&(aE ((ixD d.1.at_ 0) < 32)))&&(!b.1.leaf))&&(b.1.slots ==8))) (hg:=MV V) (hq:=λhg=>AR V GP V V) (ht:=(Ar (Ar (Ar (Aq (Aq GY)))))) (hk:=?_);refine qG (g:=((((((((a.1.leaf&&(a.1.slots ==0))&&((ixD a.1.at_ 0) !=(ixD a.1.at_ 1)))&&c)&&(!d.1.leaf))&&e)&&(aE ((ixD d.1.at_ 0) < 32)))&&(!b.1.leaf))&&(b.1.slots ==8))) (hg:=MV V) (hq:=λhg=>by((try simp only[BD hg]);(try simp only[M3 hg]);exact AE V V (O1 (bD w hg)) V V)) (ht:=(Ar (Ar (Ar (Aq (Aq (Aq G9))))))) (hk:=?_);refine qT (qT ?_);refine qGt V ?_;refine qGt V (qT (qT ?_));refine qG (g:=((((((((((a.1.leaf&&(a.1.slots ==0))&&((ixD a.1.at_ 0) !=(ixD a.1.at_ 1)))&&c)&&(!d.1.leaf))&&e)&&(aE ((ixD d.1.at_ 0) < 32)))&&(!b.1.leaf))&&(b.1.slots ==8))&&m)&&(n.2 ==2))) (hg:=MV V) (hq:=λhg=>AR V Gi V V) (ht:=(Ar (Ar (Ar (Aq (Aq (Aq GY))))))) (hk:=?_);refine qG (g:=((((((((((a.1.leaf&&(a.1.slots ==0))&&((ixD a.1.at_ 0) !=(ixD a.1.at_ 1)))&&c)&&(!d.1.leaf))&&e)&&(aE ((ixD d.1.at_ 0) < 32)))&&(!b.1.leaf))&&(b.1.slots ==8))&&m)&&(n.2 ==2))) (hg:=MV V) (hq:=λhg=>by((try simp only[BD hg]);(try simp only[M3 hg]);exact AE V V (U6 (bD v hg)) V V)) (ht:=(Ar (Ar (Ar (Ar G9))))) (hk:=?_);refine qT (qT (qN (wN ?_)));obtain rfl:=Ac.1 H;exact Aw ⟨.inr V,aX V⟩
def Fa(p:Int):M Int:=bA (aE (p≥32)) (bC 4) (bA ((aE (p≥24))&&(aE (p<=29))) (bC 3) (bA ((aE (p≥16))&&(aE (p<=23))) (bC 2) (bA ((aE (p≥8))&&(aE (p<=13))) (bC 1) (bC 0))))
theorem Ii{p:Int}{r:Int}(H:(Fa p).to r):Fn aG 17 [.lit (.int .i64 p)] (.lit (.int .i64 r)):=by
 delta Fa at H;try dsimp only at H
 refine AQ Tryz.func17 V (by kernel_rfl) V Tryz.ntmps17 λC n=>?_
 simp only[Nat.reduceAdd,Nat.reduceSub,zaa];refine wS (sT (wN ?_));refine Ab λm i=>?_
 refine wS (sT (sT (wN ?_)));refine Ah V (λd=>?_) (λd=>?_)
 ·have H:=AI d H;refine wS (sT (wN ?_));obtain rfl:=Ac.1 H;exact Aw ⟨.inr V,aX V⟩
 ·have H:=AJ d H;refine Al ?_;refine i _ ?_;refine nT ?_;refine Ab λl h=>?_
  refine wS (sT (sT (sT ?_)));refine sGt V ?_;refine sGt V (sT (wN ?_));refine Ah V (λc=>?_) (λc=>?_)
  ·have H:=AI c H;refine wS (sT (wN ?_));obtain rfl:=Ac.1 H;exact Aw ⟨.inr V,aX V⟩
  ·have H:=AJ c H;refine Al ?_;refine h _ ?_;refine nT ?_;refine Ab λk g=>?_
   refine wS (sT (sT (sT ?_)));refine sGt V ?_;refine sGt V (sT (wN ?_));refine Ah V (λb=>?_) (λb=>?_)
   ·have H:=AI b H;refine wS (sT (wN ?_));obtain rfl:=Ac.1 H;exact Aw ⟨.inr V,aX V⟩
   ·have H:=AJ b H;refine Al ?_;refine g _ ?_;refine nT ?_;refine Ab λj e=>?_
    refine wS (sT (sT (sT ?_)));refine sGt V ?_;refine sGt V (sT (wN ?_));refine Ah V (λa=>?_) (λa=>?_)
    ·have H:=AI a H;refine wS (sT (wN ?_));obtain rfl:=Ac.1 H;exact Aw ⟨.inr V,aX V⟩
    ·have H:=AJ a H;refine Al ?_;refine e _ ?_;refine nT ?_;refine wS (sT (wN ?_));obtain rfl:=Ac.1 H;exact Aw ⟨.inr V,aX V⟩
def Ch(x:Int)(y:Int)(b:bG×Int):(Int×(List Int))->M ((Int×(List Int))⊕((List Int))):=λ(r17,l19)=>bA (aE (r17 < (l19.length:Int))) (a7 (a7 (a8 (Ci b.1.at_ r17) (bA ((ixD b.1.at_ r17) ==(aF.wrap (aK x 50))) (a8 (Ci l19 r17) (a8 (wfB .i64 (aF.wrap (aK y 50))) (bC (l19.set (Int.toNat r17) (aF.wrap (aK y 50)))))) (bC l19))) λa=>a8 (Ci b.1.at_ r17) (bA ((ixD b.1.at_ r17) ==(aF.wrap (aK y 50))) (a8 (Ci a r17) (a8 (wfB .i64 (aF.wrap (aK x 50))) (bC (a.set (Int.toNat r17) (aF.wrap (aK x 50)))))) (bC a))) λc=>bC (.inl (aF.wrap (r17+1),c))) (bC (.inr l19))
def Dm(f:a6)(x:Int)(y:Int):M Bool:=a7 (O4 f) λr2=>bA (r2||(aE (f.regs > 300))) (a7 Eh λr4=>bC r4) (a7 (CF f) λa=>bA ((a.2 !=0)||((a.1.at_.length:Int) !=f.regs)) (a7 (bE (a.2 !=0) aC Eh) λl=>bC ((a.2 !=0)&&l)) (a7 (Fa (aF.wrap (aK x 50))) λb=>a7 (bE (!(b ==0)) 0 (Fa (aF.wrap (aK x 50)))) λg=>a7 (bE (!(b ==0)) 0 (Fa (aF.wrap (aK y 50)))) λe=>a7 (bE (!((b ==0)||(g !=e))) 0 (Fa (aF.wrap (aK x 50)))) λj=>bA (((b ==0)||(g !=e))||((j ==4)&&(aE ((if(aF.wrap (aK y 50)) > (aF.wrap (aK x 50))then(aF.wrap (aK y 50))else(aF.wrap (aK x 50)))≥(aF.wrap (32+a.1.slots)))))) (a7 Eh λi=>bC i) (a8 (EZ (([]:List Int).length+a.1.at_.length) 8) (a7 (bB (Ch x y a) (0,([]:List Int)++a.1.at_)) λk=>a7 (GE ⟨f.name,f.args,f.regs,f.blocks⟩ ⟨a.1.leaf,a.1.slots,a.1.at_⟩) λc=>a7 (bE c aC (GE ⟨f.name,f.args,f.regs,f.blocks⟩ ⟨a.1.leaf,a.1.slots,k⟩)) λd=>a7 (bE (c&&d) aC Eh) λh=>bC ((c&&d)&&h)))))
theorem Kk{f:a6}{x:Int}{y:Int}{r:Bool}(H:(Dm f x y).to r):Fn aG 5 [.agg (Ak f),.lit (.int .u8 x),.lit (.int .u8 y)] (.lit (.bool r)):=by
 delta Dm at H;try dsimp only at H
 refine AQ Tryz.func5 V (by kernel_rfl) V Tryz.ntmps5 λC hC=>?_
 simp only[Nat.reduceAdd,Nat.reduceSub,zaa];refine wS (sB (sT (wN ?_)));refine Ab λay an=>?_
 obtain⟨r2,k2,H⟩:=An.1 H;have k2:=Wm k2;refine wS (sT (sC k2 (sT ?_)));refine sGf V ?_;refine sGf V ?_;refine sGf V (sT (wN ?_));refine Ah V (λE=>?_) (λE=>?_)
 ·have H:=AI E H;obtain⟨r4,k4,H⟩:=An.1 H;have k4:=Gx k4;refine wS (sC k4 (sT (wN ?_)));obtain rfl:=Ac.1 H;exact Aw ⟨.inr V,aX V⟩
 ·have H:=AJ E H;refine Al ?_;refine an _ ?_;refine nT ?_;obtain⟨e,k5,H⟩:=An.1 H;have k5:=Dw k5;refine wS (sT (sC k5 (sT (sT (sT (sA0 (sW (sT (wN ?_)))))))));refine Ab λax am=>?_
  refine wS (sT (sT (sT ?_)));refine sGf V ?_;refine sGf V ?_;refine sGf V ?_;refine sGf V ?_;refine sGf V ?_;refine sGf V (sT (wN ?_));refine Ah V (λD=>?_) (λD=>?_)
  ·have H:=AI D H;obtain⟨r8,k8,H⟩:=An.1 H;refine wS (sT (sT (sT ?_)));refine sG (g:=(e.2 !=0)) (hg:=MV V) (hq:=λhg=>by((try simp only[BD hg]);(try simp only[M3 hg]);exact AE V V (Gx (bD k8 hg)) V V)) (ht:=(Ar GY)) ?_;refine sT (sT (wN ?_));obtain rfl:=Ac.1 H;exact Aw ⟨.inr V,aX V⟩
  ·have H:=AJ D H;refine Al ?_;refine am _ ?_;refine nT ?_;refine wS (sT ?_);refine sA ?_ (RC V (As (Ao Gi)) VX V) (Ar (Aq KK));refine sA ?_ (Ov V (As (Ao Fm)) V) (Ar (Aq IF));refine sT ?_;refine sA ?_ (RC V (As (Ao Gz)) VX V) (Ar (Aq GK));refine sA ?_ (Ov V (As (Ao Fc)) V) (Ar (Aq GZ));refine sT (sT (wN ?_));refine Ab λaw al=>?_
   obtain⟨a,B,H⟩:=An.1 H;have B:=Ii B;obtain⟨c,ak,H⟩:=An.1 H;obtain⟨b,aj,H⟩:=An.1 H;obtain⟨d,ai,H⟩:=An.1 H;refine wS (sT (sC B (sT (sT ?_))));refine sGf V ?_;refine sG (g:=(!(a ==0))) (hg:=Aar V) (hq:=λhg=>by((try simp only[BD hg]);(try simp only[M3 hg]);exact AE V V (Ii (bD ak hg)) V V)) (ht:=(Ar (Aq (Aq I5)))) ?_;refine sGf V ?_;refine sG (g:=(!(a ==0))) (hg:=Aar V) (hq:=λhg=>by((try simp only[BD hg]);(try simp only[M3 hg]);exact AE V V (Ii (bD aj hg)) V V)) (ht:=(Ar (Aq (Aq GZ)))) ?_;refine sGf V (sT (sT ?_));refine sGf V ?_;refine sG (g:=(!((a ==0)||(c !=b)))) (hg:=Aar V) (hq:=λhg=>by((try simp only[BD hg]);(try simp only[M3 hg]);exact AE V V (Ii (bD ai hg)) V V)) (ht:=(Ar (Aq (Aq (Aq IF))))) ?_;refine sGf V ?_;refine sGf V ?_;refine sG (g:=((!((a ==0)||(c !=b)))&&(d ==4))) (hg:=GQ V V) (hq:=λhg=>by(have h:=EN hg;exact AT.move V (Ao Gi))) (ht:=(Ar (Aq (Aq (Aq GZ))))) ?_;refine sG (g:=((!((a ==0)||(c !=b)))&&(d ==4))) (hg:=GQ V V) (hq:=λhg=>by(have h:=EN hg;exact AT.move V (Ao Fm))) (ht:=(Ar (Aq (Aq (Aq GY))))) ?_;refine sG (g:=((!((a ==0)||(c !=b)))&&(d ==4))) (hg:=GQ V V) (hq:=λhg=>by(have h:=EN hg;exact AT.max2 V ((As (Ao (Ao (Ao HW)))).trans (BD hg _ _)) ((As (Ao (Ao (Ao GP)))).trans (BD hg _ _)))) (ht:=(Ar (Ar G9))) (hk:=?_);refine sG (g:=((!((a ==0)||(c !=b)))&&(d ==4))) (hg:=GQ V V) (hq:=λhg=>by(have h:=EN hg;exact Bo V GP V)) (ht:=(Ar (Ar IK))) ?_;refine sG (g:=((!((a ==0)||(c !=b)))&&(d ==4))) (hg:=GQ V V) (hq:=λhg=>by(have h:=EN hg;exact Be V ((As (As Gi)).trans (BD hg _ _)) V V)) (ht:=(Ar (Ar KK))) ?_;refine sG (g:=((!((a ==0)||(c !=b)))&&(d ==4))) (hg:=GQ V V) (hq:=λhg=>by(have h:=EN hg;exact Cw V VX ((As (As Fm)).trans (BD hg _ _)) V)) (ht:=(Ar (Ar IF))) ?_;refine sG (g:=((!((a ==0)||(c !=b)))&&(d ==4))) (hg:=GQ V V) (hq:=λhg=>by(have h:=EN hg;exact Cw V ((As (As IP)).trans (BD hg _ _)) ((As (As Fw)).trans (BD hg _ _)) V)) (ht:=(Ar (Ar I5))) ?_;refine sG (g:=(!((a ==0)||(c !=b)))) (hg:=Aar V) (hq:=λhg=>Dg V ((As (Ao (Ao (Ao Fc)))).trans (BD hg _ _)) ((As (As Gz)).trans (M3 hg _ _)) VX) (ht:=(Ar (Ar GK))) (hk:=?_);refine sT (wN ?_);refine Ah V (λq=>?_) (λq=>?_)
   ·have H:=AI q H;obtain⟨bc,A,H⟩:=An.1 H;have A:=Gx A;refine wS (sC A (sT (wN ?_)));obtain rfl:=Ac.1 H;exact Aw ⟨.inr V,aX V⟩
   ·have H:=AJ q H;refine Al ?_;refine al _ ?_;refine nT ?_;refine wS (sT (sA0 (sW (wN ?_))));obtain⟨au,H⟩:=Aj.1 H;refine wS ?_;(refine AF V (Oy 3 V (xs:=[]) (T:=tInt) (ds:=([]:List Int)) V V V (RT.eq (n:=1) (bytes:=8)) (by decide) (by decide) .nil ?_);refine DU ?_ (Ar (Ar (Aq IK))));refine sT (sT (sP au (sT (sW (wN ?_)))));obtain⟨ad,aa,X⟩:=An.1 H;refine Bi (β:=((List Int))×(Nat)) (λk=>ad=k.1) (λk=>⟨A3 (.ptr 0 0::A3 (.ptr 1 0::A3 (.ptr 2 0::A80 (A20 (A8 []))))),[.box (Ak f),.box (BE e.1),.box [.lit (.bool e.1.leaf),.lit (.int .i64 e.1.slots),.own 3 k.2],.row k.2 3 tInt k.1]⟩) ?_ ?_
    ·refine wS (sT (wN ?_));refine Ad ?_;refine BB aa (λK Q=>⟨A3 (.ptr 0 0::A3 (.ptr 1 0::.any::.lit (.int .i64 (aF.wrap (aK x 50)))::.lit (.int .i64 (aF.wrap (aK y 50)))::.ptr 2 0::.lit (.int .i64 K.1)::A80 (A20 (A7 [])))),[.box (Ak f),.box (BE e.1),.box [.lit (.bool e.1.leaf),.lit (.int .i64 e.1.slots),.own 3 Q],.row Q 3 tInt K.2]⟩) (0+1) (?_) ?_
     ·try dsimp only
      exact AS
     ·rintro⟨L,bh⟩ w az H S;try dsimp only
      dsimp only[Ch]at H;refine Ab λav N=>?_
      refine wS (sT (sT (sT (sT (sT (wN ?_))))));refine Ah V (λo=>?_) (λo=>?_)
      ·have H:=AI o H;refine Al ?_;refine N _ ?_;refine nT ?_;obtain⟨ac,Z,W⟩:=An.1 H;refine Bi (β:=((List Int))×(Nat)) (λj=>ac=j.1) (λj=>⟨A3 (.ptr 0 0::A3 (.ptr 1 0::.any::.lit (.int .i64 (aF.wrap (aK x 50)))::.lit (.int .i64 (aF.wrap (aK y 50)))::.ptr 2 0::.lit (.int .i64 L)::A80 (A20 (A7 [])))),[.box (Ak f),.box (BE e.1),.box [.lit (.bool e.1.leaf),.lit (.int .i64 e.1.slots),.own 3 j.2],.row j.2 3 tInt j.1]⟩) ?_ ?_
       ·have H:=Z;refine Ad ?_;obtain⟨ab,Y,U⟩:=An.1 H;refine Bi (β:=((List Int))×(Nat)) (λi=>ab=i.1) (λi=>⟨A3 (.ptr 0 0::A3 (.ptr 1 0::.any::.lit (.int .i64 (aF.wrap (aK x 50)))::.lit (.int .i64 (aF.wrap (aK y 50)))::.ptr 2 0::.lit (.int .i64 L)::A80 (A20 (A7 [])))),[.box (Ak f),.box (BE e.1),.box [.lit (.bool e.1.leaf),.lit (.int .i64 e.1.slots),.own 3 i.2],.row i.2 3 tInt i.1]⟩) ?_ ?_
        ·have H:=Y;obtain⟨ar,H⟩:=Aj.1 H;refine wS (sT (sT (sT (sX ar (sT (sT (sT (wN ?_))))))));refine Ah V (λm=>?_) (λm=>?_)
         ·have H:=AI m H;obtain⟨P,H⟩:=Aj.1 H;obtain⟨aq,H⟩:=Aj.1 H;refine wSE (sT (sT (sT (sT ?_))));refine sA (hq:=BS V (As (As (Ao (Ao (Ao Fc))))) V (As (As (Ao (Ao (Ao HW))))) V P) (ht:=(Ar (Ar (Ar G9)))) (hk:=?_);(refine AF V (CT V V V (BP P) (aY aq) V ?_);refine DU ?_ Qx);refine wN ?_;have F:=Ac.1 H;repeat(first|refine abN ?_|refine asN ?_)
          refine Ap ⟨(_,w),F.symm,?_⟩;try dsimp only
          exact AS
         ·have H:=AJ m H;refine Al ?_;have F:=Ac.1 H;repeat(first|refine abN ?_|refine asN ?_)
          refine Ap ⟨(_,w),F.symm,?_⟩;try dsimp only
          exact AS
        ·rintro⟨be,J⟩ t;try dsimp only at t
         have H:=U;rw[t]at H;try dsimp only
         obtain⟨ap,H⟩:=Aj.1 H;refine wS (sT (sT (sT (sX ap (sT (sT (sT (wN ?_))))))));refine Ah V (λl=>?_) (λl=>?_)
         ·have H:=AI l H;obtain⟨O,H⟩:=Aj.1 H;obtain⟨ao,H⟩:=Aj.1 H;refine wSE (sT (sT (sT (sT ?_))));refine sA ?_ (BS V (As (As (As (Ao Gi)))) V (As (As (As (Ao Fm)))) V O) (Ar (Ar (Ar (Aq I5))));(refine AF V (CT V V V (BP O) (aY ao) V ?_);refine DU ?_ Qx);refine wN ?_;have G:=Ac.1 H;repeat(first|refine abN ?_|refine asN ?_)
          refine Ap ⟨(_,J),G.symm,?_⟩;try dsimp only
          exact AS
         ·have H:=AJ l H;refine Al ?_;have G:=Ac.1 H;repeat(first|refine abN ?_|refine asN ?_)
          refine Ap ⟨(_,J),G.symm,?_⟩;try dsimp only
          exact AS
       ·rintro⟨bf,ae⟩ u;try dsimp only at u
        have H:=W;rw[u]at H;try dsimp only
        refine wSE (sT (sT (sT (wN ?_))));have I:=Ac.1 H;repeat(first|refine abN ?_|refine asN ?_)
        refine Ap ⟨_,ae,I.symm,?_⟩;try dsimp only
        exact AS
      ·have H:=AJ o H;refine Ay ?_;repeat(first|refine BF ?_|refine exO (by decide) ?_|refine asE ?_)
       refine exN ?_;have I:=S _ (Ac.1 H).symm;repeat(first|refine abN ?_|refine asN ?_)
       refine Ap ⟨(_,w),I.symm,?_⟩;try dsimp only
       exact AS
    ·rintro⟨bg,ba⟩ v;try dsimp only at v
     have H:=X;rw[v]at H;try dsimp only
     refine AK _ (Vx hC 3 V (by(simp only[fzH,DP,AV.fz,ABlk.fz,aS,aT,Nat.reduceEqDiff,zam,zaf];first|done|exact V)) (by(simp only[fzH,DP,AV.fz,ABlk.fz,aS,aT,Nat.reduceEqDiff,zam,zaf];first|done|exact V))) ?_;obtain⟨s,z,H⟩:=An.1 H;have z:=Ku z;obtain⟨af,ah,H⟩:=An.1 H;obtain⟨bb,ag,H⟩:=An.1 H;refine wS (sT (sT (sC z (sT ?_))));refine sG (g:=s) (hg:=MV V) (hq:=λhg=>AR V Fw V V) (ht:=(Ar (Ar (Ar (Aq (Aq IK)))))) (hk:=?_);refine sG (g:=s) (hg:=MV V) (hq:=λhg=>AR V (Ao Fw) V V) (ht:=(Ar (Ar (Ar (Aq (Aq KK)))))) (hk:=?_);refine sG (g:=s) (hg:=MV V) (hq:=λhg=>by((try simp only[BD hg]);(try simp only[M3 hg]);exact AE V V (Ku (bD ah hg)) V V)) (ht:=(Ar (Ar (Ar (Aq (Aq IF)))))) (hk:=?_);refine sT (sT ?_);refine sG (g:=(s&&af)) (hg:=MV V) (hq:=λhg=>by((try simp only[BD hg]);(try simp only[M3 hg]);exact AE V V (Gx (bD ag hg)) V V)) (ht:=(Ar (Ar (Ar (Aq (Aq GZ)))))) (hk:=?_);refine sT (sT (wN ?_));obtain rfl:=Ac.1 H;exact Aw ⟨.inr V,aX V⟩
end
end Mu
namespace Mu
open Go Go.RowKit Go.Proofs Go.Maps
variable{a b:Int}{f:a6}{k:Nat}{l:List Int}{r:bG×Int}{x y z:Int}
def Aay:a6:=⟨⟨#[]⟩,2,3,[⟨⟨#[]⟩,[⟨1,2,0,1,0,0,[],0,0⟩,⟨10,0,2,0,0,0,[],0,0⟩]⟩]⟩
def WU:a6:=⟨⟨#[]⟩,1,2,[⟨⟨#[]⟩,[⟨5,1,0,0,0,0,[0],0,0⟩,⟨1,1,1,0,0,0,[],0,0⟩,⟨10,0,1,0,0,0,[],0,0⟩]⟩]⟩
def Qr:a6:=⟨⟨#[]⟩,0,22,[⟨⟨#[]⟩,((aW 22).map λ(i:Nat)=>(⟨0,(i:Int),0,0,0,0,[],0,0⟩:Ins))++⟨7,0,0,0,0,0,[],0,0⟩::(((aW 22).map λ(i:Nat)=>(⟨6,0,(i:Int),0,0,0,[],0,0⟩:Ins))++[⟨10,0,0,0,0,0,[],0,0⟩])⟩]⟩
def Ayh:a6:=⟨⟨#[]⟩,0,1,[⟨⟨#[]⟩,[⟨0,1,0,0,0,0,[],0,0⟩]⟩]⟩
theorem Ta:(Hl 22).to Qr:=⟨40,by kernel_rfl⟩
structure Fit22(f:Func):Prop where
 c:MZ f=true
 b:Dh.bulk f<=2097152
 g:CI f=false
theorem Azx:Fit22 Aay:=⟨by decide+kernel,by decide+kernel,by decide+kernel⟩
theorem AAz:Fit22 WU:=⟨by decide+kernel,by decide+kernel,by decide+kernel⟩
theorem AAh:Fit22 Qr:=⟨by decide+kernel,by decide+kernel,by decide+kernel⟩
theorem AAy:Fit22 Ayh:=⟨by decide+kernel,by decide+kernel,by decide+kernel⟩
theorem Aug:regsB Aay= [0,1,2]:=by rw[<-Hd];decide+kernel
theorem Ang:regsB WU= [0,1]:=by rw[<-Hd];decide+kernel
theorem Azs:regsB Ayh= [1]:=by rw[<-Hd];decide+kernel
theorem Apj:regsB Qr=(aW 22).map λ(i:Nat)=>(i:Int):=by rw[<-Hd];decide+kernel
theorem Aje:HU Aay=aD/\leaf Aay.blocks=aD/\regsB Aay= [0,1,2]/\(⟨0,1⟩:Pair)∈CE Aay:=by unfold HU;rw[Aug];decide+kernel
theorem AA1:∀x∈regsB Aay,R4 Aay x < 7:=by unfold R4;rw[Aug];decide+kernel
theorem Ar7:HU WU=aD/\leaf WU.blocks=aC/\regsB WU= [0,1]/\(B9 WU).contains 0=aD:=by unfold HU;rw[Ang];decide+kernel
theorem AA0:∀x∈regsB WU,R4 WU x < 14:=by unfold R4;rw[Ang];decide+kernel
theorem AAw:HU Ayh=aC:=by unfold HU;rw[Azs];decide+kernel
theorem Ay3:HU Qr=aD/\leaf Qr.blocks=aC:=by unfold HU;rw[Apj];decide+kernel
theorem Aon:B9 Qr=(aW 22).map λ(i:Nat)=>(i:Int):=by decide+kernel
theorem Ayk:∀b∈aW 22,∀a∈aW b,(⟨(a:Int),(b:Int)⟩:Pair)∈CE Qr:=by decide+kernel
theorem Aup:∀y∈Br [0] 0 aC,Ale y=aD/\y < 32:=by decide
theorem ColOK.p(H:ColOK f r)(c:HU f=aD):bH f r.1:=(OT H.wf).1 (H.right c)
theorem Ak5(c:HU f=aD):0<=f.regs/\f.regs<=4096:=by
 unfold HU Akx at c;simp only[zap]at c;omega
theorem ColOK.len(H:ColOK f r):r.1.at_.length<=4096:=by
 cases c:HU f with
 |false=>rw[H.no c];exact bK _
 |true=>
  have h1:=(H.p c).len;have h2:=Ak5 c;omega
theorem Fit22.col(h:Fit22 f):(CF f).to (J5 f)/\ColOK f (J5 f):=U4 (BM.1 h.c) h.b h.g
theorem Fit22.right(h:Fit22 f){p:bG}(c:∀x∈p.at_,Cm x)(d:p.at_.length<=4096):(FW f p).to (C8 f p):=ZH (BM.1 h.c) h.b c (by omega) (by have:=Hc h.g;omega)
theorem RightP.val{p:bG}(H:bH f p){r:Int}(c:r∈regsB f):∃x,p.at_[r.toNat]? =bM x/\ixD p.at_ r=x/\Ci p.at_ r=aD/\(x∈Br (B9 f) r p.leaf\/(32<=x/\x < 32+p.slots)):=by
 obtain⟨h1,h2⟩:=Ul H.may c;have d:=H.len;obtain⟨x,hx⟩:∃x,p.at_[r.toNat]? =bM x:=⟨_,aL (by omega)⟩
 have e:((r.toNat:Nat):Int)=r:=by omega
 refine⟨x,hx,?_,?_,?_⟩
 ·rw[<-e];exact B8 hx
 ·exact BJ.2 ⟨h1,by omega⟩
 ·have:=H.reg r.toNat x hx (by rw[e];exact c);rw[e]at this;exact this
theorem Zi(H:bH Qr (J5 Qr).1)(w:ColOK Qr (J5 Qr)):(J5 Qr).1.leaf=aC/\(J5 Qr).1.slots=8:=by
 obtain⟨p,u⟩:∃p,p=(J5 Qr).1:=⟨_,rfl⟩
 have c:=w.many;rw[<-u]at H c⊢;have n:p.leaf=aC:=by
  cases e:p.leaf with
  |false=>rfl
  |true=>have:=(H.lf e).1;rw[Ay3.2]at this;cases this
 refine⟨n,?_⟩;have o:p.at_.length=22:=by
  have h:=H.len;have e:Qr.regs=22:=rfl;rw[e]at h;omega
 have m:∀j:Nat,j < 22->(j:Int)∈regsB Qr:=λj d=>by rw[Apj];exact aU.2 ⟨j,aV.2 d,rfl⟩
 have q:p.at_.Nodup:=by
  rw[List.Nodup,List.pairwise_iff_getElem];intro i j hi d s e;have A:=Ayk j (aV.2 (by omega)) i (aV.2 s);refine H.apart _ A ?_;show ixD p.at_ (i:Int)=ixD p.at_ (j:Int);rw[B8 (aL hi),B8 (aL d),e]
 have g:∀x∈p.at_,x∈Br (B9 Qr) 0 aC++NR p:=λx hx=>by
  obtain⟨j,d⟩:=List.mem_iff_getElem?.1 hx;have v:=(aM.1 d).1;rcases H.reg j x d (m j (by omega))with h|h
  ·rw[n]at h;have e:Br (B9 Qr) (j:Int) aC=Br (B9 Qr) 0 aC:=by
    have h1:∀k:Nat,k < 22->(B9 Qr).contains (k:Int)=aD:=λk hk=>by rw[Aon];exact List.contains_iff_mem.2 (aU.2 ⟨k,aV.2 hk,rfl⟩)
    rw[C4,C4,h1 j (by omega),show(0:Int)=((0:Nat):Int)from V,h1 0 (by omega)]
   rw[e]at h;exact List.mem_append_left _ h
  ·exact List.mem_append_right _ ((Lu H.pos).2 h)
 have h1:=Dl q g;have h2:(Br (B9 Qr) 0 aC).length=14:=by
  rw[Aon];decide
 have D:(NR p).length=p.slots.toNat:=by simp[NR]
 rw[aO,h2,D,o]at h1;have C:(regsB Qr).length=22:=by rw[Apj];rfl
 have t:=H.pos;have B:=c (by omega);rw[C]at B;omega
theorem Ho:Eh.to aD:=by
 obtain⟨J,d⟩:=Azx.col;obtain⟨I,n⟩:=AAz.col;obtain⟨G,c⟩:=AAh.col;obtain⟨H,K⟩:=AAy.col;have g:=d.p Aje.1;have j:=n.p Ar7.1;have i:=c.p Ay3.1;have a1:=d.err Aje.1;have B:=d.lf Aje.1 Aje.2.1 AA1;have a3:=(g.lf B).2;obtain⟨x0,P,S,s,_⟩:=g.val (r:=0) (by rw[Aje.2.2.1];decide);obtain⟨x1,O,Q,q,_⟩:=g.val (r:=1) (by rw[Aje.2.2.1];decide);have Z:((ixD (J5 Aay).1.at_ 0) !=(ixD (J5 Aay).1.at_ 1))=aD:=by
  have:=g.apart _ Aje.2.2.2;simpa using this
 have Y:((J5 Aay).1.at_.length:Int)=3:=g.len;have X:=n.err Ar7.1;have A:(J5 WU).1.leaf=aC:=by
  cases e:(J5 WU).1.leaf with
  |false=>rfl
  |true=>have:=(j.lf e).1;rw[Ar7.2.1]at this;cases this
 have W:=n.few Ar7.1 AA0;have U:((J5 WU).1.at_.length:Int)=2:=j.len;obtain⟨C,N,t,o,m⟩:=j.val (r:=0) (by rw[Ar7.2.2.1];decide);have w:Ale (ixD (J5 WU).1.at_ 0)=aD/\aE ((ixD (J5 WU).1.at_ 0) < 32)=aD:=by
  rw[t];rcases m with h|h
  ·rw[A]at h;have e:Br (B9 WU) 0 aC=Br [0] 0 aC:=by rw[C4,C4,Ar7.2.2.2];rfl
   rw[e]at h;have:=Aup C h;exact⟨this.1,decide_eq_true this.2⟩
  ·rw[W]at h;omega
 have F:=c.err Ay3.1;obtain⟨E,D⟩:=Zi i c;have T:(J5 Ayh).2=2:=by rw[K.no AAw]
 have v:=Azx.right d.wf d.len;rw[d.right Aje.1]at v;have u:=AAh.right c.wf c.len;rw[c.right Ay3.1]at u;have L:(M2 Aay).to aD:=by
  refine Ae (by rw[Azx.c,Aje.2.2.1];rfl) ?_;rw[Aje.1];exact Ag _
 unfold Eh;refine Ae V (Ae V (Am (a:=Aay) (Ae (by kernel_rfl) (Ag _)) (Ae V (Ae V (Ae V (Am (a:=WU) (Ae (by kernel_rfl) (Ag _)) (Am J (Am I (Am Ta (Am G (Ae V (Am (a:=Ayh) (Ae (by kernel_rfl) (Ag _)) (Am H ?_)))))))))))));simp only[a1,B,a3,Z,Y,X,A,w.2,U,F,E,D,T,s,q,o];refine AB V (Ae V (Ae V (Am (BC V v) (Ae V (Am (a:=aD) (BC V (Ac.2 w.1)) (Ae V (Am (BC V Ta) (Am (BC V u) (Am (BC V L) (Ag _))))))))))
theorem Aan(c:FineF f):(O4 f).to (CI f):=Ae (BM.2 c) (Ag _)
theorem Anc(h:wfI .u8 x):0<=x/\x<=255:=by
 simpa[wfI,Lit.wf,IntKind.min,IntKind.max,IntKind.signed,IntKind.bits]using h
def JQ(p:Int):Int:=if p≥32 then 4 else if p≥24/\p<=29 then 3 else if p≥16/\p<=23 then 2 else if p≥8/\p<=13 then 1 else 0
theorem N9(p:Int):(Fa p).to (JQ p):=by
 unfold Fa JQ;by_cases h1:p≥32
 ·rw[if_pos h1];exact Az (decide_eq_true h1) (Ag _)
 rw[if_neg h1];refine AB (decide_eq_false h1) ?_;by_cases h2:p≥24/\p<=29
 ·rw[if_pos h2];exact Az (by rw[decide_eq_true h2.1,decide_eq_true h2.2];rfl) (Ag _)
 rw[if_neg h2];refine AB (by rw[<-aB];exact decide_eq_false h2) ?_;by_cases d:p≥16/\p<=23
 ·rw[if_pos d];exact Az (by rw[decide_eq_true d.1,decide_eq_true d.2];rfl) (Ag _)
 rw[if_neg d];refine AB (by rw[<-aB];exact decide_eq_false d) ?_;by_cases c:p≥8/\p<=13
 ·rw[if_pos c];exact Az (by rw[decide_eq_true c.1,decide_eq_true c.2];rfl) (Ag _)
 rw[if_neg c];exact AB (by rw[<-aB];exact decide_eq_false c) (Ag _)
def turn22(a b z:Int):Int:=if z=b then a else if z=a then b else z
theorem KD(a b z:Int):turn22 a b (turn22 a b z)=z:=by
 unfold turn22
 grind
theorem Ak4(c:List Int)(r:Int)(leaf:Bool)(z:Int):z∈Br c r leaf↔(z=4\/(8<=z/\z<=13))/\(leaf=aD\/c.contains r=aC)\/(16<=z/\z<=29)/\z≠30/\leaf=aC:=by
 have h1:z∈WT↔z=4\/(8<=z/\z<=13):=by
  unfold WT;simp only[or_false,zak];omega
 have h2:z∈Ik↔16<=z/\z<=29:=by
  unfold Ik Aga Agq;simp only[or_false,zaq];omega
 rw[C4];cases leaf with
 |true=>
  rw[if_pos V,h1];simp
 |false=>
  rw[if_neg (by simp)];cases hc:c.contains r with
  |true=>
   rw[if_pos V,h2];simp;omega
  |false=>
   rw[if_neg (by simp),List.mem_append,h1,h2];simp;omega
theorem Aem(p:Int):(p≥32/\JQ p=4)\/((p≥24/\p<=29)/\JQ p=3)\/((p≥16/\p<=23)/\JQ p=2)\/((p≥8/\p<=13)/\JQ p=1)\/JQ p=0:=by
 unfold JQ;by_cases h1:p≥32
 ·rw[if_pos h1];omega
 rw[if_neg h1];by_cases h2:p≥24/\p<=29
 ·rw[if_pos h2];omega
 rw[if_neg h2];by_cases d:p≥16/\p<=23
 ·rw[if_pos d];omega
 rw[if_neg d];by_cases c:p≥8/\p<=13
 ·rw[if_pos c];omega
 rw[if_neg c];omega
theorem Zl(h0:JQ a≠0)(h:JQ a=JQ b){c:List Int}{r:Int}{leaf:Bool}(d:z∈Br c r leaf):turn22 a b z∈Br c r leaf:=by
 rw[Ak4]at d⊢;have j:=Aem a;have i:=Aem b;unfold turn22;split
 ·rename_i e;subst e;rcases d with⟨h1,h2⟩|⟨h1,h2,g⟩
  ·exact .inl ⟨by omega,h2⟩
  ·exact .inr ⟨by omega,by omega,g⟩
 ·split
  ·rename_i e;subst e;rcases d with⟨h1,h2⟩|⟨h1,h2,g⟩
   ·exact .inl ⟨by omega,h2⟩
   ·exact .inr ⟨by omega,by omega,g⟩
  ·exact d
theorem Td{s:Int}(h0:JQ a≠0)(d:JQ a=JQ b)(c:JQ a=4->a < 32+s/\b < 32+s)(e:32<=z/\z < 32+s):32<=turn22 a b z/\turn22 a b z < 32+s:=by
 unfold JQ at h0 d c;unfold turn22
 grind
theorem Add(h0:JQ a≠0)(c:JQ a=JQ b):turn22 a b (-1)= -1:=by
 unfold JQ at h0 c;unfold turn22
 grind
theorem RightP.turned{p:bG}(H:bH f p)(h0:JQ a≠0)(g:JQ a=JQ b)(m:JQ a=4->a < 32+p.slots/\b < 32+p.slots):bH f ⟨p.leaf,p.slots,p.at_.map (turn22 a b)⟩:=by
 have c:∀(j:Nat) x,(p.at_.map (turn22 a b))[j]? =bM x->∃y,p.at_[j]? =bM y/\x=turn22 a b y:=λj x hx=>by
  rw[aN,Option.map_eq_some_iff]at hx;obtain⟨y,d,e⟩:=hx;exact⟨y,d,e.symm⟩
 refine⟨H.may,by show((p.at_.map _).length:Int)=_;rw[aP];exact H.len,H.pos,H.lf,λj x hx i=>?_,λj x hx i=>?_,λz h1 h2=>?_,λx hx e=>?_⟩
 ·obtain⟨y,d,rfl⟩:=c j x hx;rcases H.reg j y d i with h|h
  ·exact .inl (Zl h0 g h)
  ·exact .inr (Td h0 g m h)
 ·obtain⟨y,d,rfl⟩:=c j x hx;rw[H.non j y d i];exact Add h0 g
 ·obtain⟨u,t⟩:=Td (s:=p.slots) h0 g m ⟨h1,h2⟩;have:=H.use _ u t;exact aU.2 ⟨_,this,KD a b z⟩
 ·obtain⟨y,d,w,o,_⟩:=H.val (BY (DF hx).1);obtain⟨z,q,v,n,_⟩:=H.val (BY (DF hx).2.1);have e:ixD (p.at_.map (turn22 a b)) x.a=ixD (p.at_.map (turn22 a b)) x.b:=e;have E:=(BJ.1 o).1;have D:=(BJ.1 n).1;have C:ixD (p.at_.map (turn22 a b)) x.a=turn22 a b y:=by
   rw[show x.a=((x.a.toNat:Nat):Int)by omega];exact B8 (by rw[aN,d];rfl)
  have B:ixD (p.at_.map (turn22 a b)) x.b=turn22 a b z:=by
   rw[show x.b=((x.b.toNat:Nat):Int)by omega];exact B8 (by rw[aN,q];rfl)
  rw[C,B]at e;have A:y=z:=by rw[<-KD a b y,e,KD]
  refine H.apart x hx ?_;rw[w,v,A]
def turnK(a b:Int)(l:List Int)(k:Nat):List Int:=(l.take k).map (turn22 a b)++l.drop k
theorem Lm(a b:Int)(l:List Int)(k:Nat):(turnK a b l k).length=l.length:=by
 unfold turnK;rw[aO,aP,aR,List.length_drop];omega
theorem Adf(h:l[k]? =bM z):(turnK a b l k).set k (turn22 a b z)=turnK a b l (k+1):=by
 have hk:=(aM.1 h).1;have c:l.drop k=z::l.drop (k+1):=by
  rw[List.drop_eq_getElem_cons hk];rw[aL hk]at h;rw[Option.some.inj h]
 unfold turnK;rw[List.set_append_right _ _ (by rw[aP,aR];omega),c,List.take_add_one,h,List.map_append,List.append_assoc];have e:k - ((l.take k).map (turn22 a b)).length=0:=by rw[aP,aR];omega
 rw[e];rfl
theorem Adg(h:l[k]? =bM z):(turnK a b l k)[k]? =bM z:=by
 have hk:=(aM.1 h).1;unfold turnK;rw[List.getElem?_append_right (by rw[aP,aR];omega)];have e:k - ((l.take k).map (turn22 a b)).length=0:=by rw[aP,aR];omega
 rw[e,List.getElem?_drop,Nat.add_zero];exact h
theorem Ajx(h:l[k]? =bM z):l.set k z=l:=by
 refine List.ext_getElem? λj=>?_
 by_cases e:k=j
 ·subst e;rw[List.getElem?_set_self (aM.1 h).1,h]
 ·rw[List.getElem?_set_ne e]
theorem Ade{c:bG×Int}(n:aF.wrap (aK x 50)=a)(m:aF.wrap (aK y 50)=b)(t:0<=a/\a < 50)(s:0<=b/\b < 50)(q:c.1.at_.length<=5000):(bB (Ch x y c) (0,([]:List Int)++c.1.at_)).to (c.1.at_.map (turn22 a b)):=by
 have e0:((0:Int),([]:List Int)++c.1.at_)=(((0:Nat):Int),turnK a b c.1.at_ 0):=by simp[turnK]
 have o:c.1.at_.map (turn22 a b)=turnK a b c.1.at_ c.1.at_.length:=by simp[turnK]
 rw[e0,o];refine BV (λk:Nat=>((k:Int),turnK a b c.1.at_ k)) c.1.at_.length (λk hk=>?_) ?_ (bK _)
 ·obtain⟨z,i⟩:∃z,c.1.at_[k]? =bM z:=⟨_,aL hk⟩
  have h:Ci (turnK a b c.1.at_ k) (k:Int)=aD:=L7 (by rw[Lm];exact hk);have g:wfB .i64 a=aD:=IT ⟨by omega,by omega⟩;have j:wfB .i64 b=aD:=IT ⟨by omega,by omega⟩;simp only[Ch,n,m];rw[B8 i,Int.toNat_natCast];refine Az (decide_eq_true (by rw[Lm];omega)) (Am (a:=turnK a b c.1.at_ (k+1)) (Am (a:=if z=a then(turnK a b c.1.at_ k).set k b else turnK a b c.1.at_ k) (Ae (L7 hk) ?_) (Ae (L7 hk) ?_)) ?_)
  ·by_cases e:z=a
   ·rw[if_pos e];exact Az (by rw[e];simp) (Ae h (Ae j (Ag _)))
   ·rw[if_neg e];exact AB (by simpa using e) (Ag _)
  ·rw[<-Adf i];by_cases e:z=b
   ·have ht:turn22 a b z=a:=by unfold turn22;rw[if_pos e]
    rw[ht];refine Az (by rw[e];simp) ?_;by_cases d:z=a
    ·rw[if_pos d];refine Ae (L7 (by rw[List.length_set,Lm];exact hk)) (Ae g ?_);rw[List.set_set];exact Ag _
    ·rw[if_neg d];exact Ae h (Ae g (Ag _))
   ·refine AB (by simpa using e) (Ac.2 ?_);unfold turn22;rw[if_neg e];by_cases d:z=a
    ·rw[if_pos d,if_pos d]
    ·rw[if_neg d,if_neg d,Ajx (Adg i)]
  ·rw[w23 hk (by omega)];exact Ag _
 ·simp only[Ch];exact AB (decide_eq_false (by rw[Lm];omega)) (Ag _)
theorem Adj(h:0<=x/\x<=255):aF.wrap (aK x 50)=x % 50/\0<=x % 50/\x % 50 < 50:=by
 have e:aK x 50=x % 50:=Int.tmod_eq_emod_of_nonneg h.1;rw[e];refine⟨IntWalk.i64_in _ (by omega),by omega,by omega⟩
theorem PN(c:FineF f)(d:Dh.bulk f<=2097152)(hx:0<=x/\x<=255)(D:0<=y/\y<=255):(Dm f x y).to aD:=by
 obtain⟨q,B⟩:=Adj hx;obtain⟨o,A⟩:=Adj D;obtain⟨a,n⟩:∃a,a=x % 50:=⟨_,rfl⟩
 obtain⟨b,m⟩:∃b,b=y % 50:=⟨_,rfl⟩
 rw[<-n]at q B;rw[<-m]at o A;unfold Dm;rw[q,o];refine Am (Aan c) ?_;cases hg:(CI f||decide (f.regs > 300))with
 |true=>exact Az V (Am Ho (Ag _))
 |false=>
  rw[Bool.or_eq_false_iff]at hg;obtain⟨g,_⟩:=hg;obtain⟨t,H⟩:=U4 c d g;have w:=H.len;refine AB V (Am t ?_);cases i:HU f with
  |false=>
   rw[H.no i];exact Az V (Am (BC V Ho) (Ag _))
  |true=>
   have R:=H.p i;have F:(J5 f).1.slots<=200:=by
    have h1:=H.many;have h2:=Hc g;by_cases e:(J5 f).1.slots=0
    ·omega
    ·have:=h1 e;omega
   have v:=R.pos;refine AB (by rw[H.err i,R.len];simp) (Am (N9 a) ?_);by_cases h0:JQ a=0
   ·rw[h0];exact Am (bF V) (Am (bF V) (Am (bF V) (Az V (Am Ho (Ag _)))))
   have K:(JQ a ==0)=aC:=by simpa using h0
   rw[K];refine Am (BC V (N9 a)) (Am (BC V (N9 b)) ?_);by_cases j:JQ a=JQ b
   ·have s:(JQ a !=JQ b)=aC:=by simpa using j
    rw[s];refine Am (BC V (N9 a)) ?_;rw[IntWalk.i64_in (32+(J5 f).1.slots) (by omega)];cases hc:((JQ a ==4)&&(aE ((if b > a then b else a)≥32+(J5 f).1.slots)))with
    |true=>exact Az V (Am Ho (Ag _))
    |false=>
     have G:JQ a=4->a < 32+(J5 f).1.slots/\b < 32+(J5 f).1.slots:=λJ=>by
      rw[J]at hc;have hc:aE ((if b > a then b else a)≥32+(J5 f).1.slots)=aC:=by simpa using hc
      have hc:=of_decide_eq_false hc;split at hc <;> omega
     have I:=R.turned h0 j G;have h:∀z∈((J5 f).1.at_.map (turn22 a b)),Cm z:=λz C=>by
      obtain⟨u,E,rfl⟩:=aU.1 C;have:=H.wf u E;unfold turn22;split
      ·exact IT ⟨by omega,by omega⟩
      ·split
       ·exact IT ⟨by omega,by omega⟩
       ·exact this
     have r1:=X4 (p:=(J5 f).1) c d g H.ok H.wf (by omega);rw[H.right i]at r1;have r2:=X4 (p:=⟨(J5 f).1.leaf,(J5 f).1.slots,(J5 f).1.at_.map (turn22 a b)⟩) c d g ⟨H.ok.slots⟩ h (by show((J5 f).1.at_.map _).length<=_;rw[aP];omega);rw[(OT h).2 I]at r2;exact AB V (Ae (Aue (by simp only[List.length_nil];omega) (by omega)) (Am (Ade q o B A (by omega)) (Am r1 (Am (BC V r2) (Am (BC V Ho) (Ag _))))))
   ·have s:(JQ a !=JQ b)=aD:=by simpa using j
    rw[s];exact Am (bF V) (Az V (Am Ho (Ag _)))
theorem PO(f:a6)(x y:Int)(e:okFunc f)(c:Dh.bulk f<=2097152)(hx:wfI .u8 x)(d:wfI .u8 y):Fn aG 5 [.agg (Ak f),.lit (.int .u8 x),.lit (.int .u8 y)] (.lit (.bool aD)):=Kk (PN (Ahh e c) c (Anc hx) (Anc d))
end Mu
namespace Mu
open Go Go.RowKit Go.ChangeShapes Go.WideShapes Go.Proofs
variable{H:Type}{W:World}{d:DataW H}{enc:TypeId×Value->H}{p:List MemPlace}{t:TypeId}{v:Value}
theorem Alc:laidOutB aG=aD:=by kernel_rfl
mutual
theorem Ah7{H:Type}:∀d:DataW H,Ga d<=aH d
 | .lit (.string _)=>bI _
 | .lit (.bool _)=>bI _
 | .lit (.int _ _)=>bI _
 | .lit (.float _ _)=>bI _
 | .lit .nil=>bI _
 | .nil=>bI _
 | .ptr d=>by show 1<=aH d+1;omega
 | .slice e s=>by
  have h1:=On e;have h2:=On s;show Ga.go e+Ga.go s+1<=aI e+aI s+1;omega
 | .agg p=>by
  have h1:=On p;show Ga.go p+1<=aI p+1;omega
 | .iface _ d=>by show 1<=aH d+1;omega
 | .map m=>by show 1<=aJ m+1;omega
 | .held _=>bI _
theorem On{H:Type}:∀l:List (DataW H),Ga.go l<=aI l
 | []=>bI _
 |d::r=>by
  have h1:=Ah7 d;have h2:=On r;show Ga d+Ga.go r<=aH d+aI r;omega
end
theorem Afk{g:Type}{T:Ty g}(j:Opens aG t T)(q:1 < T.size)
 (h:DataW.Trod enc aG W 0 (λ_=>aD) aD t v d p)(i:∀x∈p,x.block < W.heap.size):
 ∃cs x,v= .agg cs.toArray/\T.R W W.heap.size cs x/\T.bulk x<=aH d:=by
 obtain⟨c,n⟩:=h;obtain⟨x,e,o⟩:=j.go H enc W 0 _ aD c _ (d,p) W.heap.size n i;have m:=T.len e;refine⟨v.cells.toList,x,?_,e,bJ o (Ah7 d)⟩;cases v <;> first
  |(simp[Value.cells]at m;omega)
  |simp[Value.cells]
theorem stays{W':World}(c:aG.readableRec t=aD)(ht:t < aG.types.size)
 (h:DataW.Trod enc aG W 0 (λ_=>aD) aD t v d p)(g:Below W.heap.size W W')(e:∀x∈p,x.block < W.heap.size):
 DataW.Trod enc aG W' 0 (λb=>decide (b < W.heap.size)) aD t v d p:=Below.trod Alc c ht h g e
end Mu
namespace Mu
open Go Go.RowKit Go.Proofs
end Mu
