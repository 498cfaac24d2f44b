/-
  Lemmas for R, part 6.
  Conditions: as each lemma says.
-/
import Derived.Test.YtnhheaffnpflfaaGreatCr5
import Derived.OpenShut
set_option maxRecDepth 100000
set_option maxHeartbeats 4000000
set_option linter.unusedSimpArgs false
set_option linter.unusedVariables false
open Bool renaming false->aA,true->aB
open Decidable renaming decide->aC
open Go.IntKind renaming i64->aD
open Go.Proofs.Tryz renaming prog->aE
open Go.Proofs.YtnhheaffnpflfaaGreat.Rows renaming uptoBulk->aF,uptoBulkAll->aG,uptoBulkEntries->aH
open List renaming getElem?_eq_getElem->aI,getElem?_eq_some_iff->aJ,length_append->aK,map_cons->aL,map_nil->aM,mem_iff_getElem?->aN,mem_map->aO,mem_range->aP,range->aR,take_add_one->aS
open Mu renaming Func->aV,Plan->bA
open Mu.Fin renaming cl->aT
open Mu.Fit renaming up->aU
open Mu.M renaming bnd->aW,chk->aX,cnd->aY,loop->aZ,ok->a6,to_whn->a7,whn->a8
open Nat renaming le_refl->bB,le_trans->bC,zero_le->bD
namespace Mu
open Go Go.RowKit Go.Proofs
variable{f:aV}{r:Bool}
noncomputable section
def EX(f:aV)(r1:List Int)(r2:List (List (List Int)))(c:Int):(Int×Int)->M ((Int×Int)⊕Int):=λ(k10,j11)=>aY (aC (j11 < (r1.length:Int))) (aW (aX (Ch r1 c) (aX (Ch r1 j11) (aW (JH f r2 (ixD r1 c) (ixD r1 j11)) λa=>aY a (a6 (aD.wrap (k10+1))) (a6 k10)))) λb=>a6 (.inl (b,aD.wrap (j11+1)))) (a6 (.inr k10))
def Fw(f:aV)(r1:List Int)(r2:List (List (List Int))):(Int×Int)->M ((Int×Int)⊕Int):=λ(n3,i4)=>aY (aC (i4 < (r1.length:Int))) (aW (aZ (EX f r1 r2 i4) (0,0)) λa=>a6 (.inl ((if a > n3 then a else n3),aD.wrap (i4+1)))) (a6 (.inr n3))
def G6(f:aV):M Int:=aW (Lt f) λr1=>aW (Wf f) λr2=>aW (aZ (Fw f r1 r2) (0,0)) λa=>a6 a
theorem TD{r:Int}(H:(G6 f).to r):Fn aE 13 [.agg (Ak f)] (.lit (.int .i64 r)):=by
 delta G6 at H;try dsimp only at H
 refine AR Tryz.func13 V (by kernel_rfl) V Tryz.ntmps13 λC hC=>?_
 simp only[Nat.reduceAdd,Nat.reduceSub,zaa];refine wS (sB (sT (wN ?_)));obtain⟨r1,A,H⟩:=An.1 H;have A:=My A;obtain⟨r2,z,H⟩:=An.1 H;have z:=TG z;refine dS 6 (hq:=?_);refine qT (qC A (qT (qC z (qT (qT (qN (wN ?_)))))));refine wS (sT (wN ?_));obtain⟨T,O,N⟩:=An.1 H;refine Bh (β:=(Int)×(Unit)) (λx=>T=x.1) (λx=>⟨A5 (.lit (.int .i64 x.1)::A20 (A10 (A6 []))),[.dead]⟩) ?_ ?_
 ·refine wS (sT (wN ?_));refine Ad ?_;refine Bu O (λP b5=>⟨.any::.ptr 0 0::.any::.bs tInt r1::.bs tInt.slice.slice r2::.lit (.int .i64 P.1)::.lit (.int .i64 P.2)::A20 (A10 (A5 [])),[.box (Ak f)]⟩) () (?_) ?_
  ·try dsimp only
   exact AS
  ·rintro⟨y,D⟩ _ x5 H L;try dsimp only
   dsimp only[Fw]at H;refine Ab λS F=>?_
   refine wS (sT (sT (sT (sT (wN ?_)))));refine Ah V (λi=>?_) (λi=>?_)
   ·have H:=AC i H;refine Al ?_;refine F _ ?_;refine nT ?_;refine Ab λQ E=>?_
    refine Ad ?_;refine wS (sT (wN ?_));obtain⟨w,u,s⟩:=An.1 H;refine Bh (β:=(Int)×(Unit)) (λg=>w=g.1) (λg=>⟨.any::.ptr 0 0::.any::.bs tInt r1::.bs tInt.slice.slice r2::.lit (.int .i64 y)::.lit (.int .i64 D)::.lit (.int .i64 g.1)::A20 (A10 (A4 [])),[.box (Ak f)]⟩) ?_ ?_
    ·refine wS (sT (wN ?_));refine Ad ?_;refine Bu u (λl aa=>⟨.any::.ptr 0 0::.any::.bs tInt r1::.bs tInt.slice.slice r2::.lit (.int .i64 y)::.lit (.int .i64 D)::.lit (.int .i64 l.1)::.lit (.int .i64 l.2)::A20 (A10 (A3 [])),[.box (Ak f)]⟩) () (?_) ?_
     ·try dsimp only
      exact AS
     ·rintro⟨Z,B⟩ _ U H o;try dsimp only
      dsimp only[EX]at H;refine Ab λK n=>?_
      refine wS (sT (sT (sT (sT (wN ?_)))));refine Ah V (λb=>?_) (λb=>?_)
      ·have H:=AC b H;refine Al ?_;refine n _ ?_;refine nT ?_;obtain⟨v,t,q⟩:=An.1 H;refine Bh (β:=(Int)×(Unit)) (λe=>v=e.1) (λe=>⟨.any::.ptr 0 0::.any::.bs tInt r1::.bs tInt.slice.slice r2::.lit (.int .i64 y)::.lit (.int .i64 D)::.lit (.int .i64 e.1)::.lit (.int .i64 B)::A20 (A10 (A3 [])),[.box (Ak f)]⟩) ?_ ?_
       ·have H:=t;refine Ad ?_;obtain⟨J,H⟩:=Aj.1 H;obtain⟨I,H⟩:=Aj.1 H;obtain⟨W,h,H⟩:=An.1 H;have h:=QS h;refine dS 11 (hq:=?_);refine qT (qT (qT (qT (qX J (qT (qT (qT (qX I (qT (qC h (qN ?_)))))))))));refine wN ?_;refine Ah V (λa=>?_) (λa=>?_)
        ·have H:=AC a H;refine wSE (sT (sT (sT (wN ?_))));have j:=Ac.1 H;repeat(first|refine abN ?_|refine asN ?_)
         refine Ap ⟨(_,()),j.symm,?_⟩;try dsimp only
         exact AS
        ·have H:=AE a H;refine Al ?_;have j:=Ac.1 H;repeat(first|refine abN ?_|refine asN ?_)
         refine Ap ⟨(_,()),j.symm,?_⟩;try dsimp only
         exact AS
       ·rintro⟨X,_⟩ c;try dsimp only at c
        have H:=q;rw[c]at H;try dsimp only
        refine wSE (sT (sT (sT (wN ?_))));have k:=Ac.1 H;repeat(first|refine abN ?_|refine asN ?_)
        refine Ap ⟨_,(),k.symm,?_⟩;try dsimp only
        exact AS
      ·have H:=AE b H;refine Ay ?_;repeat(first|refine BC ?_|refine exO (by decide) ?_|refine asE ?_)
       refine exN ?_;have k:=o _ (Ac.1 H).symm;repeat(first|refine abN ?_|refine asN ?_)
       refine Ap ⟨(_,()),k.symm,?_⟩;try dsimp only
       exact AS
    ·rintro⟨Y,_⟩ d;try dsimp only at d
     have H:=s;rw[d]at H;try dsimp only
     refine wSE (sT (sT ?_));refine sA ?_ (AT.max2 V (As Iu) (As GB)) (Ar (Ao Gp));refine sT (wN ?_);refine E _ ?_;refine nT ?_;refine wSE (sT (sT (sT (wN ?_))));have G:=Ac.1 H;repeat(first|refine abN ?_|refine asN ?_)
     refine Ap ⟨_,(),G.symm,?_⟩;try dsimp only
     exact AS
   ·have H:=AE i H;refine Ay ?_;repeat(first|refine BC ?_|refine exO (by decide) ?_|refine asE ?_)
    refine exN ?_;have G:=L _ (Ac.1 H).symm;repeat(first|refine abN ?_|refine asN ?_)
    refine Ap ⟨(_,()),G.symm,?_⟩;try dsimp only
    exact leC (Cut.dead (Cut.nil _))
 ·rintro⟨n6,_⟩ m;try dsimp only at m
  have H:=N;rw[m]at H;try dsimp only
  refine wS (sT (sT (wN ?_)));obtain rfl:=Ac.1 H;exact Aw ⟨.inr V,aT V⟩
def FV(a:bA)(c:bA):Int->M (Int⊕((Unit)⊕(Bool))):=λb=>aY (aC (b < (a.at_.length:Int))) (aX (Ch a.at_ b) (aX (Ch c.at_ b) (aY ((ixD a.at_ b) !=(ixD c.at_ b)) (a6 (.inr (.inr aA))) (a6 (.inl (aD.wrap (b+1))))))) (a6 (.inr (.inl ())))
def JG(a:bA)(b:bA):M Bool:=aY (((a.leaf !=b.leaf)||(a.slots !=b.slots))||((a.at_.length:Int) !=(b.at_.length:Int))) (a6 aA) (M.els (aZ (FV a b) 0) λ_=>a6 aB)
theorem QP{a:bA}{e:bA}(H:(JG a e).to r):Fn aE 10 [.agg (Cy a),.agg (Cy e)] (.lit (.bool r)):=by
 delta JG at H;try dsimp only at H
 refine AR Tryz.func10 V (by kernel_rfl) V Tryz.ntmps10 λC B=>?_
 simp only[Nat.reduceAdd,Nat.reduceSub,zaa];refine wS (sB (sB (sT (wN ?_))));refine Ab λu k=>?_
 refine wS (sT (sT (sT (sT ?_))));refine sA ?_ (Mf V GB (Aq FG) V) (Ao Kf);refine sT ?_;refine sGf V ?_;refine sGf V ?_;refine sGf V ?_;refine sGf V ?_;refine sGf V (sT (sT ?_));refine sGf V ?_;refine sGf V ?_;refine sGf V ?_;refine sGf V ?_;refine sGf V ?_;refine sGf V ?_;refine sGf V (sT (wN ?_));refine Ah V (λd=>?_) (λd=>?_)
 ·have H:=AC d H;refine wS (sT (wN ?_));obtain rfl:=Ac.1 H;exact Aw ⟨.inr V,aT V⟩
 ·have H:=AE d H;refine Al ?_;refine k _ ?_;refine nT ?_;obtain⟨v,o,n,m⟩:=Cz H;refine Bh (β:=(Unit)×(Unit)) (λq=>v= .inl q.1) (λq=>⟨A40 (A5 []),[.dead,.dead]⟩) ?_ ?_
  ·refine wS (sT (wN ?_));refine Ad ?_;refine Bu o (λw D=>⟨A2 (.ptr 0 0::.ptr 1 0::.any::.lit (.int .i64 w)::A20 (A10 (A9 []))),[.box (Cy a),.box (Cy e)]⟩) () (?_) ?_
   ·try dsimp only
    exact AS
   ·rintro A _ z H h;try dsimp only
    dsimp only[FV]at H;refine Ab λt j=>?_
    refine wS (sT (sT (sT (sT (sT (wN ?_))))));refine Ah V (λc=>?_) (λc=>?_)
    ·have H:=AC c H;refine Al ?_;refine j _ ?_;refine nT ?_;refine Ab λs i=>?_
     refine Ad ?_;obtain⟨y,H⟩:=Aj.1 H;obtain⟨x,H⟩:=Aj.1 H;refine dS 11 (hq:=?_);refine qT (qT (qT (qX y (qT (qT (qT (qT (qX x (qT (qT (qN ?_)))))))))));refine wN ?_;refine Ah V (λb=>?_) (λb=>?_)
     ·have H:=AC b H;refine wS (sT (wN ?_));have H:=Ac.2 (m _ (h _ (Ac.1 H).symm).symm);obtain rfl:=Ac.1 H;exact Aw ⟨.inr V,aT V⟩
     ·have H:=AE b H;refine Al ?_;refine i _ ?_;refine nT ?_;refine wSE (sT (sT (sT (wN ?_))));have l:=Ac.1 H;repeat(first|refine abN ?_|refine asN ?_)
      refine Ap ⟨_,(),l.symm,?_⟩;try dsimp only
      exact AS
    ·have H:=AE c H;refine Ay ?_;repeat(first|refine BC ?_|refine exO (by decide) ?_|refine asE ?_)
     refine exN ?_;have l:=h _ (Ac.1 H).symm;repeat(first|refine abN ?_|refine asN ?_)
     refine Ap ⟨(_,()),l.symm,?_⟩;try dsimp only
     exact leC (Cut.dead (Cut.dead (Cut.nil _)))
  ·rintro⟨_,_⟩ g;try dsimp only at g
   have H:=n _ g;try dsimp only
   refine wS (sT (wN ?_));obtain rfl:=Ac.1 H;exact Aw ⟨.inr V,aT V⟩
def Hf(args:Int)(regs:Int)(l:List Ins):M aV:=aX (LH ⟨⟨#[]⟩,l⟩) (a6 ⟨⟨#[]⟩,args,regs,[⟨⟨#[]⟩,l⟩]⟩)
theorem H8{args:Int}{regs:Int}{l:List Ins}{r:aV}(H:(Hf args regs l).to r):Fn aE 21 [.lit (.int .i64 args),.lit (.int .i64 regs),.bs Eh l] (.agg (Ak r)):=by
 delta Hf at H;try dsimp only at H
 refine J3 Tryz.func21 V (by kernel_rfl) V (by kernel_rfl:Rn aE 24=some (aB,4)) Tryz.ntmps21 λC d=>?_
 simp only[Nat.reduceAdd,Nat.reduceSub,zaa];refine wS (sA0 (wN ?_));obtain⟨c,H⟩:=Aj.1 H;refine wS (sT (sT (sT ?_)));refine sA ?_ (BO (rs:=[.lit (.string ⟨#[]⟩),.bs Eh l]) V Aos V V) (Ao Kf);refine sA ?_ (AT.lt (xs:=[.tmp 10]) (T:=Cv) (ds:=[⟨⟨#[]⟩,l⟩]) V V V (by rfl) (by decide) (.cons (Agn c) .nil)) (Ao IR);refine sA ?_ (BO (rs:=[.lit (.string ⟨#[]⟩),.lit (.int .i64 args),.lit (.int .i64 regs),.bs Cv [⟨⟨#[]⟩,l⟩]]) V Atj V V) (Ao JB);refine sW (wN ?_);obtain rfl:=Ac.1 H;exact Aw ⟨⟨.inr V,0,_,rfl,rfl,aT V⟩,λi cells b a=>by cases b;cases a;rfl⟩
def LS(n:Int):(Int×(List Ins))->M ((Int×(List Ins))⊕((List Ins))):=λ(i1,l3)=>aY (aC (i1 < n)) (aX (E6 ⟨0,i1,0,0,0,0,[],0,0⟩) (aX (Fj (l3.length+([⟨0,i1,0,0,0,0,[],0,0⟩]:List Ins).length) 88) (a6 (.inl (aD.wrap (i1+1),l3++([⟨0,i1,0,0,0,0,[],0,0⟩]:List Ins)))))) (a6 (.inr l3))
def Ki(n:Int):(Int×(List Ins))->M ((Int×(List Ins))⊕((List Ins))):=λ(i14,l16)=>aY (aC (i14 < n)) (aX (E6 ⟨6,0,i14,0,0,0,[],0,0⟩) (aX (Fj (l16.length+([⟨6,0,i14,0,0,0,[],0,0⟩]:List Ins).length) 88) (a6 (.inl (aD.wrap (i14+1),l16++([⟨6,0,i14,0,0,0,[],0,0⟩]:List Ins)))))) (a6 (.inr l16))
def He(n:Int):M aV:=aW (aZ (LS n) (0,([]:List Ins))) λc=>aX (E6 ⟨7,0,0,0,0,0,[],0,0⟩) (aX (Fj (c.length+([⟨7,0,0,0,0,0,[],0,0⟩]:List Ins).length) 88) (aW (aZ (Ki n) (0,c++([⟨7,0,0,0,0,0,[],0,0⟩]:List Ins))) λa=>aX (E6 ⟨10,0,0,0,0,0,[],0,0⟩) (aX (Fj (a.length+([⟨10,0,0,0,0,0,[],0,0⟩]:List Ins).length) 88) (aW (Hf 0 n (a++([⟨10,0,0,0,0,0,[],0,0⟩]:List Ins))) λb=>a6 b))))
theorem Nk{n:Int}{r:aV}(H:(He n).to r):Fn aE 22 [.lit (.int .i64 n)] (.agg (Ak r)):=by
 delta He at H;try dsimp only at H
 refine J3 Tryz.func22 V (by kernel_rfl) V (by kernel_rfl:Rn aE 24=some (aB,4)) Tryz.ntmps22 λC hC=>?_
 simp only[Nat.reduceAdd,Nat.reduceSub,zaa];refine wS (sA0 (wN ?_));refine wS (sT (wN ?_));refine AJ _ (EA 3 47 Eh V (by decide)) ?_;obtain⟨Z,P,O⟩:=An.1 H;refine Bh (β:=((List Ins))×(Nat)) (λk=>Z=k.1) (λk=>⟨.lit (.int .i64 n)::.any::.ptr 0 0::.own 1 k.2::A20 (A10 (A2 [])),[.box [.lit (.string ⟨#[]⟩),.lit (.int .i64 0),.lit (.int .i64 0),.lit (.slice none 0 0)],.row k.2 47 Eh k.1]⟩) ?_ ?_
 ·refine wS (sT (wN ?_));refine Ad ?_;refine Bu P (λS W=>⟨.lit (.int .i64 n)::.any::.ptr 0 0::.own 1 W::.lit (.int .i64 S.1)::A20 (A10 [.any]),[.box [.lit (.string ⟨#[]⟩),.lit (.int .i64 0),.lit (.int .i64 0),.lit (.slice none 0 0)],.row W 47 Eh S.2]⟩) 0 (?_) ?_
  ·try dsimp only
   exact AS
  ·rintro⟨U,l3⟩ Q x4 H N;try dsimp only
   dsimp only[LS]at H;refine Ab λY y=>?_
   refine wS (sT (sT (sT (wN ?_))));refine Ah V (λe=>?_) (λe=>?_)
   ·have H:=AC e H;refine Al ?_;refine y _ ?_;refine nT ?_;refine Ab λX x=>?_
    refine Ad ?_;obtain⟨J,H⟩:=Aj.1 H;obtain⟨I,H⟩:=Aj.1 H;refine wSE (sT (sT ?_));refine sA ?_ (BO (rs:=[.lit (.int .u8 0),.lit (.int .i64 U),.lit (.int .i64 0),.lit (.int .i64 0),.lit (.int .u32 0),.lit (.int .i64 0),.lit (.slice none 0 0),.lit (.int .i64 0),.lit (.int .i64 0)]) V Ql V V) (Ao Gl);refine sA (hq:=AT.lt (xs:=[.tmp 13]) (T:=Eh) (ds:=[⟨0,U,0,0,0,0,[],0,0⟩]) V V V (by rfl) (by decide) (.cons (aU (PS (.cons (.refl _) (.cons (.refl _) (.cons (.refl _) (.cons (.refl _) (.cons (.refl _) (.cons (.refl _) (.cons (.nil _) (.cons (.refl _) (.cons (.refl _) .nil)))))))))) (GO J)) .nil)) (ht:=(Ao HT)) (hk:=?_);refine sP I (sT (wN ?_));refine x _ ?_;refine nT ?_;refine wSE (sT (sT (sT (wN ?_))));have z:=Ac.1 H;repeat(first|refine abN ?_|refine asN ?_)
    refine Ap ⟨_,Q+1,z.symm,?_⟩;try dsimp only
    exact AS
   ·have H:=AE e H;refine Ay ?_;repeat(first|refine BC ?_|refine exO (by decide) ?_|refine asE ?_)
    refine exN ?_;have z:=N _ (Ac.1 H).symm;repeat(first|refine abN ?_|refine asN ?_)
    refine Ap ⟨(_,Q),z.symm,?_⟩;try dsimp only
    exact AS
 ·rintro⟨l6,v5⟩ m;try dsimp only at m
  have H:=O;rw[m]at H;try dsimp only
  obtain⟨G,H⟩:=Aj.1 H;obtain⟨F,H⟩:=Aj.1 H;refine wS (sT ?_);refine sA ?_ (BO (rs:=[.lit (.int .u8 7),.lit (.int .i64 0),.lit (.int .i64 0),.lit (.int .i64 0),.lit (.int .u32 0),.lit (.int .i64 0),.lit (.slice none 0 0),.lit (.int .i64 0),.lit (.int .i64 0)]) V Ql V V) (Ao (Ao Iz));refine sA (hq:=AT.lt (xs:=[.tmp 17]) (T:=Eh) (ds:=[⟨7,0,0,0,0,0,[],0,0⟩]) V V V (by rfl) (by decide) (.cons (aU (PS (.cons (.refl _) (.cons (.refl _) (.cons (.refl _) (.cons (.refl _) (.cons (.refl _) (.cons (.refl _) (.cons (.nil _) (.cons (.refl _) (.cons (.refl _) .nil)))))))))) (GO G)) .nil)) (ht:=(Ao (Ao Kf))) (hk:=?_);refine sP F (sT (wN ?_));obtain⟨w,v,u⟩:=An.1 H;refine Bh (β:=((List Ins))×(Nat)) (λa=>w=a.1) (λa=>⟨.lit (.int .i64 n)::.any::.ptr 0 0::.own 1 a.2::A20 (A10 (A2 [])),[.box [.lit (.string ⟨#[]⟩),.lit (.int .i64 0),.lit (.int .i64 0),.lit (.slice none 0 0)],.row a.2 47 Eh a.1]⟩) ?_ ?_
  ·refine wS (sT (wN ?_));refine Ad ?_;refine Bu v (λj s=>⟨.lit (.int .i64 n)::.any::.ptr 0 0::.own 1 s::.any::.lit (.int .i64 j.1)::A20 (A10 []),[.box [.lit (.string ⟨#[]⟩),.lit (.int .i64 0),.lit (.int .i64 0),.lit (.slice none 0 0)],.row s 47 Eh j.2]⟩) (v5+1) (?_) ?_
   ·try dsimp only
    exact AS
   ·rintro⟨l,ae⟩ h aa H t;try dsimp only
    dsimp only[Ki]at H;refine Ab λL q=>?_
    refine wS (sT (sT (sT (wN ?_))));refine Ah V (λb=>?_) (λb=>?_)
    ·have H:=AC b H;refine Al ?_;refine q _ ?_;refine nT ?_;refine Ab λK o=>?_
     refine Ad ?_;obtain⟨E,H⟩:=Aj.1 H;obtain⟨D,H⟩:=Aj.1 H;refine wSE (sT (sT ?_));refine sA ?_ (BO (rs:=[.lit (.int .u8 6),.lit (.int .i64 0),.lit (.int .i64 l),.lit (.int .i64 0),.lit (.int .u32 0),.lit (.int .i64 0),.lit (.slice none 0 0),.lit (.int .i64 0),.lit (.int .i64 0)]) V Ql V V) (Ao (Ao (Ao IR)));refine sA (hq:=AT.lt (xs:=[.tmp 27]) (T:=Eh) (ds:=[⟨6,0,l,0,0,0,[],0,0⟩]) V V V (by rfl) (by decide) (.cons (aU (PS (.cons (.refl _) (.cons (.refl _) (.cons (.refl _) (.cons (.refl _) (.cons (.refl _) (.cons (.refl _) (.cons (.nil _) (.cons (.refl _) (.cons (.refl _) .nil)))))))))) (GO E)) .nil)) (ht:=(Ao (Ao (Ao JB)))) (hk:=?_);refine sP D (sT (wN ?_));refine o _ ?_;refine nT ?_;refine wSE (sT (sT (sT (wN ?_))));have g:=Ac.1 H;repeat(first|refine abN ?_|refine asN ?_)
     refine Ap ⟨_,h+1,g.symm,?_⟩;try dsimp only
     exact AS
    ·have H:=AE b H;refine Ay ?_;repeat(first|refine BC ?_|refine exO (by decide) ?_|refine asE ?_)
     refine exN ?_;have g:=t _ (Ac.1 H).symm;repeat(first|refine abN ?_|refine asN ?_)
     refine Ap ⟨(_,h),g.symm,?_⟩;try dsimp only
     exact AS
  ·rintro⟨ad,ab⟩ c;try dsimp only at c
   have H:=u;rw[c]at H;try dsimp only
   obtain⟨B,H⟩:=Aj.1 H;obtain⟨A,H⟩:=Aj.1 H;obtain⟨ac,d,H⟩:=An.1 H;have d:=H8 d;refine wS (sT (sT ?_));refine sA ?_ (BO (rs:=[.lit (.int .u8 10),.lit (.int .i64 0),.lit (.int .i64 0),.lit (.int .i64 0),.lit (.int .u32 0),.lit (.int .i64 0),.lit (.slice none 0 0),.lit (.int .i64 0),.lit (.int .i64 0)]) V Ql V V) (Ar Gp);refine sA (hq:=AT.lt (xs:=[.tmp 32]) (T:=Eh) (ds:=[⟨10,0,0,0,0,0,[],0,0⟩]) V V V (by rfl) (by decide) (.cons (aU (PS (.cons (.refl _) (.cons (.refl _) (.cons (.refl _) (.cons (.refl _) (.cons (.refl _) (.cons (.refl _) (.cons (.nil _) (.cons (.refl _) (.cons (.refl _) .nil)))))))))) (GO B)) .nil)) (ht:=(Ar Iz)) (hk:=?_);refine sP A ?_;refine JZ V (YY hC 1 V (by(simp only[fzH,Eg,AV.fz,ABlk.fz,aL,aM,Nat.reduceEqDiff,zal,zag];first|done|exact V)) (by(simp only[fzH,Eg,AV.fz,ABlk.fz,aL,aM,Nat.reduceEqDiff,zal,zag];first|done|exact V))) ?_;refine sC d (sW (wN ?_));obtain rfl:=Ac.1 H;exact Aw ⟨⟨.inr V,0,_,rfl,rfl,aT V⟩,λi cells e1 e2=>by cases e1;cases e2;rfl⟩
def EG:M Bool:=aX (E6 ⟨1,2,0,1,0,0,[],0,0⟩) (aX (E6 ⟨10,0,2,0,0,0,[],0,0⟩) (aW (Hf 2 3 [⟨1,2,0,1,0,0,[],0,0⟩,⟨10,0,2,0,0,0,[],0,0⟩]) λr3=>aX (E6 ⟨5,1,0,0,0,0,[0],0,0⟩) (aX (E6 ⟨1,1,1,0,0,0,[],0,0⟩) (aX (E6 ⟨10,0,1,0,0,0,[],0,0⟩) (aW (Hf 1 2 [⟨5,1,0,0,0,0,[0],0,0⟩,⟨1,1,1,0,0,0,[],0,0⟩,⟨10,0,1,0,0,0,[],0,0⟩]) λm=>aW (Cu r3) λa=>aW (Cu m) λc=>aW (He 22) λl=>aW (Cu l) λb=>aX (E6 ⟨0,1,0,0,0,0,[],0,0⟩) (aW (Hf 0 1 [⟨0,1,0,0,0,0,[],0,0⟩]) λk=>aW (Cu k) λh=>aY (((((a.2 !=0)||(c.2 !=0))||(b.2 !=0))||((a.1.at_.length:Int) !=3))||((c.1.at_.length:Int) !=2)) (a6 aA) (aX (!(a.1.leaf&&(a.1.slots ==0))||(Ch a.1.at_ 0)) (aX (!(a.1.leaf&&(a.1.slots ==0))||(Ch a.1.at_ 1)) (aW (a8 ((a.1.leaf&&(a.1.slots ==0))&&((ixD a.1.at_ 0) !=(ixD a.1.at_ 1))) aA (E5 r3 a.1)) λd=>aX (!((((a.1.leaf&&(a.1.slots ==0))&&((ixD a.1.at_ 0) !=(ixD a.1.at_ 1)))&&d)&&(!c.1.leaf))||(Ch c.1.at_ 0)) (aW (a8 ((((a.1.leaf&&(a.1.slots ==0))&&((ixD a.1.at_ 0) !=(ixD a.1.at_ 1)))&&d)&&(!c.1.leaf)) aA (Rl (ixD c.1.at_ 0))) λe=>aX (!(((((a.1.leaf&&(a.1.slots ==0))&&((ixD a.1.at_ 0) !=(ixD a.1.at_ 1)))&&d)&&(!c.1.leaf))&&e)||(Ch c.1.at_ 0)) (aW (a8 ((((((((a.1.leaf&&(a.1.slots ==0))&&((ixD a.1.at_ 0) !=(ixD a.1.at_ 1)))&&d)&&(!c.1.leaf))&&e)&&(aC ((ixD c.1.at_ 0) < 32)))&&(!b.1.leaf))&&(b.1.slots ==8)) ⟨⟨#[]⟩,0,0,[]⟩ (He 22)) λj=>aW (a8 ((((((((a.1.leaf&&(a.1.slots ==0))&&((ixD a.1.at_ 0) !=(ixD a.1.at_ 1)))&&d)&&(!c.1.leaf))&&e)&&(aC ((ixD c.1.at_ 0) < 32)))&&(!b.1.leaf))&&(b.1.slots ==8)) aA (E5 j b.1)) λg=>aW (a8 ((((((((((a.1.leaf&&(a.1.slots ==0))&&((ixD a.1.at_ 0) !=(ixD a.1.at_ 1)))&&d)&&(!c.1.leaf))&&e)&&(aC ((ixD c.1.at_ 0) < 32)))&&(!b.1.leaf))&&(b.1.slots ==8))&&g)&&(h.2 ==2)) aA (Hm r3)) λi=>a6 (((((((((((a.1.leaf&&(a.1.slots ==0))&&((ixD a.1.at_ 0) !=(ixD a.1.at_ 1)))&&d)&&(!c.1.leaf))&&e)&&(aC ((ixD c.1.at_ 0) < 32)))&&(!b.1.leaf))&&(b.1.slots ==8))&&g)&&(h.2 ==2))&&i))))))))))))
theorem I6(H:(EG).to r):Fn aE 8 [] (.lit (.bool r)):=by
 delta EG at H;try dsimp only at H
 refine AR Tryz.func8 V (by kernel_rfl) V Tryz.ntmps8 λC W=>?_
 simp only[Nat.reduceAdd,Nat.reduceSub,zaa];refine wS (sT (wN ?_));obtain⟨S,H⟩:=Aj.1 H;obtain⟨Q,H⟩:=Aj.1 H;obtain⟨r3,u,H⟩:=An.1 H;have u:=H8 u;refine wS ?_;refine sA ?_ (BO (rs:=[.lit (.int .u8 1),.lit (.int .i64 2),.lit (.int .i64 0),.lit (.int .i64 1),.lit (.int .u32 0),.lit (.int .i64 0),.lit (.slice none 0 0),.lit (.int .i64 0),.lit (.int .i64 0)]) V Ql V V) (Ao IR);refine sA ?_ (BO (rs:=[.lit (.int .u8 10),.lit (.int .i64 0),.lit (.int .i64 2),.lit (.int .i64 0),.lit (.int .u32 0),.lit (.int .i64 0),.lit (.slice none 0 0),.lit (.int .i64 0),.lit (.int .i64 0)]) V Ql V V) (Ao JB);refine sA (hq:=AT.lt (xs:=[.tmp 11,.tmp 12]) (T:=Eh) (ds:=[⟨1,2,0,1,0,0,[],0,0⟩,⟨10,0,2,0,0,0,[],0,0⟩]) V V V (by rfl) (by decide) (.cons (aU (PS (.cons (.refl _) (.cons (.refl _) (.cons (.refl _) (.cons (.refl _) (.cons (.refl _) (.cons (.refl _) (.cons (.nil _) (.cons (.refl _) (.cons (.refl _) .nil)))))))))) (GO S)) (.cons (aU (PS (.cons (.refl _) (.cons (.refl _) (.cons (.refl _) (.cons (.refl _) (.cons (.refl _) (.cons (.refl _) (.cons (.nil _) (.cons (.refl _) (.cons (.refl _) .nil)))))))))) (GO Q)) .nil))) (ht:=(Ao Gl)) (hk:=?_);refine sC u (sA0 (sW (wN ?_)));obtain⟨P,H⟩:=Aj.1 H;obtain⟨O,H⟩:=Aj.1 H;obtain⟨N,H⟩:=Aj.1 H;obtain⟨U,t,H⟩:=An.1 H;have t:=H8 t;refine wS ?_;refine sA ?_ (AT.lt (xs:=[.const (.int .i64 0)]) (T:=tInt) (ds:=[0]) V V V (by rfl) (by decide) (.cons (Fit.int (Acn (by decide))) .nil)) (Ao G3);refine sA ?_ (BO (rs:=[.lit (.int .u8 5),.lit (.int .i64 1),.lit (.int .i64 0),.lit (.int .i64 0),.lit (.int .u32 0),.lit (.int .i64 0),.bs tInt [0],.lit (.int .i64 0),.lit (.int .i64 0)]) V Ql V V) (Ao (Ao Gp));refine sA ?_ (BO (rs:=[.lit (.int .u8 1),.lit (.int .i64 1),.lit (.int .i64 1),.lit (.int .i64 0),.lit (.int .u32 0),.lit (.int .i64 0),.lit (.slice none 0 0),.lit (.int .i64 0),.lit (.int .i64 0)]) V Ql V V) (Ao (Ao Iz));refine sA ?_ (BO (rs:=[.lit (.int .u8 10),.lit (.int .i64 0),.lit (.int .i64 1),.lit (.int .i64 0),.lit (.int .u32 0),.lit (.int .i64 0),.lit (.slice none 0 0),.lit (.int .i64 0),.lit (.int .i64 0)]) V Ql V V) (Ao (Ao Kf));refine sA (hq:=AT.lt (xs:=[.tmp 16,.tmp 17,.tmp 18]) (T:=Eh) (ds:=[⟨5,1,0,0,0,0,[0],0,0⟩,⟨1,1,1,0,0,0,[],0,0⟩,⟨10,0,1,0,0,0,[],0,0⟩]) V V V (by rfl) (by decide) (.cons (GO P) (.cons (aU (PS (.cons (.refl _) (.cons (.refl _) (.cons (.refl _) (.cons (.refl _) (.cons (.refl _) (.cons (.refl _) (.cons (.nil _) (.cons (.refl _) (.cons (.refl _) .nil)))))))))) (GO O)) (.cons (aU (PS (.cons (.refl _) (.cons (.refl _) (.cons (.refl _) (.cons (.refl _) (.cons (.refl _) (.cons (.refl _) (.cons (.nil _) (.cons (.refl _) (.cons (.refl _) .nil)))))))))) (GO N)) .nil)))) (ht:=(Ao (Ao IR))) (hk:=?_);refine sC t (sA0 (sW (wN ?_)));obtain⟨a,s,H⟩:=An.1 H;have s:=CM s;refine wS (sT (sC s (sT (sT (sT (sA0 (sW (sT (wN ?_)))))))));obtain⟨d,q,H⟩:=An.1 H;have q:=CM q;refine wS (sT (sC q (sT (sT (sT (sA0 (sW (sT (wN ?_)))))))));obtain⟨L,l,H⟩:=An.1 H;have l:=Nk l;obtain⟨b,k,H⟩:=An.1 H;have k:=CM k;refine wS (sC l (sC k (sT (sT (sT (sA0 (sW (sT (wN ?_)))))))));obtain⟨F,H⟩:=Aj.1 H;obtain⟨K,j,H⟩:=An.1 H;have j:=H8 j;obtain⟨n,i,H⟩:=An.1 H;have i:=CM i;refine wS ?_;refine sA ?_ (BO (rs:=[.lit (.int .u8 0),.lit (.int .i64 1),.lit (.int .i64 0),.lit (.int .i64 0),.lit (.int .u32 0),.lit (.int .i64 0),.lit (.slice none 0 0),.lit (.int .i64 0),.lit (.int .i64 0)]) V Ql V V) (Ar Gl);refine sA (hq:=AT.lt (xs:=[.tmp 37]) (T:=Eh) (ds:=[⟨0,1,0,0,0,0,[],0,0⟩]) V V V (by rfl) (by decide) (.cons (aU (PS (.cons (.refl _) (.cons (.refl _) (.cons (.refl _) (.cons (.refl _) (.cons (.refl _) (.cons (.refl _) (.cons (.nil _) (.cons (.refl _) (.cons (.refl _) .nil)))))))))) (GO F)) .nil)) (ht:=(Ar HT)) (hk:=?_);refine sC j (sC i (sT (sT (sT (sA0 (sW (sT (wN ?_))))))));refine Ab λG o=>?_
 refine wS (sT (sT (sT ?_)));refine sGf V ?_;refine sGf V (sT (sT ?_));refine sGf V ?_;refine sGf V (sT (sT ?_));refine sGf V ?_;refine sGf V ?_;refine sGf V ?_;refine sGf V (sT (sT ?_));refine sGf V ?_;refine sGf V ?_;refine sGf V ?_;refine sGf V (sT (wN ?_));refine Ah V (λh=>?_) (λh=>?_)
 ·have H:=AC h H;refine wS (sT (wN ?_));obtain rfl:=Ac.1 H;exact Aw ⟨.inr V,aT V⟩
 ·have H:=AE h H;refine Al ?_;refine o _ ?_;refine nT ?_;obtain⟨E,H⟩:=Aj.1 H;obtain⟨D,H⟩:=Aj.1 H;obtain⟨c,z,H⟩:=An.1 H;obtain⟨B,H⟩:=Aj.1 H;obtain⟨e,y,H⟩:=An.1 H;obtain⟨A,H⟩:=Aj.1 H;obtain⟨J,x,H⟩:=An.1 H;obtain⟨m,w,H⟩:=An.1 H;obtain⟨I,v,H⟩:=An.1 H
  (try simp only[List.append_eq,List.cons_append,List.nil_append])
  refine dS 66 (hq:=?_);refine qT (qT (qT ?_));refine qGt V ?_;refine qGt V ?_;refine qGt V (qT (qT ?_));refine qGt V ?_;refine qGt V ?_;refine Aq6 V E ?_;refine qGt V ?_;refine qGt V ?_;refine qGt V ?_;refine Aq6 V D ?_;refine qGt V ?_;refine qGt V (qT (qT ?_));refine qG (g:=((a.1.leaf&&(a.1.slots ==0))&&((ixD a.1.at_ 0) !=(ixD a.1.at_ 1)))) (hg:=Kj V) (hq:=λhg=>AO V FG V V) (ht:=(Ar (Ar (Ao (Ao JB))))) ?_;refine qG (g:=((a.1.leaf&&(a.1.slots ==0))&&((ixD a.1.at_ 0) !=(ixD a.1.at_ 1)))) (hg:=Kj V) (hq:=λhg=>AO V FF V V) (ht:=(Ar (Ar (Ao (Ao Gl))))) ?_;refine qG (g:=((a.1.leaf&&(a.1.slots ==0))&&((ixD a.1.at_ 0) !=(ixD a.1.at_ 1)))) (hg:=Kj V) (hq:=λhg=>by((try simp only[BG hg]);(try simp only[Mn hg]);exact AM V V (KC (a7 z hg)) V V)) (ht:=(Ar (Ar (Ao (Ao HT))))) ?_;refine qT (qT ?_);refine qGt V ?_;refine qGt V ?_;refine qGt V (qT (qT ?_));refine qGt V ?_;refine qGt V ?_;refine Aq6 V B ?_;refine qGt V ?_;refine qG (g:=((((a.1.leaf&&(a.1.slots ==0))&&((ixD a.1.at_ 0) !=(ixD a.1.at_ 1)))&&c)&&(!d.1.leaf))) (hg:=Kj V) (hq:=λhg=>by((try simp only[BG hg]);(try simp only[Mn hg]);exact AM V V (U6 (a7 y hg)) V V)) (ht:=(Ar (Ar (Ar Kf)))) (hk:=?_);refine qT (qT ?_);refine qGt V ?_;refine qGt V ?_;refine Aq6 V A ?_;refine qGt V ?_;refine qGt V (qT (qT ?_));refine qGt V ?_;refine qGt V ?_;refine qGt V (qT (qT ?_));refine qGt V ?_;refine qGt V ?_;refine qGt V (qT (qT ?_));refine qG (g:=((((((((a.1.leaf&&(a.1.slots ==0))&&((ixD a.1.at_ 0) !=(ixD a.1.at_ 1)))&&c)&&(!d.1.leaf))&&e)&&(aC ((ixD d.1.at_ 0) < 32)))&&(!b.1.leaf))&&(b.1.slots ==8))) (hg:=Kj V) (hq:=λhg=>by((try simp only[BG hg]);(try simp only[Mn hg]);exact AM V V (Nk (a7 x hg)) V V)) (ht:=(Ar (Ar (Ar (Ao (Ao HT)))))) (hk:=?_);refine qG (g:=((((((((a.1.leaf&&(a.1.slots ==0))&&((ixD a.1.at_ 0) !=(ixD a.1.at_ 1)))&&c)&&(!d.1.leaf))&&e)&&(aC ((ixD d.1.at_ 0) < 32)))&&(!b.1.leaf))&&(b.1.slots ==8))) (hg:=Kj V) (hq:=λhg=>AO V GB V V) (ht:=(Ar (Ar (Ar (Ao (Ao G3)))))) (hk:=?_);refine qG (g:=((((((((a.1.leaf&&(a.1.slots ==0))&&((ixD a.1.at_ 0) !=(ixD a.1.at_ 1)))&&c)&&(!d.1.leaf))&&e)&&(aC ((ixD d.1.at_ 0) < 32)))&&(!b.1.leaf))&&(b.1.slots ==8))) (hg:=Kj V) (hq:=λhg=>by((try simp only[BG hg]);(try simp only[Mn hg]);exact AM V V (KC (a7 w hg)) V V)) (ht:=(Ar (Ar (Ar (Ao (Ao (Ao Gp))))))) (hk:=?_);refine qT (qT ?_);refine qGt V ?_;refine qGt V (qT (qT ?_));refine qG (g:=((((((((((a.1.leaf&&(a.1.slots ==0))&&((ixD a.1.at_ 0) !=(ixD a.1.at_ 1)))&&c)&&(!d.1.leaf))&&e)&&(aC ((ixD d.1.at_ 0) < 32)))&&(!b.1.leaf))&&(b.1.slots ==8))&&m)&&(n.2 ==2))) (hg:=Kj V) (hq:=λhg=>AO V FG V V) (ht:=(Ar (Ar (Ar (Ao (Ao (Ao G3))))))) (hk:=?_);refine qG (g:=((((((((((a.1.leaf&&(a.1.slots ==0))&&((ixD a.1.at_ 0) !=(ixD a.1.at_ 1)))&&c)&&(!d.1.leaf))&&e)&&(aC ((ixD d.1.at_ 0) < 32)))&&(!b.1.leaf))&&(b.1.slots ==8))&&m)&&(n.2 ==2))) (hg:=Kj V) (hq:=λhg=>by((try simp only[BG hg]);(try simp only[Mn hg]);exact AM V V (Nq (a7 v hg)) V V)) (ht:=(Ar (Ar (Ar (Ar Gp))))) (hk:=?_);refine qT (qT (qN (wN ?_)));obtain rfl:=Ac.1 H;exact Aw ⟨.inr V,aT V⟩
def DA(f:aV):M Bool:=aW (OT f) λr2=>aY (r2||(aC (f.regs > 5000))) (aW EG λr4=>a6 r4) (aW (Cu f) λa=>aW (Cu f) λe=>aW (JG a.1 e.1) λg=>aW (a8 (!((!g)||(a.2 !=e.2))) aA (Hm f)) λm=>aW (a8 (!((!g)||(a.2 !=e.2))) aA (KD f)) λl=>aY (((!g)||(a.2 !=e.2))||(m !=l)) (a6 aA) (aW (KD f) λk=>aY (!k) (aW (a8 (a.2 ==2) aA (JG a.1 ⟨aA,0,[]⟩)) λd=>aW (a8 ((a.2 ==2)&&d) aA EG) λj=>a6 (((a.2 ==2)&&d)&&j)) (aW (G6 f) λb=>aW (a8 (aC (b < 7)) aA (Lu f)) λi=>aY ((((aC (b < 7))&&i)&&(!a.1.leaf))||((aC (b < 14))&&(a.1.slots !=0))) (a6 aA) (aW (a8 (a.2 ==0) aA (E5 f a.1)) λc=>aW (a8 ((a.2 ==0)&&c) aA EG) λh=>a6 (((a.2 ==0)&&c)&&h)))))
theorem KK(H:(DA f).to r):Fn aE 3 [.agg (Ak f)] (.lit (.bool r)):=by
 delta DA at H;try dsimp only at H
 refine AR Tryz.func3 V (by kernel_rfl) V Tryz.ntmps3 λC W=>?_
 simp only[Nat.reduceAdd,Nat.reduceSub,zaa];refine wS (sB (sT (wN ?_)));refine Ab λN I=>?_
 obtain⟨r2,A,H⟩:=An.1 H;have A:=We A;refine wS (sT (sC A (sT ?_)));refine sGf V ?_;refine sGf V ?_;refine sGf V (sT (wN ?_));refine Ah V (λk=>?_) (λk=>?_)
 ·have H:=AC k H;obtain⟨r4,x,H⟩:=An.1 H;have x:=I6 x;refine wS (sC x (sT (wN ?_)));obtain rfl:=Ac.1 H;exact Aw ⟨.inr V,aT V⟩
 ·have H:=AE k H;refine Al ?_;refine I _ ?_;refine nT ?_;obtain⟨b,w,H⟩:=An.1 H;have w:=CM w;refine wS (sT (sC w (sT (sT (sT (sA0 (sW (sT (wN ?_)))))))));obtain⟨m,v,H⟩:=An.1 H;have v:=CM v;refine wS (sT (sC v (sT (sT (sT (sA0 (sW (sT (wN ?_)))))))));refine Ab λL G=>?_
  obtain⟨l,u,H⟩:=An.1 H;have u:=QP u;obtain⟨U,T,H⟩:=An.1 H;obtain⟨S,F,H⟩:=An.1 H;refine dS 16 (hq:=?_);refine qT (qT (qC u (qT (qT ?_))));refine qGf V ?_;refine qGf V ?_;refine qGf V (qT (qT ?_));refine qG (g:=(!((!l)||(b.2 !=m.2)))) (hg:=WG V) (hq:=λhg=>AO V FG V V) (ht:=(Ar JB)) ?_;refine qG (g:=(!((!l)||(b.2 !=m.2)))) (hg:=WG V) (hq:=λhg=>by((try simp only[BG hg]);(try simp only[Mn hg]);exact AM V V (Nq (a7 T hg)) V V)) (ht:=(Ar Gl)) ?_;refine qG (g:=(!((!l)||(b.2 !=m.2)))) (hg:=WG V) (hq:=λhg=>AO V FG V V) (ht:=(Ar HT)) ?_;refine qG (g:=(!((!l)||(b.2 !=m.2)))) (hg:=WG V) (hq:=λhg=>by((try simp only[BG hg]);(try simp only[Mn hg]);exact AM V V (OR (a7 F hg)) V V)) (ht:=(Ar G3)) ?_;refine qG (g:=(!((!l)||(b.2 !=m.2)))) (hg:=WG V) (hq:=λhg=>Mf V ((As Fr).trans (BG hg _ _)) ((As GB).trans (BG hg _ _)) V) (ht:=(Ar (Ao Gp))) ?_;refine qT (qN (wN ?_));refine Ah V (λe=>?_) (λe=>?_)
  ·have H:=AC e H;refine wS (sT (wN ?_));obtain rfl:=Ac.1 H;exact Aw ⟨.inr V,aT V⟩
  ·have H:=AE e H;refine Al ?_;refine G _ ?_;refine nT ?_;refine Ab λK o=>?_
   obtain⟨Q,j,H⟩:=An.1 H;have j:=OR j;refine wS (sT (sC j (sT (wN ?_))));refine Ah V (λd=>?_) (λd=>?_)
   ·have H:=AC d H;obtain⟨t,E,H⟩:=An.1 H;obtain⟨P,D,H⟩:=An.1 H;refine wS (sT (sT (sT ?_)));refine sG (g:=(b.2 ==2)) (hg:=Kj V) (hq:=λhg=>AO V FF V V) (ht:=(Ar (Ao (Ao Gp)))) ?_;refine sG (g:=(b.2 ==2)) (hg:=Kj V) (hq:=λhg=>BO (rs:=[.lit (.bool aA),.lit (.int .i64 0),.lit (.slice none 0 0)]) V Aer V V) (ht:=(Ar (Ao (Ao Iz)))) ?_;refine sG (g:=(b.2 ==2)) (hg:=Kj V) (hq:=λhg=>by((try simp only[BG hg]);(try simp only[Mn hg]);exact Xu V V (.cons (.refl _) (.cons (PS (.cons (.refl _) (.cons (.refl _) (.cons (.nil _) .nil)))) .nil)) (QP (a7 E hg)) V V)) (ht:=(Ar (Ao (Ao Kf)))) (hk:=?_);refine sT (sT ?_);refine sG (g:=((b.2 ==2)&&t)) (hg:=Kj V) (hq:=λhg=>by((try simp only[BG hg]);(try simp only[Mn hg]);exact AM V V (I6 (a7 D hg)) V V)) (ht:=(Ar (Ao (Ao Gl)))) ?_;refine sT (sT (wN ?_));obtain rfl:=Ac.1 H;exact Aw ⟨.inr V,aT V⟩
   ·have H:=AE d H;refine Al ?_;refine o _ ?_;refine nT ?_;obtain⟨a,i,H⟩:=An.1 H;have i:=TD i;refine wS (sT (sC i (sT (wN ?_))));refine Ab λJ n=>?_
    obtain⟨h,B,H⟩:=An.1 H;refine wS (sT (sT (sT ?_)));refine sG (g:=(aC (a < 7))) (hg:=Kj V) (hq:=λhg=>AO V FG V V) (ht:=(Ar (Ao (Ao (Ao JB))))) ?_;refine sG (g:=(aC (a < 7))) (hg:=Kj V) (hq:=λhg=>by((try simp only[BG hg]);(try simp only[Mn hg]);exact AM V V (QR (a7 B hg)) V V)) (ht:=(Ar (Ao (Ao (Ao Gl))))) ?_;refine sT (sT ?_);refine sGt V ?_;refine sGt V ?_;refine sGt V (sT (sT ?_));refine sGf V ?_;refine sGf V ?_;refine sGf V ?_;refine sG (g:=((!(((aC (a < 7))&&h)&&(!b.1.leaf)))&&(aC (a < 14)))) (hg:=Jf V V) (hq:=λhg=>by(have q:=Ga hg;exact Br V FF V)) (ht:=(Ar (Ar (Ao Gp)))) (hk:=?_);refine sG (g:=((!(((aC (a < 7))&&h)&&(!b.1.leaf)))&&(aC (a < 14)))) (hg:=Jf V V) (hq:=λhg=>by(have q:=Ga hg;exact Bf V ((As (As (Aq Je))).trans (BG hg _ _)) V V)) (ht:=(Ar (Ar (Ao Iz)))) (hk:=?_);refine sG (g:=((!(((aC (a < 7))&&h)&&(!b.1.leaf)))&&(aC (a < 14)))) (hg:=Jf V V) (hq:=λhg=>by(have q:=Ga hg;exact CD V ((As (As (Aq FG))).trans (BG hg _ _)) Ys V)) (ht:=(Ar (Ar (Ao Kf)))) (hk:=?_);refine sG (g:=(!(((aC (a < 7))&&h)&&(!b.1.leaf)))) (hg:=WG V) (hq:=λhg=>C8 V ((As (As GB)).trans (BG hg _ _)) ((As (As (Aq Gi))).trans (Mn hg _ _)) Ys) (ht:=(Ar (Ar (Ao IR)))) (hk:=?_);refine sT (wN ?_);refine Ah V (λc=>?_) (λc=>?_)
    ·have H:=AC c H;refine wS (sT (wN ?_));obtain rfl:=Ac.1 H;exact Aw ⟨.inr V,aT V⟩
    ·have H:=AE c H;refine Al ?_;refine n _ ?_;refine nT ?_;obtain⟨s,z,H⟩:=An.1 H;obtain⟨O,y,H⟩:=An.1 H;refine wS (sT (sT (sT ?_)));refine sG (g:=(b.2 ==0)) (hg:=Kj V) (hq:=λhg=>AO V FG V V) (ht:=(Ar (Ar (Ao (Ao Gp))))) ?_;refine sG (g:=(b.2 ==0)) (hg:=Kj V) (hq:=λhg=>AO V FF V V) (ht:=(Ar (Ar (Ao (Ao Iz))))) ?_;refine sG (g:=(b.2 ==0)) (hg:=Kj V) (hq:=λhg=>by((try simp only[BG hg]);(try simp only[Mn hg]);exact AM V V (KC (a7 z hg)) V V)) (ht:=(Ar (Ar (Ao (Ao Kf))))) ?_;refine sT (sT ?_);refine sG (g:=((b.2 ==0)&&s)) (hg:=Kj V) (hq:=λhg=>by((try simp only[BG hg]);(try simp only[Mn hg]);exact AM V V (I6 (a7 y hg)) V V)) (ht:=(Ar (Ar (Ao (Ao Gl))))) ?_;refine sT (sT (wN ?_));obtain rfl:=Ac.1 H;exact Aw ⟨.inr V,aT V⟩
end
end Mu
namespace Mu
open Go Go.RowKit Go.Proofs Go.Maps
variable{f:aV}{r:Int}
def Aah:aV:=⟨⟨#[]⟩,2,3,[⟨⟨#[]⟩,[⟨1,2,0,1,0,0,[],0,0⟩,⟨10,0,2,0,0,0,[],0,0⟩]⟩]⟩
def WL:aV:=⟨⟨#[]⟩,1,2,[⟨⟨#[]⟩,[⟨5,1,0,0,0,0,[0],0,0⟩,⟨1,1,1,0,0,0,[],0,0⟩,⟨10,0,1,0,0,0,[],0,0⟩]⟩]⟩
def Qf:aV:=⟨⟨#[]⟩,0,22,[⟨⟨#[]⟩,((aR 22).map λ(i:Nat)=>(⟨0,(i:Int),0,0,0,0,[],0,0⟩:Ins))++⟨7,0,0,0,0,0,[],0,0⟩::(((aR 22).map λ(i:Nat)=>(⟨6,0,(i:Int),0,0,0,[],0,0⟩:Ins))++[⟨10,0,0,0,0,0,[],0,0⟩])⟩]⟩
def Axf:aV:=⟨⟨#[]⟩,0,1,[⟨⟨#[]⟩,[⟨0,1,0,0,0,0,[],0,0⟩]⟩]⟩
theorem SW:(He 22).to Qf:=⟨40,by kernel_rfl⟩
structure Fit22(f:Func):Prop where
 c:NQ f=true
 b:Dw.bulk f<=2097152
 g:CV f=false
theorem Ayu:Fit22 Aah:=⟨by decide+kernel,by decide+kernel,by decide+kernel⟩
theorem Azw:Fit22 WL:=⟨by decide+kernel,by decide+kernel,by decide+kernel⟩
theorem Aze:Fit22 Qf:=⟨by decide+kernel,by decide+kernel,by decide+kernel⟩
theorem Azv:Fit22 Axf:=⟨by decide+kernel,by decide+kernel,by decide+kernel⟩
theorem Atg:regsB Aah= [0,1,2]:=by rw[<-G5];decide+kernel
theorem Amm:regsB WL= [0,1]:=by rw[<-G5];decide+kernel
theorem Ayp:regsB Axf= [1]:=by rw[<-G5];decide+kernel
theorem Aon:regsB Qf=(aR 22).map λ(i:Nat)=>(i:Int):=by rw[<-G5];decide+kernel
theorem Ail:IB Aah=aB/\leaf Aah.blocks=aB/\regsB Aah= [0,1,2]/\(⟨0,1⟩:Pair)∈De Aah:=by unfold IB;rw[Atg];decide+kernel
theorem Azy:∀x∈regsB Aah,partN Aah x < 7:=by unfold partN;rw[Atg];decide+kernel
theorem Aq7:IB WL=aB/\leaf WL.blocks=aA/\regsB WL= [0,1]/\(Ci WL).contains 0=aB:=by unfold IB;rw[Amm];decide+kernel
theorem Azx:∀x∈regsB WL,partN WL x < 14:=by unfold partN;rw[Amm];decide+kernel
theorem Azt:IB Axf=aA:=by unfold IB;rw[Ayp];decide+kernel
theorem Ax0:IB Qf=aB/\leaf Qf.blocks=aA:=by unfold IB;rw[Aon];decide+kernel
theorem Anr:Ci Qf=(aR 22).map λ(i:Nat)=>(i:Int):=by decide+kernel
theorem Axh:∀b∈aR 22,∀a∈aR b,(⟨(a:Int),(b:Int)⟩:Pair)∈De Qf:=by decide+kernel
theorem Atp:∀y∈BD [0] 0 aA,Akj y=aB/\y < 32:=by decide
theorem To{p:bA}(a:p.at_.length<=5000):(JG p p).to aB:=by
 unfold JG;refine AA (by simp) ?_;have h:=Q6 (step:=FV p p) (p:=λ_=>aA) (v:=aA) (n:=p.at_.length) (λk hk=>?_) ?_
 ·have h2:=Aqm (d:=aB) h;rw[show((aR p.at_.length).any λ_=>aA)=aA by simp]at h2;exact h2
 ·unfold FV;rw[w23 hk (by omega)];exact AI (decide_eq_true (by omega)) (Ae (LX hk) (Ae (LX hk) (AA (by simp) (Ag _))))
 ·unfold FV;exact AA (decide_eq_false (by omega)) (Ag _)
theorem ColOK.p{r:bA×Int}(H:ColOK f r)(a:IB f=aB):RightP f r.1:=(Tu H.wf).1 (H.right a)
theorem Akb(a:IB f=aB):0<=f.regs/\f.regs<=4096:=by
 unfold IB Aj4 at a;simp only[zan]at a;omega
theorem ColOK.len{r:bA×Int}(H:ColOK f r):r.1.at_.length<=4096:=by
 cases a:IB f with
 |false=>rw[H.no a];exact bD _
 |true=>
  have h1:=(H.p a).len;have h2:=Akb a;omega
theorem Fit22.col(h:Fit22 f):(Cu f).to (Ns f)/\ColOK f (Ns f):=UW (BJ.1 h.c) h.b h.g
theorem Fit22.right(h:Fit22 f){p:bA}(a:∀x∈p.at_,Cl x)(b:p.at_.length<=4096):(E5 f p).to (Fp f p):=QM (BJ.1 h.c) h.b a (by omega) (by have:=JE h.g;omega)
theorem RightP.val{p:bA}(H:RightP f p)(a:r∈regsB f):∃x,p.at_[r.toNat]? =some x/\ixD p.at_ r=x/\Ch p.at_ r=aB/\(x∈BD (Ci f) r p.leaf\/(32<=x/\x < 32+p.slots)):=by
 obtain⟨h1,h2⟩:=Afe H.may a;have b:=H.len;obtain⟨x,hx⟩:∃x,p.at_[r.toNat]? =some x:=⟨_,aI (by omega)⟩
 have e:((r.toNat:Nat):Int)=r:=by omega
 refine⟨x,hx,?_,?_,?_⟩
 ·rw[<-e];exact B7 hx
 ·exact BP.2 ⟨h1,by omega⟩
 ·have:=H.reg r.toNat x hx (by rw[e];exact a);rw[e]at this;exact this
theorem Y7(H:RightP Qf (Ns Qf).1)(t:ColOK Qf (Ns Qf)):(Ns Qf).1.leaf=aA/\(Ns Qf).1.slots=8:=by
 obtain⟨p,q⟩:∃p,p=(Ns Qf).1:=⟨_,rfl⟩
 have a:=t.many;rw[<-q]at H a⊢;have g:p.leaf=aA:=by
  cases e:p.leaf with
  |false=>rfl
  |true=>have:=(H.lf e).1;rw[Ax0.2]at this;cases this
 refine⟨g,?_⟩;have l:p.at_.length=22:=by
  have h:=H.len;have e:Qf.regs=22:=rfl;rw[e]at h;omega
 have d:∀j:Nat,j < 22->(j:Int)∈regsB Qf:=λj b=>by rw[Aon];exact aO.2 ⟨j,aP.2 b,rfl⟩
 have m:p.at_.Nodup:=by
  rw[List.Nodup,List.pairwise_iff_getElem];intro i j hi b n e;have u:=Axh j (aP.2 (by omega)) i (aP.2 n);refine H.apart _ u ?_;show ixD p.at_ (i:Int)=ixD p.at_ (j:Int);rw[B7 (aI hi),B7 (aI b),e]
 have c:∀x∈p.at_,x∈BD (Ci Qf) 0 aA++NI p:=λx hx=>by
  obtain⟨j,b⟩:=aN.1 hx;have s:=(aJ.1 b).1;rcases H.reg j x b (d j (by omega))with h|h
  ·rw[g]at h;have e:BD (Ci Qf) (j:Int) aA=BD (Ci Qf) 0 aA:=by
    have h1:∀k:Nat,k < 22->(Ci Qf).contains (k:Int)=aB:=λk hk=>by rw[Anr];exact List.contains_iff_mem.2 (aO.2 ⟨k,aP.2 hk,rfl⟩)
    rw[Dh,Dh,h1 j (by omega),show(0:Int)=((0:Nat):Int)from V,h1 0 (by omega)]
   rw[e]at h;exact List.mem_append_left _ h
  ·exact List.mem_append_right _ ((Lk H.pos).2 h)
 have h1:=Dc m c;have h2:(BD (Ci Qf) 0 aA).length=14:=by
  rw[Anr];decide
 have y:(NI p).length=p.slots.toNat:=by simp[NI]
 rw[aK,h2,y,l]at h1;have w:(regsB Qf).length=22:=by rw[Aon];rfl
 have o:=H.pos;have v:=a (by omega);rw[w]at v;omega
theorem Pp:EG.to aB:=by
 obtain⟨D,c⟩:=Ayu.col;obtain⟨C,k⟩:=Azw.col;obtain⟨A,b⟩:=Aze.col;obtain⟨B,E⟩:=Azv.col;have d:=c.p Ail.1;have i:=k.p Aq7.1;have g:=b.p Ax0.1;have U:=c.err Ail.1;have v:=c.lf Ail.1 Ail.2.1 Azy;have T:=(d.lf v).2;obtain⟨X,I,K,n,_⟩:=d.val (r:=0) (by rw[Ail.2.2.1];decide);obtain⟨W,H,J,m,_⟩:=d.val (r:=1) (by rw[Ail.2.2.1];decide);have S:((ixD (Ns Aah).1.at_ 0) !=(ixD (Ns Aah).1.at_ 1))=aB:=by
  have:=d.apart _ Ail.2.2.2;simpa using this
 have Q:((Ns Aah).1.at_.length:Int)=3:=d.len;have P:=k.err Aq7.1;have u:(Ns WL).1.leaf=aA:=by
  cases e:(Ns WL).1.leaf with
  |false=>rfl
  |true=>have:=(i.lf e).1;rw[Aq7.2.1]at this;cases this
 have O:=k.few Aq7.1 Azx;have N:((Ns WL).1.at_.length:Int)=2:=i.len;obtain⟨w,G,o,l,j⟩:=i.val (r:=0) (by rw[Aq7.2.2.1];decide);have t:Akj (ixD (Ns WL).1.at_ 0)=aB/\aC ((ixD (Ns WL).1.at_ 0) < 32)=aB:=by
  rw[o];rcases j with h|h
  ·rw[u]at h;have e:BD (Ci WL) 0 aA=BD [0] 0 aA:=by rw[Dh,Dh,Aq7.2.2.2];rfl
   rw[e]at h;have:=Atp w h;exact⟨this.1,decide_eq_true this.2⟩
  ·rw[O]at h;omega
 have z:=b.err Ax0.1;obtain⟨y,x⟩:=Y7 g b;have L:(Ns Axf).2=2:=by rw[E.no Azt]
 have s:=Ayu.right c.wf c.len;rw[c.right Ail.1]at s;have q:=Aze.right b.wf b.len;rw[b.right Ax0.1]at q;have F:(Hm Aah).to aB:=by
  refine Ae (by rw[Ayu.c,Ail.2.2.1];rfl) ?_;rw[Ail.1];exact Ag _
 unfold EG;refine Ae V (Ae V (Am (a:=Aah) (Ae (by kernel_rfl) (Ag _)) (Ae V (Ae V (Ae V (Am (a:=WL) (Ae (by kernel_rfl) (Ag _)) (Am D (Am C (Am SW (Am A (Ae V (Am (a:=Axf) (Ae (by kernel_rfl) (Ag _)) (Am B ?_)))))))))))));simp only[U,v,T,S,Q,P,u,t.2,N,z,y,x,L,n,m,l];refine AA V (Ae V (Ae V (Am (BB V s) (Ae V (Am (a:=aB) (BB V (Ac.2 t.1)) (Ae V (Am (BB V SW) (Am (BB V q) (Am (BB V F) (Ag _))))))))))
theorem Z6(c:FineF f):(OT f).to (CV f):=Ae (BJ.2 c) (Ag _)
def wideK(f:aV)(k:Nat):Nat:=((regsB f).take k).foldl (λn r=>max n (partN f r)) 0
theorem QD{k:Nat}(h:(regsB f)[k]? =some r):wideK f (k+1)=max (wideK f k) (partN f r):=by
 unfold wideK;rw[aS,h,List.foldl_append];rfl
theorem XB(f:aV):∀k,k<=(regsB f).length->∀j r,j < k->(regsB f)[j]? =some r->partN f r<=wideK f k
 |0,_,j,r,a,_=>by omega
 |k+1,hk,j,r,a,h=>by
  obtain⟨q,hq⟩:∃q,(regsB f)[k]? =some q:=⟨_,aI (by omega)⟩
  rw[QD hq];by_cases e:j=k
  ·subst e;rw[hq]at h;cases h;omega
  ·have:=XB f k (by omega) j r (by omega) h;omega
def partK(f:aV)(r:Int)(j:Nat):Nat:=(((regsB f).take j).filter λy=>Eq f r y).length
theorem ZD{q:Int}{j:Nat}(h:(regsB f)[j]? =some q):partK f r (j+1)=partK f r j+(if Eq f r q then 1 else 0):=by
 unfold partK;rw[aS,h,List.filter_append,aK];cases e:Eq f r q <;> simp[e]
theorem Ajt(f:aV)(r:Int)(j:Nat):partK f r j<=j:=by
 unfold partK;refine bC (List.length_filter_le _ _) ?_;rw[List.length_take];omega
theorem Acl(c:FineF f)(i:(regsB f).length<=1000000):(G6 f).to (wideK f (regsB f).length:Int):=by
 unfold G6;refine Am (a:=regsB f) (Ae (BJ.2 c) (Ag _)) (Am (a:=Oi f) (Ae (BJ.2 c) (Ag _)) (Am ?_ (Ag _)));refine BN (λk:Nat=>((wideK f k:Int),(k:Int))) (regsB f).length (λk hk=>?_) ?_ (bD _)
 ·obtain⟨r,d⟩:∃r,(regsB f)[k]? =some r:=⟨_,aI hk⟩
  simp only[Fw];refine AI (decide_eq_true (by omega)) (Am (a:=(partN f r:Int)) ?_ ?_)
  ·have e:(partN f r:Int)=(partK f r (regsB f).length:Int):=by unfold partN partK;rw[List.take_length]
   rw[e];refine BN (λj:Nat=>((partK f r j:Int),(j:Int))) (regsB f).length (λj b=>?_) ?_ (bD _)
   ·obtain⟨q,hq⟩:∃q,(regsB f)[j]? =some q:=⟨_,aI b⟩
    have g:=Ajt f r j;simp only[EX];refine AI (decide_eq_true (by omega)) (Am (a:=(partK f r (j+1):Int)) (Ae (LX hk) (Ae (LX b) (Am (TU c _ _) ?_))) ?_)
    ·rw[B7 d,B7 hq,ZD hq];cases h:Eq f r q with
     |true=>
      refine AI V (Ac.2 ?_);rw[IntWalk.i64_in _ (by omega)];simp
     |false=>exact AA V (Ac.2 (by simp))
    ·rw[w23 b (by omega)];exact Ag _
   ·simp only[EX];exact AA (decide_eq_false (by omega)) (Ag _)
  ·rw[w23 hk (by omega),QD d];refine Ac.2 ?_;congr 2;split <;> omega
 ·simp only[Fw];exact AA (decide_eq_false (by omega)) (Ag _)
theorem Qs(c:FineF f)(d:Dw.bulk f<=2097152):(DA f).to aB:=by
 unfold DA;refine Am (Z6 c) ?_;cases hg:(CV f||decide (f.regs > 5000))with
 |true=>exact AI V (Am Pp (Ag _))
 |false=>
  rw[Bool.or_eq_false_iff]at hg;obtain⟨g,_⟩:=hg;have v:=JE g;obtain⟨t,H⟩:=UW c d g;have q:=To (p:=(Ns f).1) (by have:=H.len;omega);have i:(Hm f).to (IB f):=Ae (by rw[BJ.2 c,decide_eq_true (by omega:(regsB f).length<=2147483648)];rfl) (Ag _);have e:=Yf c (by omega);refine AA V (Am t (Am t (Am q (Am (BB (by simp) i) (Am (BB (by simp) e) (AA (by simp) (Am e ?_)))))));cases h:IB f with
  |false=>
   rw[H.no h];exact AI V (Am (BB V (To (bD _))) (Am (BB V Pp) (Ag _)))
  |true=>
   have h2:=H.err h;have a:∀x∈regsB f,partN f x<=wideK f (regsB f).length:=λx hx=>by
    obtain⟨j,m⟩:=aN.1 hx;exact XB f _ (bB _) j x (aJ.1 m).1 m
   have n:=QM (p:=(Ns f).1) c d H.wf (by have:=H.len;omega) (by omega);rw[H.right h]at n;refine AA V (Am (Acl c (by omega)) ?_);have o:(((aC ((wideK f (regsB f).length:Int) < 7))&&leaf f.blocks)&&(!(Ns f).1.leaf))=aA:=by
    cases h1:aC ((wideK f (regsB f).length:Int) < 7)with
    |false=>rfl
    |true=>
     cases u:leaf f.blocks with
     |false=>rfl
     |true=>
      have h1:=of_decide_eq_true h1;rw[H.lf h u λx hx=>by have:=a x hx;omega];rfl
   have l:((aC ((wideK f (regsB f).length:Int) < 14))&&((Ns f).1.slots !=0))=aA:=by
    cases h1:aC ((wideK f (regsB f).length:Int) < 14)with
    |false=>rfl
    |true=>
     have h1:=of_decide_eq_true h1;rw[H.few h λx hx=>by have:=a x hx;omega];rfl
   obtain⟨b,s,k⟩:∃b,(a8 (aC ((wideK f (regsB f).length:Int) < 7)) aA (Lu f)).to b/\(((aC ((wideK f (regsB f).length:Int) < 7))&&b)&&(!(Ns f).1.leaf))=aA:=by
    cases h1:aC ((wideK f (regsB f).length:Int) < 7)with
    |false=>exact⟨aA,M.whn_f V,rfl⟩
    |true=>exact⟨leaf f.blocks,BB V (Ae (by rw[BJ.2 c,decide_eq_true d];rfl) (Ag _)),by rw[h1]at o;exact o⟩
   refine Am s (AA (by rw[k,l];rfl) ?_);rw[h2];exact Am (BB V n) (Am (BB V Pp) (Ag _))
theorem Qt(f:aV)(b:okFunc f)(a:Dw.bulk f<=2097152):Fn aE 3 [.agg (Ak f)] (.lit (.bool aB)):=KK (Qs (Ago b a) a)
end Mu
namespace Mu
open Go Go.RowKit Go.ChangeShapes Go.WideShapes Go.Proofs
variable{H:Type}{W:World}{d:DataW H}{enc:TypeId×Value->H}{p:List MemPlace}{t:TypeId}{v:Value}
theorem Akh:laidOutB aE=aB:=by kernel_rfl
mutual
theorem Ahe{H:Type}:∀d:DataW H,F8 d<=aF d
 | .lit (.string _)=>bB _
 | .lit (.bool _)=>bB _
 | .lit (.int _ _)=>bB _
 | .lit (.float _ _)=>bB _
 | .lit .nil=>bB _
 | .nil=>bB _
 | .ptr d=>by show 1<=aF d+1;omega
 | .slice e s=>by
  have h1:=Oe e;have h2:=Oe s;show F8.go e+F8.go s+1<=aG e+aG s+1;omega
 | .agg p=>by
  have h1:=Oe p;show F8.go p+1<=aG p+1;omega
 | .iface _ d=>by show 1<=aF d+1;omega
 | .map m=>by show 1<=aH m+1;omega
 | .held _=>bB _
theorem Oe{H:Type}:∀l:List (DataW H),F8.go l<=aG l
 | []=>bB _
 |d::r=>by
  have h1:=Ahe d;have h2:=Oe r;show F8 d+F8.go r<=aF d+aG r;omega
end
theorem Aev{c:Type}{T:Ty c}(g:Opens aE t T)(l:1 < T.size)
 (h:DataW.Trod enc aE W 0 (λ_=>aB) aB t v d p)(e:∀x∈p,x.block < W.heap.size):
 ∃cs x,v= .agg cs.toArray/\T.R W W.heap.size cs x/\T.bulk x<=aF d:=by
 obtain⟨a,j⟩:=h;obtain⟨x,b,k⟩:=g.go H enc W 0 _ aB a _ (d,p) W.heap.size j e;have i:=T.len b;refine⟨v.cells.toList,x,?_,b,bC k (Ahe d)⟩;cases v <;> first
  |(simp[Value.cells]at i;omega)
  |simp[Value.cells]
theorem stays{W':World}(a:aE.readableRec t=aB)(ht:t < aE.types.size)
 (h:DataW.Trod enc aE W 0 (λ_=>aB) aB t v d p)(e:Below W.heap.size W W')(c:∀x∈p,x.block < W.heap.size):
 DataW.Trod enc aE W' 0 (λb=>decide (b < W.heap.size)) aB t v d p:=Below.trod Akh a ht h e c
end Mu
namespace Mu
open Go Go.RowKit Go.Proofs
end Mu
