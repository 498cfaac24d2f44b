/-
  muntinlaw22.ColourRight: what it asks beside ColourTells.
  Conditions: as each theorem says.
-/
import Derived.Test.YtnhheaffnpflfaaGreatCt6
set_option maxRecDepth 100000
set_option maxHeartbeats 4000000
set_option linter.unusedSimpArgs false
set_option linter.unusedVariables false
namespace Mu
section
open Go Go.RowKit Go.ChangeShapes Go.WideShapes Go.Proofs
variable{P:Program}{C:Ctx}{o:Oper}{t:List AV}{h:List ABlk}
theorem AAu{xt yt:TypeId}{x y:Operand}{a b q:Bool}[BoolT P xt](ho:o.op= .binOp .neq xt x y yt)(hx:evA t x= .lit (.bool a))(hy:evA t y= .lit (.bool b))(hq:(a !=b)=q):AT P C t h o (.lit (.bool q)):=
 AL fun S ψ w ρ _ hρ=>by
  have h1:=hρ x (by simp[ho,Op.operands]);have h2:=hρ y (by simp[ho,Op.operands]);rw[hx]at h1;rw[hy]at h2;unfold AV.rel at h1 h2;refine⟨.bool (a !=b),?_,by rw[hq];unfold AV.rel;rfl⟩;simp[execOp,ho,h1,h2,eqGuard,binOp,run_equal_bool _ _ _ _ (BoolT.eq (P:=P) (ty:=xt)),bne]
end
section
open Go Go.RowKit Go.Proofs
variable{P:Program}{C:Ctx}{t t':List AV}{h h':List ABlk}{o:Oper}
theorem AA1{f:FuncId}{args:Array Operand}{tys:Array TypeId}{xs xs':List AV}{r:AV}
 (ho:o.op= .call {callee:=.value (.func f),args:=args,argTypes:=tys}) (hx:args.toList.map (evA t)=xs') (hu:UpL xs' xs) (hF:Fn P f xs r) (hc:Bh xs'=true) (hr:AV.cl r=true):AT P C t h o r:=
 AT.call ho ⟨hF.1,fun w S vs hS hv=>hF.2 w S vs hS (hu.rel hv)⟩ hx hc hr
end
noncomputable section
open Go Go.RowKit Go.Proofs
def AAo(f:Func)(r1:List Int)(r2:List (List (List Int)))(i4:Int):(Int×Int)→M ((Int×Int)⊕Int):=fun(k10,j11)=>M.cnd (decide (j11 < (r1.length:Int))) (M.bnd (M.chk (Cm r1 i4) (M.chk (Cm r1 j11) (M.bnd (Lt f r2 (ixD r1 i4) (ixD r1 j11)) fun r20=>M.cnd r20 (M.ok (IntKind.i64.wrap (k10+1))) (M.ok k10)))) fun k16=>M.ok (.inl (k16,IntKind.i64.wrap (j11+1)))) (M.ok (.inr k10))
end
noncomputable section
open Go Go.RowKit Go.Proofs
def AAp(f:Func)(r1:List Int)(r2:List (List (List Int))):(Int×Int)→M ((Int×Int)⊕Int):=fun(n3,i4)=>M.cnd (decide (i4 < (r1.length:Int))) (M.bnd (M.loop (AAo f r1 r2 i4) (0,0)) fun k13=>M.ok (.inl ((if k13 > n3 then k13 else n3),IntKind.i64.wrap (i4+1)))) (M.ok (.inr n3))
end
noncomputable section
open Go Go.RowKit Go.Proofs
def AAr(f:Func):M Int:=M.bnd (NZ f) fun r1=>M.bnd (Ael f) fun r2=>M.bnd (M.loop (AAp f r1 r2) (0,0)) fun n6=>M.ok n6
end
noncomputable section
open Go Go.RowKit Go.Proofs
theorem AA0{f:Func}{r:Int}(H:(AAr f).to r):Fn Tryz.prog 13 [.agg (Ak f)] (.lit (.int .i64 r)):=by
 delta AAr at H;try dsimp only at H
 refine AQ Tryz.func13 rfl (by kernel_rfl) rfl Tryz.ntmps13 fun C hC=>?_
 simp only[List.length_cons,List.length_nil,Nat.reduceAdd,Nat.reduceSub,List.replicate_succ,List.replicate_zero,List.cons_append,List.nil_append];refine wS (sB (sT (wN ?_)));obtain⟨r1,k1,H⟩:=Aq.1 H;have k1:=QR k1;obtain⟨r2,k2,H⟩:=Aq.1 H;have k2:=Aek k2;refine dS 6 (hq:=?_);refine qT (qC k1 (qT (qC k2 (qT (qT (qN (wN ?_)))))));refine wS (sT (wN ?_));obtain⟨z5,HX5,Hl5⟩:=Aq.1 H;refine Bn (β:=(Int)×(Unit)) (fun q5=>z5=q5.1) (fun q5=>⟨A5 (.lit (.int .i64 q5.1)::A20 (A10 (A6 []))),[.dead]⟩) ?_ ?_
 ·refine wS (sT (wN ?_));refine Ac ?_;refine BB HX5 (fun s5 b5=>⟨.any::.ptr 0 0::.any::.bs tInt r1::.bs tInt.slice.slice r2::.lit (.int .i64 s5.1)::.lit (.int .i64 s5.2)::A20 (A10 (A5 [])),[.box (Ak f)]⟩) () (?_) ?_
  ·try dsimp only
   exact AS
  ·rintro⟨n3,i4⟩ _ x5 H Hr5;try dsimp only
   dsimp only[AAp]at H;refine Ab fun Khs7 hs7=>?_
   refine wS (sT (sT (sT (sT (wN ?_)))));refine Ag rfl (fun hb8=>?_) (fun hb8=>?_)
   ·have H:=AN hb8 H;refine Al ?_;refine hs7 _ ?_;refine nT ?_;refine Ab fun Khs9 hs9=>?_
    refine Ac ?_;refine wS (sT (wN ?_));obtain⟨z12,HX12,Hl12⟩:=Aq.1 H;refine Bn (β:=(Int)×(Unit)) (fun q12=>z12=q12.1) (fun q12=>⟨.any::.ptr 0 0::.any::.bs tInt r1::.bs tInt.slice.slice r2::.lit (.int .i64 n3)::.lit (.int .i64 i4)::.lit (.int .i64 q12.1)::A20 (A10 (A4 [])),[.box (Ak f)]⟩) ?_ ?_
    ·refine wS (sT (wN ?_));refine Ac ?_;refine BB HX12 (fun s12 b12=>⟨.any::.ptr 0 0::.any::.bs tInt r1::.bs tInt.slice.slice r2::.lit (.int .i64 n3)::.lit (.int .i64 i4)::.lit (.int .i64 s12.1)::.lit (.int .i64 s12.2)::A20 (A10 (A3 [])),[.box (Ak f)]⟩) () (?_) ?_
     ·try dsimp only
      exact AS
     ·rintro⟨k10,j11⟩ _ x12 H Hr12;try dsimp only
      dsimp only[AAo]at H;refine Ab fun Khs14 hs14=>?_
      refine wS (sT (sT (sT (sT (wN ?_)))));refine Ag rfl (fun hb15=>?_) (fun hb15=>?_)
      ·have H:=AN hb15 H;refine Al ?_;refine hs14 _ ?_;refine nT ?_;obtain⟨z17,HX17,Hl17⟩:=Aq.1 H;refine Bn (β:=(Int)×(Unit)) (fun q17=>z17=q17.1) (fun q17=>⟨.any::.ptr 0 0::.any::.bs tInt r1::.bs tInt.slice.slice r2::.lit (.int .i64 n3)::.lit (.int .i64 i4)::.lit (.int .i64 q17.1)::.lit (.int .i64 j11)::A20 (A10 (A3 [])),[.box (Ak f)]⟩) ?_ ?_
       ·have H:=HX17;refine Ac ?_;obtain⟨c18,H⟩:=Ah.1 H;obtain⟨c19,H⟩:=Ah.1 H;obtain⟨r20,k20,H⟩:=Aq.1 H;have k20:=ZA k20;refine dS 11 (hq:=?_);refine qT (qT (qT (qT (qX c18 (qT (qT (qT (qX c19 (qT (qC k20 (qN ?_)))))))))));refine wN ?_;refine Ag rfl (fun hb21=>?_) (fun hb21=>?_)
        ·have H:=AN hb21 H;refine wSE (sT (sT (sT (wN ?_))));have e17:=Ad.1 H;repeat(first|refine abN ?_|refine asN ?_)
         refine An ⟨(_,()),e17.symm,?_⟩;try dsimp only
         exact AS
        ·have H:=AO hb21 H;refine Al ?_;have e17:=Ad.1 H;repeat(first|refine abN ?_|refine asN ?_)
         refine An ⟨(_,()),e17.symm,?_⟩;try dsimp only
         exact AS
       ·rintro⟨k16,_⟩ hz17;try dsimp only at hz17
        have H:=Hl17;rw[hz17]at H;try dsimp only
        refine wSE (sT (sT (sT (wN ?_))));have e12:=Ad.1 H;repeat(first|refine abN ?_|refine asN ?_)
        refine An ⟨_,(),e12.symm,?_⟩;try dsimp only
        exact AS
      ·have H:=AO hb15 H;refine Ay ?_;repeat(first|refine BG ?_|refine exO (by decide) ?_|refine asE ?_)
       refine exN ?_;have e12:=Hr12 _ (Ad.1 H).symm;repeat(first|refine abN ?_|refine asN ?_)
       refine An ⟨(_,()),e12.symm,?_⟩;try dsimp only
       exact AS
    ·rintro⟨k13,_⟩ hz12;try dsimp only at hz12
     have H:=Hl12;rw[hz12]at H;try dsimp only
     refine wSE (sT (sT ?_));refine sA ?_ (AT.max2 rfl (As Iy) (As Hd)) (Ar (Ap HU));refine sT (wN ?_);refine hs9 _ ?_;refine nT ?_;refine wSE (sT (sT (sT (wN ?_))));have e5:=Ad.1 H;repeat(first|refine abN ?_|refine asN ?_)
     refine An ⟨_,(),e5.symm,?_⟩;try dsimp only
     exact AS
   ·have H:=AO hb8 H;refine Ay ?_;repeat(first|refine BG ?_|refine exO (by decide) ?_|refine asE ?_)
    refine exN ?_;have e5:=Hr5 _ (Ad.1 H).symm;repeat(first|refine abN ?_|refine asN ?_)
    refine An ⟨(_,()),e5.symm,?_⟩;try dsimp only
    exact leC (Cut.dead (Cut.nil _))
 ·rintro⟨n6,_⟩ hz5;try dsimp only at hz5
  have H:=Hl5;rw[hz5]at H;try dsimp only
  refine wS (sT (sT (wN ?_)));obtain rfl:=Ad.1 H;exact Aw ⟨.inr rfl,Fin.cl rfl⟩
end
noncomputable section
open Go Go.RowKit Go.Proofs
def AAq(a:Plan)(bP1:Plan):Int→M (Int⊕((Unit)⊕(Bool))):=fun i3=>M.cnd (decide (i3 < (a.at_.length:Int))) (M.chk (Cm a.at_ i3) (M.chk (Cm bP1.at_ i3) (M.cnd ((ixD a.at_ i3) !=(ixD bP1.at_ i3)) (M.ok (.inr (.inr false))) (M.ok (.inl (IntKind.i64.wrap (i3+1))))))) (M.ok (.inr (.inl ())))
end
noncomputable section
open Go Go.RowKit Go.Proofs
def AAs(a:Plan)(bP1:Plan):M Bool:=M.cnd (((a.leaf !=bP1.leaf)||(a.slots !=bP1.slots))||((a.at_.length:Int) !=(bP1.at_.length:Int))) (M.ok false) (M.els (M.loop (AAq a bP1) 0) fun _=>M.ok true)
end
noncomputable section
open Go Go.RowKit Go.Proofs
theorem AAy{a:Plan}{bP1:Plan}{r:Bool}(H:(AAs a bP1).to r):Fn Tryz.prog 10 [.agg (BF a),.agg (BF bP1)] (.lit (.bool r)):=by
 delta AAs at H;try dsimp only at H
 refine AQ Tryz.func10 rfl (by kernel_rfl) rfl Tryz.ntmps10 fun C hC=>?_
 simp only[List.length_cons,List.length_nil,Nat.reduceAdd,Nat.reduceSub,List.replicate_succ,List.replicate_zero,List.cons_append,List.nil_append];refine wS (sB (sB (sT (wN ?_))));refine Ab fun Khs1 hs1=>?_
 refine wS (sT (sT (sT (sT ?_))));refine sA ?_ (AAu rfl Hd (Ao GP) rfl) (Ap Mk);refine sT ?_;refine sGf rfl ?_;refine sGf rfl ?_;refine sGf rfl ?_;refine sGf rfl ?_;refine sGf rfl (sT (sT ?_));refine sGf rfl ?_;refine sGf rfl ?_;refine sGf rfl ?_;refine sGf rfl ?_;refine sGf rfl ?_;refine sGf rfl ?_;refine sGf rfl (sT (wN ?_));refine Ag rfl (fun hb2=>?_) (fun hb2=>?_)
 ·have H:=AN hb2 H;refine wS (sT (wN ?_));obtain rfl:=Ad.1 H;exact Aw ⟨.inr rfl,Fin.cl rfl⟩
 ·have H:=AO hb2 H;refine Al ?_;refine hs1 _ ?_;refine nT ?_;obtain⟨z4,HX4,Hl4,Hq4⟩:=CH H;refine Bn (β:=(Unit)×(Unit)) (fun q4=>z4= .inl q4.1) (fun q4=>⟨A40 (A5 []),[.dead,.dead]⟩) ?_ ?_
  ·refine wS (sT (wN ?_));refine Ac ?_;refine BB HX4 (fun s4 b4=>⟨A2 (.ptr 0 0::.ptr 1 0::.any::.lit (.int .i64 s4)::A20 (A10 (A9 []))),[.box (BF a),.box (BF bP1)]⟩) () (?_) ?_
   ·try dsimp only
    exact AS
   ·rintro i3 _ x4 H Hr4;try dsimp only
    dsimp only[AAq]at H;refine Ab fun Khs5 hs5=>?_
    refine wS (sT (sT (sT (sT (sT (wN ?_))))));refine Ag rfl (fun hb6=>?_) (fun hb6=>?_)
    ·have H:=AN hb6 H;refine Al ?_;refine hs5 _ ?_;refine nT ?_;refine Ab fun Khs7 hs7=>?_
     refine Ac ?_;obtain⟨c8,H⟩:=Ah.1 H;obtain⟨c9,H⟩:=Ah.1 H;refine dS 11 (hq:=?_);refine qT (qT (qT (qX c8 (qT (qT (qT (qT (qX c9 (qT (qT (qN ?_)))))))))));refine wN ?_;refine Ag rfl (fun hb10=>?_) (fun hb10=>?_)
     ·have H:=AN hb10 H;refine wS (sT (wN ?_));have H:=Ad.2 (Hq4 _ (Hr4 _ (Ad.1 H).symm).symm);obtain rfl:=Ad.1 H;exact Aw ⟨.inr rfl,Fin.cl rfl⟩
     ·have H:=AO hb10 H;refine Al ?_;refine hs7 _ ?_;refine nT ?_;refine wSE (sT (sT (sT (wN ?_))));have e4:=Ad.1 H;repeat(first|refine abN ?_|refine asN ?_)
      refine An ⟨_,(),e4.symm,?_⟩;try dsimp only
      exact AS
    ·have H:=AO hb6 H;refine Ay ?_;repeat(first|refine BG ?_|refine exO (by decide) ?_|refine asE ?_)
     refine exN ?_;have e4:=Hr4 _ (Ad.1 H).symm;repeat(first|refine abN ?_|refine asN ?_)
     refine An ⟨(_,()),e4.symm,?_⟩;try dsimp only
     exact leC (Cut.dead (Cut.dead (Cut.nil _)))
  ·rintro⟨_,_⟩ hz4;try dsimp only at hz4
   have H:=Hl4 _ hz4;try dsimp only
   refine wS (sT (wN ?_));obtain rfl:=Ad.1 H;exact Aw ⟨.inr rfl,Fin.cl rfl⟩
end
noncomputable section
open Go Go.RowKit Go.Proofs
def AAn(f:Func):M Bool:=M.bnd (OQ f) fun r2=>M.cnd (r2||(decide (f.regs > 5000))) (M.bnd FC fun r4=>M.ok r4) (M.bnd (CZ f) fun r5=>M.bnd (CZ f) fun r6=>M.bnd (AAs r5.1 r6.1) fun r8=>M.bnd (M.whn (!((!r8)||(r5.2 !=r6.2))) false (MT f)) fun r9=>M.bnd (M.whn (!((!r8)||(r5.2 !=r6.2))) false (OO f)) fun r10=>M.cnd (((!r8)||(r5.2 !=r6.2))||(r9 !=r10)) (M.ok false) (M.bnd (OO f) fun r13=>M.cnd (!r13) (M.bnd (M.whn (r5.2 ==2) false (AAs r5.1 ⟨false,0,[]⟩)) fun r15=>M.bnd (M.whn ((r5.2 ==2)&&r15) false FC) fun r16=>M.ok (((r5.2 ==2)&&r15)&&r16)) (M.bnd (AAr f) fun r17=>M.bnd (M.whn (decide (r17 < 7)) false (RM f)) fun r19=>M.cnd ((((decide (r17 < 7))&&r19)&&(!r5.1.leaf))||((decide (r17 < 14))&&(r5.1.slots !=0))) (M.ok false) (M.bnd (M.whn (r5.2 ==0) false (E4 f r5.1)) fun r21=>M.bnd (M.whn ((r5.2 ==0)&&r21) false FC) fun r22=>M.ok (((r5.2 ==0)&&r21)&&r22)))))
end
noncomputable section
open Go Go.RowKit Go.Proofs
theorem AAt{f:Func}{r:Bool}(H:(AAn f).to r):Fn Tryz.prog 3 [.agg (Ak f)] (.lit (.bool r)):=by
 delta AAn at H;try dsimp only at H
 refine AQ Tryz.func3 rfl (by kernel_rfl) rfl Tryz.ntmps3 fun C hC=>?_
 simp only[List.length_cons,List.length_nil,Nat.reduceAdd,Nat.reduceSub,List.replicate_succ,List.replicate_zero,List.cons_append,List.nil_append];refine wS (sB (sT (wN ?_)));refine Ab fun Khs1 hs1=>?_
 obtain⟨r2,k2,H⟩:=Aq.1 H;have k2:=Wc k2;refine wS (sT (sC k2 (sT ?_)));refine sGf rfl ?_;refine sGf rfl ?_;refine sGf rfl (sT (wN ?_));refine Ag rfl (fun hb3=>?_) (fun hb3=>?_)
 ·have H:=AN hb3 H;obtain⟨r4,k4,H⟩:=Aq.1 H;have k4:=Nk k4;refine wS (sC k4 (sT (wN ?_)));obtain rfl:=Ad.1 H;exact Aw ⟨.inr rfl,Fin.cl rfl⟩
 ·have H:=AO hb3 H;refine Al ?_;refine hs1 _ ?_;refine nT ?_;obtain⟨r5,k5,H⟩:=Aq.1 H;have k5:=Ey k5;refine wS (sT (sC k5 (sT (sT (sT (sA0 (sW (sT (wN ?_)))))))));obtain⟨r6,k6,H⟩:=Aq.1 H;have k6:=Ey k6;refine wS (sT (sC k6 (sT (sT (sT (sA0 (sW (sT (wN ?_)))))))));refine Ab fun Khs7 hs7=>?_
  obtain⟨r8,k8,H⟩:=Aq.1 H;have k8:=AAy k8;obtain⟨r9,k9,H⟩:=Aq.1 H;obtain⟨r10,k10,H⟩:=Aq.1 H;refine dS 16 (hq:=?_);refine qT (qT (qC k8 (qT (qT ?_))));refine qGf rfl ?_;refine qGf rfl ?_;refine qGf rfl (qT (qT ?_));refine qG (g:=(!((!r8)||(r5.2 !=r6.2)))) (hg:=Ak8 rfl) (hq:=fun hg=>AR rfl GP rfl rfl) (ht:=(Ar Ka)) ?_;refine qG (g:=(!((!r8)||(r5.2 !=r6.2)))) (hg:=Ak8 rfl) (hq:=fun hg=>by((try simp only[BJ hg]);(try simp only[Qv hg]);exact AH rfl rfl (UY (M.to_whn k9 hg)) rfl rfl)) (ht:=(Ar GY)) ?_;refine qG (g:=(!((!r8)||(r5.2 !=r6.2)))) (hg:=Ak8 rfl) (hq:=fun hg=>AR rfl GP rfl rfl) (ht:=(Ar HT)) ?_;refine qG (g:=(!((!r8)||(r5.2 !=r6.2)))) (hg:=Ak8 rfl) (hq:=fun hg=>by((try simp only[BJ hg]);(try simp only[Qv hg]);exact AH rfl rfl (Aej (M.to_whn k10 hg)) rfl rfl)) (ht:=(Ar Hy)) ?_;refine qG (g:=(!((!r8)||(r5.2 !=r6.2)))) (hg:=Ak8 rfl) (hq:=fun hg=>AAu rfl ((As Fq).trans (BJ hg _ _)) ((As Hd).trans (BJ hg _ _)) rfl) (ht:=(Ar (Ap HU))) ?_;refine qT (qN (wN ?_));refine Ag rfl (fun hb11=>?_) (fun hb11=>?_)
  ·have H:=AN hb11 H;refine wS (sT (wN ?_));obtain rfl:=Ad.1 H;exact Aw ⟨.inr rfl,Fin.cl rfl⟩
  ·have H:=AO hb11 H;refine Al ?_;refine hs7 _ ?_;refine nT ?_;refine Ab fun Khs12 hs12=>?_
   obtain⟨r13,k13,H⟩:=Aq.1 H;have k13:=Aej k13;refine wS (sT (sC k13 (sT (wN ?_))));refine Ag rfl (fun hb14=>?_) (fun hb14=>?_)
   ·have H:=AN hb14 H;obtain⟨r15,k15,H⟩:=Aq.1 H;obtain⟨r16,k16,H⟩:=Aq.1 H;refine wS (sT (sT (sT ?_)));refine sG (g:=(r5.2 ==2)) (hg:=Pm rfl) (hq:=fun hg=>AR rfl FF rfl rfl) (ht:=(Ar (Ap (Ap HU)))) ?_;refine sG (g:=(r5.2 ==2)) (hg:=Pm rfl) (hq:=fun hg=>BR (rs:=[.lit (.bool false),.lit (.int .i64 0),.lit (.slice none 0 0)]) rfl Am4 rfl rfl) (ht:=(Ar (Ap (Ap JH)))) ?_;refine sG (g:=(r5.2 ==2)) (hg:=Pm rfl) (hq:=fun hg=>by((try simp only[BJ hg]);(try simp only[Qv hg]);exact AA1 rfl rfl (.cons (.refl _) (.cons (Qy (.cons (.refl _) (.cons (.refl _) (.cons (.nil _) .nil)))) .nil)) (AAy (M.to_whn k15 hg)) rfl rfl)) (ht:=(Ar (Ap (Ap Mk)))) (hk:=?_);refine sT (sT ?_);refine sG (g:=((r5.2 ==2)&&r15)) (hg:=Pm rfl) (hq:=fun hg=>by((try simp only[BJ hg]);(try simp only[Qv hg]);exact AH rfl rfl (Nk (M.to_whn k16 hg)) rfl rfl)) (ht:=(Ar (Ap (Ap GY)))) ?_;refine sT (sT (wN ?_));obtain rfl:=Ad.1 H;exact Aw ⟨.inr rfl,Fin.cl rfl⟩
   ·have H:=AO hb14 H;refine Al ?_;refine hs12 _ ?_;refine nT ?_;obtain⟨r17,k17,H⟩:=Aq.1 H;have k17:=AA0 k17;refine wS (sT (sC k17 (sT (wN ?_))));refine Ab fun Khs18 hs18=>?_
    obtain⟨r19,k19,H⟩:=Aq.1 H;refine wS (sT (sT (sT ?_)));refine sG (g:=(decide (r17 < 7))) (hg:=Pm rfl) (hq:=fun hg=>AR rfl GP rfl rfl) (ht:=(Ar (Ap (Ap (Ap Ka))))) ?_;refine sG (g:=(decide (r17 < 7))) (hg:=Pm rfl) (hq:=fun hg=>by((try simp only[BJ hg]);(try simp only[Qv hg]);exact AH rfl rfl (Zz (M.to_whn k19 hg)) rfl rfl)) (ht:=(Ar (Ap (Ap (Ap GY))))) ?_;refine sT (sT ?_);refine sGt rfl ?_;refine sGt rfl ?_;refine sGt rfl (sT (sT ?_));refine sGf rfl ?_;refine sGf rfl ?_;refine sGf rfl ?_;refine sG (g:=((!(((decide (r17 < 7))&&r19)&&(!r5.1.leaf)))&&(decide (r17 < 14)))) (hg:=LZ rfl rfl) (hq:=fun hg=>by(have hg':=Hn hg;exact Br rfl FF rfl)) (ht:=(Ar (Ar (Ap HU)))) (hk:=?_);refine sG (g:=((!(((decide (r17 < 7))&&r19)&&(!r5.1.leaf)))&&(decide (r17 < 14)))) (hg:=LZ rfl rfl) (hq:=fun hg=>by(have hg':=Hn hg;exact Bf rfl ((As (As (Ao IG))).trans (BJ hg _ _)) rfl rfl)) (ht:=(Ar (Ar (Ap JH)))) (hk:=?_);refine sG (g:=((!(((decide (r17 < 7))&&r19)&&(!r5.1.leaf)))&&(decide (r17 < 14)))) (hg:=LZ rfl rfl) (hq:=fun hg=>by(have hg':=Hn hg;exact CQ rfl ((As (As (Ao GP))).trans (BJ hg _ _)) Acf rfl)) (ht:=(Ar (Ar (Ap Mk)))) (hk:=?_);refine sG (g:=(!(((decide (r17 < 7))&&r19)&&(!r5.1.leaf)))) (hg:=Ak8 rfl) (hq:=fun hg=>DV rfl ((As (As Hd)).trans (BJ hg _ _)) ((As (As (Ao FG))).trans (Qv hg _ _)) Acf) (ht:=(Ar (Ar (Ap JG)))) (hk:=?_);refine sT (wN ?_);refine Ag rfl (fun hb20=>?_) (fun hb20=>?_)
    ·have H:=AN hb20 H;refine wS (sT (wN ?_));obtain rfl:=Ad.1 H;exact Aw ⟨.inr rfl,Fin.cl rfl⟩
    ·have H:=AO hb20 H;refine Al ?_;refine hs18 _ ?_;refine nT ?_;obtain⟨r21,k21,H⟩:=Aq.1 H;obtain⟨r22,k22,H⟩:=Aq.1 H;refine wS (sT (sT (sT ?_)));refine sG (g:=(r5.2 ==0)) (hg:=Pm rfl) (hq:=fun hg=>AR rfl GP rfl rfl) (ht:=(Ar (Ar (Ap (Ap HU))))) ?_;refine sG (g:=(r5.2 ==0)) (hg:=Pm rfl) (hq:=fun hg=>AR rfl FF rfl rfl) (ht:=(Ar (Ar (Ap (Ap JH))))) ?_;refine sG (g:=(r5.2 ==0)) (hg:=Pm rfl) (hq:=fun hg=>by((try simp only[BJ hg]);(try simp only[Qv hg]);exact AH rfl rfl (KD (M.to_whn k21 hg)) rfl rfl)) (ht:=(Ar (Ar (Ap (Ap Mk))))) ?_;refine sT (sT ?_);refine sG (g:=((r5.2 ==0)&&r21)) (hg:=Pm rfl) (hq:=fun hg=>by((try simp only[BJ hg]);(try simp only[Qv hg]);exact AH rfl rfl (Nk (M.to_whn k22 hg)) rfl rfl)) (ht:=(Ar (Ar (Ap (Ap GY))))) ?_;refine sT (sT (wN ?_));obtain rfl:=Ad.1 H;exact Aw ⟨.inr rfl,Fin.cl rfl⟩
end
section
open Go Go.RowKit Go.Proofs Go.Maps
theorem AAz{p:Plan}(hl:p.at_.length≤5000):(AAs p p).to true:=by
 unfold AAs;refine AJ (by simp) ?_;have h:=Ug (step:=AAq p p) (p:=fun _=>false) (v:=false) (n:=p.at_.length) (fun k hk=>?_) ?_
 ·have h2:=Ax0 (d:=true) h;rw[show((List.range p.at_.length).any fun _=>false)=false by simp]at h2;exact h2
 ·unfold AAq;rw[w23 hk (by omega)];exact AI (decide_eq_true (by omega)) (Af (Qk hk) (Af (Qk hk) (AJ (by simp) (Aj _))))
 ·unfold AAq;exact AJ (decide_eq_false (by omega)) (Aj _)
end
section
open Go Go.RowKit Go.Proofs Go.Maps
def wideK(f:Func)(k:Nat):Nat:=((regsB f).take k).foldl (fun n r=>max n (RR f r)) 0
end
section
open Go Go.RowKit Go.Proofs Go.Maps
theorem AAx{f:Func}{k:Nat}{r:Int}(h:(regsB f)[k]? =some r):wideK f (k+1)=max (wideK f k) (RR f r):=by
 unfold wideK;rw[List.take_add_one,h,List.foldl_append];rfl
end
section
open Go Go.RowKit Go.Proofs Go.Maps
theorem AA2(f:Func):∀k,k≤(regsB f).length→∀j r,j < k→(regsB f)[j]? =some r→RR f r≤wideK f k
 |0,_,j,r,hj,_=>by omega
 |k+1,hk,j,r,hj,h=>by
  obtain⟨q,hq⟩:∃q,(regsB f)[k]? =some q:=⟨_,List.getElem?_eq_getElem (by omega)⟩
  rw[AAx hq];by_cases e:j=k
  ·subst e;rw[hq]at h;cases h;omega
  ·have:=AA2 f k (by omega) j r (by omega) h;omega
end
section
open Go Go.RowKit Go.Proofs Go.Maps
def partK(f:Func)(r:Int)(j:Nat):Nat:=(((regsB f).take j).filter fun y=>FY f r y).length
end
section
open Go Go.RowKit Go.Proofs Go.Maps
theorem AA3{f:Func}{r q:Int}{j:Nat}(h:(regsB f)[j]? =some q):partK f r (j+1)=partK f r j+(if FY f r q then 1 else 0):=by
 unfold partK;rw[List.take_add_one,h,List.filter_append,List.length_append];cases e:FY f r q <;> simp[e]
end
section
open Go Go.RowKit Go.Proofs Go.Maps
theorem AA5(f:Func)(r:Int)(j:Nat):partK f r j≤j:=by
 unfold partK;refine Nat.le_trans (List.length_filter_le _ _) ?_;rw[List.length_take];omega
end
section
open Go Go.RowKit Go.Proofs Go.Maps
theorem AA4{f:Func}(c:FineF f)(hl:(regsB f).length≤1000000):(AAr f).to (wideK f (regsB f).length:Int):=by
 unfold AAr;refine Am (a:=regsB f) (Af (BM.2 c) (Aj _)) (Am (a:=PH f) (Af (BM.2 c) (Aj _)) (Am ?_ (Aj _)));refine B9 (fun k:Nat=>((wideK f k:Int),(k:Int))) (regsB f).length (fun k hk=>?_) ?_ (Nat.zero_le _)
 ·obtain⟨r,hr⟩:∃r,(regsB f)[k]? =some r:=⟨_,List.getElem?_eq_getElem hk⟩
  simp only[AAp];refine AI (decide_eq_true (by omega)) (Am (a:=(RR f r:Int)) ?_ ?_)
  ·have e:(RR f r:Int)=(partK f r (regsB f).length:Int):=by unfold RR partK;rw[List.take_length]
   rw[e];refine B9 (fun j:Nat=>((partK f r j:Int),(j:Int))) (regsB f).length (fun j hj=>?_) ?_ (Nat.zero_le _)
   ·obtain⟨q,hq⟩:∃q,(regsB f)[j]? =some q:=⟨_,List.getElem?_eq_getElem hj⟩
    have hpl:=AA5 f r j;simp only[AAo];refine AI (decide_eq_true (by omega)) (Am (a:=(partK f r (j+1):Int)) (Af (Qk hk) (Af (Qk hj) (Am (Aez c _ _) ?_))) ?_)
    ·rw[Cf hr,Cf hq,AA3 hq];cases hp:FY f r q with
     |true=>
      refine AI rfl (Ad.2 ?_);rw[IntWalk.i64_in _ (by omega)];simp
     |false=>exact AJ rfl (Ad.2 (by simp))
    ·rw[w23 hj (by omega)];exact Aj _
   ·simp only[AAo];exact AJ (decide_eq_false (by omega)) (Aj _)
  ·rw[w23 hk (by omega),AAx hr];refine Ad.2 ?_;congr 2;split <;> omega
 ·simp only[AAp];exact AJ (decide_eq_false (by omega)) (Aj _)
end
section
open Go Go.RowKit Go.Proofs Go.Maps
theorem AAv{f:Func}(c:FineF f)(hbk:Dc.bulk f≤2097152):(AAn f).to true:=by
 unfold AAn;refine Am (Aaa c) ?_;cases hg:(CF f||decide (f.regs > 5000))with
 |true=>exact AI rfl (Am Ut (Aj _))
 |false=>
  rw[Bool.or_eq_false_iff]at hg;obtain⟨g,_⟩:=hg;have hr:=G2 g;obtain⟨t,H⟩:=Ahf c hbk g;have hs:=AAz (p:=(Qt f).1) (by have:=H.len;omega);have hm1:(MT f).to (Ia f):=Af (by rw[BM.2 c,decide_eq_true (by omega:(regsB f).length≤2147483648)];rfl) (Aj _);have hm2:=Ako c (by omega);refine AJ rfl (Am t (Am t (Am hs (Am (BW (by simp) hm1) (Am (BW (by simp) hm2) (AJ (by simp) (Am hm2 ?_)))))));cases hm:Ia f with
  |false=>
   rw[H.no hm];exact AI rfl (Am (BW rfl (AAz (Nat.zero_le _))) (Am (BW rfl Ut) (Aj _)))
  |true=>
   have h2:=H.err hm;have hwide:∀x∈regsB f,RR f x≤wideK f (regsB f).length:=fun x hx=>by
    obtain⟨j,hj⟩:=List.mem_iff_getElem?.1 hx;exact AA2 f _ (Nat.le_refl _) j x (List.getElem?_eq_some_iff.1 hj).1 hj
   have hR:=QO (p:=(Qt f).1) c hbk H.wf (by have:=H.len;omega) (by omega);rw[H.right hm]at hR;refine AJ rfl (Am (AA4 c (by omega)) ?_);have h7:(((decide ((wideK f (regsB f).length:Int) < 7))&&leaf f.blocks)&&(!(Qt f).1.leaf))=false:=by
    cases h1:decide ((wideK f (regsB f).length:Int) < 7)with
    |false=>rfl
    |true=>
     cases h3:leaf f.blocks with
     |false=>rfl
     |true=>
      have h1:=of_decide_eq_true h1;rw[H.lf hm h3 fun x hx=>by have:=hwide x hx;omega];rfl
   have h14:((decide ((wideK f (regsB f).length:Int) < 14))&&((Qt f).1.slots !=0))=false:=by
    cases h1:decide ((wideK f (regsB f).length:Int) < 14)with
    |false=>rfl
    |true=>
     have h1:=of_decide_eq_true h1;rw[H.few hm fun x hx=>by have:=hwide x hx;omega];rfl
   obtain⟨b,hb,hb7⟩:∃b,(M.whn (decide ((wideK f (regsB f).length:Int) < 7)) false (RM f)).to b∧(((decide ((wideK f (regsB f).length:Int) < 7))&&b)&&(!(Qt f).1.leaf))=false:=by
    cases h1:decide ((wideK f (regsB f).length:Int) < 7)with
    |false=>exact⟨false,M.whn_f rfl,rfl⟩
    |true=>exact⟨leaf f.blocks,BW rfl (Af (by rw[BM.2 c,decide_eq_true hbk];rfl) (Aj _)),by rw[h1]at h7;exact h7⟩
   refine Am hb (AJ (by rw[hb7,h14];rfl) ?_);rw[h2];exact Am (BW rfl hR) (Am (BW rfl Ut) (Aj _))
end
section
open Go Go.RowKit Go.Proofs Go.Maps
theorem AAw(f:Func)(ho:okFunc f)(hbk:Dc.bulk f≤2097152):Fn Tryz.prog 3 [.agg (Ak f)] (.lit (.bool true)):=AAt (AAv (Agw ho hbk) hbk)
end
end Mu
