/-
  Own texts laid together, part 4: MuR19, MuFitF, MuLaw19, MuDfs, MuDom, MuAbvP, MuAbvQ, MuAbvR, MuLoopP, MuHead18, MuEdgeM, MuLaw17D, MuBound3, MuOfP, MuLaw18M, MuRef18T, MuLoopR, MuLoopS, MuCostP.
  Conditions: as each part says.
-/
import Derived.Test.YtnoonmhlllnboaaCo3
set_option maxRecDepth 100000
set_option maxHeartbeats 4000000
set_option linter.unusedSimpArgs false
set_option linter.unusedVariables false
section
namespace Mu
open Go Go.RowKit Go.Proofs
noncomputable section
def Hq(f:Func)(b:Int):M (List Int):=M.chk (M8 f) (M.ok (nextL f b))
theorem Ig{f:Func}{b:Int}{r:List Int}(H:(Hq f b).to r):Fn Try.prog 36 [.agg (Ap f),.lit (.int .i64 b)] (.bs tInt r):=by
 obtain⟨c,H⟩:=Ag.1 H;obtain rfl:=Ab.1 H;have c1:=BL.1 c;exact Rw f b c1.ok c1.small
def B2(not:Int)(b15:Int)(r23:List Int):(Int×(List Bool))→M ((Int×(List Bool))⊕((List Bool))):=fun(k24,l26)=>M.chk (!(decide (k24 < (r23.length:Int)))||(Bq l26 b15)) (M.cnd ((decide (k24 < (r23.length:Int)))&&(ixD l26 b15)) (M.bnd (M.chk (Bq r23 k24) (M.cnd ((ixD r23 k24) !=not) (M.chk (Bq r23 k24) (M.chk (Bq l26 (ixD r23 k24)) (M.ok (l26.set (Int.toNat (ixD r23 k24)) true)))) (M.ok l26))) fun l34=>M.ok (.inl (IntKind.i64.wrap (k24+1),l34))) (M.ok (.inr l26)))
def Cq(f:Func)(not:Int):(Int×(List Bool))→M ((Int×(List Bool))⊕((List Bool))):=fun(b15,l17)=>M.cnd (decide (b15 < (l17.length:Int))) (M.bnd (Hq f b15) fun r23=>M.bnd (M.loop (B2 not b15 r23) (0,l17)) fun l29=>M.ok (.inl (IntKind.i64.wrap (b15+1),l29))) (M.ok (.inr l17))
def CF(f:Func)(not:Int):(Int×(List Bool))→M ((Int×(List Bool))⊕((List Bool))):=fun(n7,l9)=>M.cnd (decide (n7 < (l9.length:Int))) (M.bnd (M.loop (Cq f not) (0,l9)) fun l20=>M.ok (.inl (IntKind.i64.wrap (n7+1),l20))) (M.ok (.inr l9))
def Dp(f:Func)(not:Int):M (List Bool):=M.chk (JW (f.blocks.length:Int) 1) (M.bnd (M.cnd ((decide (((List.replicate (Int.toNat (f.blocks.length:Int)) false).length:Int) > 0))&&(not !=0)) (M.chk (Bq (List.replicate (Int.toNat (f.blocks.length:Int)) false) 0) (M.ok ((List.replicate (Int.toNat (f.blocks.length:Int)) false).set (Int.toNat 0) true))) (M.ok (List.replicate (Int.toNat (f.blocks.length:Int)) false))) fun l3=>M.bnd (M.loop (CF f not) (0,l3)) fun l12=>M.ok l12)
theorem Ho{f:Func}{not:Int}{r:List Bool}(H:(Dp f not).to r):Fn Try.prog 57 [.agg (Ap f),.lit (.int .i64 not)] (.bs Ty.bool r):=by
 delta Dp at H;try dsimp only at H
 refine AM Try.func57 rfl (by kernel_rfl) rfl Try.ntmps57 fun C hC=>?_
 simp only[List.length_cons,List.length_nil,Nat.reduceAdd,Nat.reduceSub,List.replicate_succ,List.replicate_zero,List.cons_append,List.nil_append];refine wS (sB (sT (wN ?_)));obtain⟨c1,H⟩:=Ag.1 H;refine wS (sT (sT (sT ?_)));(refine AT rfl (Gd 1 rfl (T:=Ty.bool) (e:=4) (v:=.bool false) (bytes:=1) (false:Bool) rfl (by kernel_rfl) rfl (fun _ _=>rfl) rfl rfl c1 ?_);refine Dz (ht:=(Al Ge)) ?_);refine sT (wN ?_);obtain⟨z4,HX4,Hl4⟩:=Af.1 H;refine AE (β:=((List Bool))×(Nat)) (fun q4=>z4=q4.1) (fun q4=>⟨.any::.lit (.int .i64 not)::.ptr 0 0::A2 (.own 1 q4.2::Xd (Xf (A7 []))),[.box (Ap f),.row q4.2 4 Ty.bool q4.1]⟩) ?_ ?_
 ·have H:=HX4;refine wS (sT (sT (sT (sT ?_))));refine Wn rfl ?_;refine Wn rfl (sT (wN ?_));refine An rfl (fun hb5=>?_) (fun hb5=>?_)
  ·have H:=Au hb5 H;obtain⟨c6,H⟩:=Ag.1 H;refine We (sT ?_);refine sA (hq:=AS rfl (Aw (Aw H8)) rfl Mk rfl c6) (ht:=(Al (Al Id))) ?_;(refine AT rfl (BW rfl rfl rfl (A0 c6) WZ.bool rfl ?_);refine Dz (ht:=Mw) ?_);refine wN ?_;have e4:=Ab.1 H;repeat(first|refine WV ?_|refine asN ?_)
   refine Am ⟨(_,0),e4.symm,?_⟩;try dsimp only
   exact AA
  ·have H:=Av hb5 H;refine As ?_;have e4:=Ab.1 H;repeat(first|refine WV ?_|refine asN ?_)
   refine Am ⟨(_,0),e4.symm,?_⟩;try dsimp only
   exact AA
 ·rintro⟨l3,v2⟩ hz4;try dsimp only at hz4
  have H:=Hl4;rw[hz4]at H;try dsimp only
  obtain⟨z10,HX10,Hl10⟩:=Af.1 H;refine AE (β:=((List Bool))×(Nat)) (fun q10=>z10=q10.1) (fun q10=>⟨A5 (.own 1 q10.2::Xd (Xf (A7 []))),[.dead,.row q10.2 4 Ty.bool q10.1]⟩) ?_ ?_
  ·refine wS (sT (wN ?_));refine Aj ?_;refine AJ HX10 (fun s10 b10=>⟨.any::.lit (.int .i64 not)::.ptr 0 0::A2 (.own 1 b10::.lit (.int .i64 s10.1)::Xd (Xf (A6 []))),[.box (Ap f),.row b10 4 Ty.bool s10.2]⟩) v2 (?_) ?_
   ·try dsimp only
    exact AA
   ·rintro⟨n7,l9⟩ v8 x10 H Hr10;try dsimp only
    dsimp only[CF]at H;refine Aq fun Khs13 hs13=>?_
    refine wS (sT (sT (sT (sT (wN ?_)))));refine An rfl (fun hb14=>?_) (fun hb14=>?_)
    ·have H:=Au hb14 H;refine As ?_;refine hs13 _ ?_;refine nT ?_;obtain⟨z18,HX18,Hl18⟩:=Af.1 H;refine AE (β:=((List Bool))×(Nat)) (fun q18=>z18=q18.1) (fun q18=>⟨.any::.lit (.int .i64 not)::.ptr 0 0::A2 (.own 1 q18.2::.lit (.int .i64 n7)::Xd (Xf (A6 []))),[.box (Ap f),.row q18.2 4 Ty.bool q18.1]⟩) ?_ ?_
     ·refine Aj ?_;refine wS (sT (wN ?_));refine Aj ?_;refine AJ HX18 (fun s18 b18=>⟨.any::.lit (.int .i64 not)::.ptr 0 0::A2 (.own 1 b18::.lit (.int .i64 n7)::.lit (.int .i64 s18.1)::Xd (Xf (A5 []))),[.box (Ap f),.row b18 4 Ty.bool s18.2]⟩) v8 (?_) ?_
      ·try dsimp only
       exact AA
      ·rintro⟨b15,l17⟩ v16 x18 H Hr18;try dsimp only
       dsimp only[Cq]at H;refine Aq fun Khs21 hs21=>?_
       refine wS (sT (sT (sT (sT (wN ?_)))));refine An rfl (fun hb22=>?_) (fun hb22=>?_)
       ·have H:=Au hb22 H;refine As ?_;refine hs21 _ ?_;refine nT ?_;obtain⟨r23,k23,H⟩:=Af.1 H;have k23:=Ig k23;obtain⟨z27,HX27,Hl27⟩:=Af.1 H;refine AE (β:=((List Bool))×(Nat)) (fun q27=>z27=q27.1) (fun q27=>⟨.any::.lit (.int .i64 not)::.ptr 0 0::A2 (.own 1 q27.2::.lit (.int .i64 n7)::.lit (.int .i64 b15)::Xd (Xf (A5 []))),[.box (Ap f),.row q27.2 4 Ty.bool q27.1]⟩) ?_ ?_
        ·refine Aj ?_;refine wS (sT (sT (sC k23 (sT (wN ?_)))));refine wS (sT (wN ?_));refine Aj ?_;refine AJ HX27 (fun s27 b27=>⟨.any::.lit (.int .i64 not)::.ptr 0 0::A2 (.own 1 b27::.lit (.int .i64 n7)::.lit (.int .i64 b15)::.bs tInt r23::.lit (.int .i64 s27.1)::Xd (Xf (A3 []))),[.box (Ap f),.row b27 4 Ty.bool s27.2]⟩) v16 (?_) ?_
         ·try dsimp only
          exact AA
         ·rintro⟨k24,l26⟩ v25 x27 H Hr27;try dsimp only
          dsimp only[B2]at H;refine Aq fun Khs30 hs30=>?_
          obtain⟨c31,H⟩:=Ag.1 H;refine wS (sT (sT (sT (sT (sT ?_)))));refine Wn rfl ?_;refine Wn rfl ?_;refine sG (g:=(decide (k24 < (r23.length:Int)))) (hg:=DP rfl) (hq:=fun hg=>AS rfl ((Ar (Aw Gx)).trans (B7 hg _ _)) rfl ((Ar (Aw IN)).trans (B7 hg _ _)) rfl (FU c31 hg)) (ht:=(Ak (Al Ge))) ?_;refine sG (g:=(decide (k24 < (r23.length:Int)))) (hg:=DP rfl) (hq:=fun hg=>AO rfl ((Ar (Aw H8)).trans (B7 hg _ _)) rfl (A0 (FU c31 hg)) rfl) (ht:=(Ak (Al Id))) ?_;refine sT (wN ?_);refine An rfl (fun hb32=>?_) (fun hb32=>?_)
          ·have H:=Au hb32 H;refine As ?_;refine hs30 _ ?_;refine nT ?_;obtain⟨z35,HX35,Hl35⟩:=Af.1 H;refine AE (β:=((List Bool))×(Nat)) (fun q35=>z35=q35.1) (fun q35=>⟨.any::.lit (.int .i64 not)::.ptr 0 0::A2 (.own 1 q35.2::.lit (.int .i64 n7)::.lit (.int .i64 b15)::.bs tInt r23::.lit (.int .i64 k24)::Xd (Xf (A3 []))),[.box (Ap f),.row q35.2 4 Ty.bool q35.1]⟩) ?_ ?_
           ·have H:=HX35;refine Aj ?_;obtain⟨c36,H⟩:=Ag.1 H;refine wS (sT (sT (sX c36 (sT (sT (sT (wN ?_)))))));refine An rfl (fun hb37=>?_) (fun hb37=>?_)
            ·have H:=Au hb37 H;obtain⟨c38,H⟩:=Ag.1 H;obtain⟨c39,H⟩:=Ag.1 H;refine We (sT (sT (sT (sX c38 (sT ?_)))));refine sA (hq:=AS rfl (Ar (Aw (Aw (Aw Kv)))) rfl (Ar (Aw (Aw (Aw IN)))) rfl c39) (ht:=(Ak (Al (Al (Al Ge))))) ?_;(refine AT rfl (BW rfl rfl rfl (A0 c39) WZ.bool rfl ?_);refine Dz (ht:=Mw) ?_);refine wN ?_;have e35:=Ab.1 H;repeat(first|refine WV ?_|refine asN ?_)
             refine Am ⟨(_,v25),e35.symm,?_⟩;try dsimp only
             exact AA
            ·have H:=Av hb37 H;refine As ?_;have e35:=Ab.1 H;repeat(first|refine WV ?_|refine asN ?_)
             refine Am ⟨(_,v25),e35.symm,?_⟩;try dsimp only
             exact AA
           ·rintro⟨l34,v33⟩ hz35;try dsimp only at hz35
            have H:=Hl35;rw[hz35]at H;try dsimp only
            refine We (sT (sT (sT (wN ?_))));have e27:=Ab.1 H;repeat(first|refine WV ?_|refine asN ?_)
            refine Am ⟨_,v33,e27.symm,?_⟩;try dsimp only
            exact AA
          ·have H:=Av hb32 H;refine AI ?_;repeat(first|refine AU ?_|refine exO (by decide) ?_|refine asE ?_)
           refine WN ?_;have e27:=Hr27 _ (Ab.1 H).symm;repeat(first|refine WV ?_|refine asN ?_)
           refine Am ⟨(_,v25),e27.symm,?_⟩;try dsimp only
           exact AA
        ·rintro⟨l29,v28⟩ hz27;try dsimp only at hz27
         have H:=Hl27;rw[hz27]at H;try dsimp only
         refine We (sT (sT (sT (wN ?_))));have e18:=Ab.1 H;repeat(first|refine WV ?_|refine asN ?_)
         refine Am ⟨_,v28,e18.symm,?_⟩;try dsimp only
         exact AA
       ·have H:=Av hb22 H;refine AI ?_;repeat(first|refine AU ?_|refine exO (by decide) ?_|refine asE ?_)
        refine WN ?_;have e18:=Hr18 _ (Ab.1 H).symm;repeat(first|refine WV ?_|refine asN ?_)
        refine Am ⟨(_,v16),e18.symm,?_⟩;try dsimp only
        exact AA
     ·rintro⟨l20,v19⟩ hz18;try dsimp only at hz18
      have H:=Hl18;rw[hz18]at H;try dsimp only
      refine We (sT (sT (sT (wN ?_))));have e10:=Ab.1 H;repeat(first|refine WV ?_|refine asN ?_)
      refine Am ⟨_,v19,e10.symm,?_⟩;try dsimp only
      exact AA
    ·have H:=Av hb14 H;refine AI ?_;repeat(first|refine AU ?_|refine exO (by decide) ?_|refine asE ?_)
     refine WN ?_;have e10:=Hr10 _ (Ab.1 H).symm;repeat(first|refine WV ?_|refine asN ?_)
     refine Am ⟨(_,v8),e10.symm,?_⟩;try dsimp only
     exact WH (Cut.dead (Cut.cons (Cut.nil _)))
  ·rintro⟨l12,v11⟩ hz10;try dsimp only at hz10
   have H:=Hl10;rw[hz10]at H;try dsimp only
   refine wS (sT (sT (wN ?_)));obtain rfl:=Ab.1 H;exact AH ⟨.inr rfl,W0.own rfl⟩
def Ek(f:Func):M (List Bool):=M.bnd (Dp f (-1)) fun r1=>M.ok r1
theorem Hp{f:Func}{r:List Bool}(H:(Ek f).to r):Fn Try.prog 35 [.agg (Ap f)] (.bs Ty.bool r):=by
 delta Ek at H;try dsimp only at H
 refine AM Try.func35 rfl (by kernel_rfl) rfl Try.ntmps35 fun C hC=>?_
 simp only[List.length_cons,List.length_nil,Nat.reduceAdd,Nat.reduceSub,List.replicate_succ,List.replicate_zero,List.cons_append,List.nil_append];refine wS (sB (sT (wN ?_)));obtain⟨r1,k1,H⟩:=Af.1 H;have k1:=Ho k1;refine wS (sT (sC k1 (sT (wN ?_))));obtain rfl:=Ab.1 H;exact AH ⟨.inr rfl,W0.cl rfl⟩
def C4(f:Func)(r4:List Bool)(a5:Int)(r13:List Bool):(Int×(List (List Int)))→M ((Int×(List (List Int)))⊕((List (List Int)))):=fun(b14,l16)=>M.cnd (decide (b14 < (f.blocks.length:Int))) (M.bnd (M.chk (Bq r4 b14) (M.chk (!(ixD r4 b14)||(Bq r13 b14)) (M.cnd ((ixD r4 b14)&&(!(ixD r13 b14))) (M.chk (WJ (Int.toNat (f.blocks.length:Int)) b14) (M.chk (Bq l16 b14) (M.chk (Wd .i64 a5) (M.chk (GC ((ixD l16 b14).length+ [a5].length) 8) (M.chk (Bq (l16.set (Int.toNat b14) (ixD l16 b14++[a5])) b14) (M.ok (l16.set (Int.toNat b14) (ixD l16 b14++[a5])))))))) (M.ok l16)))) fun l23=>M.ok (.inl (IntKind.i64.wrap (b14+1),l23))) (M.ok (.inr l16))
def DM(f:Func)(r4:List Bool):(Int×(List (List Int)))→M ((Int×(List (List Int)))⊕((List (List Int)))):=fun(a5,l7)=>M.cnd (decide (a5 < (f.blocks.length:Int))) (M.bnd (Dp f a5) fun r13=>M.bnd (M.loop (C4 f r4 a5 r13) (0,l7)) fun l19=>M.ok (.inl (IntKind.i64.wrap (a5+1),l19))) (M.ok (.inr l7))
def EX(f:Func):M (List (List Int)):=M.chk (JW (f.blocks.length:Int) 24) (M.bnd (Ek f) fun r4=>M.bnd (M.loop (DM f r4) (0,List.replicate (Int.toNat (f.blocks.length:Int)) [])) fun l10=>M.ok l10)
theorem JL{f:Func}{r:List (List Int)}(H:(EX f).to r):Fn Try.prog 28 [.agg (Ap f)] (.bs tInt.slice r):=by
 delta EX at H;try dsimp only at H
 refine AM Try.func28 rfl (by kernel_rfl) rfl Try.ntmps28 fun C hC=>?_
 simp only[List.length_cons,List.length_nil,Nat.reduceAdd,Nat.reduceSub,List.replicate_succ,List.replicate_zero,List.cons_append,List.nil_append];refine wS (sB (sT (wN ?_)));obtain⟨c1,H⟩:=Ag.1 H;refine Wf fun K3 hK3=>?_
 refine sA (hq:=Cu rfl J4 rfl) (ht:=(Al Hg)) ?_;refine sA (hq:=BF rfl (Aw Kv) rfl rfl) (ht:=(Al IF)) ?_;refine sA (hq:=Az.ln rfl (Aw J4)) (ht:=(Al GL)) ?_
 (refine AT rfl (OG (e:=27) rfl (by kernel_rfl) rfl rfl c1 fun O2=>?_);refine Dz (ht:=(Al Hf)) ?_)
 refine sA (hq:=Az.assign rfl (Aw Gx)) (ht:=Hf) ?_;refine CC (hK3 _ ?_);obtain⟨r4,k4,H⟩:=Af.1 H;have k4:=Hp k4;refine wS (sT (sC k4 (sT (wN ?_))));obtain⟨z8,HX8,Hl8⟩:=Af.1 H;refine AE (β:=((List (List Int)))×((List Value))) (fun q8=>z8=q8.1) (fun q8=>⟨A3 (.lit (.slice (some ⟨O2,0,none⟩) (Int.toNat (f.blocks.length:Int)) (Int.toNat (f.blocks.length:Int)))::Xd (A9 [])),[.dead,.res (Fh 27 O2 (Int.toNat (f.blocks.length:Int)) q8.2 q8.2 q8.1)]⟩) ?_ ?_
 ·refine wS (sT (wN ?_));refine Aj ?_;refine AJ HX8 (fun s8 b8=>⟨.any::.ptr 0 0::.any::.lit (.slice (some ⟨O2,0,none⟩) (Int.toNat (f.blocks.length:Int)) (Int.toNat (f.blocks.length:Int)))::.bs Ty.bool r4::.lit (.int .i64 s8.1)::Xd (A7 []),[.box (Ap f),.res (Fh 27 O2 (Int.toNat (f.blocks.length:Int)) b8 b8 s8.2)]⟩) (List.replicate (Int.toNat (f.blocks.length:Int)) (.slice none 0 0)) (?_) ?_
  ·try dsimp only
   exact AA
  ·rintro⟨a5,l7⟩ v6 x8 H Hr8;try dsimp only
   dsimp only[DM]at H;refine Aq fun Khs11 hs11=>?_
   refine wS (sT (sT (sT (sT (sT (wN ?_))))));refine An rfl (fun hb12=>?_) (fun hb12=>?_)
   ·have H:=Au hb12 H;refine As ?_;refine hs11 _ ?_;refine nT ?_;obtain⟨r13,k13,H⟩:=Af.1 H;have k13:=Ho k13;obtain⟨z17,HX17,Hl17⟩:=Af.1 H;refine AE (β:=((List (List Int)))×((List Value))) (fun q17=>z17=q17.1) (fun q17=>⟨.any::.ptr 0 0::.any::.lit (.slice (some ⟨O2,0,none⟩) (Int.toNat (f.blocks.length:Int)) (Int.toNat (f.blocks.length:Int)))::.bs Ty.bool r4::.lit (.int .i64 a5)::Xd (A7 []),[.box (Ap f),.res (Fh 27 O2 (Int.toNat (f.blocks.length:Int)) q17.2 q17.2 q17.1)]⟩) ?_ ?_
    ·refine Aj ?_;refine wS (sT (sT (sC k13 (sT (wN ?_)))));refine wS (sT (wN ?_));refine Aj ?_;refine AJ HX17 (fun s17 b17=>⟨.any::.ptr 0 0::.any::.lit (.slice (some ⟨O2,0,none⟩) (Int.toNat (f.blocks.length:Int)) (Int.toNat (f.blocks.length:Int)))::.bs Ty.bool r4::.lit (.int .i64 a5)::.bs Ty.bool r13::.lit (.int .i64 s17.1)::Xd (A5 []),[.box (Ap f),.res (Fh 27 O2 (Int.toNat (f.blocks.length:Int)) b17 b17 s17.2)]⟩) v6 (?_) ?_
     ·try dsimp only
      exact AA
     ·rintro⟨b14,l16⟩ v15 x17 H Hr17;try dsimp only
      dsimp only[C4]at H;refine Aq fun Khs20 hs20=>?_
      refine wS (sT (sT (sT (sT (sT (wN ?_))))));refine An rfl (fun hb21=>?_) (fun hb21=>?_)
      ·have H:=Au hb21 H;refine As ?_;refine hs20 _ ?_;refine nT ?_;obtain⟨z24,HX24,Hl24⟩:=Af.1 H;refine AE (β:=((List (List Int)))×((List Value))) (fun q24=>z24=q24.1) (fun q24=>⟨.any::.ptr 0 0::.any::.lit (.slice (some ⟨O2,0,none⟩) (Int.toNat (f.blocks.length:Int)) (Int.toNat (f.blocks.length:Int)))::.bs Ty.bool r4::.lit (.int .i64 a5)::.bs Ty.bool r13::.lit (.int .i64 b14)::Xd (A5 []),[.box (Ap f),.res (Fh 27 O2 (Int.toNat (f.blocks.length:Int)) q24.2 q24.2 q24.1)]⟩) ?_ ?_
       ·have H:=HX24;refine Aj ?_;obtain⟨c25,H⟩:=Ag.1 H;obtain⟨c26,H⟩:=Ag.1 H;refine wS (sT (sT (sX c25 (sT (sT ?_)))));refine Wn rfl ?_;refine Wn rfl ?_;refine VP rfl c26 ?_;refine Wn rfl ?_;refine Wn rfl (sT (wN ?_));refine An rfl (fun hb27=>?_) (fun hb27=>?_)
        ·have H:=Au hb27 H;obtain⟨c28,H⟩:=Ag.1 H;obtain⟨c29,H⟩:=Ag.1 H;obtain⟨c30,H⟩:=Ag.1 H;obtain⟨c31,H⟩:=Ag.1 H;obtain⟨c33,H⟩:=Ag.1 H;refine V3 fun K34 hK34=>?_
         refine sA (hq:=Az.move rfl Gx) (ht:=(Ak (Al GL))) ?_;refine sA (hq:=Az.move rfl Ji) (ht:=(Ak (Al Hf))) ?_;refine sA (hq:=Az.move rfl Gx) (ht:=(Ak (Al JC))) ?_;refine sA (hq:=Az.move rfl Ji) (ht:=(Ak (Al Ge))) ?_;refine sA (hq:=IW rfl (Ar (Aw IN)) (Ar (Aw H8)) c28) (ht:=(Ak (Al Id))) ?_;refine sA (hq:=Ma (i:=1) rfl (Ar (Aw Iu)) rfl c29) (ht:=(Ak (Al GK))) ?_;refine sA (hq:=Az.move rfl H8) (ht:=(Ak (Al (Al Hg)))) ?_;refine sA (hq:=Az.lt (xs:=[.tmp 48]) (T:=tInt) (ds:=[a5]) rfl rfl rfl (by rfl) (by decide) (.cons (WZ.int c30) .nil)) (ht:=(Ak (Al (Al IF)))) ?_
         (refine AT rfl (NH (i:=1) rfl RT.eq rfl rfl rfl c29 c31 fun w32=>?_);refine Dz (ht:=(Ak (Al (Al GL)))) ?_)
         refine sA (hq:=IW rfl (Ar (Aw M1)) (Ar (Aw Gx)) c28) (ht:=(Ak (Al (Al Hf)))) ?_
         (refine AT rfl (OE (i:=1) rfl rfl rfl rfl c33 ?_);refine Dz (ht:=Mw) ?_)
         refine CC (hK34 _ ?_);have e24:=Ab.1 H;repeat(first|refine WV ?_|refine asN ?_)
         refine Am ⟨(_,v15.set (Int.toNat b14) w32),e24.symm,?_⟩;try dsimp only
         exact AA
        ·have H:=Av hb27 H;refine As ?_;have e24:=Ab.1 H;repeat(first|refine WV ?_|refine asN ?_)
         refine Am ⟨(_,v15),e24.symm,?_⟩;try dsimp only
         exact AA
       ·rintro⟨l23,v22⟩ hz24;try dsimp only at hz24
        have H:=Hl24;rw[hz24]at H;try dsimp only
        refine We (sT (sT (sT (wN ?_))));have e17:=Ab.1 H;repeat(first|refine WV ?_|refine asN ?_)
        refine Am ⟨_,v22,e17.symm,?_⟩;try dsimp only
        exact AA
      ·have H:=Av hb21 H;refine AI ?_;repeat(first|refine AU ?_|refine exO (by decide) ?_|refine asE ?_)
       refine WN ?_;have e17:=Hr17 _ (Ab.1 H).symm;repeat(first|refine WV ?_|refine asN ?_)
       refine Am ⟨(_,v15),e17.symm,?_⟩;try dsimp only
       exact AA
    ·rintro⟨l19,v18⟩ hz17;try dsimp only at hz17
     have H:=Hl17;rw[hz17]at H;try dsimp only
     refine We (sT (sT (sT (wN ?_))));have e8:=Ab.1 H;repeat(first|refine WV ?_|refine asN ?_)
     refine Am ⟨_,v18,e8.symm,?_⟩;try dsimp only
     exact AA
   ·have H:=Av hb12 H;refine AI ?_;repeat(first|refine AU ?_|refine exO (by decide) ?_|refine asE ?_)
    refine WN ?_;have e8:=Hr8 _ (Ab.1 H).symm;repeat(first|refine WV ?_|refine asN ?_)
    refine Am ⟨(_,v6),e8.symm,?_⟩;try dsimp only
    exact WH (Cut.dead (Cut.cons (Cut.nil _)))
 ·rintro⟨l10,v9⟩ hz8;try dsimp only at hz8
  have H:=Hl8;rw[hz8]at H;try dsimp only
  refine wS (sT (sT (wN ?_)));obtain rfl:=Ab.1 H;refine Be _ (Ou hC 1 2 rfl rfl) ?_;exact AH ⟨.inr rfl,W0.cl rfl⟩
def FL(l:List Int)(n:Int):Int→M (Int⊕((Unit)⊕(Bool))):=fun i1=>M.cnd (decide (i1 < (l.length:Int))) (M.chk (Bq l i1) (M.cnd ((ixD l i1) ==n) (M.ok (.inr (.inr true))) (M.ok (.inl (IntKind.i64.wrap (i1+1)))))) (M.ok (.inr (.inl ())))
def JJ(l:List Int)(n:Int):M Bool:=M.els (M.loop (FL l n) 0) fun _=>M.ok false
theorem LI{l:List Int}{n:Int}{r:Bool}(H:(JJ l n).to r):Fn Try.prog 34 [.bs tInt l,.lit (.int .i64 n)] (.lit (.bool r)):=by
 delta JJ at H;try dsimp only at H
 refine AM Try.func34 rfl (by kernel_rfl) rfl Try.ntmps34 fun C hC=>?_
 simp only[List.length_cons,List.length_nil,Nat.reduceAdd,Nat.reduceSub,List.replicate_succ,List.replicate_zero,List.cons_append,List.nil_append];refine wS (sT (wN ?_));obtain⟨z2,HX2,Hl2,Hq2⟩:=Ce H;refine AE (β:=(Unit)×(Unit)) (fun q2=>z2= .inl q2.1) (fun q2=>⟨Xf (A8 []),[]⟩) ?_ ?_
 ·refine wS (sT (wN ?_));refine Aj ?_;refine AJ HX2 (fun s2 b2=>⟨.bs tInt l::.lit (.int .i64 n)::A3 (.lit (.int .i64 s2)::Xf (A2 [])),[]⟩) () (?_) ?_
  ·try dsimp only
   exact AA
  ·rintro i1 _ x2 H Hr2;try dsimp only
   dsimp only[FL]at H;refine Aq fun Khs3 hs3=>?_
   refine wS (sT (sT (sT (sT (wN ?_)))));refine An rfl (fun hb4=>?_) (fun hb4=>?_)
   ·have H:=Au hb4 H;refine As ?_;refine hs3 _ ?_;refine nT ?_;refine Aq fun Khs5 hs5=>?_
    refine Aj ?_;obtain⟨c6,H⟩:=Ag.1 H;refine wS (sT (sT (sX c6 (sT (sT (sT (wN ?_)))))));refine An rfl (fun hb7=>?_) (fun hb7=>?_)
    ·have H:=Au hb7 H;refine wS (sT (wN ?_));have H:=Ab.2 (Hq2 _ (Hr2 _ (Ab.1 H).symm).symm);obtain rfl:=Ab.1 H;exact AH ⟨.inr rfl,W0.cl rfl⟩
    ·have H:=Av hb7 H;refine As ?_;refine hs5 _ ?_;refine nT ?_;refine We (sT (sT (sT (wN ?_))));have e2:=Ab.1 H;repeat(first|refine WV ?_|refine asN ?_)
     refine Am ⟨_,(),e2.symm,?_⟩;try dsimp only
     exact AA
   ·have H:=Av hb4 H;refine AI ?_;repeat(first|refine AU ?_|refine exO (by decide) ?_|refine asE ?_)
    refine WN ?_;have e2:=Hr2 _ (Ab.1 H).symm;repeat(first|refine WV ?_|refine asN ?_)
    refine Am ⟨(_,()),e2.symm,?_⟩;try dsimp only
    exact AA
 ·rintro⟨_,_⟩ hz2;try dsimp only at hz2
  have H:=Hl2 _ hz2;try dsimp only
  refine wS (sT (wN ?_));obtain rfl:=Ab.1 H;exact AH ⟨.inr rfl,W0.cl rfl⟩
def Gf(f:Func)(above:List (List Int))(hP2:Int)(bP3:Int):M Bool:=M.bnd (Hq f bP3) fun r1=>M.bnd (JJ r1 hP2) fun r2=>M.chk (!r2||(Bq above bP3)) (M.bnd (M.whn r2 false (JJ (ixD above bP3) hP2)) fun r4=>M.ok (r2&&r4))
theorem KT{f:Func}{above:List (List Int)}{hP2:Int}{bP3:Int}{r:Bool}(H:(Gf f above hP2 bP3).to r):Fn Try.prog 29 [.agg (Ap f),.bs tInt.slice above,.lit (.int .i64 hP2),.lit (.int .i64 bP3)] (.lit (.bool r)):=by
 delta Gf at H;try dsimp only at H
 refine AM Try.func29 rfl (by kernel_rfl) rfl Try.ntmps29 fun C hC=>?_
 simp only[List.length_cons,List.length_nil,Nat.reduceAdd,Nat.reduceSub,List.replicate_succ,List.replicate_zero,List.cons_append,List.nil_append];refine wS (sB (sT (wN ?_)));obtain⟨r1,k1,H⟩:=Af.1 H;have k1:=Ig k1;obtain⟨r2,k2,H⟩:=Af.1 H;have k2:=LI k2;obtain⟨c3,H⟩:=Ag.1 H;obtain⟨r4,k4,H⟩:=Af.1 H;refine wS (sT (sT (sC k1 (sT (sC k2 (sT ?_))))));refine Wn rfl ?_;refine Wn rfl ?_;refine VP rfl c3 ?_;refine Wn rfl ?_;refine Wn rfl ?_;refine sG (g:=r2) (hg:=DP rfl) (hq:=fun hg=>by((try simp only[B7 hg]);(try simp only[GE hg]);exact AF rfl rfl (LI (M.to_whn k4 hg)) rfl rfl)) (ht:=(Al (Al JC))) ?_;refine sT (sT (wN ?_));obtain rfl:=Ab.1 H;exact AH ⟨.inr rfl,W0.cl rfl⟩
def C1(f:Func)(r1:List (List Int))(h2:Int):(Bool×Int)→M ((Bool×Int)⊕Bool):=fun(some13,b14)=>M.cnd (decide (b14 < (f.blocks.length:Int))) (M.bnd (M.whn (!some13) false (Gf f r1 h2 b14)) fun r22=>M.ok (.inl ((some13||r22),IntKind.i64.wrap (b14+1)))) (M.ok (.inr some13))
def Et(f:Func)(r1:List (List Int)):(Int×(List Int))→M ((Int×(List Int))⊕((List Int))):=fun(h2,l4)=>M.cnd (decide (h2 < (f.blocks.length:Int))) (M.bnd (M.bnd (M.loop (C1 f r1 h2) (false,0)) fun some17=>M.cnd some17 (M.chk (Wd .i64 h2) (M.chk (GC (l4.length+ [h2].length) 8) (M.ok (l4++[h2])))) (M.ok l4)) fun l11=>M.ok (.inl (IntKind.i64.wrap (h2+1),l11))) (M.ok (.inr l4))
def Ei(f:Func):M (List Int):=M.bnd (EX f) fun r1=>M.bnd (M.loop (Et f r1) (0,([]:List Int))) fun l7=>M.ok l7
theorem GN{f:Func}{r:List Int}(H:(Ei f).to r):Fn Try.prog 11 [.agg (Ap f)] (.bs tInt r):=by
 delta Ei at H;try dsimp only at H
 refine AM Try.func11 rfl (by kernel_rfl) rfl Try.ntmps11 fun C hC=>?_
 simp only[List.length_cons,List.length_nil,Nat.reduceAdd,Nat.reduceSub,List.replicate_succ,List.replicate_zero,List.cons_append,List.nil_append];refine wS (sB (sT (wN ?_)));obtain⟨r1,k1,H⟩:=Af.1 H;have k1:=JL k1;refine wS (sT (sC k1 (sT (wN ?_))));refine wS (sT (wN ?_));refine Be _ (Dk 4 3 tInt rfl (by decide)) ?_;obtain⟨z5,HX5,Hl5⟩:=Af.1 H;refine AE (β:=((List Int))×(Nat)) (fun q5=>z5=q5.1) (fun q5=>⟨A4 (.own 1 q5.2::Xe (Xf (A3 []))),[.dead,.row q5.2 3 tInt q5.1]⟩) ?_ ?_
 ·refine wS (sT (wN ?_));refine Aj ?_;refine AJ HX5 (fun s5 b5=>⟨.any::.ptr 0 0::.any::.bs tInt.slice r1::.own 1 b5::.lit (.int .i64 s5.1)::Xe (Xf (A2 [])),[.box (Ap f),.row b5 3 tInt s5.2]⟩) 0 (?_) ?_
  ·try dsimp only
   exact AA
  ·rintro⟨h2,l4⟩ v3 x5 H Hr5;try dsimp only
   dsimp only[Et]at H;refine Aq fun Khs8 hs8=>?_
   refine wS (sT (sT (sT (sT (sT (wN ?_))))));refine An rfl (fun hb9=>?_) (fun hb9=>?_)
   ·have H:=Au hb9 H;refine As ?_;refine hs8 _ ?_;refine nT ?_;obtain⟨z12,HX12,Hl12⟩:=Af.1 H;refine AE (β:=((List Int))×(Nat)) (fun q12=>z12=q12.1) (fun q12=>⟨.any::.ptr 0 0::.any::.bs tInt.slice r1::.own 1 q12.2::.lit (.int .i64 h2)::Xe (Xf (A2 [])),[.box (Ap f),.row q12.2 3 tInt q12.1]⟩) ?_ ?_
    ·have H:=HX12;refine Aj ?_;refine wS (sT (wN ?_));obtain⟨z16,HX16,Hl16⟩:=Af.1 H;refine AE (β:=(Bool)×(Nat)) (fun q16=>z16=q16.1) (fun q16=>⟨.any::.ptr 0 0::.any::.bs tInt.slice r1::.own 1 q16.2::.lit (.int .i64 h2)::.lit (.bool q16.1)::Xe (Xf [.any]),[.box (Ap f),.row q16.2 3 tInt l4]⟩) ?_ ?_
     ·refine wS (sT (wN ?_));refine Aj ?_;refine AJ HX16 (fun s16 b16=>⟨.any::.ptr 0 0::.any::.bs tInt.slice r1::.own 1 b16::.lit (.int .i64 h2)::.lit (.bool s16.1)::.lit (.int .i64 s16.2)::Xe (Xf []),[.box (Ap f),.row b16 3 tInt l4]⟩) v3 (?_) ?_
      ·try dsimp only
       exact AA
      ·rintro⟨some13,b14⟩ v15 x16 H Hr16;try dsimp only
       dsimp only[C1]at H;refine Aq fun Khs19 hs19=>?_
       refine wS (sT (sT (sT (sT (sT (wN ?_))))));refine An rfl (fun hb20=>?_) (fun hb20=>?_)
       ·have H:=Au hb20 H;refine As ?_;refine hs19 _ ?_;refine nT ?_;refine Aq fun Khs21 hs21=>?_
        refine Aj ?_;obtain⟨r22,k22,H⟩:=Af.1 H;refine We (sT (sT ?_));refine sG (g:=(!some13)) (hg:=Qy rfl) (hq:=fun hg=>AB rfl J4 rfl rfl) (ht:=(Al (Al (Al GL)))) ?_;refine Wo rfl ?_;refine Wo rfl ?_;refine Wo rfl ?_;refine sG (g:=(!some13)) (hg:=Qy rfl) (hq:=fun hg=>by((try simp only[B7 hg]);(try simp only[GE hg]);exact AF rfl rfl (KT (M.to_whn k22 hg)) rfl rfl)) (ht:=(Al (Al (Al Id)))) ?_;refine sT (sT (wN ?_));refine hs21 _ ?_;refine nT ?_;refine We (sT (sT (sT (wN ?_))));have e16:=Ab.1 H;repeat(first|refine WV ?_|refine asN ?_)
        refine Am ⟨_,v15,e16.symm,?_⟩;try dsimp only
        exact AA
       ·have H:=Av hb20 H;refine AI ?_;repeat(first|refine AU ?_|refine exO (by decide) ?_|refine asE ?_)
        refine WN ?_;have e16:=Hr16 _ (Ab.1 H).symm;repeat(first|refine WV ?_|refine asN ?_)
        refine Am ⟨(_,v15),e16.symm,?_⟩;try dsimp only
        exact AA
     ·rintro⟨some17,v18⟩ hz16;try dsimp only at hz16
      have H:=Hl16;rw[hz16]at H;try dsimp only
      refine wS (sT (wN ?_));refine An rfl (fun hb23=>?_) (fun hb23=>?_)
      ·have H:=Au hb23 H;obtain⟨c24,H⟩:=Ag.1 H;obtain⟨c25,H⟩:=Ag.1 H;refine We (sT (sT ?_));refine sA (hq:=Az.lt (xs:=[.tmp 34]) (T:=tInt) (ds:=[h2]) rfl rfl rfl (by rfl) (by decide) (.cons (WZ.int c24) .nil)) (ht:=(Ak Hf)) ?_;refine sP c25 (sT (wN ?_));have e12:=Ab.1 H;repeat(first|refine WV ?_|refine asN ?_)
       refine Am ⟨(_,v18+1),e12.symm,?_⟩;try dsimp only
       exact AA
      ·have H:=Av hb23 H;refine As ?_;have e12:=Ab.1 H;repeat(first|refine WV ?_|refine asN ?_)
       refine Am ⟨(_,v18),e12.symm,?_⟩;try dsimp only
       exact AA
    ·rintro⟨l11,v10⟩ hz12;try dsimp only at hz12
     have H:=Hl12;rw[hz12]at H;try dsimp only
     refine We (sT (sT (sT (wN ?_))));have e5:=Ab.1 H;repeat(first|refine WV ?_|refine asN ?_)
     refine Am ⟨_,v10,e5.symm,?_⟩;try dsimp only
     exact AA
   ·have H:=Av hb9 H;refine AI ?_;repeat(first|refine AU ?_|refine exO (by decide) ?_|refine asE ?_)
    refine WN ?_;have e5:=Hr5 _ (Ab.1 H).symm;repeat(first|refine WV ?_|refine asN ?_)
    refine Am ⟨(_,v3),e5.symm,?_⟩;try dsimp only
    exact WH (Cut.dead (Cut.cons (Cut.nil _)))
 ·rintro⟨l7,v6⟩ hz5;try dsimp only at hz5
  have H:=Hl5;rw[hz5]at H;try dsimp only
  refine wS (sT (sT (wN ?_)));obtain rfl:=Ab.1 H;exact AH ⟨.inr rfl,W0.own rfl⟩
def DH(hP1:Int)(b16:Int)(r36:List Int):(Int×(List Bool))→M ((Int×(List Bool))⊕((List Bool))):=fun(k37,l39)=>M.cnd (decide (k37 < (r36.length:Int))) (M.bnd (M.chk (Bq r36 k37) (M.chk (!((ixD r36 k37) !=hP1)||(Bq r36 k37)) (M.chk (!((ixD r36 k37) !=hP1)||(Bq l39 (ixD r36 k37))) (M.cnd (((ixD r36 k37) !=hP1)&&(ixD l39 (ixD r36 k37))) (M.chk (Bq l39 b16) (M.ok (l39.set (Int.toNat b16) true))) (M.ok l39))))) fun l46=>M.ok (.inl (IntKind.i64.wrap (k37+1),l46))) (M.ok (.inr l39))
def DI(f:Func)(hP1:Int)(r5:List (List Int))(r6:List Bool):(Int×(List Bool))→M ((Int×(List Bool))⊕((List Bool))):=fun(b16,l18)=>M.cnd (decide (b16 < (f.blocks.length:Int))) (M.bnd (M.chk (!(!(b16 ==hP1))||(Bq r6 b16)) (M.cnd ((b16 ==hP1)||(!(ixD r6 b16))) (M.ok l18) (M.bnd (M.bnd (Gf f r5 hP1 b16) fun r33=>M.cnd r33 (M.chk (Bq l18 b16) (M.ok (l18.set (Int.toNat b16) true))) (M.ok l18)) fun l31=>M.bnd (Hq f b16) fun r36=>M.bnd (M.loop (DH hP1 b16 r36) (0,l31)) fun l42=>M.ok l42))) fun l25=>M.ok (.inl (IntKind.i64.wrap (b16+1),l25))) (M.ok (.inr l18))
def DJ(f:Func)(hP1:Int)(r5:List (List Int))(r6:List Bool):(Int×(List Bool))→M ((Int×(List Bool))⊕((List Bool))):=fun(n8,l10)=>M.cnd (decide (n8≤(f.blocks.length:Int))) (M.bnd (M.loop (DI f hP1 r5 r6) (0,l10)) fun l21=>M.ok (.inl (IntKind.i64.wrap (n8+1),l21))) (M.ok (.inr l10))
def DG(f:Func)(hP1:Int)(l13:List Bool):(Int×(List Int))→M ((Int×(List Int))⊕((List Int))):=fun(b53,l56)=>M.cnd (decide (b53 < (f.blocks.length:Int))) (M.bnd (M.chk (Bq l13 b53) (M.cnd ((ixD l13 b53)||(b53 ==hP1)) (M.chk (Wd .i64 b53) (M.chk (GC (l56.length+ [b53].length) 8) (M.ok (l56++[b53])))) (M.ok l56))) fun l64=>M.ok (.inl (IntKind.i64.wrap (b53+1),l64))) (M.ok (.inr l56))
def Gg(f:Func)(hP1:Int):M (List Int):=M.bnd (Ei f) fun r2=>M.bnd (JJ r2 hP1) fun r3=>M.cnd (!r3) (M.ok []) (M.bnd (EX f) fun r5=>M.bnd (Ek f) fun r6=>M.chk (JW (f.blocks.length:Int) 1) (M.bnd (M.loop (DJ f hP1 r5 r6) (0,List.replicate (Int.toNat (f.blocks.length:Int)) false)) fun l13=>M.bnd (M.loop (DG f hP1 l13) (0,([]:List Int))) fun l59=>M.ok l59))
theorem KU{f:Func}{hP1:Int}{r:List Int}(H:(Gg f hP1).to r):Fn Try.prog 13 [.agg (Ap f),.lit (.int .i64 hP1)] (.bs tInt r):=by
 delta Gg at H;try dsimp only at H
 refine AM Try.func13 rfl (by kernel_rfl) rfl Try.ntmps13 fun C hC=>?_
 simp only[List.length_cons,List.length_nil,Nat.reduceAdd,Nat.reduceSub,List.replicate_succ,List.replicate_zero,List.cons_append,List.nil_append];refine wS (sB (sT (wN ?_)));refine Aq fun Khs1 hs1=>?_
 obtain⟨r2,k2,H⟩:=Af.1 H;have k2:=GN k2;obtain⟨r3,k3,H⟩:=Af.1 H;have k3:=LI k3;refine wS (sT (sC k2 (sT (sC k3 (sT (wN ?_))))));refine An rfl (fun hb4=>?_) (fun hb4=>?_)
 ·have H:=Au hb4 H;refine wS (sT (wN ?_));obtain rfl:=Ab.1 H;refine Be _ (Jp 4 tInt rfl) ?_;exact AH ⟨.inr rfl,W0.cl rfl⟩
 ·have H:=Av hb4 H;refine As ?_;refine hs1 _ ?_;refine nT ?_;obtain⟨r5,k5,H⟩:=Af.1 H;have k5:=JL k5;obtain⟨r6,k6,H⟩:=Af.1 H;have k6:=Hp k6;refine dS 6 (hq:=?_);refine qT (qC k5 (qT (qC k6 (qT (qT (qN (wN ?_)))))));obtain⟨c7,H⟩:=Ag.1 H;refine wS (sT (sT (sT ?_)));(refine AT rfl (Gd 1 rfl (T:=Ty.bool) (e:=4) (v:=.bool false) (bytes:=1) (false:Bool) rfl (by kernel_rfl) rfl (fun _ _=>rfl) rfl rfl c7 ?_);refine Dz (ht:=(Al (Al (Al GL)))) ?_);refine sT (wN ?_);obtain⟨z11,HX11,Hl11⟩:=Af.1 H;refine AE (β:=((List Bool))×(Nat)) (fun q11=>z11=q11.1) (fun q11=>⟨.any::.lit (.int .i64 hP1)::.ptr 0 0::A4 (.own 1 q11.2::Xc (Xf (A9 []))),[.box (Ap f),.row q11.2 4 Ty.bool q11.1]⟩) ?_ ?_
  ·refine wS (sT (wN ?_));refine Aj ?_;refine AJ HX11 (fun s11 b11=>⟨.any::.lit (.int .i64 hP1)::.ptr 0 0::A2 (.bs tInt.slice r5::.bs Ty.bool r6::.own 1 b11::.lit (.int .i64 s11.1)::Xc (Xf (A8 []))),[.box (Ap f),.row b11 4 Ty.bool s11.2]⟩) 0 (?_) ?_
   ·try dsimp only
    exact AA
   ·rintro⟨n8,l10⟩ v9 x11 H Hr11;try dsimp only
    dsimp only[DJ]at H;refine Aq fun Khs14 hs14=>?_
    refine wS (sT (sT (sT (sT (sT (wN ?_))))));refine An rfl (fun hb15=>?_) (fun hb15=>?_)
    ·have H:=Au hb15 H;refine As ?_;refine hs14 _ ?_;refine nT ?_;obtain⟨z19,HX19,Hl19⟩:=Af.1 H;refine AE (β:=((List Bool))×(Nat)) (fun q19=>z19=q19.1) (fun q19=>⟨.any::.lit (.int .i64 hP1)::.ptr 0 0::A2 (.bs tInt.slice r5::.bs Ty.bool r6::.own 1 q19.2::.lit (.int .i64 n8)::Xc (Xf (A8 []))),[.box (Ap f),.row q19.2 4 Ty.bool q19.1]⟩) ?_ ?_
     ·refine Aj ?_;refine wS (sT (wN ?_));refine Aj ?_;refine AJ HX19 (fun s19 b19=>⟨.any::.lit (.int .i64 hP1)::.ptr 0 0::A2 (.bs tInt.slice r5::.bs Ty.bool r6::.own 1 b19::.lit (.int .i64 n8)::.lit (.int .i64 s19.1)::Xc (Xf (A7 []))),[.box (Ap f),.row b19 4 Ty.bool s19.2]⟩) v9 (?_) ?_
      ·try dsimp only
       exact AA
      ·rintro⟨b16,l18⟩ v17 x19 H Hr19;try dsimp only
       dsimp only[DI]at H;refine Aq fun Khs22 hs22=>?_
       refine wS (sT (sT (sT (sT (sT (wN ?_))))));refine An rfl (fun hb23=>?_) (fun hb23=>?_)
       ·have H:=Au hb23 H;refine As ?_;refine hs22 _ ?_;refine nT ?_;obtain⟨z26,HX26,Hl26⟩:=Af.1 H;refine AE (β:=((List Bool))×(Nat)) (fun q26=>z26=q26.1) (fun q26=>⟨.any::.lit (.int .i64 hP1)::.ptr 0 0::A2 (.bs tInt.slice r5::.bs Ty.bool r6::.own 1 q26.2::.lit (.int .i64 n8)::.lit (.int .i64 b16)::Xc (Xf (A7 []))),[.box (Ap f),.row q26.2 4 Ty.bool q26.1]⟩) ?_ ?_
        ·have H:=HX26;refine Aj ?_;refine Aq fun Khs27 hs27=>?_
         obtain⟨c28,H⟩:=Ag.1 H;refine wS (sT (sT (sT (sT ?_))));refine Wo rfl ?_;refine Wo rfl ?_;refine sG (g:=(!(b16 ==hP1))) (hg:=Qy rfl) (hq:=fun hg=>Ct rfl ((Ar (Aw H8)).trans (B7 hg _ _)) ((Ar (Aw Iu)).trans (B7 hg _ _)) rfl (FU c28 hg)) (ht:=(Ak (Al GK))) ?_;refine Wo rfl ?_;refine Wo rfl (sT (wN ?_));refine An rfl (fun hb29=>?_) (fun hb29=>?_)
         ·have H:=Au hb29 H;refine AI ?_;repeat(first|refine AU ?_|refine exO (by decide) ?_|refine asE ?_)
          refine WN ?_;have e26:=Ab.1 H;repeat(first|refine WV ?_|refine asN ?_)
          refine Am ⟨(_,v17),e26.symm,?_⟩;try dsimp only
          exact AA
         ·have H:=Av hb29 H;refine As ?_;refine hs27 _ ?_;refine nT ?_;obtain⟨z32,HX32,Hl32⟩:=Af.1 H;refine AE (β:=((List Bool))×(Nat)) (fun q32=>z32=q32.1) (fun q32=>⟨.any::.lit (.int .i64 hP1)::.ptr 0 0::A2 (.bs tInt.slice r5::.bs Ty.bool r6::.own 1 q32.2::.lit (.int .i64 n8)::.lit (.int .i64 b16)::Xc (Xf (A7 []))),[.box (Ap f),.row q32.2 4 Ty.bool q32.1]⟩) ?_ ?_
          ·have H:=HX32;obtain⟨r33,k33,H⟩:=Af.1 H;have k33:=KT k33;refine wS (sT (sT (sT (sT (sC k33 (wN ?_))))));refine An rfl (fun hb34=>?_) (fun hb34=>?_)
           ·have H:=Au hb34 H;obtain⟨c35,H⟩:=Ag.1 H;refine We (sT (sT ?_));refine sA (hq:=AS rfl (Ar (Aw (Aw (Aw Kv)))) rfl (Ar (Aw (Aw (Aw J4)))) rfl c35) (ht:=(Ak (Al (Al (Al GL))))) ?_;(refine AT rfl (BW rfl rfl rfl (A0 c35) WZ.bool rfl ?_);refine Dz (ht:=Mw) ?_);refine wN ?_;have e32:=Ab.1 H;repeat(first|refine WV ?_|refine asN ?_)
            refine Am ⟨(_,v17),e32.symm,?_⟩;try dsimp only
            exact AA
           ·have H:=Av hb34 H;refine As ?_;have e32:=Ab.1 H;repeat(first|refine WV ?_|refine asN ?_)
            refine Am ⟨(_,v17),e32.symm,?_⟩;try dsimp only
            exact AA
          ·rintro⟨l31,v30⟩ hz32;try dsimp only at hz32
           have H:=Hl32;rw[hz32]at H;try dsimp only
           obtain⟨r36,k36,H⟩:=Af.1 H;have k36:=Ig k36;refine wS (sT (sT (sC k36 (sT (wN ?_)))));refine wS (sT (wN ?_));obtain⟨z40,HX40,Hl40⟩:=Af.1 H;refine F9 (β:=((List Bool))×(Nat)) (fun q40=>z40=q40.1) (fun q40=>⟨.any::.lit (.int .i64 hP1)::.ptr 0 0::A2 (.bs tInt.slice r5::.bs Ty.bool r6::.own 1 q40.2::.lit (.int .i64 n8)::.lit (.int .i64 b16)::Xc (Xf (A7 []))),[.box (Ap f),.row q40.2 4 Ty.bool q40.1]⟩) ?_ ?_
           ·refine Aj ?_;refine AJ HX40 (fun s40 b40=>⟨.any::.lit (.int .i64 hP1)::.ptr 0 0::A2 (.bs tInt.slice r5::.bs Ty.bool r6::.own 1 b40::.lit (.int .i64 n8)::.lit (.int .i64 b16)::.bs tInt r36::.lit (.int .i64 s40.1)::Xc (Xf (A5 []))),[.box (Ap f),.row b40 4 Ty.bool s40.2]⟩) v30 (?_) ?_
            ·try dsimp only
             exact AA
            ·rintro⟨k37,l39⟩ v38 x40 H Hr40;try dsimp only
             dsimp only[DH]at H;refine Aq fun Khs43 hs43=>?_
             refine wS (sT (sT (sT (sT (wN ?_)))));refine An rfl (fun hb44=>?_) (fun hb44=>?_)
             ·have H:=Au hb44 H;refine As ?_;refine hs43 _ ?_;refine nT ?_;obtain⟨z47,HX47,Hl47⟩:=Af.1 H;refine AE (β:=((List Bool))×(Nat)) (fun q47=>z47=q47.1) (fun q47=>⟨.any::.lit (.int .i64 hP1)::.ptr 0 0::A2 (.bs tInt.slice r5::.bs Ty.bool r6::.own 1 q47.2::.lit (.int .i64 n8)::.lit (.int .i64 b16)::.bs tInt r36::.lit (.int .i64 k37)::Xc (Xf (A5 []))),[.box (Ap f),.row q47.2 4 Ty.bool q47.1]⟩) ?_ ?_
              ·have H:=HX47;refine Aj ?_;obtain⟨c48,H⟩:=Ag.1 H;obtain⟨c49,H⟩:=Ag.1 H;obtain⟨c50,H⟩:=Ag.1 H;refine wS (sT (sT (sX c48 (sT (sT (sT (sT ?_)))))));refine Wn rfl ?_;refine Wn rfl ?_;refine Wn rfl ?_;refine VP rfl c49 ?_;refine Wn rfl ?_;refine sG (g:=((ixD r36 k37) !=hP1)) (hg:=DP rfl) (hq:=fun hg=>AS rfl ((Ar (Ar (Aw Gx))).trans (B7 hg _ _)) rfl ((Ar (Ar (Aw Ji))).trans (B7 hg _ _)) rfl (FU c50 hg)) (ht:=(Ak (Ak (Al (Al Hg))))) ?_;refine sG (g:=((ixD r36 k37) !=hP1)) (hg:=DP rfl) (hq:=fun hg=>AO rfl ((Ar (Ar (Aw (Aw Kv)))).trans (B7 hg _ _)) rfl (A0 (FU c50 hg)) rfl) (ht:=(Ak (Ak (Al (Al IF))))) (hk:=?_);refine sT (wN ?_);refine An rfl (fun hb51=>?_) (fun hb51=>?_)
               ·have H:=Au hb51 H;obtain⟨c52,H⟩:=Ag.1 H;refine We (sT (sT ?_));refine sA (hq:=AS rfl (Ar (Ar (Aw (Aw Gx)))) rfl (Ar (Ar (Aw (Aw IN)))) rfl c52) (ht:=(Ak (Ak (Al (Al Ge))))) ?_;(refine AT rfl (BW rfl rfl rfl (A0 c52) WZ.bool rfl ?_);refine Dz (ht:=Mw) ?_);refine wN ?_;have e47:=Ab.1 H;repeat(first|refine WV ?_|refine asN ?_)
                refine Am ⟨(_,v38),e47.symm,?_⟩;try dsimp only
                exact AA
               ·have H:=Av hb51 H;refine As ?_;have e47:=Ab.1 H;repeat(first|refine WV ?_|refine asN ?_)
                refine Am ⟨(_,v38),e47.symm,?_⟩;try dsimp only
                exact AA
              ·rintro⟨l46,v45⟩ hz47;try dsimp only at hz47
               have H:=Hl47;rw[hz47]at H;try dsimp only
               refine We (sT (sT (sT (wN ?_))));have e40:=Ab.1 H;repeat(first|refine WV ?_|refine asN ?_)
               refine Am ⟨_,v45,e40.symm,?_⟩;try dsimp only
               exact AA
             ·have H:=Av hb44 H;refine AI ?_;repeat(first|refine AU ?_|refine exO (by decide) ?_|refine asE ?_)
              refine WN ?_;have e40:=Hr40 _ (Ab.1 H).symm;repeat(first|refine WV ?_|refine asN ?_)
              refine Am ⟨(_,v38),e40.symm,?_⟩;try dsimp only
              exact AA
           ·rintro⟨l42,v41⟩ s40 hz40 hle40;try dsimp only at hz40
            try dsimp only at hle40
            have H:=Hl40;rw[hz40]at H;have e26:=Ab.1 H;repeat(first|refine WV ?_|refine asN ?_)
            refine Am ⟨(_,v41),e26.symm,?_⟩;try dsimp only
            refine St.le.trans hle40 ?_;exact AA
        ·rintro⟨l25,v24⟩ hz26;try dsimp only at hz26
         have H:=Hl26;rw[hz26]at H;try dsimp only
         refine We (sT (sT (sT (wN ?_))));have e19:=Ab.1 H;repeat(first|refine WV ?_|refine asN ?_)
         refine Am ⟨_,v24,e19.symm,?_⟩;try dsimp only
         exact AA
       ·have H:=Av hb23 H;refine AI ?_;repeat(first|refine AU ?_|refine exO (by decide) ?_|refine asE ?_)
        refine WN ?_;have e19:=Hr19 _ (Ab.1 H).symm;repeat(first|refine WV ?_|refine asN ?_)
        refine Am ⟨(_,v17),e19.symm,?_⟩;try dsimp only
        exact AA
     ·rintro⟨l21,v20⟩ hz19;try dsimp only at hz19
      have H:=Hl19;rw[hz19]at H;try dsimp only
      refine We (sT (sT (sT (wN ?_))));have e11:=Ab.1 H;repeat(first|refine WV ?_|refine asN ?_)
      refine Am ⟨_,v20,e11.symm,?_⟩;try dsimp only
      exact AA
    ·have H:=Av hb15 H;refine AI ?_;repeat(first|refine AU ?_|refine exO (by decide) ?_|refine asE ?_)
     refine WN ?_;have e11:=Hr11 _ (Ab.1 H).symm;repeat(first|refine WV ?_|refine asN ?_)
     refine Am ⟨(_,v9),e11.symm,?_⟩;try dsimp only
     exact AA
  ·rintro⟨l13,v12⟩ hz11;try dsimp only at hz11
   have H:=Hl11;rw[hz11]at H;try dsimp only
   refine wS (sT (wN ?_));refine Be _ (Dk 12 3 tInt rfl (by decide)) ?_;obtain⟨z57,HX57,Hl57⟩:=Af.1 H;refine AE (β:=((List Int))×(Nat)) (fun q57=>z57=q57.1) (fun q57=>⟨Xf (A2 (.own 2 q57.2::Xc (Xf (A4 [])))),[.dead,.dead,.row q57.2 3 tInt q57.1]⟩) ?_ ?_
   ·refine wS (sT (wN ?_));refine Aj ?_;refine AJ HX57 (fun s57 b57=>⟨.any::.lit (.int .i64 hP1)::.ptr 0 0::A4 (.own 1 b57.1::A4 (.own 2 b57.2::.lit (.int .i64 s57.1)::Xc (Xf (A3 [])))),[.box (Ap f),.row b57.1 4 Ty.bool l13,.row b57.2 3 tInt s57.2]⟩) (v12,0) (?_) ?_
    ·try dsimp only
     exact AA
    ·rintro⟨b53,l56⟩ ⟨v54,v55⟩ x57 H Hr57;try dsimp only
     dsimp only[DG]at H;refine Aq fun Khs60 hs60=>?_
     refine wS (sT (sT (sT (sT (sT (wN ?_))))));refine An rfl (fun hb61=>?_) (fun hb61=>?_)
     ·have H:=Au hb61 H;refine As ?_;refine hs60 _ ?_;refine nT ?_;obtain⟨z65,HX65,Hl65⟩:=Af.1 H;refine AE (β:=((List Int))×(Nat×Nat)) (fun q65=>z65=q65.1) (fun q65=>⟨.any::.lit (.int .i64 hP1)::.ptr 0 0::A4 (.own 1 q65.2.1::A4 (.own 2 q65.2.2::.lit (.int .i64 b53)::Xc (Xf (A3 [])))),[.box (Ap f),.row q65.2.1 4 Ty.bool l13,.row q65.2.2 3 tInt q65.1]⟩) ?_ ?_
      ·have H:=HX65;refine Aj ?_;obtain⟨c66,H⟩:=Ag.1 H;refine wS (sT (sT ?_));refine sA (hq:=AS rfl (Ar (Ar (Aw (Aw (Aw H8))))) rfl (Ar (Ar (Aw (Aw (Aw Iu))))) rfl c66) (ht:=(Ak (Ak (Al (Al (Al GK)))))) (hk:=?_);refine sA (hq:=AO rfl (Ar (Ar (Aw (Aw (Aw Ji))))) rfl (A0 c66) rfl) (ht:=(Ak (Ak (Ak Hg)))) (hk:=?_);refine sT ?_;refine Wo rfl ?_;refine Wo rfl ?_;refine Wo rfl (sT (wN ?_));refine An rfl (fun hb67=>?_) (fun hb67=>?_)
       ·have H:=Au hb67 H;obtain⟨c68,H⟩:=Ag.1 H;obtain⟨c69,H⟩:=Ag.1 H;refine We (sT (sT ?_));refine sA (hq:=Az.lt (xs:=[.tmp 103]) (T:=tInt) (ds:=[b53]) rfl rfl rfl (by rfl) (by decide) (.cons (WZ.int c68) .nil)) (ht:=(Ak (Ak (Ak (Al Hg))))) ?_;refine sP c69 (sT (wN ?_));have e65:=Ab.1 H;repeat(first|refine WV ?_|refine asN ?_)
        refine Am ⟨(_,(v54,v55+1)),e65.symm,?_⟩;try dsimp only
        exact AA
       ·have H:=Av hb67 H;refine As ?_;have e65:=Ab.1 H;repeat(first|refine WV ?_|refine asN ?_)
        refine Am ⟨(_,(v54,v55)),e65.symm,?_⟩;try dsimp only
        exact AA
      ·rintro⟨l64,⟨v62,v63⟩⟩ hz65;try dsimp only at hz65
       have H:=Hl65;rw[hz65]at H;try dsimp only
       refine We (sT (sT (sT (wN ?_))));have e57:=Ab.1 H;repeat(first|refine WV ?_|refine asN ?_)
       refine Am ⟨_,(v62,v63),e57.symm,?_⟩;try dsimp only
       exact AA
     ·have H:=Av hb61 H;refine AI ?_;repeat(first|refine AU ?_|refine exO (by decide) ?_|refine asE ?_)
      refine WN ?_;have e57:=Hr57 _ (Ab.1 H).symm;repeat(first|refine WV ?_|refine asN ?_)
      refine Am ⟨(_,v55),e57.symm,?_⟩;try dsimp only
      exact WH (Cut.dead (Cut.dead (Cut.cons (Cut.nil _))))
   ·rintro⟨l59,v58⟩ hz57;try dsimp only at hz57
    have H:=Hl57;rw[hz57]at H;try dsimp only
    refine wS (sT (sT (wN ?_)));obtain rfl:=Ab.1 H;exact AH ⟨.inr rfl,W0.own rfl⟩
def C2(r12:List Int):(Int×(List Int))→M ((Int×(List Int))⊕((List Int))):=fun(k13,l15)=>M.cnd (decide (k13 < (r12.length:Int))) (M.chk (Bq r12 k13) (M.chk (Bq l15 (ixD r12 k13)) (M.chk (Wd .i64 (IntKind.i64.wrap ((ixD l15 (ixD r12 k13))+1))) (M.ok (.inl (IntKind.i64.wrap (k13+1),l15.set (Int.toNat (ixD r12 k13)) (IntKind.i64.wrap ((ixD l15 (ixD r12 k13))+1)))))))) (M.ok (.inr l15))
def DK(f:Func)(r1:List Int):(Int×(List Int))→M ((Int×(List Int))⊕((List Int))):=fun(i3,l5)=>M.cnd (decide (i3 < (r1.length:Int))) (M.chk (Bq r1 i3) (M.bnd (Gg f (ixD r1 i3)) fun r12=>M.bnd (M.loop (C2 r12) (0,l5)) fun l18=>M.ok (.inl (IntKind.i64.wrap (i3+1),l18)))) (M.ok (.inr l5))
def EW(f:Func):M (List Int):=M.bnd (Ei f) fun r1=>M.chk (JW (f.blocks.length:Int) 8) (M.bnd (M.loop (DK f r1) (0,List.replicate (Int.toNat (f.blocks.length:Int)) 0)) fun l8=>M.ok l8)
theorem JK{f:Func}{r:List Int}(H:(EW f).to r):Fn Try.prog 8 [.agg (Ap f)] (.bs tInt r):=by
 delta EW at H;try dsimp only at H
 refine AM Try.func8 rfl (by kernel_rfl) rfl Try.ntmps8 fun C hC=>?_
 simp only[List.length_cons,List.length_nil,Nat.reduceAdd,Nat.reduceSub,List.replicate_succ,List.replicate_zero,List.cons_append,List.nil_append];refine wS (sB (sT (wN ?_)));obtain⟨r1,k1,H⟩:=Af.1 H;have k1:=GN k1;refine wS (sT (sC k1 (sT (wN ?_))));obtain⟨c2,H⟩:=Ag.1 H;refine wS (sT (sT (sT ?_)));(refine AT rfl (Gd 1 rfl (T:=tInt) (e:=3) (v:=.int .i64 0) (bytes:=8) (0:Int) rfl (by kernel_rfl) rfl (fun _ _=>⟨rfl,by decide⟩) rfl rfl c2 ?_);refine Dz (ht:=(Al Ge)) ?_);refine sT (wN ?_);obtain⟨z6,HX6,Hl6⟩:=Af.1 H;refine AE (β:=((List Int))×(Nat)) (fun q6=>z6=q6.1) (fun q6=>⟨A4 (.own 1 q6.2::Xe (Xf (A7 []))),[.dead,.row q6.2 3 tInt q6.1]⟩) ?_ ?_
 ·refine wS (sT (wN ?_));refine Aj ?_;refine AJ HX6 (fun s6 b6=>⟨.any::.ptr 0 0::.any::.bs tInt r1::.own 1 b6::.lit (.int .i64 s6.1)::Xe (Xf (A6 [])),[.box (Ap f),.row b6 3 tInt s6.2]⟩) 0 (?_) ?_
  ·try dsimp only
   exact AA
  ·rintro⟨i3,l5⟩ v4 x6 H Hr6;try dsimp only
   dsimp only[DK]at H;refine Aq fun Khs9 hs9=>?_
   refine wS (sT (sT (sT (sT (wN ?_)))));refine An rfl (fun hb10=>?_) (fun hb10=>?_)
   ·have H:=Au hb10 H;refine As ?_;refine hs9 _ ?_;refine nT ?_;obtain⟨c11,H⟩:=Ag.1 H;obtain⟨r12,k12,H⟩:=Af.1 H;have k12:=KU k12;obtain⟨z16,HX16,Hl16⟩:=Af.1 H;refine AE (β:=((List Int))×(Nat)) (fun q16=>z16=q16.1) (fun q16=>⟨.any::.ptr 0 0::.any::.bs tInt r1::.own 1 q16.2::.lit (.int .i64 i3)::Xe (Xf (A6 [])),[.box (Ap f),.row q16.2 3 tInt q16.1]⟩) ?_ ?_
    ·refine Aj ?_;refine dS 7 (hq:=?_);refine qT (qT (qT (qX c11 (qT (qC k12 (qT (qN (wN ?_))))))));refine wS (sT (wN ?_));refine Aj ?_;refine AJ HX16 (fun s16 b16=>⟨.any::.ptr 0 0::.any::.bs tInt r1::.own 1 b16::.lit (.int .i64 i3)::.bs tInt r12::.lit (.int .i64 s16.1)::Xe (Xf (A4 [])),[.box (Ap f),.row b16 3 tInt s16.2]⟩) v4 (?_) ?_
     ·try dsimp only
      exact AA
     ·rintro⟨k13,l15⟩ v14 x16 H Hr16;try dsimp only
      dsimp only[C2]at H;refine Aq fun Khs19 hs19=>?_
      refine wS (sT (sT (sT (sT (wN ?_)))));refine An rfl (fun hb20=>?_) (fun hb20=>?_)
      ·have H:=Au hb20 H;refine As ?_;refine hs19 _ ?_;refine nT ?_;refine Aq fun Khs21 hs21=>?_
       refine Aj ?_;obtain⟨c22,H⟩:=Ag.1 H;obtain⟨c23,H⟩:=Ag.1 H;obtain⟨c24,H⟩:=Ag.1 H;refine We (sT (sT (sT (sX c22 (sT ?_)))));refine sA (hq:=AS rfl (Ar Kv) rfl (Ar IN) rfl c23) (ht:=(Ak Ge)) ?_;refine sA (hq:=AO rfl (Ar H8) rfl (A0 c23) rfl) (ht:=(Ak Id)) ?_;refine sT ?_;refine sA (hq:=AS rfl (Ar Kv) rfl (Ar IN) rfl c23) (ht:=(Ak (Al Hg))) ?_;(refine AT rfl (BW rfl rfl rfl (A0 c23) (WZ.int c24) rfl ?_);refine Dz (ht:=Mw) ?_);refine wN ?_;refine hs21 _ ?_;refine nT ?_;refine We (sT (sT (sT (wN ?_))));have e16:=Ab.1 H;repeat(first|refine WV ?_|refine asN ?_)
       refine Am ⟨_,v14,e16.symm,?_⟩;try dsimp only
       exact AA
      ·have H:=Av hb20 H;refine AI ?_;repeat(first|refine AU ?_|refine exO (by decide) ?_|refine asE ?_)
       refine WN ?_;have e16:=Hr16 _ (Ab.1 H).symm;repeat(first|refine WV ?_|refine asN ?_)
       refine Am ⟨(_,v14),e16.symm,?_⟩;try dsimp only
       exact AA
    ·rintro⟨l18,v17⟩ hz16;try dsimp only at hz16
     have H:=Hl16;rw[hz16]at H;try dsimp only
     refine We (sT (sT (sT (wN ?_))));have e6:=Ab.1 H;repeat(first|refine WV ?_|refine asN ?_)
     refine Am ⟨_,v17,e6.symm,?_⟩;try dsimp only
     exact AA
   ·have H:=Av hb10 H;refine AI ?_;repeat(first|refine AU ?_|refine exO (by decide) ?_|refine asE ?_)
    refine WN ?_;have e6:=Hr6 _ (Ab.1 H).symm;repeat(first|refine WV ?_|refine asN ?_)
    refine Am ⟨(_,v4),e6.symm,?_⟩;try dsimp only
    exact WH (Cut.dead (Cut.cons (Cut.nil _)))
 ·rintro⟨l8,v7⟩ hz6;try dsimp only at hz6
  have H:=Hl6;rw[hz6]at H;try dsimp only
  refine wS (sT (sT (wN ?_)));obtain rfl:=Ab.1 H;exact AH ⟨.inr rfl,W0.own rfl⟩
def DF(rP1:Int)(r1:List Int):(Int×Int)→M ((Int×Int)⊕Int):=fun(n2,i3)=>M.cnd (decide (i3 < (r1.length:Int))) (M.bnd (M.chk (Bq r1 i3) (M.cnd ((ixD r1 i3) ==rP1) (M.ok (IntKind.i64.wrap (n2+1))) (M.ok n2))) fun n8=>M.ok (.inl (n8,IntKind.i64.wrap (i3+1)))) (M.ok (.inr n2))
def FK(x:Ins)(rP1:Int):M Int:=M.bnd (JM x) fun r1=>M.bnd (M.loop (DF rP1 r1) (0,0)) fun n5=>M.bnd (Ih x) fun r12=>M.bnd (M.cnd (r12.2&&(r12.1 ==rP1)) (M.ok (IntKind.i64.wrap (n5+1))) (M.ok n5)) fun n13=>M.ok n13
theorem N2{x:Ins}{rP1:Int}{r:Int}(H:(FK x rP1).to r):Fn Try.prog 39 [.agg (B8 x),.lit (.int .i64 rP1)] (.lit (.int .i64 r)):=by
 delta FK at H;try dsimp only at H
 refine AM Try.func39 rfl (by kernel_rfl) rfl Try.ntmps39 fun C hC=>?_
 simp only[List.length_cons,List.length_nil,Nat.reduceAdd,Nat.reduceSub,List.replicate_succ,List.replicate_zero,List.cons_append,List.nil_append];refine wS (sB (sT (wN ?_)));refine wS (sT (wN ?_));obtain⟨r1,k1,H⟩:=Af.1 H;have k1:=N4 k1;refine wS (sT (sC k1 (sT (wN ?_))));obtain⟨z4,HX4,Hl4⟩:=Af.1 H;refine AE (β:=(Int)×(Unit)) (fun q4=>z4=q4.1) (fun q4=>⟨.any::.lit (.int .i64 rP1)::.ptr 0 0::A2 (.lit (.int .i64 q4.1)::Xe (Xf (A4 []))),[.box (B8 x)]⟩) ?_ ?_
 ·refine wS (sT (wN ?_));refine Aj ?_;refine AJ HX4 (fun s4 b4=>⟨.any::.lit (.int .i64 rP1)::.ptr 0 0::A2 (.lit (.int .i64 s4.1)::.bs tInt r1::.lit (.int .i64 s4.2)::Xe (Xf (A2 []))),[.box (B8 x)]⟩) () (?_) ?_
  ·try dsimp only
   exact AA
  ·rintro⟨n2,i3⟩ _ x4 H Hr4;try dsimp only
   dsimp only[DF]at H;refine Aq fun Khs6 hs6=>?_
   refine wS (sT (sT (sT (sT (wN ?_)))));refine An rfl (fun hb7=>?_) (fun hb7=>?_)
   ·have H:=Au hb7 H;refine As ?_;refine hs6 _ ?_;refine nT ?_;obtain⟨z9,HX9,Hl9⟩:=Af.1 H;refine AE (β:=(Int)×(Unit)) (fun q9=>z9=q9.1) (fun q9=>⟨.any::.lit (.int .i64 rP1)::.ptr 0 0::A2 (.lit (.int .i64 q9.1)::.bs tInt r1::.lit (.int .i64 i3)::Xe (Xf (A2 []))),[.box (B8 x)]⟩) ?_ ?_
    ·have H:=HX9;refine Aj ?_;obtain⟨c10,H⟩:=Ag.1 H;refine wS (sT (sT (sX c10 (sT (sT (sT (wN ?_)))))));refine An rfl (fun hb11=>?_) (fun hb11=>?_)
     ·have H:=Au hb11 H;refine We (sT (sT (sT (wN ?_))));have e9:=Ab.1 H;repeat(first|refine WV ?_|refine asN ?_)
      refine Am ⟨(_,()),e9.symm,?_⟩;try dsimp only
      exact AA
     ·have H:=Av hb11 H;refine As ?_;have e9:=Ab.1 H;repeat(first|refine WV ?_|refine asN ?_)
      refine Am ⟨(_,()),e9.symm,?_⟩;try dsimp only
      exact AA
    ·rintro⟨n8,_⟩ hz9;try dsimp only at hz9
     have H:=Hl9;rw[hz9]at H;try dsimp only
     refine We (sT (sT (sT (wN ?_))));have e4:=Ab.1 H;repeat(first|refine WV ?_|refine asN ?_)
     refine Am ⟨_,(),e4.symm,?_⟩;try dsimp only
     exact AA
   ·have H:=Av hb7 H;refine AI ?_;repeat(first|refine AU ?_|refine exO (by decide) ?_|refine asE ?_)
    refine WN ?_;have e4:=Hr4 _ (Ab.1 H).symm;repeat(first|refine WV ?_|refine asN ?_)
    refine Am ⟨(_,()),e4.symm,?_⟩;try dsimp only
    exact AA
 ·rintro⟨n5,_⟩ hz4;try dsimp only at hz4
  have H:=Hl4;rw[hz4]at H;try dsimp only
  obtain⟨r12,k12,H⟩:=Af.1 H;have k12:=MG k12;refine wS (sT (sC k12 (sT (sT (sT (sT (sT (wN ?_))))))));obtain⟨z14,HX14,Hl14⟩:=Af.1 H;refine AE (β:=(Int)×(Unit)) (fun q14=>z14=q14.1) (fun q14=>⟨A5 (.lit (.int .i64 q14.1)::Xe (Xf (A4 []))),[.dead]⟩) ?_ ?_
  ·have H:=HX14;refine wS (sT (sT ?_));refine Wn rfl ?_;refine Wn rfl ?_;refine Wn rfl (sT (wN ?_));refine An rfl (fun hb15=>?_) (fun hb15=>?_)
   ·have H:=Au hb15 H;refine We (sT (sT (sT (wN ?_))));have e14:=Ab.1 H;repeat(first|refine WV ?_|refine asN ?_)
    refine Am ⟨(_,()),e14.symm,?_⟩;try dsimp only
    exact WH (Cut.dead (Cut.nil _))
   ·have H:=Av hb15 H;refine As ?_;have e14:=Ab.1 H;repeat(first|refine WV ?_|refine asN ?_)
    refine Am ⟨(_,()),e14.symm,?_⟩;try dsimp only
    exact WH (Cut.dead (Cut.nil _))
  ·rintro⟨n13,_⟩ hz14;try dsimp only at hz14
   have H:=Hl14;rw[hz14]at H;try dsimp only
   refine wS (sT (sT (wN ?_)));obtain rfl:=Ab.1 H;exact AH ⟨.inr rfl,W0.cl rfl⟩
def DL(f:Func)(depth:List Int)(rP2:Int)(b2:Int):(Int×Int)→M ((Int×Int)⊕Int):=fun(sum8,i9)=>M.chk (Bq f.blocks b2) (M.cnd (decide (i9 < (((ixD f.blocks b2).ins).length:Int))) (M.chk (Bq depth b2) (M.chk (Bq [1,10,100,1000,10000] (if 4 < (ixD depth b2)then 4 else(ixD depth b2))) (M.chk (Bq f.blocks b2) (M.chk (Bq ((ixD f.blocks b2).ins) i9) (M.bnd (FK (ixD ((ixD f.blocks b2).ins) i9) rP2) fun r22=>M.ok (.inl (IntKind.i64.wrap (sum8+(IntKind.i64.wrap ((ixD [1,10,100,1000,10000] (if 4 < (ixD depth b2)then 4 else(ixD depth b2))) * r22))),IntKind.i64.wrap (i9+1)))))))) (M.ok (.inr sum8)))
def Ej(f:Func)(depth:List Int)(rP2:Int):(Int×Int)→M ((Int×Int)⊕Int):=fun(sum1,b2)=>M.cnd (decide (b2 < (f.blocks.length:Int))) (M.bnd (M.loop (DL f depth rP2 b2) (sum1,0)) fun sum12=>M.ok (.inl (sum12,IntKind.i64.wrap (b2+1)))) (M.ok (.inr sum1))
def Eu(f:Func)(depth:List Int)(rP2:Int):M Int:=M.bnd (M.loop (Ej f depth rP2) (0,0)) fun sum5=>M.ok sum5
theorem If{f:Func}{depth:List Int}{rP2:Int}{r:Int}(H:(Eu f depth rP2).to r):Fn Try.prog 16 [.agg (Ap f),.bs tInt depth,.lit (.int .i64 rP2)] (.lit (.int .i64 r)):=by
 delta Eu at H;try dsimp only at H
 refine AM Try.func16 rfl (by kernel_rfl) rfl Try.ntmps16 fun C hC=>?_
 simp only[List.length_cons,List.length_nil,Nat.reduceAdd,Nat.reduceSub,List.replicate_succ,List.replicate_zero,List.cons_append,List.nil_append];refine wS (sB (sT (wN ?_)));refine wS ?_;(refine AT rfl (H7 1 rfl (xs:=[.const (.int .i64 1),.const (.int .i64 10),.const (.int .i64 100),.const (.int .i64 1000),.const (.int .i64 10000)]) (T:=tInt) (ds:=[1,10,100,1000,10000]) rfl rfl rfl (RT.eq (n:=1) (bytes:=8)) (by decide) (by decide) (.cons (WZ.int (EQ (by decide))) (.cons (WZ.int (EQ (by decide))) (.cons (WZ.int (EQ (by decide))) (.cons (WZ.int (EQ (by decide))) (.cons (WZ.int (EQ (by decide))) .nil))))) ?_);refine Dz (ht:=(Al Hf)) ?_);refine sT (wN ?_);refine wS (sT (wN ?_));obtain⟨z4,HX4,Hl4⟩:=Af.1 H;refine AE (β:=(Int)×(Unit)) (fun q4=>z4=q4.1) (fun q4=>⟨A8 (.lit (.int .i64 q4.1)::Xd (A4 [])),[.dead,.dead]⟩) ?_ ?_
 ·refine wS (sT (wN ?_));refine Aj ?_;refine AJ HX4 (fun s4 b4=>⟨.any::.bs tInt depth::.lit (.int .i64 rP2)::.ptr 0 0::A3 (.own 1 b4::.lit (.int .i64 s4.1)::.lit (.int .i64 s4.2)::Xd (A3 [])),[.box (Ap f),.row b4 3 tInt [1,10,100,1000,10000]]⟩) 0 (?_) ?_
  ·try dsimp only
   exact AA
  ·rintro⟨sum1,b2⟩ v3 x4 H Hr4;try dsimp only
   dsimp only[Ej]at H;refine Aq fun Khs6 hs6=>?_
   refine wS (sT (sT (sT (sT (sT (wN ?_))))));refine An rfl (fun hb7=>?_) (fun hb7=>?_)
   ·have H:=Au hb7 H;refine As ?_;refine hs6 _ ?_;refine nT ?_;obtain⟨z11,HX11,Hl11⟩:=Af.1 H;refine AE (β:=(Int)×(Nat)) (fun q11=>z11=q11.1) (fun q11=>⟨.any::.bs tInt depth::.lit (.int .i64 rP2)::.ptr 0 0::A3 (.own 1 q11.2::.lit (.int .i64 q11.1)::.lit (.int .i64 b2)::Xd (A3 [])),[.box (Ap f),.row q11.2 3 tInt [1,10,100,1000,10000]]⟩) ?_ ?_
    ·refine Aj ?_;refine wS (sT (wN ?_));refine Aj ?_;refine AJ HX11 (fun s11 b11=>⟨.any::.bs tInt depth::.lit (.int .i64 rP2)::.ptr 0 0::A3 (.own 1 b11::.lit (.int .i64 s11.1)::.lit (.int .i64 b2)::.lit (.int .i64 s11.2)::Xd (A2 [])),[.box (Ap f),.row b11 3 tInt [1,10,100,1000,10000]]⟩) v3 (?_) ?_
     ·try dsimp only
      exact AA
     ·rintro⟨sum8,i9⟩ v10 x11 H Hr11;try dsimp only
      dsimp only[DL]at H;refine Aq fun Khs14 hs14=>?_
      obtain⟨c15,H⟩:=Ag.1 H;refine wS (sT (sT (sT (sT (sX c15 (sT (sT (sT (sT (wN ?_))))))))));refine An rfl (fun hb16=>?_) (fun hb16=>?_)
      ·have H:=Au hb16 H;refine As ?_;refine hs14 _ ?_;refine nT ?_;refine Aq fun Khs17 hs17=>?_
       refine Aj ?_;obtain⟨c18,H⟩:=Ag.1 H;obtain⟨c19,H⟩:=Ag.1 H;obtain⟨c20,H⟩:=Ag.1 H;obtain⟨c21,H⟩:=Ag.1 H;obtain⟨r22,k22,H⟩:=Af.1 H;have k22:=N2 k22;refine WP 23 (hq:=?_);refine qT (qT (qT (qT (qX c18 (qT ?_)))));refine qA (hq:=Az.min2 rfl (Ar Gx) Mk) (ht:=(Ak JC)) ?_;refine qA (hq:=AS rfl (Aw (Aw (Aw Ji))) rfl (Ar IN) rfl c19) (ht:=(Ak Ge)) ?_;refine qA (hq:=AO rfl (Ar H8) rfl (A0 c19) rfl) (ht:=(Ak Id)) ?_;refine qT (qT (qT (qX c20 (qT (qT (qT (qX c21 (qT (qT (qC k22 (qT ?_)))))))))));refine qT (qT (qN (wN ?_)));refine hs17 _ ?_;refine nT ?_;refine We (sT (sT (sT (wN ?_))));have e11:=Ab.1 H;repeat(first|refine WV ?_|refine asN ?_)
       refine Am ⟨_,v10,e11.symm,?_⟩;try dsimp only
       exact AA
      ·have H:=Av hb16 H;refine AI ?_;repeat(first|refine AU ?_|refine exO (by decide) ?_|refine asE ?_)
       refine WN ?_;have e11:=Hr11 _ (Ab.1 H).symm;repeat(first|refine WV ?_|refine asN ?_)
       refine Am ⟨(_,v10),e11.symm,?_⟩;try dsimp only
       exact AA
    ·rintro⟨sum12,v13⟩ hz11;try dsimp only at hz11
     have H:=Hl11;rw[hz11]at H;try dsimp only
     refine We (sT (sT (sT (wN ?_))));have e4:=Ab.1 H;repeat(first|refine WV ?_|refine asN ?_)
     refine Am ⟨_,v13,e4.symm,?_⟩;try dsimp only
     exact AA
   ·have H:=Av hb7 H;refine AI ?_;repeat(first|refine AU ?_|refine exO (by decide) ?_|refine asE ?_)
    refine WN ?_;have e4:=Hr4 _ (Ab.1 H).symm;repeat(first|refine WV ?_|refine asN ?_)
    refine Am ⟨(_,()),e4.symm,?_⟩;try dsimp only
    exact WH (Cut.dead (Cut.dead (Cut.nil _)))
 ·rintro⟨sum5,_⟩ hz4;try dsimp only at hz4
  have H:=Hl4;rw[hz4]at H;try dsimp only
  refine wS (sT (sT (wN ?_)));obtain rfl:=Ab.1 H;exact AH ⟨.inr rfl,W0.cl rfl⟩
def C3(f:Func)(r2:List Int)(left4:List Int):(Int×Int)→M ((Int×Int)⊕Int):=fun(best12,i13)=>M.cnd (decide (i13 < (left4.length:Int))) (M.bnd (M.chk (Bq left4 i13) (M.bnd (Eu f r2 (ixD left4 i13)) fun r24=>M.chk (Bq left4 best12) (M.bnd (Eu f r2 (ixD left4 best12)) fun r26=>M.cnd (decide (r24 < r26)) (M.ok i13) (M.ok best12)))) fun best20=>M.ok (.inl (best20,IntKind.i64.wrap (i13+1)))) (M.ok (.inr best12))
def Ev(f:Func)(r2:List Int):((List Int)×(List Int))→M (((List Int)×(List Int))⊕((List Int))):=fun(left4,l6)=>M.cnd (decide ((left4.length:Int) > 0)) (M.bnd (M.loop (C3 f r2 left4) (0,1)) fun best16=>M.chk (Bq left4 best16) (M.chk (Wd .i64 (ixD left4 best16)) (M.chk (GC (l6.length+ [ixD left4 best16].length) 8) (M.chk (Wk left4 0 best16) (M.chk (GC (([]:List Int).length+(Wj left4 0 best16).length) 8) (M.chk (Wk left4 (IntKind.i64.wrap (best16+1)) (left4.length:Int)) (M.chk (GC ((([]:List Int)++(Wj left4 0 best16)).length+(Wj left4 (IntKind.i64.wrap (best16+1)) (left4.length:Int)).length) 8) (M.ok (.inl ((([]:List Int)++(Wj left4 0 best16))++(Wj left4 (IntKind.i64.wrap (best16+1)) (left4.length:Int)),l6++[ixD left4 best16])))))))))) (M.ok (.inr l6))
def FM(f:Func):M (List Int):=M.bnd (OX f) fun r1=>M.bnd (EW f) fun r2=>M.bnd (M.loop (Ev f r2) (r1,([]:List Int))) fun l9=>M.ok l9
theorem N3{f:Func}{r:List Int}(H:(FM f).to r):Fn Try.prog 18 [.agg (Ap f)] (.bs tInt r):=by
 delta FM at H;try dsimp only at H
 refine AM Try.func18 rfl (by kernel_rfl) rfl Try.ntmps18 fun C hC=>?_
 simp only[List.length_cons,List.length_nil,Nat.reduceAdd,Nat.reduceSub,List.replicate_succ,List.replicate_zero,List.cons_append,List.nil_append];refine wS (sB (sT (wN ?_)));obtain⟨r1,k1,H⟩:=Af.1 H;have k1:=PH k1;obtain⟨r2,k2,H⟩:=Af.1 H;have k2:=JK k2;refine dS 6 (hq:=?_);refine qT (qC k1 (qT (qC k2 (qT (qT (qN (wN ?_)))))));refine wS (sT (wN ?_));refine Be _ (Dk 5 3 tInt rfl (by decide)) ?_;obtain⟨z7,HX7,Hl7⟩:=Af.1 H;refine AE (β:=((List Int))×(Nat)) (fun q7=>z7=q7.1) (fun q7=>⟨A5 (.own 1 q7.2::Xd (A9 [])),[.dead,.row q7.2 3 tInt q7.1]⟩) ?_ ?_
 ·refine Aj ?_;refine AJ HX7 (fun s7 b7=>⟨.any::.ptr 0 0::.any::.bs tInt s7.1::.bs tInt r2::.own 1 b7::Xd (A9 []),[.box (Ap f),.row b7 3 tInt s7.2]⟩) 0 (?_) ?_
  ·try dsimp only
   exact AA
  ·rintro⟨left4,l6⟩ v5 x7 H Hr7;try dsimp only
   dsimp only[Ev]at H;refine Aq fun Khs10 hs10=>?_
   refine wS (sT (sT (sT (wN ?_))));refine An rfl (fun hb11=>?_) (fun hb11=>?_)
   ·have H:=Au hb11 H;refine As ?_;refine hs10 _ ?_;refine nT ?_;refine Aj ?_;refine wS (sT (wN ?_));obtain⟨z15,HX15,Hl15⟩:=Af.1 H;refine AE (β:=(Int)×(Nat)) (fun q15=>z15=q15.1) (fun q15=>⟨.any::.ptr 0 0::.any::.bs tInt left4::.bs tInt r2::.own 1 q15.2::.lit (.int .i64 q15.1)::Xd (A8 []),[.box (Ap f),.row q15.2 3 tInt l6]⟩) ?_ ?_
    ·refine wS (sT (wN ?_));refine Aj ?_;refine AJ HX15 (fun s15 b15=>⟨.any::.ptr 0 0::.any::.bs tInt left4::.bs tInt r2::.own 1 b15::.lit (.int .i64 s15.1)::.lit (.int .i64 s15.2)::Xd (A7 []),[.box (Ap f),.row b15 3 tInt l6]⟩) v5 (?_) ?_
     ·try dsimp only
      exact AA
     ·rintro⟨best12,i13⟩ v14 x15 H Hr15;try dsimp only
      dsimp only[C3]at H;refine Aq fun Khs18 hs18=>?_
      refine wS (sT (sT (sT (sT (wN ?_)))));refine An rfl (fun hb19=>?_) (fun hb19=>?_)
      ·have H:=Au hb19 H;refine As ?_;refine hs18 _ ?_;refine nT ?_;obtain⟨z22,HX22,Hl22⟩:=Af.1 H;refine AE (β:=(Int)×(Nat)) (fun q22=>z22=q22.1) (fun q22=>⟨.any::.ptr 0 0::.any::.bs tInt left4::.bs tInt r2::.own 1 q22.2::.lit (.int .i64 q22.1)::.lit (.int .i64 i13)::Xd (A7 []),[.box (Ap f),.row q22.2 3 tInt l6]⟩) ?_ ?_
       ·have H:=HX22;refine Aj ?_;obtain⟨c23,H⟩:=Ag.1 H;obtain⟨r24,k24,H⟩:=Af.1 H;have k24:=If k24;obtain⟨c25,H⟩:=Ag.1 H;obtain⟨r26,k26,H⟩:=Af.1 H;have k26:=If k26;refine dS 15 (hq:=?_);refine qT (qT (qT (qT (qX c23 (qT (qC k24 (qT (qT (qT (qT (qX c25 ?_)))))))))));refine qT (qC k26 (qT (qN (wN ?_))));refine An rfl (fun hb27=>?_) (fun hb27=>?_)
        ·have H:=Au hb27 H;refine We (sT (sT (wN ?_)));have e22:=Ab.1 H;repeat(first|refine WV ?_|refine asN ?_)
         refine Am ⟨(_,v14),e22.symm,?_⟩;try dsimp only
         exact AA
        ·have H:=Av hb27 H;refine As ?_;have e22:=Ab.1 H;repeat(first|refine WV ?_|refine asN ?_)
         refine Am ⟨(_,v14),e22.symm,?_⟩;try dsimp only
         exact AA
       ·rintro⟨best20,v21⟩ hz22;try dsimp only at hz22
        have H:=Hl22;rw[hz22]at H;try dsimp only
        refine We (sT (sT (sT (wN ?_))));have e15:=Ab.1 H;repeat(first|refine WV ?_|refine asN ?_)
        refine Am ⟨_,v21,e15.symm,?_⟩;try dsimp only
        exact AA
      ·have H:=Av hb19 H;refine AI ?_;repeat(first|refine AU ?_|refine exO (by decide) ?_|refine asE ?_)
       refine WN ?_;have e15:=Hr15 _ (Ab.1 H).symm;repeat(first|refine WV ?_|refine asN ?_)
       refine Am ⟨(_,v14),e15.symm,?_⟩;try dsimp only
       exact AA
    ·rintro⟨best16,v17⟩ hz15;try dsimp only at hz15
     have H:=Hl15;rw[hz15]at H;try dsimp only
     obtain⟨c28,H⟩:=Ag.1 H;obtain⟨c29,H⟩:=Ag.1 H;obtain⟨c30,H⟩:=Ag.1 H;refine wS (sT (sT (sT (sX c28 (sT ?_)))));refine sA (hq:=Az.lt (xs:=[.tmp 41]) (T:=tInt) (ds:=[ixD left4 best16]) rfl rfl rfl (by rfl) (by decide) (.cons (WZ.int c29) .nil)) (ht:=(Ak (Al GL))) ?_;refine sP c30 (sT (wN ?_));obtain⟨c31,H⟩:=Ag.1 H;obtain⟨c32,H⟩:=Ag.1 H;obtain⟨c33,H⟩:=Ag.1 H;obtain⟨c34,H⟩:=Ag.1 H;refine Be ⟨.any::.ptr 0 0::.any::.bs tInt left4::.bs tInt r2::.own 1 (v17+1)::.lit (.int .i64 best16)::Xe (Xf (.own 1 v17::.bs tInt left4::.lit (.int .i64 best16)::.bp tInt (ixD left4 best16) 0::.lit (.int .i64 (ixD left4 best16))::.bs tInt [ixD left4 best16]::.own 1 (v17+1)::Xf [.any])),[.box (Ap f),.row (v17+1) 3 tInt (l6++[ixD left4 best16]),.dead]⟩ (St.le.trans AA (GZ 1 rfl)) ?_;refine Km (n:=11) (fun b=>⟨.any::.ptr 0 0::.any::(bif b 10 then .own 2 (0+1+1)else .bs tInt left4)::.bs tInt r2::.own 1 (v17+1)::.lit (.int .i64 best16)::Xe (Xf [.own 1 v17,.bs tInt left4,.lit (.int .i64 best16),.bp tInt (ixD left4 best16) 0,.lit (.int .i64 (ixD left4 best16)),.bs tInt [ixD left4 best16],.own 1 (v17+1),(bif b 0 then .own 2 0 else .any),(bif b 1 then .bs tInt left4 else .any),(bif b 2 then .lit (.int .i64 best16)else .any),(bif b 3 then .bs tInt (Wj left4 0 best16)else .any),(bif b 4 then .own 2 (0+1)else .any),(bif b 5 then .bs tInt left4 else .any),(bif b 6 then .lit (.int .i64 best16)else .any),(bif b 7 then .lit (.int .i64 (IntKind.i64.wrap (best16+1)))else .any),(bif b 8 then .bs tInt (Wj left4 (IntKind.i64.wrap (best16+1)) (left4.length:Int))else .any),(bif b 9 then .own 2 (0+1+1)else .any),.any]),[.box (Ap f),.row (v17+1) 3 tInt (l6++[ixD left4 best16]),(bif b 9 then .row (0+1+1) 3 tInt ((([]:List Int)++(Wj left4 0 best16))++(Wj left4 (IntKind.i64.wrap (best16+1)) (left4.length:Int)))else(bif b 4 then .row (0+1) 3 tInt (([]:List Int)++(Wj left4 0 best16))else(bif b 0 then .row 0 3 tInt ([]:List Int)else .dead)))]⟩) rfl (by kernel_rfl) (by kernel_rfl) ?_ ?_
     ·refine Bg (fun b hb ha hc=>?_) ?_
      ·have h4:b 4=false:=Ch hc (i:=0) (j:=4) (k:=0) rfl rfl rfl rfl hb;have h9:b 9=false:=Ch hc (i:=4) (j:=9) (k:=0) rfl rfl rfl rfl h4;have h10:b 10=false:=Ch hc (i:=0) (j:=10) (k:=2) rfl rfl rfl rfl hb;have u4:Wh b 0 4=false:=h4;have u9:Wh b 0 9=false:=h9;try dsimp only
       refine Sx (T:=tInt) 2 rfl (by decide) (congrArg some (((GW h9 _ _).trans (GW h4 _ _)).trans (GW hb _ _))) (by repeat(first|exact Rq|refine EA rfl ?_|refine EA (I3 rfl rfl) ?_|refine EA (I3 rfl (I3 rfl rfl)) ?_|refine EA (I3 rfl (I3 rfl (I3 rfl rfl))) ?_)) (by repeat(first|exact Rp|refine C7 rfl ?_|refine C7 (Un hb rfl) ?_|refine C7 (Un h4 rfl) ?_|refine C7 (Un h9 rfl) ?_|refine C7 (Un h10 rfl) ?_|refine C7 (VZ rfl rfl) ?_)) ?_;simp only[GW u4,GW u9];exact St.le.refl
      refine Bg (fun b hb ha hc=>?_) ?_
      ·have h10:b 10=false:=Ch hc (i:=1) (j:=10) (k:=3) rfl rfl rfl rfl hb;try dsimp only
       refine Bz (Az.move rfl (Gx.trans (VM h10 _ _))) ?_;exact St.le.refl
      refine Bg (fun b hb ha hc=>?_) ?_
      ·try dsimp only
       refine Bz (Az.move rfl Iu) ?_;exact St.le.refl
      refine Bg (fun b hb ha hc=>?_) ?_
      ·have h1:b 1=true:=ha 0 _ rfl rfl;have h2:b 2=true:=ha 1 _ rfl rfl;try dsimp only
       refine Bz (Qh rfl ((Ar (Aw H8)).trans (B7 h1 _ _)) rfl ((Ar (Aw Iu)).trans (B7 h2 _ _)) c31) ?_;exact St.le.refl
      refine Bg (fun b hb ha hc=>?_) ?_
      ·have h0:b 0=true:=ha 0 _ rfl rfl;have h3:b 3=true:=ha 1 _ rfl rfl;have h9:b 9=false:=Ch hc (i:=4) (j:=9) (k:=0) rfl rfl rfl rfl hb;have u9:Wh b 4 9=false:=h9;try dsimp only
       refine Gv rfl ((Ar (Aw IN)).trans (B7 h0 _ _)) (congrArg some (((GW h9 _ _).trans (GW hb _ _)).trans (UL h0 _ _))) ((Ar (Aw Ji)).trans (B7 h3 _ _)) rfl c32 ?_;simp only[GW u9];exact St.le.refl
      refine Bg (fun b hb ha hc=>?_) ?_
      ·have h10:b 10=false:=Ch hc (i:=5) (j:=10) (k:=7) rfl rfl rfl rfl hb;try dsimp only
       refine Bz (Az.move rfl (Gx.trans (VM h10 _ _))) ?_;exact St.le.refl
      refine Bg (fun b hb ha hc=>?_) ?_
      ·try dsimp only
       refine Bz (Az.move rfl Iu) ?_;exact St.le.refl
      refine Bg (fun b hb ha hc=>?_) ?_
      ·have h6:b 6=true:=ha 0 _ rfl rfl;try dsimp only
       refine Bz (BV rfl ((Ar (Aw (Aw M1))).trans (B7 h6 _ _)) Mk rfl) ?_;exact St.le.refl
      refine Bg (fun b hb ha hc=>?_) ?_
      ·have h5:b 5=true:=ha 0 _ rfl rfl;have h7:b 7=true:=ha 1 _ rfl rfl;try dsimp only
       refine Bz (Lg rfl ((Ar (Aw (Aw J4))).trans (B7 h5 _ _)) rfl ((Ar (Aw (Aw Gx))).trans (B7 h7 _ _)) c33) ?_;exact St.le.refl
      refine Bg (fun b hb ha hc=>?_) ?_
      ·have h4:b 4=true:=ha 0 _ rfl rfl;have h8:b 8=true:=ha 1 _ rfl rfl;try dsimp only
       refine Gv rfl ((Ar (Aw (Aw Kv))).trans (B7 h4 _ _)) (congrArg some ((GW hb _ _).trans (UL h4 _ _))) ((Ar (Aw (Aw IN))).trans (B7 h8 _ _)) rfl c34 ?_;exact St.le.refl
      refine Bg (fun b hb ha hc=>?_) ?_
      ·have h9:b 9=true:=ha 0 _ rfl rfl;try dsimp only
       refine Bz (Az.assign rfl ((Ar (Aw (Aw H8))).trans (B7 h9 _ _))) ?_;exact St.le.refl
      exact RP
     ·refine VY ⟨.any::.ptr 0 0::.any::.own 2 (0+1+1)::.bs tInt r2::.own 1 (v17+1)::.lit (.int .i64 best16)::Xe (Xf [.own 1 v17,.bs tInt left4,.lit (.int .i64 best16),.bp tInt (ixD left4 best16) 0,.lit (.int .i64 (ixD left4 best16)),.bs tInt [ixD left4 best16],.own 1 (v17+1),.own 2 0,.bs tInt left4,.lit (.int .i64 best16),.bs tInt (Wj left4 0 best16),.own 2 (0+1),.bs tInt left4,.lit (.int .i64 best16),.lit (.int .i64 (IntKind.i64.wrap (best16+1))),.bs tInt (Wj left4 (IntKind.i64.wrap (best16+1)) (left4.length:Int)),.own 2 (0+1+1),.any]),[.box (Ap f),.row (v17+1) 3 tInt (l6++[ixD left4 best16]),.row (0+1+1) 3 tInt ((([]:List Int)++(Wj left4 0 best16))++(Wj left4 (IntKind.i64.wrap (best16+1)) (left4.length:Int)))]⟩ rfl ?_;have e7:=Ab.1 H;repeat(first|refine WV ?_|refine asN ?_)
      refine Am ⟨_,v17+1,e7.symm,?_⟩;try dsimp only
      refine(Pm hC 2 rfl (by(simp only[fzH,Dm,AV.fz,ABlk.fz,List.map_cons,List.map_nil,List.drop_zero,List.take_succ_cons,List.take_zero,List.set_cons_succ,List.set_cons_zero,and_self,and_true,true_and,if_true,Nat.reduceEqDiff,false_and,if_false];first|done|exact rfl)) (by(simp only[fzH,Dm,AV.fz,ABlk.fz,List.map_cons,List.map_nil,List.drop_zero,List.take_succ_cons,List.take_zero,List.set_cons_succ,List.set_cons_zero,and_self,and_true,true_and,if_true,Nat.reduceEqDiff,false_and,if_false];first|done|exact rfl))).trans ?_;exact WH (Cut.cons (Cut.cons (Cut.nil _)))
   ·have H:=Av hb11 H;refine AI ?_;repeat(first|refine AU ?_|refine exO (by decide) ?_|refine asE ?_)
    refine WN ?_;have e7:=Hr7 _ (Ab.1 H).symm;repeat(first|refine WV ?_|refine asN ?_)
    refine Am ⟨(_,v5),e7.symm,?_⟩;try dsimp only
    exact WH (Cut.dead (Cut.cons (Cut.nil _)))
 ·rintro⟨l9,v8⟩ hz7;try dsimp only at hz7
  have H:=Hl7;rw[hz7]at H;try dsimp only
  refine wS (sT (sT (wN ?_)));obtain rfl:=Ab.1 H;exact AH ⟨.inr rfl,W0.own rfl⟩
end
end Mu
end
section
namespace Mu
open Go Go.RowKit
theorem Iw{h:List ABlk}{x:Ins}(hk:Ey x=true):WZ h EO (.agg (B8 x)) x:=Md (enc:=B8) fun _ _ _ _ H=>JN (BP.1 hk) H
theorem J8{h:List ABlk}{x:Block}(hk:D0 x=true):WZ h Bc (.agg (D6 x)) x:=Md (enc:=D6) fun _ _ _ _ H=>MI (DO.1 hk).name H
theorem Ob{b:Block}(h:D0 b=true):okBlock b:=DO.1 h
section
variable{w:World}{S:Nat→Prop}{h:List ABlk}{ψ:Nat→Value}{cs:List Value}
theorem Rg{x:Block}(ho:okBlock x)(H:Ah w S h ψ (D6 x) cs):Bc.RS w S cs x:=MI ho.name H
end
end Mu
end
section
namespace Mu
open Go Go.RowKit Go.Proofs
noncomputable section
def D3:M Func:=M.chk (Ey ⟨0,0,0,0,9,0,[],0,0⟩) (M.chk (Ey ⟨8,0,0,0,0,0,[],1,0⟩) (M.chk (Ey ⟨1,0,0,1,1,0,[],0,0⟩) (M.chk (Ey ⟨9,0,0,0,0,0,[],1,2⟩) (M.chk (Ey ⟨10,0,0,0,0,0,[],0,0⟩) (M.chk (D0 ⟨⟨#[]⟩,[⟨0,0,0,0,9,0,[],0,0⟩,⟨8,0,0,0,0,0,[],1,0⟩]⟩) (M.chk (D0 ⟨⟨#[]⟩,[⟨1,0,0,1,1,0,[],0,0⟩,⟨9,0,0,0,0,0,[],1,2⟩]⟩) (M.chk (D0 ⟨⟨#[]⟩,[⟨10,0,0,0,0,0,[],0,0⟩]⟩) (M.ok ⟨⟨#[]⟩,2,2,[⟨⟨#[]⟩,[⟨0,0,0,0,9,0,[],0,0⟩,⟨8,0,0,0,0,0,[],1,0⟩]⟩,⟨⟨#[]⟩,[⟨1,0,0,1,1,0,[],0,0⟩,⟨9,0,0,0,0,0,[],1,2⟩]⟩,⟨⟨#[]⟩,[⟨10,0,0,0,0,0,[],0,0⟩]⟩]⟩))))))))
theorem JZ{r:Func}(H:(D3).to r):Fn Try.prog 26 [] (.agg (Ap r)):=by
 delta D3 at H;try dsimp only at H
 refine Qn Try.func26 rfl (by kernel_rfl) rfl (by kernel_rfl:TB Try.prog 24=some (true,4)) Try.ntmps26 fun C hC=>?_
 simp only[List.length_cons,List.length_nil,Nat.reduceAdd,Nat.reduceSub,List.replicate_succ,List.replicate_zero,List.cons_append,List.nil_append];refine wS (Wp (wN ?_));obtain⟨c1,H⟩:=Ag.1 H;obtain⟨c2,H⟩:=Ag.1 H;obtain⟨c3,H⟩:=Ag.1 H;obtain⟨c4,H⟩:=Ag.1 H;obtain⟨c5,H⟩:=Ag.1 H;obtain⟨c6,H⟩:=Ag.1 H;obtain⟨c7,H⟩:=Ag.1 H;obtain⟨c8,H⟩:=Ag.1 H;refine wS ?_;refine sA (hq:=BR (rs:=[.lit (.int .u8 0),.lit (.int .i64 0),.lit (.int .i64 0),.lit (.int .i64 0),.lit (.int .u32 9),.lit (.int .i64 0),.lit (.slice none 0 0),.lit (.int .i64 0),.lit (.int .i64 0)]) rfl PI rfl rfl) (ht:=IF) ?_;refine sA (hq:=BR (rs:=[.lit (.int .u8 8),.lit (.int .i64 0),.lit (.int .i64 0),.lit (.int .i64 0),.lit (.int .u32 0),.lit (.int .i64 0),.lit (.slice none 0 0),.lit (.int .i64 1),.lit (.int .i64 0)]) rfl PI rfl rfl) (ht:=GL) ?_;refine sA (hq:=Az.lt (xs:=[.tmp 1,.tmp 2]) (T:=EO) (ds:=[⟨0,0,0,0,9,0,[],0,0⟩,⟨8,0,0,0,0,0,[],1,0⟩]) rfl rfl rfl (by rfl) (by decide) (.cons (WZ.up (Qf (.cons (.refl _) (.cons (.refl _) (.cons (.refl _) (.cons (.refl _) (.cons (.refl _) (.cons (.refl _) (.cons (.nil _) (.cons (.refl _) (.cons (.refl _) .nil)))))))))) (Iw c1)) (.cons (WZ.up (Qf (.cons (.refl _) (.cons (.refl _) (.cons (.refl _) (.cons (.refl _) (.cons (.refl _) (.cons (.refl _) (.cons (.nil _) (.cons (.refl _) (.cons (.refl _) .nil)))))))))) (Iw c2)) .nil))) (ht:=Hf) (hk:=?_);refine sA (hq:=BR (rs:=[.lit (.string ⟨#[]⟩),.bs EO [⟨0,0,0,0,9,0,[],0,0⟩,⟨8,0,0,0,0,0,[],1,0⟩]]) rfl N6 rfl rfl) (ht:=JC) ?_;refine sA (hq:=BR (rs:=[.lit (.int .u8 1),.lit (.int .i64 0),.lit (.int .i64 0),.lit (.int .i64 1),.lit (.int .u32 1),.lit (.int .i64 0),.lit (.slice none 0 0),.lit (.int .i64 0),.lit (.int .i64 0)]) rfl PI rfl rfl) (ht:=Ge) ?_;refine sA (hq:=BR (rs:=[.lit (.int .u8 9),.lit (.int .i64 0),.lit (.int .i64 0),.lit (.int .i64 0),.lit (.int .u32 0),.lit (.int .i64 0),.lit (.slice none 0 0),.lit (.int .i64 1),.lit (.int .i64 2)]) rfl PI rfl rfl) (ht:=Id) ?_;refine sA (hq:=Az.lt (xs:=[.tmp 5,.tmp 6]) (T:=EO) (ds:=[⟨1,0,0,1,1,0,[],0,0⟩,⟨9,0,0,0,0,0,[],1,2⟩]) rfl rfl rfl (by rfl) (by decide) (.cons (WZ.up (Qf (.cons (.refl _) (.cons (.refl _) (.cons (.refl _) (.cons (.refl _) (.cons (.refl _) (.cons (.refl _) (.cons (.nil _) (.cons (.refl _) (.cons (.refl _) .nil)))))))))) (Iw c3)) (.cons (WZ.up (Qf (.cons (.refl _) (.cons (.refl _) (.cons (.refl _) (.cons (.refl _) (.cons (.refl _) (.cons (.refl _) (.cons (.nil _) (.cons (.refl _) (.cons (.refl _) .nil)))))))))) (Iw c4)) .nil))) (ht:=GK) (hk:=?_);refine sA (hq:=BR (rs:=[.lit (.string ⟨#[]⟩),.bs EO [⟨1,0,0,1,1,0,[],0,0⟩,⟨9,0,0,0,0,0,[],1,2⟩]]) rfl N6 rfl rfl) (ht:=(Al Hg)) ?_;refine sA (hq:=BR (rs:=[.lit (.int .u8 10),.lit (.int .i64 0),.lit (.int .i64 0),.lit (.int .i64 0),.lit (.int .u32 0),.lit (.int .i64 0),.lit (.slice none 0 0),.lit (.int .i64 0),.lit (.int .i64 0)]) rfl PI rfl rfl) (ht:=(Al IF)) ?_;refine sA (hq:=Az.lt (xs:=[.tmp 9]) (T:=EO) (ds:=[⟨10,0,0,0,0,0,[],0,0⟩]) rfl rfl rfl (by rfl) (by decide) (.cons (WZ.up (Qf (.cons (.refl _) (.cons (.refl _) (.cons (.refl _) (.cons (.refl _) (.cons (.refl _) (.cons (.refl _) (.cons (.nil _) (.cons (.refl _) (.cons (.refl _) .nil)))))))))) (Iw c5)) .nil)) (ht:=(Al GL)) (hk:=?_);refine sA (hq:=BR (rs:=[.lit (.string ⟨#[]⟩),.bs EO [⟨10,0,0,0,0,0,[],0,0⟩]]) rfl N6 rfl rfl) (ht:=(Al Hf)) ?_;refine sA (hq:=Az.lt (xs:=[.tmp 4,.tmp 8,.tmp 11]) (T:=Bc) (ds:=[⟨⟨#[]⟩,[⟨0,0,0,0,9,0,[],0,0⟩,⟨8,0,0,0,0,0,[],1,0⟩]⟩,⟨⟨#[]⟩,[⟨1,0,0,1,1,0,[],0,0⟩,⟨9,0,0,0,0,0,[],1,2⟩]⟩,⟨⟨#[]⟩,[⟨10,0,0,0,0,0,[],0,0⟩]⟩]) rfl rfl rfl (by rfl) (by decide) (.cons (J8 c6) (.cons (J8 c7) (.cons (J8 c8) .nil)))) (ht:=(Al JC)) ?_;refine sA (hq:=BR (rs:=[.lit (.string ⟨#[]⟩),.lit (.int .i64 2),.lit (.int .i64 2),.bs Bc [⟨⟨#[]⟩,[⟨0,0,0,0,9,0,[],0,0⟩,⟨8,0,0,0,0,0,[],1,0⟩]⟩,⟨⟨#[]⟩,[⟨1,0,0,1,1,0,[],0,0⟩,⟨9,0,0,0,0,0,[],1,2⟩]⟩,⟨⟨#[]⟩,[⟨10,0,0,0,0,0,[],0,0⟩]⟩]]) rfl Vd rfl rfl) (ht:=(Al Ge)) ?_;refine sW (wN ?_);obtain rfl:=Ab.1 H;exact AH ⟨⟨.inr rfl,0,_,rfl,rfl,W0.cl rfl⟩,fun i cells e1 e2=>by cases e1;cases e2;rfl⟩
def Ci:M Bool:=M.bnd D3 fun r1=>M.bnd (CW r1) fun r2=>M.bnd (Bw r2 [1]) fun r3=>M.bnd (M.whn r3 [] (CH r1 1)) fun r4=>M.bnd (M.whn r3 false (Bw r4 [1])) fun r5=>M.bnd (M.whn (r3&&r5) [] (CH r1 0)) fun r6=>M.bnd (M.whn ((r3&&r5)&&((r6.length:Int) ==0)) [] (CA r1)) fun r7=>M.bnd (M.whn ((r3&&r5)&&((r6.length:Int) ==0)) false (Bw r7 [0,1,0])) fun r8=>M.bnd (M.whn (((r3&&r5)&&((r6.length:Int) ==0))&&r8) 0 (Cg r1 0)) fun r9=>M.bnd (M.whn ((((r3&&r5)&&((r6.length:Int) ==0))&&r8)&&(r9 ==32)) 0 (Cg r1 1)) fun r10=>M.bnd (M.whn (((((r3&&r5)&&((r6.length:Int) ==0))&&r8)&&(r9 ==32))&&(r10 ==10)) 0 (Cg r1 7)) fun r11=>M.bnd (M.whn ((((((r3&&r5)&&((r6.length:Int) ==0))&&r8)&&(r9 ==32))&&(r10 ==10))&&(r11 ==0)) [] (Ef r1)) fun r12=>M.bnd (M.whn ((((((r3&&r5)&&((r6.length:Int) ==0))&&r8)&&(r9 ==32))&&(r10 ==10))&&(r11 ==0)) false (Bw r12 [1,0])) fun r13=>M.ok (((((((r3&&r5)&&((r6.length:Int) ==0))&&r8)&&(r9 ==32))&&(r10 ==10))&&(r11 ==0))&&r13)
theorem CT{r:Bool}(H:(Ci).to r):Fn Try.prog 7 [] (.lit (.bool r)):=by
 delta Ci at H;try dsimp only at H
 refine AM Try.func7 rfl (by kernel_rfl) rfl Try.ntmps7 fun C hC=>?_
 simp only[List.length_cons,List.length_nil,Nat.reduceAdd,Nat.reduceSub,List.replicate_succ,List.replicate_zero,List.cons_append,List.nil_append];refine wS (sT (wN ?_));obtain⟨r1,k1,H⟩:=Af.1 H;have k1:=JZ k1;refine wS (sC k1 (Wp (sW (wN ?_))));obtain⟨r2,k2,H⟩:=Af.1 H;have k2:=EG k2;obtain⟨r3,k3,H⟩:=Af.1 H;have k3:=Bv k3;obtain⟨r4,k4,H⟩:=Af.1 H;obtain⟨r5,k5,H⟩:=Af.1 H;obtain⟨r6,k6,H⟩:=Af.1 H;obtain⟨r7,k7,H⟩:=Af.1 H;obtain⟨r8,k8,H⟩:=Af.1 H;obtain⟨r9,k9,H⟩:=Af.1 H;obtain⟨r10,k10,H⟩:=Af.1 H;obtain⟨r11,k11,H⟩:=Af.1 H;obtain⟨r12,k12,H⟩:=Af.1 H;obtain⟨r13,k13,H⟩:=Af.1 H;refine wS (sT (sC k2 ?_));refine sA (hq:=Az.lt (xs:=[.const (.int .i64 1)]) (T:=tInt) (ds:=[1]) rfl rfl rfl (by rfl) (by decide) (.cons (WZ.int (EQ (by decide))) .nil)) (ht:=Ge) ?_;refine sC k3 (sT ?_);refine sG (g:=r3) (hg:=DP rfl) (hq:=fun hg=>AB rfl J4 rfl rfl) (ht:=(Al Hg)) ?_;refine sG (g:=r3) (hg:=DP rfl) (hq:=fun hg=>by((try simp only[B7 hg]);(try simp only[GE hg]);exact AF rfl rfl (Ds (M.to_whn k4 hg)) rfl rfl)) (ht:=(Al IF)) ?_;refine sG (g:=r3) (hg:=DP rfl) (hq:=fun hg=>Az.lt (xs:=[.const (.int .i64 1)]) (T:=tInt) (ds:=[1]) rfl rfl rfl (by rfl) (by decide) (.cons (WZ.of_eq Mk (WZ.int (EQ (by decide)))) .nil)) (ht:=(Al GL)) (hk:=?_);refine sG (g:=r3) (hg:=DP rfl) (hq:=fun hg=>by((try simp only[B7 hg]);(try simp only[GE hg]);exact AF rfl rfl (Bv (M.to_whn k5 hg)) rfl rfl)) (ht:=(Al Hf)) ?_;refine sT (sT ?_);refine sG (g:=(r3&&r5)) (hg:=DP rfl) (hq:=fun hg=>AB rfl J4 rfl rfl) (ht:=(Al Id)) ?_;refine sG (g:=(r3&&r5)) (hg:=DP rfl) (hq:=fun hg=>by((try simp only[B7 hg]);(try simp only[GE hg]);exact AF rfl rfl (Ds (M.to_whn k6 hg)) rfl rfl)) (ht:=(Al GK)) ?_;refine Wn rfl ?_;refine Wn rfl (sT (sT ?_));refine sG (g:=((r3&&r5)&&((r6.length:Int) ==0))) (hg:=DP rfl) (hq:=fun hg=>AB rfl J4 rfl rfl) (ht:=(Al (Al JC))) ?_;refine sG (g:=((r3&&r5)&&((r6.length:Int) ==0))) (hg:=DP rfl) (hq:=fun hg=>by((try simp only[B7 hg]);(try simp only[GE hg]);exact AF rfl rfl (DS (M.to_whn k7 hg)) rfl rfl)) (ht:=(Al (Al Ge))) ?_;refine sG (g:=((r3&&r5)&&((r6.length:Int) ==0))) (hg:=DP rfl) (hq:=fun hg=>Az.lt (xs:=[.const (.int .i64 0),.const (.int .i64 1),.const (.int .i64 0)]) (T:=tInt) (ds:=[0,1,0]) rfl rfl rfl (by rfl) (by decide) (.cons (WZ.of_eq Mk (WZ.int (EQ (by decide)))) (.cons (WZ.of_eq Mk (WZ.int (EQ (by decide)))) (.cons (WZ.of_eq Mk (WZ.int (EQ (by decide)))) .nil)))) (ht:=(Al (Al Id))) (hk:=?_);refine sG (g:=((r3&&r5)&&((r6.length:Int) ==0))) (hg:=DP rfl) (hq:=fun hg=>by((try simp only[B7 hg]);(try simp only[GE hg]);exact AF rfl rfl (Bv (M.to_whn k8 hg)) rfl rfl)) (ht:=(Al (Al GK))) ?_;refine sT (sT ?_);refine sG (g:=(((r3&&r5)&&((r6.length:Int) ==0))&&r8)) (hg:=DP rfl) (hq:=fun hg=>AB rfl J4 rfl rfl) (ht:=(Al (Al (Al GL)))) ?_;refine sG (g:=(((r3&&r5)&&((r6.length:Int) ==0))&&r8)) (hg:=DP rfl) (hq:=fun hg=>by((try simp only[B7 hg]);(try simp only[GE hg]);exact AF rfl rfl (Cr (M.to_whn k9 hg)) rfl rfl)) (ht:=(Al (Al (Al Hf)))) ?_;refine Wn rfl (sT (sT ?_));refine sG (g:=((((r3&&r5)&&((r6.length:Int) ==0))&&r8)&&(r9 ==32))) (hg:=DP rfl) (hq:=fun hg=>AB rfl J4 rfl rfl) (ht:=(Al (Al (Al GK)))) (hk:=?_);refine sG (g:=((((r3&&r5)&&((r6.length:Int) ==0))&&r8)&&(r9 ==32))) (hg:=DP rfl) (hq:=fun hg=>by((try simp only[B7 hg]);(try simp only[GE hg]);exact AF rfl rfl (Cr (M.to_whn k10 hg)) rfl rfl)) (ht:=(Ak Hg)) (hk:=?_);refine Wn rfl (sT (sT ?_));refine sG (g:=(((((r3&&r5)&&((r6.length:Int) ==0))&&r8)&&(r9 ==32))&&(r10 ==10))) (hg:=DP rfl) (hq:=fun hg=>AB rfl J4 rfl rfl) (ht:=(Ak JC)) (hk:=?_);refine sG (g:=(((((r3&&r5)&&((r6.length:Int) ==0))&&r8)&&(r9 ==32))&&(r10 ==10))) (hg:=DP rfl) (hq:=fun hg=>by((try simp only[B7 hg]);(try simp only[GE hg]);exact AF rfl rfl (Cr (M.to_whn k11 hg)) rfl rfl)) (ht:=(Ak Ge)) (hk:=?_);refine Wn rfl (sT (sT ?_));refine sG (g:=((((((r3&&r5)&&((r6.length:Int) ==0))&&r8)&&(r9 ==32))&&(r10 ==10))&&(r11 ==0))) (hg:=DP rfl) (hq:=fun hg=>AB rfl J4 rfl rfl) (ht:=(Ak (Al IF))) (hk:=?_);refine sG (g:=((((((r3&&r5)&&((r6.length:Int) ==0))&&r8)&&(r9 ==32))&&(r10 ==10))&&(r11 ==0))) (hg:=DP rfl) (hq:=fun hg=>by((try simp only[B7 hg]);(try simp only[GE hg]);exact AF rfl rfl (F0 (M.to_whn k12 hg)) rfl rfl)) (ht:=(Ak (Al GL))) (hk:=?_);refine sG (g:=((((((r3&&r5)&&((r6.length:Int) ==0))&&r8)&&(r9 ==32))&&(r10 ==10))&&(r11 ==0))) (hg:=DP rfl) (hq:=fun hg=>Az.lt (xs:=[.const (.int .i64 1),.const (.int .i64 0)]) (T:=tInt) (ds:=[1,0]) rfl rfl rfl (by rfl) (by decide) (.cons (WZ.of_eq Mk (WZ.int (EQ (by decide)))) (.cons (WZ.of_eq Mk (WZ.int (EQ (by decide)))) .nil))) (ht:=(Ak (Al Hf))) (hk:=?_);refine sG (g:=((((((r3&&r5)&&((r6.length:Int) ==0))&&r8)&&(r9 ==32))&&(r10 ==10))&&(r11 ==0))) (hg:=DP rfl) (hq:=fun hg=>by((try simp only[B7 hg]);(try simp only[GE hg]);exact AF rfl rfl (Bv (M.to_whn k13 hg)) rfl rfl)) (ht:=(Ak (Al JC))) (hk:=?_);refine sT (sT (wN ?_));obtain rfl:=Ab.1 H;exact AH ⟨.inr rfl,W0.cl rfl⟩
def Da(f:Func)(hP1:Int)(rP2:Int):M Bool:=M.bnd (Hn f) fun r2=>M.cnd r2 (M.bnd Ci fun r4=>M.ok r4) (M.bnd (EW f) fun r5=>M.bnd (CW f) fun r6=>M.bnd (Ei f) fun r7=>M.bnd (Bw r6 r7) fun r8=>M.bnd (M.whn r8 [] (CH f hP1)) fun r9=>M.bnd (M.whn r8 [] (Gg f hP1)) fun r10=>M.bnd (M.whn r8 false (Bw r9 r10)) fun r11=>M.bnd (M.whn (r8&&r11) [] (CA f)) fun r12=>M.bnd (M.whn (r8&&r11) false (Bw r12 r5)) fun r13=>M.bnd (M.whn ((r8&&r11)&&r13) 0 (Cg f rP2)) fun r14=>M.bnd (M.whn ((r8&&r11)&&r13) 0 (Eu f r5 rP2)) fun r15=>M.bnd (M.whn (((r8&&r11)&&r13)&&(r14 ==r15)) [] (Ef f)) fun r16=>M.bnd (M.whn (((r8&&r11)&&r13)&&(r14 ==r15)) [] (FM f)) fun r17=>M.bnd (M.whn (((r8&&r11)&&r13)&&(r14 ==r15)) false (Bw r16 r17)) fun r18=>M.bnd (M.whn ((((r8&&r11)&&r13)&&(r14 ==r15))&&r18) false Ci) fun r19=>M.ok (((((r8&&r11)&&r13)&&(r14 ==r15))&&r18)&&r19))
theorem Io{f:Func}{hP1:Int}{rP2:Int}{r:Bool}(H:(Da f hP1 rP2).to r):Fn Try.prog 3 [.agg (Ap f),.lit (.int .i64 hP1),.lit (.int .i64 rP2)] (.lit (.bool r)):=by
 delta Da at H;try dsimp only at H
 refine AM Try.func3 rfl (by kernel_rfl) rfl Try.ntmps3 fun C hC=>?_
 simp only[List.length_cons,List.length_nil,Nat.reduceAdd,Nat.reduceSub,List.replicate_succ,List.replicate_zero,List.cons_append,List.nil_append];refine wS (sB (sT (wN ?_)));refine Aq fun Khs1 hs1=>?_
 obtain⟨r2,k2,H⟩:=Af.1 H;have k2:=GO k2;refine wS (sT (sC k2 (wN ?_)));refine An rfl (fun hb3=>?_) (fun hb3=>?_)
 ·have H:=Au hb3 H;obtain⟨r4,k4,H⟩:=Af.1 H;have k4:=CT k4;refine wS (sC k4 (sT (wN ?_)));obtain rfl:=Ab.1 H;exact AH ⟨.inr rfl,W0.cl rfl⟩
 ·have H:=Av hb3 H;refine As ?_;refine hs1 _ ?_;refine nT ?_;obtain⟨r5,k5,H⟩:=Af.1 H;have k5:=JK k5;refine wS (sT (sC k5 (sT (wN ?_))));obtain⟨r6,k6,H⟩:=Af.1 H;have k6:=EG k6;obtain⟨r7,k7,H⟩:=Af.1 H;have k7:=GN k7;obtain⟨r8,k8,H⟩:=Af.1 H;have k8:=Bv k8;obtain⟨r9,k9,H⟩:=Af.1 H;obtain⟨r10,k10,H⟩:=Af.1 H;obtain⟨r11,k11,H⟩:=Af.1 H;obtain⟨r12,k12,H⟩:=Af.1 H;obtain⟨r13,k13,H⟩:=Af.1 H;obtain⟨r14,k14,H⟩:=Af.1 H;obtain⟨r15,k15,H⟩:=Af.1 H;obtain⟨r16,k16,H⟩:=Af.1 H;obtain⟨r17,k17,H⟩:=Af.1 H;obtain⟨r18,k18,H⟩:=Af.1 H;obtain⟨r19,k19,H⟩:=Af.1 H;refine dS 41 (hq:=?_);refine qT (qC k6 (qT (qC k7 (qC k8 (qT ?_)))));refine qG (g:=r8) (hg:=DP rfl) (hq:=fun hg=>AB rfl Gx rfl rfl) (ht:=(Al (Al Hf))) ?_;refine Wx rfl ?_;refine qG (g:=r8) (hg:=DP rfl) (hq:=fun hg=>by((try simp only[B7 hg]);(try simp only[GE hg]);exact AF rfl rfl (Ds (M.to_whn k9 hg)) rfl rfl)) (ht:=(Al (Al Ge))) ?_;refine qG (g:=r8) (hg:=DP rfl) (hq:=fun hg=>AB rfl Gx rfl rfl) (ht:=(Al (Al Id))) ?_;refine Wx rfl ?_;refine qG (g:=r8) (hg:=DP rfl) (hq:=fun hg=>by((try simp only[B7 hg]);(try simp only[GE hg]);exact AF rfl rfl (KU (M.to_whn k10 hg)) rfl rfl)) (ht:=(Al (Al (Al Hg)))) ?_;refine qG (g:=r8) (hg:=DP rfl) (hq:=fun hg=>by((try simp only[B7 hg]);(try simp only[GE hg]);exact AF rfl rfl (Bv (M.to_whn k11 hg)) rfl rfl)) (ht:=(Al (Al (Al IF)))) ?_;refine qT (qT ?_);refine qG (g:=(r8&&r11)) (hg:=DP rfl) (hq:=fun hg=>AB rfl Gx rfl rfl) (ht:=(Al (Al (Al JC)))) ?_;refine qG (g:=(r8&&r11)) (hg:=DP rfl) (hq:=fun hg=>by((try simp only[B7 hg]);(try simp only[GE hg]);exact AF rfl rfl (DS (M.to_whn k12 hg)) rfl rfl)) (ht:=(Al (Al (Al Ge)))) ?_;refine Wx rfl ?_;refine qG (g:=(r8&&r11)) (hg:=DP rfl) (hq:=fun hg=>by((try simp only[B7 hg]);(try simp only[GE hg]);exact AF rfl rfl (Bv (M.to_whn k13 hg)) rfl rfl)) (ht:=(Al (Al (Al GK)))) ?_;refine qT (qT ?_);refine qG (g:=((r8&&r11)&&r13)) (hg:=DP rfl) (hq:=fun hg=>AB rfl Gx rfl rfl) (ht:=(Ak GL)) ?_;refine Wx rfl ?_;refine qG (g:=((r8&&r11)&&r13)) (hg:=DP rfl) (hq:=fun hg=>by((try simp only[B7 hg]);(try simp only[GE hg]);exact AF rfl rfl (Cr (M.to_whn k14 hg)) rfl rfl)) (ht:=(Ak JC)) ?_;refine qG (g:=((r8&&r11)&&r13)) (hg:=DP rfl) (hq:=fun hg=>AB rfl Gx rfl rfl) (ht:=(Ak Ge)) ?_;refine Wx rfl ?_;refine Wx rfl ?_;refine qG (g:=((r8&&r11)&&r13)) (hg:=DP rfl) (hq:=fun hg=>by((try simp only[B7 hg]);(try simp only[GE hg]);exact AF rfl rfl (If (M.to_whn k15 hg)) rfl rfl)) (ht:=(Ak (Al Hg))) ?_;refine Wx rfl (qT (qT ?_));refine qG (g:=(((r8&&r11)&&r13)&&(r14 ==r15))) (hg:=DP rfl) (hq:=fun hg=>AB rfl Gx rfl rfl) (ht:=(Ak (Al JC))) ?_;refine qG (g:=(((r8&&r11)&&r13)&&(r14 ==r15))) (hg:=DP rfl) (hq:=fun hg=>by((try simp only[B7 hg]);(try simp only[GE hg]);exact AF rfl rfl (F0 (M.to_whn k16 hg)) rfl rfl)) (ht:=(Ak (Al Ge))) ?_;refine qG (g:=(((r8&&r11)&&r13)&&(r14 ==r15))) (hg:=DP rfl) (hq:=fun hg=>AB rfl Gx rfl rfl) (ht:=(Ak (Al Id))) ?_;refine qG (g:=(((r8&&r11)&&r13)&&(r14 ==r15))) (hg:=DP rfl) (hq:=fun hg=>by((try simp only[B7 hg]);(try simp only[GE hg]);exact AF rfl rfl (N3 (M.to_whn k17 hg)) rfl rfl)) (ht:=(Ak (Al GK))) ?_;refine qG (g:=(((r8&&r11)&&r13)&&(r14 ==r15))) (hg:=DP rfl) (hq:=fun hg=>by((try simp only[B7 hg]);(try simp only[GE hg]);exact AF rfl rfl (Bv (M.to_whn k18 hg)) rfl rfl)) (ht:=(Ak (Al (Al Hg)))) ?_;refine qT (qT ?_);refine qG (g:=((((r8&&r11)&&r13)&&(r14 ==r15))&&r18)) (hg:=DP rfl) (hq:=fun hg=>by((try simp only[B7 hg]);(try simp only[GE hg]);exact AF rfl rfl (CT (M.to_whn k19 hg)) rfl rfl)) (ht:=(Ak (Al (Al Hf)))) ?_;refine qT (qT (qN (wN ?_)));obtain rfl:=Ab.1 H;exact AH ⟨.inr rfl,W0.cl rfl⟩
def El(l:List Int)(n:Int):Int→M (Int⊕((Unit)⊕(Bool))):=fun i1=>M.cnd (decide (i1 < (l.length:Int))) (M.chk (Bq l i1) (M.cnd ((ixD l i1) ==n) (M.ok (.inr (.inr true))) (M.ok (.inl (IntKind.i64.wrap (i1+1)))))) (M.ok (.inr (.inl ())))
def D2(l:List Int)(n:Int):M Bool:=M.els (M.loop (El l n) 0) fun _=>M.ok false
theorem E0{l:List Int}{n:Int}{r:Bool}(H:(D2 l n).to r):Fn Try.prog 20 [.bs tInt l,.lit (.int .i64 n)] (.lit (.bool r)):=by
 delta D2 at H;try dsimp only at H
 refine AM Try.func20 rfl (by kernel_rfl) rfl Try.ntmps20 fun C hC=>?_
 simp only[List.length_cons,List.length_nil,Nat.reduceAdd,Nat.reduceSub,List.replicate_succ,List.replicate_zero,List.cons_append,List.nil_append];refine wS (sT (wN ?_));obtain⟨z2,HX2,Hl2,Hq2⟩:=Ce H;refine AE (β:=(Unit)×(Unit)) (fun q2=>z2= .inl q2.1) (fun q2=>⟨Xf (A8 []),[]⟩) ?_ ?_
 ·refine wS (sT (wN ?_));refine Aj ?_;refine AJ HX2 (fun s2 b2=>⟨.bs tInt l::.lit (.int .i64 n)::A3 (.lit (.int .i64 s2)::Xf (A2 [])),[]⟩) () (?_) ?_
  ·try dsimp only
   exact AA
  ·rintro i1 _ x2 H Hr2;try dsimp only
   dsimp only[El]at H;refine Aq fun Khs3 hs3=>?_
   refine wS (sT (sT (sT (sT (wN ?_)))));refine An rfl (fun hb4=>?_) (fun hb4=>?_)
   ·have H:=Au hb4 H;refine As ?_;refine hs3 _ ?_;refine nT ?_;refine Aq fun Khs5 hs5=>?_
    refine Aj ?_;obtain⟨c6,H⟩:=Ag.1 H;refine wS (sT (sT (sX c6 (sT (sT (sT (wN ?_)))))));refine An rfl (fun hb7=>?_) (fun hb7=>?_)
    ·have H:=Au hb7 H;refine wS (sT (wN ?_));have H:=Ab.2 (Hq2 _ (Hr2 _ (Ab.1 H).symm).symm);obtain rfl:=Ab.1 H;exact AH ⟨.inr rfl,W0.cl rfl⟩
    ·have H:=Av hb7 H;refine As ?_;refine hs5 _ ?_;refine nT ?_;refine We (sT (sT (sT (wN ?_))));have e2:=Ab.1 H;repeat(first|refine WV ?_|refine asN ?_)
     refine Am ⟨_,(),e2.symm,?_⟩;try dsimp only
     exact AA
   ·have H:=Av hb4 H;refine AI ?_;repeat(first|refine AU ?_|refine exO (by decide) ?_|refine asE ?_)
    refine WN ?_;have e2:=Hr2 _ (Ab.1 H).symm;repeat(first|refine WV ?_|refine asN ?_)
    refine Am ⟨(_,()),e2.symm,?_⟩;try dsimp only
    exact AA
 ·rintro⟨_,_⟩ hz2;try dsimp only at hz2
  have H:=Hl2 _ hz2;try dsimp only
  refine wS (sT (wN ?_));obtain rfl:=Ab.1 H;exact AH ⟨.inr rfl,W0.cl rfl⟩
def C9(next:List Int)(l:List Int):Int→M (Int⊕((Unit)⊕(Bool))):=fun i1=>M.cnd (decide (i1 < (next.length:Int))) (M.chk (Bq next i1) (M.bnd (D2 l (ixD next i1)) fun r7=>M.cnd r7 (M.ok (.inr (.inr true))) (M.ok (.inl (IntKind.i64.wrap (i1+1)))))) (M.ok (.inr (.inl ())))
def Ec(next:List Int)(l:List Int):M Bool:=M.els (M.loop (C9 next l) 0) fun _=>M.ok false
theorem IM{next:List Int}{l:List Int}{r:Bool}(H:(Ec next l).to r):Fn Try.prog 21 [.bs tInt next,.bs tInt l] (.lit (.bool r)):=by
 delta Ec at H;try dsimp only at H
 refine AM Try.func21 rfl (by kernel_rfl) rfl Try.ntmps21 fun C hC=>?_
 simp only[List.length_cons,List.length_nil,Nat.reduceAdd,Nat.reduceSub,List.replicate_succ,List.replicate_zero,List.cons_append,List.nil_append];refine wS (sT (wN ?_));obtain⟨z2,HX2,Hl2,Hq2⟩:=Ce H;refine AE (β:=(Unit)×(Unit)) (fun q2=>z2= .inl q2.1) (fun q2=>⟨Xf (A8 []),[]⟩) ?_ ?_
 ·refine wS (sT (wN ?_));refine Aj ?_;refine AJ HX2 (fun s2 b2=>⟨.bs tInt next::.bs tInt l::A3 (.lit (.int .i64 s2)::Xf (A2 [])),[]⟩) () (?_) ?_
  ·try dsimp only
   exact AA
  ·rintro i1 _ x2 H Hr2;try dsimp only
   dsimp only[C9]at H;refine Aq fun Khs3 hs3=>?_
   refine wS (sT (sT (sT (sT (wN ?_)))));refine An rfl (fun hb4=>?_) (fun hb4=>?_)
   ·have H:=Au hb4 H;refine As ?_;refine hs3 _ ?_;refine nT ?_;refine Aq fun Khs5 hs5=>?_
    refine Aj ?_;obtain⟨c6,H⟩:=Ag.1 H;obtain⟨r7,k7,H⟩:=Af.1 H;have k7:=E0 k7;refine wS (sT (sT (sT (sX c6 (sT (sC k7 (wN ?_)))))));refine An rfl (fun hb8=>?_) (fun hb8=>?_)
    ·have H:=Au hb8 H;refine wS (sT (wN ?_));have H:=Ab.2 (Hq2 _ (Hr2 _ (Ab.1 H).symm).symm);obtain rfl:=Ab.1 H;exact AH ⟨.inr rfl,W0.cl rfl⟩
    ·have H:=Av hb8 H;refine As ?_;refine hs5 _ ?_;refine nT ?_;refine We (sT (sT (sT (wN ?_))));have e2:=Ab.1 H;repeat(first|refine WV ?_|refine asN ?_)
     refine Am ⟨_,(),e2.symm,?_⟩;try dsimp only
     exact AA
   ·have H:=Av hb4 H;refine AI ?_;repeat(first|refine AU ?_|refine exO (by decide) ?_|refine asE ?_)
    refine WN ?_;have e2:=Hr2 _ (Ab.1 H).symm;repeat(first|refine WV ?_|refine asN ?_)
    refine Am ⟨(_,()),e2.symm,?_⟩;try dsimp only
    exact AA
 ·rintro⟨_,_⟩ hz2;try dsimp only at hz2
  have H:=Hl2 _ hz2;try dsimp only
  refine wS (sT (wN ?_));obtain rfl:=Ab.1 H;exact AH ⟨.inr rfl,W0.cl rfl⟩
def Fl(a:List Int)(bP1:List Int):M Bool:=M.bnd (Ec a bP1) fun r1=>M.ok r1
theorem LP{a:List Int}{bP1:List Int}{r:Bool}(H:(Fl a bP1).to r):Fn Try.prog 23 [.bs tInt a,.bs tInt bP1] (.lit (.bool r)):=by
 delta Fl at H;try dsimp only at H
 refine AM Try.func23 rfl (by kernel_rfl) rfl Try.ntmps23 fun C hC=>?_
 simp only[List.length_cons,List.length_nil,Nat.reduceAdd,Nat.reduceSub,List.replicate_succ,List.replicate_zero,List.cons_append,List.nil_append];refine wS (sT (wN ?_));obtain⟨r1,k1,H⟩:=Af.1 H;have k1:=IM k1;refine wS (sT (sT (sC k1 (sT (wN ?_)))));obtain rfl:=Ab.1 H;exact AH ⟨.inr rfl,W0.cl rfl⟩
def BJ(f:Func)(r5:List Int)(r6:List (List Int))(i11:Int)(r21:List Int):(Int×(List Int))→M ((Int×(List Int))⊕(((List Int))⊕((Int×(List Int))⊕(((List Int))⊕(Bool))))):=fun(k25,l27)=>M.cnd (decide (k25 < (r21.length:Int))) (M.chk (Bq r21 k25) (M.chk (!(!((decide ((ixD r21 k25) < 0))||(decide ((ixD r21 k25)≥(f.blocks.length:Int)))))||(Bq r6 (ixD r21 k25))) (M.bnd (M.whn (!((decide ((ixD r21 k25) < 0))||(decide ((ixD r21 k25)≥(f.blocks.length:Int))))) false (D2 (ixD r6 (ixD r21 k25)) (ixD r5 i11))) fun r37=>M.bnd (M.whn (!(((decide ((ixD r21 k25) < 0))||(decide ((ixD r21 k25)≥(f.blocks.length:Int))))||(!r37))) [] (HF f (ixD r21 k25))) fun r38=>M.bnd (M.whn (!(((decide ((ixD r21 k25) < 0))||(decide ((ixD r21 k25)≥(f.blocks.length:Int))))||(!r37))) false (Ec r38 r21)) fun r39=>M.cnd ((((decide ((ixD r21 k25) < 0))||(decide ((ixD r21 k25)≥(f.blocks.length:Int))))||(!r37))||(!r39)) (M.ok (.inr (.inr (.inr (.inr false))))) (M.chk (Bq l27 (ixD r21 k25)) (M.chk (Wd .i64 (IntKind.i64.wrap ((ixD l27 (ixD r21 k25))+1))) (M.ok (.inl (IntKind.i64.wrap (k25+1),l27.set (Int.toNat (ixD r21 k25)) (IntKind.i64.wrap ((ixD l27 (ixD r21 k25))+1)))))))))) (M.ok (.inr (.inl l27)))
def BH(f:Func)(r5:List Int)(r6:List (List Int))(i11:Int)(r21:List Int):Int→M (Int⊕((Unit)⊕((Int×(List Int))⊕(((List Int))⊕(Bool))))):=fun k43=>M.cnd (decide (k43 < i11)) (M.chk (Bq r5 k43) (M.bnd (CH f (ixD r5 k43)) fun r51=>M.bnd (Fl r21 r51) fun r52=>M.chk (!r52||(Bq r6 (ixD r5 i11))) (M.chk (!r52||(Bq r5 k43)) (M.bnd (M.whn r52 false (D2 (ixD r6 (ixD r5 i11)) (ixD r5 k43))) fun r55=>M.chk (!(r52&&(!r55))||(Bq r5 k43)) (M.chk (!(r52&&(!r55))||(Bq r6 (ixD r5 k43))) (M.bnd (M.whn (r52&&(!r55)) false (D2 (ixD r6 (ixD r5 k43)) (ixD r5 i11))) fun r58=>M.cnd ((r52&&(!r55))&&(!r58)) (M.ok (.inr (.inr (.inr (.inr false))))) (M.ok (.inl (IntKind.i64.wrap (k43+1)))))))))) (M.ok (.inr (.inl ())))
def BK(f:Func)(r5:List Int)(r6:List (List Int)):(Int×(List Int))→M ((Int×(List Int))⊕(((List Int))⊕(Bool))):=fun(i11,l13)=>M.cnd (decide (i11 < (r5.length:Int))) (M.chk (Bq r5 i11) (M.bnd (CH f (ixD r5 i11)) fun r21=>M.bnd (D2 r21 (ixD r5 i11)) fun r23=>M.cnd (!r23) (M.ok (.inr (.inr false))) (M.els (M.loop (BJ f r5 r6 i11 r21) (0,l13)) fun l30=>M.els (M.loop (BH f r5 r6 i11 r21) 0) fun _=>M.ok (.inl (IntKind.i64.wrap (i11+1),l30))))) (M.ok (.inr (.inl l13)))
def Db(f:Func):M Bool:=M.bnd (Hn f) fun r2=>M.cnd r2 (M.bnd Ci fun r4=>M.ok r4) (M.bnd (CW f) fun r5=>M.bnd (BQ f) fun r6=>M.bnd (CA f) fun r7=>M.cnd (((r6.length:Int) !=(f.blocks.length:Int))||((r7.length:Int) !=(f.blocks.length:Int))) (M.ok false) (M.chk (JW (f.blocks.length:Int) 8) (M.els (M.loop (BK f r5 r6) (0,List.replicate (Int.toNat (f.blocks.length:Int)) 0)) fun l16=>M.bnd (Bw l16 r7) fun r60=>M.bnd (M.whn r60 false Ci) fun r61=>M.ok (r60&&r61))))
theorem Ip{f:Func}{r:Bool}(H:(Db f).to r):Fn Try.prog 4 [.agg (Ap f)] (.lit (.bool r)):=by
 delta Db at H;try dsimp only at H
 refine AM Try.func4 rfl (by kernel_rfl) rfl Try.ntmps4 fun C hC=>?_
 simp only[List.length_cons,List.length_nil,Nat.reduceAdd,Nat.reduceSub,List.replicate_succ,List.replicate_zero,List.cons_append,List.nil_append];refine wS (sB (sT (wN ?_)));refine Aq fun Khs1 hs1=>?_
 obtain⟨r2,k2,H⟩:=Af.1 H;have k2:=GO k2;refine wS (sT (sC k2 (wN ?_)));refine An rfl (fun hb3=>?_) (fun hb3=>?_)
 ·have H:=Au hb3 H;obtain⟨r4,k4,H⟩:=Af.1 H;have k4:=CT k4;refine wS (sC k4 (sT (wN ?_)));obtain rfl:=Ab.1 H;exact AH ⟨.inr rfl,W0.cl rfl⟩
 ·have H:=Av hb3 H;refine As ?_;refine hs1 _ ?_;refine nT ?_;obtain⟨r5,k5,H⟩:=Af.1 H;have k5:=EG k5;obtain⟨r6,k6,H⟩:=Af.1 H;have k6:=IP k6;obtain⟨r7,k7,H⟩:=Af.1 H;have k7:=DS k7;refine dS 9 (hq:=?_);refine qT (qC k5 (qT (qC k6 (qT (qC k7 (qT (qT (qT (qN (wN ?_))))))))));refine Aq fun Khs8 hs8=>?_
  refine wS (sT (sT (sT (sT (sT (sT (sT ?_)))))));refine Wo rfl ?_;refine Wo rfl ?_;refine Wo rfl ?_;refine Wo rfl ?_;refine Wo rfl ?_;refine Wo rfl (sT (wN ?_));refine An rfl (fun hb9=>?_) (fun hb9=>?_)
  ·have H:=Au hb9 H;refine wS (sT (wN ?_));obtain rfl:=Ab.1 H;exact AH ⟨.inr rfl,W0.cl rfl⟩
  ·have H:=Av hb9 H;refine As ?_;refine hs8 _ ?_;refine nT ?_;obtain⟨c10,H⟩:=Ag.1 H;refine wS (sT (sT (sT ?_)));(refine AT rfl (Gd 1 rfl (T:=tInt) (e:=3) (v:=.int .i64 0) (bytes:=8) (0:Int) rfl (by kernel_rfl) rfl (fun _ _=>⟨rfl,by decide⟩) rfl rfl c10 ?_);refine Dz (ht:=(Ak GK)) ?_);refine sT (wN ?_);obtain⟨z14,HX14,Hl14,Hq14⟩:=Ce H;refine AE (β:=((List Int))×(Nat)) (fun q14=>z14= .inl q14.1) (fun q14=>⟨A5 (.bs tInt r7::.own 1 q14.2::Xc (Xd (Xf (A5 [])))),[.dead,.row q14.2 3 tInt q14.1]⟩) ?_ ?_
   ·refine wS (sT (wN ?_));refine Aj ?_;refine AJ HX14 (fun s14 b14=>⟨.any::.ptr 0 0::.any::.bs tInt r5::.bs tInt.sliceN r6::.bs tInt r7::.own 1 b14::.lit (.int .i64 s14.1)::Xc (Xd (Xf (A4 []))),[.box (Ap f),.row b14 3 tInt s14.2]⟩) 0 (?_) ?_
    ·try dsimp only
     exact AA
    ·rintro⟨i11,l13⟩ v12 x14 H Hr14;try dsimp only
     dsimp only[BK]at H;refine Aq fun Khs17 hs17=>?_
     refine wS (sT (sT (sT (sT (wN ?_)))));refine An rfl (fun hb18=>?_) (fun hb18=>?_)
     ·have H:=Au hb18 H;refine As ?_;refine hs17 _ ?_;refine nT ?_;refine Aq fun Khs19 hs19=>?_
      refine Aj ?_;obtain⟨c20,H⟩:=Ag.1 H;refine wS (sT (sT (sX c20 (sT (sT (wN ?_))))));obtain⟨r21,k21,H⟩:=Af.1 H;have k21:=Ds k21;refine wS (sT (sT (sC k21 (sT (wN ?_)))));refine Aq fun Khs22 hs22=>?_
      obtain⟨r23,k23,H⟩:=Af.1 H;have k23:=E0 k23;refine wS (sT (sT (sC k23 (sT (wN ?_)))));refine An rfl (fun hb24=>?_) (fun hb24=>?_)
      ·have H:=Au hb24 H;refine wS (sT (wN ?_));have H:=Ab.2 (Hq14 _ (Hr14 _ (Ab.1 H).symm).symm);obtain rfl:=Ab.1 H;exact AH ⟨.inr rfl,W0.cl rfl⟩
      ·have H:=Av hb24 H;refine As ?_;refine hs22 _ ?_;refine nT ?_;obtain⟨z28,HX28,Hl28,Hq28⟩:=Ce H;refine AE (β:=((List Int))×(Nat)) (fun q28=>z28= .inl q28.1) (fun q28=>⟨.any::.ptr 0 0::.any::.bs tInt r5::.bs tInt.sliceN r6::.bs tInt r7::.own 1 q28.2::.lit (.int .i64 i11)::.lit (.int .i64 (ixD r5 i11))::.bs tInt r21::Xc (Xd (Xf (A2 []))),[.box (Ap f),.row q28.2 3 tInt q28.1]⟩) ?_ ?_
       ·refine wS (sT (wN ?_));refine Aj ?_;refine AJ HX28 (fun s28 b28=>⟨.any::.ptr 0 0::.any::.bs tInt r5::.bs tInt.sliceN r6::.bs tInt r7::.own 1 b28::.lit (.int .i64 i11)::.lit (.int .i64 (ixD r5 i11))::.bs tInt r21::.lit (.int .i64 s28.1)::Xc (Xd (Xf [.any])),[.box (Ap f),.row b28 3 tInt s28.2]⟩) v12 (?_) ?_
        ·try dsimp only
         exact AA
        ·rintro⟨k25,l27⟩ v26 x28 H Hr28;try dsimp only
         dsimp only[BJ]at H;refine Aq fun Khs31 hs31=>?_
         refine wS (sT (sT (sT (sT (wN ?_)))));refine An rfl (fun hb32=>?_) (fun hb32=>?_)
         ·have H:=Au hb32 H;refine As ?_;refine hs31 _ ?_;refine nT ?_;refine Aq fun Khs33 hs33=>?_
          refine Aj ?_;obtain⟨c34,H⟩:=Ag.1 H;refine wS (sT (sT (sX c34 (sT (sT (wN ?_))))));refine Aq fun Khs35 hs35=>?_
          obtain⟨c36,H⟩:=Ag.1 H;obtain⟨r37,k37,H⟩:=Af.1 H;obtain⟨r38,k38,H⟩:=Af.1 H;obtain⟨r39,k39,H⟩:=Af.1 H;refine wS (sT (sT (sT ?_)));refine Wo rfl ?_;refine Wo rfl ?_;refine Wo rfl ?_;refine Wo rfl ?_;refine Wo rfl (sT (sT ?_));refine Wo rfl ?_;refine Wo rfl ?_;refine sG (g:=(!((decide ((ixD r21 k25) < 0))||(decide ((ixD r21 k25)≥(f.blocks.length:Int)))))) (hg:=Qy rfl) (hq:=fun hg=>Ct rfl ((Ar (Ar (Aw H8))).trans (B7 hg _ _)) ((Ar (Ar (Aw Iu))).trans (B7 hg _ _)) rfl (FU c36 hg)) (ht:=(Ak (Ak (Al GK)))) (hk:=?_);refine Wo rfl ?_;refine Wo rfl ?_;refine sG (g:=(!((decide ((ixD r21 k25) < 0))||(decide ((ixD r21 k25)≥(f.blocks.length:Int)))))) (hg:=Qy rfl) (hq:=fun hg=>by((try simp only[B7 hg]);(try simp only[GE hg]);exact AF rfl rfl (E0 (M.to_whn k37 hg)) rfl rfl)) (ht:=(Ak (Ak (Al (Al GL))))) (hk:=?_);refine Wo rfl (sT (sT ?_));refine sG (g:=(!(((decide ((ixD r21 k25) < 0))||(decide ((ixD r21 k25)≥(f.blocks.length:Int))))||(!r37)))) (hg:=Qy rfl) (hq:=fun hg=>AB rfl J4 rfl rfl) (ht:=(Ak (Ak (Al (Al Id))))) (hk:=?_);refine Wo rfl ?_;refine sG (g:=(!(((decide ((ixD r21 k25) < 0))||(decide ((ixD r21 k25)≥(f.blocks.length:Int))))||(!r37)))) (hg:=Qy rfl) (hq:=fun hg=>by((try simp only[B7 hg]);(try simp only[GE hg]);exact AF rfl rfl (GU (M.to_whn k38 hg)) rfl rfl)) (ht:=(Ak (Ak (Al (Al (Al Hg)))))) (hk:=?_);refine Wo rfl ?_;refine sG (g:=(!(((decide ((ixD r21 k25) < 0))||(decide ((ixD r21 k25)≥(f.blocks.length:Int))))||(!r37)))) (hg:=Qy rfl) (hq:=fun hg=>by((try simp only[B7 hg]);(try simp only[GE hg]);exact AF rfl rfl (IM (M.to_whn k39 hg)) rfl rfl)) (ht:=(Ak (Ak (Al (Al (Al GL)))))) (hk:=?_);refine Wo rfl (sT (wN ?_));refine An rfl (fun hb40=>?_) (fun hb40=>?_)
          ·have H:=Au hb40 H;refine wS (sT (wN ?_));have H:=Ab.2 (Hq28 _ (Hr28 _ (Ab.1 H).symm).symm);have H:=Ab.2 (Hq14 _ (Hr14 _ (Ab.1 H).symm).symm);obtain rfl:=Ab.1 H;exact AH ⟨.inr rfl,W0.cl rfl⟩
          ·have H:=Av hb40 H;refine As ?_;refine hs35 _ ?_;refine nT ?_;obtain⟨c41,H⟩:=Ag.1 H;obtain⟨c42,H⟩:=Ag.1 H;refine We (sT (sT ?_));refine sA (hq:=AS rfl (Ar (Ar (Aw (Aw (Aw H8))))) rfl (Ar (Ar (Aw (Aw (Aw Iu))))) rfl c41) (ht:=(Ak (Ak (Al (Al (Al GK)))))) (hk:=?_);refine sA (hq:=AO rfl (Ar (Ar (Aw (Aw (Aw Ji))))) rfl (A0 c41) rfl) (ht:=(Ak (Ak (Ak Hg)))) (hk:=?_);refine sT ?_;refine sA (hq:=AS rfl (Ar (Ar (Aw (Aw (Aw H8))))) rfl (Ar (Ar (Aw (Aw (Aw Iu))))) rfl c41) (ht:=(Ak (Ak (Ak GL)))) (hk:=?_);(refine AT rfl (BW rfl rfl rfl (A0 c41) (WZ.int c42) rfl ?_);refine Dz (ht:=Mw) ?_);refine wN ?_;refine hs33 _ ?_;refine nT ?_;refine We (sT (sT (sT (wN ?_))));have e28:=Ab.1 H;repeat(first|refine WV ?_|refine asN ?_)
           refine Am ⟨_,v26,e28.symm,?_⟩;try dsimp only
           exact AA
         ·have H:=Av hb32 H;refine AI ?_;repeat(first|refine AU ?_|refine exO (by decide) ?_|refine asE ?_)
          refine WN ?_;have e28:=Hr28 _ (Ab.1 H).symm;repeat(first|refine WV ?_|refine asN ?_)
          refine Am ⟨(_,v26),e28.symm,?_⟩;try dsimp only
          exact AA
       ·rintro⟨l30,v29⟩ hz28;try dsimp only at hz28
        have H:=Hl28 _ hz28;try dsimp only
        refine wS (sT (wN ?_));obtain⟨z45,HX45,Hl45,Hq45⟩:=Ce H;refine F9 (β:=(Unit)×(Nat)) (fun q45=>z45= .inl q45.1) (fun q45=>⟨.any::.ptr 0 0::.any::.bs tInt r5::.bs tInt.sliceN r6::.bs tInt r7::.own 1 q45.2::.lit (.int .i64 i11)::Xc (Xd (Xf (A4 []))),[.box (Ap f),.row q45.2 3 tInt l30]⟩) ?_ ?_
        ·refine Aj ?_;refine AJ HX45 (fun s45 b45=>⟨.any::.ptr 0 0::.any::.bs tInt r5::.bs tInt.sliceN r6::.bs tInt r7::.own 1 b45::.lit (.int .i64 i11)::.lit (.int .i64 (ixD r5 i11))::.bs tInt r21::A2 (.lit (.int .i64 s45)::Xc (Xd (A9 []))),[.box (Ap f),.row b45 3 tInt l30]⟩) v29 (?_) ?_
         ·try dsimp only
          exact AA
         ·rintro k43 v44 x45 H Hr45;try dsimp only
          dsimp only[BH]at H;refine Aq fun Khs47 hs47=>?_
          refine wS (sT (sT (sT (wN ?_))));refine An rfl (fun hb48=>?_) (fun hb48=>?_)
          ·have H:=Au hb48 H;refine As ?_;refine hs47 _ ?_;refine nT ?_;refine Aq fun Khs49 hs49=>?_
           refine Aj ?_;obtain⟨c50,H⟩:=Ag.1 H;obtain⟨r51,k51,H⟩:=Af.1 H;have k51:=Ds k51;obtain⟨r52,k52,H⟩:=Af.1 H;have k52:=LP k52;obtain⟨c53,H⟩:=Ag.1 H;obtain⟨c54,H⟩:=Ag.1 H;obtain⟨r55,k55,H⟩:=Af.1 H;obtain⟨c56,H⟩:=Ag.1 H;obtain⟨c57,H⟩:=Ag.1 H;obtain⟨r58,k58,H⟩:=Af.1 H;refine dS 32 (hq:=?_);refine qT (qT (qT (qT (qX c50 (qT (qC k51 (qC k52 (qT ?_))))))));refine Wx rfl ?_;refine Wx rfl ?_;refine VF rfl c53 ?_;refine Wx rfl ?_;refine Wx rfl ?_;refine Wx rfl ?_;refine VF rfl c54 ?_;refine Wx rfl ?_;refine qG (g:=r52) (hg:=DP rfl) (hq:=fun hg=>by((try simp only[B7 hg]);(try simp only[GE hg]);exact AF rfl rfl (E0 (M.to_whn k55 hg)) rfl rfl)) (ht:=(Ak (Ak (Ak (Al (Al (Al IF))))))) (hk:=?_);refine Wx rfl (qT (qT ?_));refine Wx rfl ?_;refine Wx rfl ?_;refine Wx rfl ?_;refine VF rfl c56 ?_;refine Wx rfl ?_;refine VF rfl c57 ?_;refine Wx rfl ?_;refine Wx rfl ?_;refine qG (g:=(r52&&(!r55))) (hg:=DP rfl) (hq:=fun hg=>by((try simp only[B7 hg]);(try simp only[GE hg]);exact AF rfl rfl (E0 (M.to_whn k58 hg)) rfl rfl)) (ht:=(Ak (Ak (Ak (Ak Ge))))) ?_;refine Wx rfl (qT (qN (wN ?_)));refine An rfl (fun hb59=>?_) (fun hb59=>?_)
           ·have H:=Au hb59 H;refine wS (sT (wN ?_));have H:=Ab.2 (Hq45 _ (Hr45 _ (Ab.1 H).symm).symm);have H:=Ab.2 (Hq14 _ (Hr14 _ (Ab.1 H).symm).symm);obtain rfl:=Ab.1 H;exact AH ⟨.inr rfl,W0.cl rfl⟩
           ·have H:=Av hb59 H;refine As ?_;refine hs49 _ ?_;refine nT ?_;refine We (sT (sT (sT (wN ?_))));have e45:=Ab.1 H;repeat(first|refine WV ?_|refine asN ?_)
            refine Am ⟨_,v44,e45.symm,?_⟩;try dsimp only
            exact AA
          ·have H:=Av hb48 H;refine AI ?_;repeat(first|refine AU ?_|refine exO (by decide) ?_|refine asE ?_)
           refine WN ?_;have e45:=Hr45 _ (Ab.1 H).symm;repeat(first|refine WV ?_|refine asN ?_)
           refine Am ⟨(_,v44),e45.symm,?_⟩;try dsimp only
           exact AA
        ·rintro⟨_,v46⟩ s45 hz45 hle45;try dsimp only at hz45
         try dsimp only at hle45
         have H:=Hl45 _ hz45;repeat(first|refine WV ?_|refine asN ?_)
         refine hs19 _ (Be _ hle45 ?_);refine We (sT (sT (sT (wN ?_))));have e14:=Ab.1 H;repeat(first|refine WV ?_|refine asN ?_)
         refine Am ⟨_,v46,e14.symm,?_⟩;try dsimp only
         exact AA
     ·have H:=Av hb18 H;refine AI ?_;repeat(first|refine AU ?_|refine exO (by decide) ?_|refine asE ?_)
      refine WN ?_;have e14:=Hr14 _ (Ab.1 H).symm;repeat(first|refine WV ?_|refine asN ?_)
      refine Am ⟨(_,v12),e14.symm,?_⟩;try dsimp only
      exact WH (Cut.dead (Cut.cons (Cut.nil _)))
   ·rintro⟨l16,v15⟩ hz14;try dsimp only at hz14
    have H:=Hl14 _ hz14;try dsimp only
    obtain⟨r60,k60,H⟩:=Af.1 H;have k60:=Bv k60;obtain⟨r61,k61,H⟩:=Af.1 H;refine wS (sT (sT ?_));refine sA (hq:=Qk rfl k60 (.own rfl (.cl rfl .nil))) (ht:=(Ak (Ak (Ak (Ak (Al GL)))))) (hk:=?_);refine sT ?_;refine sG (g:=r60) (hg:=DP rfl) (hq:=fun hg=>by((try simp only[B7 hg]);(try simp only[GE hg]);exact AF rfl rfl (CT (M.to_whn k61 hg)) rfl rfl)) (ht:=(Ak (Ak (Ak (Ak (Al JC)))))) (hk:=?_);refine sT (sT (wN ?_));obtain rfl:=Ab.1 H;exact AH ⟨.inr rfl,W0.cl rfl⟩
def BB(f:Func)(atP1:Int)(r12:List Int):(Int×Int)→M ((Int×Int)⊕Int):=fun(more16,i17)=>M.chk (Bq r12 (Int.tmod (IntKind.i64.wrap atP1) (f.blocks.length:Int))) (M.cnd (decide (i17 < (if 4 < (ixD r12 (Int.tmod (IntKind.i64.wrap atP1) (f.blocks.length:Int)))then 4 else(ixD r12 (Int.tmod (IntKind.i64.wrap atP1) (f.blocks.length:Int)))))) (M.ok (.inl (IntKind.i64.wrap (10 * more16),IntKind.i64.wrap (i17+1)))) (M.ok (.inr more16)))
def BT(f:Func)(atP1:Int)(rP2:Int)(more20:Int):Int→M (Int⊕((Unit)⊕(Bool))):=fun x27=>M.cnd (decide (x27 < 100)) (M.bnd (Cg ⟨f.name,f.args,f.regs,f.blocks⟩ x27) fun r32=>M.bnd (M.cnd (x27 ==rP2) (M.ok (IntKind.i64.wrap (r32+more20))) (M.ok r32)) fun want33=>M.chk (Bq f.blocks (Int.tmod (IntKind.i64.wrap atP1) (f.blocks.length:Int))) (M.bnd (M.whn (decide ((((ixD f.blocks (Int.tmod (IntKind.i64.wrap atP1) (f.blocks.length:Int))).ins).length:Int) > 0)) 0 (Cg ⟨f.name,f.args,f.regs,(([]:List Block)++f.blocks).set (Int.toNat (Int.tmod (IntKind.i64.wrap atP1) (f.blocks.length:Int))) ⟨(ixD (([]:List Block)++f.blocks) (Int.tmod (IntKind.i64.wrap atP1) (f.blocks.length:Int))).name,([⟨0,rP2,0,0,0,0,[],0,0⟩]:List Ins)++((ixD f.blocks (Int.tmod (IntKind.i64.wrap atP1) (f.blocks.length:Int))).ins)⟩⟩ x27)) fun r37=>M.cnd ((decide ((((ixD f.blocks (Int.tmod (IntKind.i64.wrap atP1) (f.blocks.length:Int))).ins).length:Int) > 0))&&(r37 !=want33)) (M.ok (.inr (.inr false))) (M.ok (.inl (IntKind.i64.wrap (x27+1)))))) (M.ok (.inr (.inl ())))
def BA(f:Func)(r39:List Int):Int→M (Int⊕((Unit)⊕(Bool))):=fun i40=>M.cnd (decide (i40 < (r39.length:Int))) (M.chk (Bq r39 (IntKind.i64.wrap (i40 - 1))) (M.bnd (Cg ⟨f.name,f.args,f.regs,f.blocks⟩ (ixD r39 (IntKind.i64.wrap (i40 - 1)))) fun r46=>M.chk (Bq r39 i40) (M.bnd (Cg ⟨f.name,f.args,f.regs,f.blocks⟩ (ixD r39 i40)) fun r48=>M.chk (!((!(decide (r46 > r48)))&&(r46 ==r48))||(Bq r39 (IntKind.i64.wrap (i40 - 1)))) (M.chk (!((!(decide (r46 > r48)))&&(r46 ==r48))||(Bq r39 i40)) (M.cnd ((decide (r46 > r48))||((r46 ==r48)&&(decide ((ixD r39 (IntKind.i64.wrap (i40 - 1)))≥(ixD r39 i40))))) (M.ok (.inr (.inr false))) (M.ok (.inl (IntKind.i64.wrap (i40+1))))))))) (M.ok (.inr (.inl ())))
def DA(f:Func)(atP1:Int)(rP2:Int):M Bool:=M.bnd (Hn f) fun r2=>M.cnd (((r2||((f.blocks.length:Int) ==0))||(decide (rP2 < 0)))||(decide (rP2≥100))) (M.bnd Ci fun r4=>M.ok r4) (M.chk ((f.blocks.length:Int) !=0) (M.chk (GC (([]:List Block).length+f.blocks.length) 40) (M.chk (Ey ⟨0,rP2,0,0,0,0,[],0,0⟩) (M.chk (Bq f.blocks (Int.tmod (IntKind.i64.wrap atP1) (f.blocks.length:Int))) (M.chk (GC (([⟨0,rP2,0,0,0,0,[],0,0⟩]:List Ins).length+((ixD f.blocks (Int.tmod (IntKind.i64.wrap atP1) (f.blocks.length:Int))).ins).length) 88) (M.chk (Bq (([]:List Block)++f.blocks) (Int.tmod (IntKind.i64.wrap atP1) (f.blocks.length:Int))) (M.chk (D0 ⟨(ixD (([]:List Block)++f.blocks) (Int.tmod (IntKind.i64.wrap atP1) (f.blocks.length:Int))).name,([⟨0,rP2,0,0,0,0,[],0,0⟩]:List Ins)++((ixD f.blocks (Int.tmod (IntKind.i64.wrap atP1) (f.blocks.length:Int))).ins)⟩) (M.bnd (CA f) fun r12=>M.chk (!(!((r12.length:Int) !=(f.blocks.length:Int)))||(Bq r12 (Int.tmod (IntKind.i64.wrap atP1) (f.blocks.length:Int)))) (M.cnd (((r12.length:Int) !=(f.blocks.length:Int))||(decide ((ixD r12 (Int.tmod (IntKind.i64.wrap atP1) (f.blocks.length:Int))) < 0))) (M.ok false) (M.bnd (M.loop (BB f atP1 r12) (1,0)) fun more20=>M.els (M.loop (BT f atP1 rP2 more20) 0) fun _=>M.bnd (Ef ⟨f.name,f.args,f.regs,f.blocks⟩) fun r39=>M.els (M.loop (BA f r39) 1) fun _=>M.bnd Ci fun r52=>M.ok r52))))))))))
theorem I4{f:Func}{atP1:Int}{rP2:Int}{r:Bool}(H:(DA f atP1 rP2).to r):Fn Try.prog 5 [.agg (Ap f),.lit (.int .u8 atP1),.lit (.int .i64 rP2)] (.lit (.bool r)):=by
 delta DA at H;try dsimp only at H
 refine AM Try.func5 rfl (by kernel_rfl) rfl Try.ntmps5 fun C hC=>?_
 simp only[List.length_cons,List.length_nil,Nat.reduceAdd,Nat.reduceSub,List.replicate_succ,List.replicate_zero,List.cons_append,List.nil_append];refine wS (sB (sT (wN ?_)));refine Aq fun Khs1 hs1=>?_
 obtain⟨r2,k2,H⟩:=Af.1 H;have k2:=GO k2;refine wS (sT (sC k2 (sT ?_)));refine Wo rfl ?_;refine Wo rfl ?_;refine Wo rfl ?_;refine Wo rfl (sT (sT ?_));refine Wo rfl ?_;refine Wo rfl (sT (sT ?_));refine Wo rfl ?_;refine Wo rfl (sT (wN ?_));refine An rfl (fun hb3=>?_) (fun hb3=>?_)
 ·have H:=Au hb3 H;obtain⟨r4,k4,H⟩:=Af.1 H;have k4:=CT k4;refine wS (sC k4 (sT (wN ?_)));obtain rfl:=Ab.1 H;exact AH ⟨.inr rfl,W0.cl rfl⟩
 ·have H:=Av hb3 H;refine As ?_;refine hs1 _ ?_;refine nT ?_;obtain⟨c5,H⟩:=Ag.1 H;refine wS (sT ?_);refine sA (hq:=Mb rfl (Ar Gx) rfl) (ht:=(Ak JC)) ?_;refine sT (sT (sT ?_));refine sA (hq:=Qi rfl (Ar IN) (Ar Ji) c5) (ht:=(Ak (Al Hg))) ?_;refine sT (wN ?_);refine wS (sT (Wp (sW (wN ?_))));obtain⟨c6,H⟩:=Ag.1 H;refine wS ?_;(refine AT rfl (H7 2 rfl (xs:=[]) (T:=Bc) (ds:=([]:List Block)) rfl rfl rfl (RT.eq (n:=2) (bytes:=40)) (by decide) (by decide) .nil ?_);refine Dz (ht:=(Ak (Al GL))) ?_);refine sT (sT (sP c6 (sT (sW (wN ?_)))));obtain⟨c7,H⟩:=Ag.1 H;obtain⟨c8,H⟩:=Ag.1 H;obtain⟨c9,H⟩:=Ag.1 H;obtain⟨c10,H⟩:=Ag.1 H;obtain⟨c11,H⟩:=Ag.1 H;refine dS 15 (hq:=?_);refine qT (qT (qT (qT ?_)));refine qA (hq:=BR (rs:=[.lit (.int .u8 0),.lit (.int .i64 rP2),.lit (.int .i64 0),.lit (.int .i64 0),.lit (.int .u32 0),.lit (.int .i64 0),.lit (.slice none 0 0),.lit (.int .i64 0),.lit (.int .i64 0)]) rfl PI rfl rfl) (ht:=(Ak (Al (Al Hf)))) ?_;refine qA (hq:=Qj (xs:=[.tmp 51]) (T:=EO) (ds:=([⟨0,rP2,0,0,0,0,[],0,0⟩]:List Ins)) rfl rfl rfl rfl (by decide) (.cons (WZ.up (Qf (.cons (.refl _) (.cons (.refl _) (.cons (.refl _) (.cons (.refl _) (.cons (.refl _) (.cons (.refl _) (.cons (.nil _) (.cons (.refl _) (.cons (.refl _) .nil)))))))))) (Iw c7)) .nil)) (ht:=(Ak (Al (Al JC)))) (hk:=?_);refine qT (qT (qT (qX c8 (qT (qT ?_)))));refine qA (hq:=Ql rfl (Ar (Aw (Aw IN))) (Ar (Aw (Aw (Aw M1)))) rfl (OS c9) (KR c9)) (ht:=(Ak (Al (Al (Al Hf))))) ?_;refine qA (hq:=AS rfl (Ar (Aw (Aw Kv))) rfl (Ar (Aw (Aw J4))) rfl c10) (ht:=(Ak (Al (Al (Al JC))))) ?_;refine qA (hq:=B1 rfl (Ar (Aw (Aw (Aw IN)))) rfl) (ht:=(Ak (Al (Al (Al Ge))))) ?_;refine qN ?_;(refine AT rfl (Lm ⟨(ixD (([]:List Block)++f.blocks) (Int.tmod (IntKind.i64.wrap atP1) (f.blocks.length:Int))).name,([⟨0,rP2,0,0,0,0,[],0,0⟩]:List Ins)++((ixD f.blocks (Int.tmod (IntKind.i64.wrap atP1) (f.blocks.length:Int))).ins)⟩ rfl rfl rfl rfl (A0 c10) (by decide) rfl (fun _ _ _ hr=>Rg (Ob c11) hr) ?_);refine Dz (ht:=Mw) ?_);refine wN ?_;obtain⟨r12,k12,H⟩:=Af.1 H;have k12:=DS k12;refine wS (sT (sC k12 (sT (wN ?_))));refine Aq fun Khs13 hs13=>?_
  obtain⟨c14,H⟩:=Ag.1 H;refine wS (sT (sT (sT (sT (sT (sT (sT ?_)))))));refine Wo rfl ?_;refine Wo rfl ?_;refine sG (g:=(!((r12.length:Int) !=(f.blocks.length:Int)))) (hg:=Qy rfl) (hq:=fun hg=>Ct rfl ((Ar (Ar Ji)).trans (B7 hg _ _)) ((Ar (Ar (Aw Kv))).trans (B7 hg _ _)) rfl (FU c14 hg)) (ht:=(Ak (Ak (Al IF)))) ?_;refine Wo rfl ?_;refine Wo rfl (sT (wN ?_));refine An rfl (fun hb15=>?_) (fun hb15=>?_)
  ·have H:=Au hb15 H;refine wS (sT (wN ?_));obtain rfl:=Ab.1 H;exact AH ⟨.inr rfl,W0.cl rfl⟩
  ·have H:=Av hb15 H;refine As ?_;refine hs13 _ ?_;refine nT ?_;refine wS (sT (wN ?_));obtain⟨z19,HX19,Hl19⟩:=Af.1 H;refine AE (β:=(Int)×(Nat)) (fun q19=>z19=q19.1) (fun q19=>⟨A2 (.lit (.int .i64 rP2)::.ptr 0 0::A3 (.lit (.int .i64 (Int.tmod (IntKind.i64.wrap atP1) (f.blocks.length:Int)))::.ptr 1 0::.any::.lit (.int .i64 q19.1)::Xc (Xd (Xe (A7 []))))),[.box (Ap f),.box [.lit (.string f.name),.lit (.int .i64 f.args),.lit (.int .i64 f.regs),.own 2 q19.2],.row q19.2 42 Bc ((([]:List Block)++f.blocks).set (Int.toNat (Int.tmod (IntKind.i64.wrap atP1) (f.blocks.length:Int))) ⟨(ixD (([]:List Block)++f.blocks) (Int.tmod (IntKind.i64.wrap atP1) (f.blocks.length:Int))).name,([⟨0,rP2,0,0,0,0,[],0,0⟩]:List Ins)++((ixD f.blocks (Int.tmod (IntKind.i64.wrap atP1) (f.blocks.length:Int))).ins)⟩)]⟩) ?_ ?_
   ·refine wS (sT (wN ?_));refine Aj ?_;refine AJ HX19 (fun s19 b19=>⟨A2 (.lit (.int .i64 rP2)::.ptr 0 0::A3 (.lit (.int .i64 (Int.tmod (IntKind.i64.wrap atP1) (f.blocks.length:Int)))::.ptr 1 0::.bs tInt r12::.lit (.int .i64 s19.1)::.lit (.int .i64 s19.2)::Xc (Xd (Xe (A6 []))))),[.box (Ap f),.box [.lit (.string f.name),.lit (.int .i64 f.args),.lit (.int .i64 f.regs),.own 2 b19],.row b19 42 Bc ((([]:List Block)++f.blocks).set (Int.toNat (Int.tmod (IntKind.i64.wrap atP1) (f.blocks.length:Int))) ⟨(ixD (([]:List Block)++f.blocks) (Int.tmod (IntKind.i64.wrap atP1) (f.blocks.length:Int))).name,([⟨0,rP2,0,0,0,0,[],0,0⟩]:List Ins)++((ixD f.blocks (Int.tmod (IntKind.i64.wrap atP1) (f.blocks.length:Int))).ins)⟩)]⟩) (0+1) (?_) ?_
    ·try dsimp only
     exact AA
    ·rintro⟨more16,i17⟩ v18 x19 H Hr19;try dsimp only
     dsimp only[BB]at H;refine Aq fun Khs22 hs22=>?_
     obtain⟨c23,H⟩:=Ag.1 H;refine wS (sT (sT (sT (sX c23 (sT ?_)))));refine sA (hq:=Az.min2 rfl (Ar (Ar (Aw (Aw J4)))) Mk) (ht:=(Ak (Ak (Al (Al GL))))) ?_;refine sT (wN ?_);refine An rfl (fun hb24=>?_) (fun hb24=>?_)
     ·have H:=Au hb24 H;refine As ?_;refine hs22 _ ?_;refine nT ?_;refine Aq fun Khs25 hs25=>?_
      refine Aj ?_;refine We (sT (sT (sT (wN ?_))));refine hs25 _ ?_;refine nT ?_;refine We (sT (sT (sT (wN ?_))));have e19:=Ab.1 H;repeat(first|refine WV ?_|refine asN ?_)
      refine Am ⟨_,v18,e19.symm,?_⟩;try dsimp only
      exact AA
     ·have H:=Av hb24 H;refine AI ?_;repeat(first|refine AU ?_|refine exO (by decide) ?_|refine asE ?_)
      refine WN ?_;have e19:=Hr19 _ (Ab.1 H).symm;repeat(first|refine WV ?_|refine asN ?_)
      refine Am ⟨(_,v18),e19.symm,?_⟩;try dsimp only
      exact AA
   ·rintro⟨more20,v21⟩ hz19;try dsimp only at hz19
    have H:=Hl19;rw[hz19]at H;try dsimp only
    refine Be _ (Pm hC 2 rfl (by(simp only[fzH,Dm,AV.fz,ABlk.fz,List.map_cons,List.map_nil,List.drop_zero,List.take_succ_cons,List.take_zero,List.set_cons_succ,List.set_cons_zero,and_self,and_true,true_and,if_true,Nat.reduceEqDiff,false_and,if_false];first|done|exact rfl)) (by(simp only[fzH,Dm,AV.fz,ABlk.fz,List.map_cons,List.map_nil,List.drop_zero,List.take_succ_cons,List.take_zero,List.set_cons_succ,List.set_cons_zero,and_self,and_true,true_and,if_true,Nat.reduceEqDiff,false_and,if_false];first|done|exact rfl))) ?_;refine nT ?_;obtain⟨z28,HX28,Hl28,Hq28⟩:=Ce H;refine AE (β:=(Unit)×(Unit)) (fun q28=>z28= .inl q28.1) (fun q28=>⟨A3 (.ptr 0 0::Xc (Xd (Xe (Xf (A4 []))))),[.box [.lit (.string f.name),.lit (.int .i64 f.args),.lit (.int .i64 f.regs),.bs Bc f.blocks],.dead,.dead]⟩) ?_ ?_
    ·refine wS (sT (wN ?_));refine Aj ?_;refine AJ HX28 (fun s28 b28=>⟨A2 (.lit (.int .i64 rP2)::.ptr 0 0::A3 (.lit (.int .i64 (Int.tmod (IntKind.i64.wrap atP1) (f.blocks.length:Int)))::.ptr 1 0::.any::.lit (.int .i64 more20)::.any::.lit (.int .i64 s28)::Xc (Xd (Xe (A5 []))))),[.box [.lit (.string f.name),.lit (.int .i64 f.args),.lit (.int .i64 f.regs),.bs Bc f.blocks],.box [.lit (.string f.name),.lit (.int .i64 f.args),.lit (.int .i64 f.regs),.bs Bc ((([]:List Block)++f.blocks).set (Int.toNat (Int.tmod (IntKind.i64.wrap atP1) (f.blocks.length:Int))) ⟨(ixD (([]:List Block)++f.blocks) (Int.tmod (IntKind.i64.wrap atP1) (f.blocks.length:Int))).name,([⟨0,rP2,0,0,0,0,[],0,0⟩]:List Ins)++((ixD f.blocks (Int.tmod (IntKind.i64.wrap atP1) (f.blocks.length:Int))).ins)⟩)],.dead]⟩) () (?_) ?_
     ·try dsimp only
      exact AA
     ·rintro x27 _ x28 H Hr28;try dsimp only
      dsimp only[BT]at H;refine Aq fun Khs29 hs29=>?_
      refine wS (sT (sT (wN ?_)));refine An rfl (fun hb30=>?_) (fun hb30=>?_)
      ·have H:=Au hb30 H;refine As ?_;refine hs29 _ ?_;refine nT ?_;refine Aq fun Khs31 hs31=>?_
       refine Aj ?_;obtain⟨r32,k32,H⟩:=Af.1 H;have k32:=Cr k32;refine wS (sT (sT (sC k32 (sT (wN ?_)))));obtain⟨z34,HX34,Hl34⟩:=Af.1 H;refine AE (β:=(Int)×(Unit)) (fun q34=>z34=q34.1) (fun q34=>⟨A2 (.lit (.int .i64 rP2)::.ptr 0 0::A3 (.lit (.int .i64 (Int.tmod (IntKind.i64.wrap atP1) (f.blocks.length:Int)))::.ptr 1 0::.any::.lit (.int .i64 more20)::.any::.lit (.int .i64 x27)::.lit (.int .i64 q34.1)::Xc (Xd (Xe (A4 []))))),[.box [.lit (.string f.name),.lit (.int .i64 f.args),.lit (.int .i64 f.regs),.bs Bc f.blocks],.box [.lit (.string f.name),.lit (.int .i64 f.args),.lit (.int .i64 f.regs),.bs Bc ((([]:List Block)++f.blocks).set (Int.toNat (Int.tmod (IntKind.i64.wrap atP1) (f.blocks.length:Int))) ⟨(ixD (([]:List Block)++f.blocks) (Int.tmod (IntKind.i64.wrap atP1) (f.blocks.length:Int))).name,([⟨0,rP2,0,0,0,0,[],0,0⟩]:List Ins)++((ixD f.blocks (Int.tmod (IntKind.i64.wrap atP1) (f.blocks.length:Int))).ins)⟩)],.dead]⟩) ?_ ?_
       ·have H:=HX34;refine wS (sT (sT (sT (wN ?_))));refine An rfl (fun hb35=>?_) (fun hb35=>?_)
        ·have H:=Au hb35 H;refine We (sT (sT (sT (sT (wN ?_)))));have e34:=Ab.1 H;repeat(first|refine WV ?_|refine asN ?_)
         refine Am ⟨(_,()),e34.symm,?_⟩;try dsimp only
         exact AA
        ·have H:=Av hb35 H;refine As ?_;have e34:=Ab.1 H;repeat(first|refine WV ?_|refine asN ?_)
         refine Am ⟨(_,()),e34.symm,?_⟩;try dsimp only
         exact AA
       ·rintro⟨want33,_⟩ hz34;try dsimp only at hz34
        have H:=Hl34;rw[hz34]at H;try dsimp only
        obtain⟨c36,H⟩:=Ag.1 H;obtain⟨r37,k37,H⟩:=Af.1 H;refine wS (sT (sT (sT (sX c36 (sT (sT (sT (sT (sT ?_)))))))));refine sG (g:=(decide ((((ixD f.blocks (Int.tmod (IntKind.i64.wrap atP1) (f.blocks.length:Int))).ins).length:Int) > 0))) (hg:=DP rfl) (hq:=fun hg=>AB rfl (Aw Kv) rfl rfl) (ht:=(Ak (Ak (Ak (Al Id))))) (hk:=?_);refine Wn rfl ?_;refine sG (g:=(decide ((((ixD f.blocks (Int.tmod (IntKind.i64.wrap atP1) (f.blocks.length:Int))).ins).length:Int) > 0))) (hg:=DP rfl) (hq:=fun hg=>by((try simp only[B7 hg]);(try simp only[GE hg]);exact AF rfl rfl (Cr (M.to_whn k37 hg)) rfl rfl)) (ht:=(Ak (Ak (Ak (Al (Al Hg)))))) (hk:=?_);refine Wn rfl ?_;refine Wn rfl (sT (wN ?_));refine An rfl (fun hb38=>?_) (fun hb38=>?_)
        ·have H:=Au hb38 H;refine wS (sT (wN ?_));have H:=Ab.2 (Hq28 _ (Hr28 _ (Ab.1 H).symm).symm);obtain rfl:=Ab.1 H;exact AH ⟨.inr rfl,W0.cl rfl⟩
        ·have H:=Av hb38 H;refine As ?_;refine hs31 _ ?_;refine nT ?_;refine We (sT (sT (sT (wN ?_))));have e28:=Ab.1 H;repeat(first|refine WV ?_|refine asN ?_)
         refine Am ⟨_,(),e28.symm,?_⟩;try dsimp only
         exact AA
      ·have H:=Av hb30 H;refine AI ?_;repeat(first|refine AU ?_|refine exO (by decide) ?_|refine asE ?_)
       refine WN ?_;have e28:=Hr28 _ (Ab.1 H).symm;repeat(first|refine WV ?_|refine asN ?_)
       refine Am ⟨(_,()),e28.symm,?_⟩;try dsimp only
       exact WH (Cut.cons (Cut.dead (Cut.cons (Cut.nil _))))
    ·rintro⟨_,_⟩ hz28;try dsimp only at hz28
     have H:=Hl28 _ hz28;try dsimp only
     obtain⟨r39,k39,H⟩:=Af.1 H;have k39:=F0 k39;refine wS (sT (sC k39 (sT (wN ?_))));obtain⟨z41,HX41,Hl41,Hq41⟩:=Ce H;refine AE (β:=(Unit)×(Unit)) (fun q41=>z41= .inl q41.1) (fun q41=>⟨Xc (Xd (Xe (Xf (A8 [])))),[.dead,.dead,.dead]⟩) ?_ ?_
     ·refine wS (sT (wN ?_));refine Aj ?_;refine AJ HX41 (fun s41 b41=>⟨A3 (.ptr 0 0::Xf (.bs tInt r39::.lit (.int .i64 s41)::Xc (Xd (Xe (A2 []))))),[.box [.lit (.string f.name),.lit (.int .i64 f.args),.lit (.int .i64 f.regs),.bs Bc f.blocks],.dead,.dead]⟩) () (?_) ?_
      ·try dsimp only
       exact AA
      ·rintro i40 _ x41 H Hr41;try dsimp only
       dsimp only[BA]at H;refine Aq fun Khs42 hs42=>?_
       refine wS (sT (sT (sT (sT (wN ?_)))));refine An rfl (fun hb43=>?_) (fun hb43=>?_)
       ·have H:=Au hb43 H;refine As ?_;refine hs42 _ ?_;refine nT ?_;refine Aq fun Khs44 hs44=>?_
        refine Aj ?_;obtain⟨c45,H⟩:=Ag.1 H;obtain⟨r46,k46,H⟩:=Af.1 H;have k46:=Cr k46;obtain⟨c47,H⟩:=Ag.1 H;obtain⟨r48,k48,H⟩:=Af.1 H;have k48:=Cr k48;refine dS 15 (hq:=?_);refine qT (qT (qT (qT (qX c45 (qT (qC k46 (qT (qT (qT (qX c47 (qT ?_)))))))))));refine qC k48 (qT (qT (qN (wN ?_))));obtain⟨c49,H⟩:=Ag.1 H;obtain⟨c50,H⟩:=Ag.1 H;refine dS 20 (hq:=?_);refine qT (qT (qT (qT ?_)));refine Wy rfl ?_;refine Wy rfl ?_;refine Wy rfl ?_;refine Wy rfl ?_;refine qG (g:=((!(decide (r46 > r48)))&&(r46 ==r48))) (hg:=Kw rfl rfl) (hq:=fun hg=>by(have hg':=KE hg;exact Az.move rfl (Aw Iu))) (ht:=(Ak (Ak (Ak (Ak (Al (Al IF))))))) (hk:=?_);refine qG (g:=((!(decide (r46 > r48)))&&(r46 ==r48))) (hg:=Kw rfl rfl) (hq:=fun hg=>by(have hg':=KE hg;exact Az.move rfl (Aw Ji))) (ht:=(Ak (Ak (Ak (Ak (Al (Al GL))))))) (hk:=?_);refine qG (g:=((!(decide (r46 > r48)))&&(r46 ==r48))) (hg:=Kw rfl rfl) (hq:=fun hg=>by(have hg':=KE hg;exact BV rfl ((Ar (Ar (Ar (Ar (Aw (Aw M1)))))).trans (B7 hg _ _)) Mk rfl)) (ht:=(Ak (Ak (Ak (Ak (Al (Al Hf))))))) (hk:=?_);refine qG (g:=((!(decide (r46 > r48)))&&(r46 ==r48))) (hg:=Kw rfl rfl) (hq:=fun hg=>by(have hg':=KE hg;exact Ct rfl ((Ar (Ar (Ar (Ar (Aw (Aw J4)))))).trans (B7 hg _ _)) ((Ar (Ar (Ar (Ar (Aw (Aw Gx)))))).trans (B7 hg _ _)) rfl (FU c49 hg))) (ht:=(Ak (Ak (Ak (Ak (Al (Al JC))))))) (hk:=?_);refine qG (g:=((!(decide (r46 > r48)))&&(r46 ==r48))) (hg:=Kw rfl rfl) (hq:=fun hg=>by(have hg':=KE hg;exact BU rfl ((Ar (Ar (Ar (Ar (Aw (Aw IN)))))).trans (B7 hg _ _)) rfl)) (ht:=(Ak (Ak (Ak (Ak (Al (Al Ge))))))) (hk:=?_);refine qG (g:=((!(decide (r46 > r48)))&&(r46 ==r48))) (hg:=Kw rfl rfl) (hq:=fun hg=>by(have hg':=KE hg;exact Az.move rfl (Aw Iu))) (ht:=(Ak (Ak (Ak (Ak (Al (Al Id))))))) (hk:=?_);refine qG (g:=((!(decide (r46 > r48)))&&(r46 ==r48))) (hg:=Kw rfl rfl) (hq:=fun hg=>by(have hg':=KE hg;exact Az.move rfl (Aw Ji))) (ht:=(Ak (Ak (Ak (Ak (Al (Al GK))))))) (hk:=?_);refine qG (g:=((!(decide (r46 > r48)))&&(r46 ==r48))) (hg:=Kw rfl rfl) (hq:=fun hg=>by(have hg':=KE hg;exact Ct rfl ((Ar (Ar (Ar (Ar (Aw (Aw Iu)))))).trans (B7 hg _ _)) ((Ar (Ar (Ar (Ar (Aw (Aw Ji)))))).trans (B7 hg _ _)) rfl (FU c50 hg))) (ht:=(Ak (Ak (Ak (Ak (Al (Al (Al Hg)))))))) (hk:=?_);refine qG (g:=((!(decide (r46 > r48)))&&(r46 ==r48))) (hg:=Kw rfl rfl) (hq:=fun hg=>by(have hg':=KE hg;exact BU rfl ((Ar (Ar (Ar (Ar (Aw (Aw (Aw Kv))))))).trans (B7 hg _ _)) rfl)) (ht:=(Ak (Ak (Ak (Ak (Al (Al (Al IF)))))))) (hk:=?_);refine qG (g:=((!(decide (r46 > r48)))&&(r46 ==r48))) (hg:=Kw rfl rfl) (hq:=fun hg=>by(have hg':=KE hg;exact BV rfl ((Ar (Ar (Ar (Ar (Aw (Aw H8)))))).trans (B7 hg _ _)) ((Ar (Ar (Ar (Ar (Aw (Aw (Aw J4))))))).trans (B7 hg _ _)) rfl)) (ht:=(Ak (Ak (Ak (Ak (Al (Al (Al GL)))))))) (hk:=?_);refine qG (g:=(!(decide (r46 > r48)))) (hg:=Qy rfl) (hq:=fun hg=>EM rfl ((Ar (Ar (Ar (Ar (Aw (Aw Kv)))))).trans (B7 hg _ _)) ((Ar (Ar (Ar (Ar (Aw (Aw (Aw M1))))))).trans (GE hg _ _)) Mk) (ht:=(Ak (Ak (Ak (Ak (Al (Al (Al Hf)))))))) (hk:=?_);refine qT (qN (wN ?_));refine An rfl (fun hb51=>?_) (fun hb51=>?_)
        ·have H:=Au hb51 H;refine wS (sT (wN ?_));have H:=Ab.2 (Hq41 _ (Hr41 _ (Ab.1 H).symm).symm);obtain rfl:=Ab.1 H;exact AH ⟨.inr rfl,W0.cl rfl⟩
        ·have H:=Av hb51 H;refine As ?_;refine hs44 _ ?_;refine nT ?_;refine We (sT (sT (sT (wN ?_))));have e41:=Ab.1 H;repeat(first|refine WV ?_|refine asN ?_)
         refine Am ⟨_,(),e41.symm,?_⟩;try dsimp only
         exact AA
       ·have H:=Av hb43 H;refine AI ?_;repeat(first|refine AU ?_|refine exO (by decide) ?_|refine asE ?_)
        refine WN ?_;have e41:=Hr41 _ (Ab.1 H).symm;repeat(first|refine WV ?_|refine asN ?_)
        refine Am ⟨(_,()),e41.symm,?_⟩;try dsimp only
        exact WH (Cut.dead (Cut.cons (Cut.cons (Cut.nil _))))
     ·rintro⟨_,_⟩ hz41;try dsimp only at hz41
      have H:=Hl41 _ hz41;try dsimp only
      obtain⟨r52,k52,H⟩:=Af.1 H;have k52:=CT k52;refine wS (sC k52 (sT (wN ?_)));obtain rfl:=Ab.1 H;exact AH ⟨.inr rfl,W0.cl rfl⟩
end
inductive RchF (f:Func) (no:Int):Int→Prop
 |start:no≠0→0 < f.blocks.length→RchF f no 0
 |step {a b:Int}:RchF f no a→b∈nextL f a→b≠no→RchF f no b
theorem RchF.lt{f:Func}{no b:Int}(h:RchF f no b):0≤b∧b.toNat < f.blocks.length:=by
 cases h with
 |start _ h=>exact⟨by omega,by simpa using h⟩
 |step _ h _=>exact BM h
theorem RchF.ne{f:Func}{no b:Int}(h:RchF f no b):b≠no:=by
 cases h with
 |start h _=>exact fun e=>h e.symm
 |step _ _ h=>exact h
theorem O4{l:List Bool}{k b:Int}(hk:0≤k)(hl:k.toNat < l.length)(hb:0≤b):ixD (l.set k.toNat true) b=(decide (b=k)||ixD l b):=by
 unfold ixD;rw[List.getD_eq_getElem?_getD,List.getD_eq_getElem?_getD,List.getElem?_set];by_cases h:b=k
 ·subst h;rw[if_pos rfl,if_pos hl];simp
 ·rw[if_neg (by omega)];simp[h]
structure Dfs(f:Func)(no:Int)(come:List Bool)(st:List FStep)(left:List Int):Prop where
 len:come.length=f.blocks.length
 els:∀e∈st,∃d,nextL f e.b=d++e.next∧∀k∈d,k=no∨ixD come k=true
 mem:∀b:Int,0≤b→(ixD come b=true↔b∈left∨b∈st.map (·.b))
 rch:∀b,b∈left∨b∈st.map (·.b)→RchF f no b
 nod:(left++st.map (·.b)).Nodup
 done:∀b∈left,∀k∈nextL f b,k=no∨ixD come k=true
 par:∀b∈left,b=0∨∃k,b∈nextL f k∧(k∈st.map (·.b)∨∃l1 l2 l3,left=l1++b::(l2++k::l3))
 chain:∀s e1 e2 s',st=s++e1::e2::s'→e2.b∈nextL f e1.b
 bot:∀e s,st=e::s→e.b=0
 zero:ixD come 0=true
variable{f:Func}{no:Int}{come:List Bool}{s:List FStep}{left:List Int}{b k:Int}{r:List Int}
theorem Dfs.pop(H:Dfs f no come (s++[⟨b,[]⟩]) left):Dfs f no come s (left++[b]):=by
 have hmap:(s++[(⟨b,[]⟩:FStep)]).map (·.b)=s.map (·.b)++[b]:=by simp
 have hm:=H.mem;have hr:=H.rch;have hn:=H.nod;have hp:=H.par;rw[hmap]at hm hr hn hp;refine⟨H.len,fun e he=>H.els e (List.mem_append_left _ he),fun c hc=>?_,fun c hc=>hr c ?_,?_,fun c hc=>?_,fun c hc=>?_,fun t e1 e2 t' e=>H.chain t e1 e2 (t'++[⟨b,[]⟩]) (by rw[e];simp),fun e t ht=>H.bot e (t++[⟨b,[]⟩]) (by rw[ht];simp),H.zero⟩
 ·rw[hm c hc];simp only[List.mem_append,List.mem_singleton];constructor
  ·rintro(h|h|h)
   ·exact .inl (.inl h)
   ·exact .inr h
   ·exact .inl (.inr h)
  ·rintro((h|h)|h)
   ·exact .inl h
   ·exact .inr (.inr h)
   ·exact .inr (.inl h)
 ·simp only[List.mem_append,List.mem_singleton]at hc⊢;rcases hc with(h|h)|h
  ·exact .inl h
  ·exact .inr (.inr h)
  ·exact .inr (.inl h)
 ·rw[List.append_assoc];exact(List.Perm.append_left left (List.perm_append_comm)).nodup_iff.1 hn
 ·rcases List.mem_append.1 hc with h|h
  ·exact H.done c h
  ·rw[List.mem_singleton]at h;subst h;obtain⟨d,h1,h2⟩:=H.els ⟨c,[]⟩ (by simp);intro j hj;rw[show nextL f c=d from by simpa using h1]at hj;exact h2 j hj
 ·rcases List.mem_append.1 hc with h|h
  ·rcases hp c h with h0|⟨q,h1,h2⟩
   ·exact .inl h0
   ·refine .inr ⟨q,h1,?_⟩;rcases h2 with h2|⟨l1,l2,l3,e⟩
    ·rcases List.mem_append.1 h2 with h2|h2
     ·exact .inl h2
     ·rw[List.mem_singleton]at h2;subst h2;obtain⟨l1,l2,e⟩:=List.append_of_mem h;exact .inr ⟨l1,l2,[],by rw[e];simp⟩
    ·exact .inr ⟨l1,l2,l3++[b],by rw[e];simp⟩
  ·rw[List.mem_singleton]at h;subst h;rcases List.eq_nil_or_concat s with hs|⟨s0,e1,hs⟩
   ·exact .inl (H.bot ⟨c,[]⟩ [] (by rw[hs];rfl))
   ·rw[List.concat_eq_append]at hs;refine .inr ⟨e1.b,H.chain s0 e1 ⟨c,[]⟩ [] (by rw[hs];simp),.inl (by rw[hs];simp)⟩
theorem Dfs.skip(H:Dfs f no come (s++[⟨b,k::r⟩]) left)(hk:k=no∨ixD come k=true):Dfs f no come (s++[⟨b,r⟩]) left:=by
 have hmap:(s++[(⟨b,k::r⟩:FStep)]).map (·.b)=(s++[(⟨b,r⟩:FStep)]).map (·.b):=by simp
 have hm:=H.mem;have hr:=H.rch;have hn:=H.nod;have hp:=H.par;rw[hmap]at hm hr hn hp;refine⟨H.len,fun e he=>?_,hm,hr,hn,H.done,hp,fun t e1 e2 t' e=>?_,fun e t ht=>?_,H.zero⟩
 ·rcases List.mem_append.1 he with h|h
  ·exact H.els e (List.mem_append_left _ h)
  ·rw[List.mem_singleton]at h;subst h;obtain⟨d,h1,h2⟩:=H.els ⟨b,k::r⟩ (by simp);refine⟨d++[k],by rw[h1];simp,fun j hj=>?_⟩;rcases List.mem_append.1 hj with hj|hj
   ·exact h2 j hj
   ·rw[List.mem_singleton]at hj;subst hj;exact hk
 ·rcases List.eq_nil_or_concat t' with ht|⟨t0,e3,ht⟩
  ·subst ht;have e':s++[(⟨b,r⟩:FStep)]=(t++[e1])++[e2]:=by rw[e];simp
   obtain⟨h1,h2⟩:=List.append_inj' e' rfl;cases h2;exact H.chain t e1 ⟨b,k::r⟩ [] (by rw[h1];simp)
  ·rw[List.concat_eq_append]at ht;subst ht;have e':s++[(⟨b,r⟩:FStep)]=(t++e1::e2::t0)++[e3]:=by rw[e];simp
   obtain⟨h1,h2⟩:=List.append_inj' e' rfl;exact H.chain t e1 e2 (t0++[⟨b,k::r⟩]) (by rw[h1];simp)
 ·cases s with
  |nil=>
   cases ht;exact H.bot ⟨b,k::r⟩ [] rfl
  |cons e0 s=>
   cases ht;exact H.bot e (s++[⟨b,k::r⟩]) rfl
theorem Dfs.push(H:Dfs f no come (s++[⟨b,k::r⟩]) left)(hc:ixD come k=false)(hno:k≠no):Dfs f no (come.set k.toNat true) (s++[⟨b,r⟩]++[⟨k,nextL f k⟩]) left:=by
 obtain⟨d0,hd1,hd2⟩:=H.els ⟨b,k::r⟩ (by simp);have hkn:k∈nextL f b:=by rw[show nextL f b=d0++k::r from hd1];simp
 have hk:=BM hkn;have hkl:k.toNat < come.length:=by rw[H.len];exact hk.2
 have hix:∀c:Int,0≤c→ixD (come.set k.toNat true) c=(decide (c=k)||ixD come c):=fun c h=>O4 hk.1 hkl h
 have hmono:∀c a:Int,c∈nextL f a→(c=no∨ixD come c=true)→c=no∨ixD (come.set k.toNat true) c=true:=fun c a ha h=>by
  rcases h with h|h
  ·exact .inl h
  ·refine .inr ?_;rw[hix c (BM ha).1,h,Bool.or_true]
 have hmap:(s++[(⟨b,r⟩:FStep)]++[(⟨k,nextL f k⟩:FStep)]).map (·.b)=(s++[(⟨b,k::r⟩:FStep)]).map (·.b)++[k]:=by simp
 have hbr:RchF f no b:=H.rch b (.inr (by simp));refine⟨by rw[List.length_set];exact H.len,fun e he=>?_,fun c h0=>?_,fun c h=>?_,?_,fun c h j hj=>hmono j c hj (H.done c h j hj),fun c h=>?_,fun t e1 e2 t' e=>?_,fun e t ht=>?_,?_⟩
 ·rcases List.mem_append.1 he with he|he
  ·rcases List.mem_append.1 he with he|he
   ·obtain⟨d,h1,h2⟩:=H.els e (List.mem_append_left _ he);exact⟨d,h1,fun j hj=>hmono j e.b (by rw[h1];exact List.mem_append_left _ hj) (h2 j hj)⟩
   ·rw[List.mem_singleton]at he;subst he;refine⟨d0++[k],by rw[show nextL f b=d0++k::r from hd1];simp,fun j hj=>?_⟩;rcases List.mem_append.1 hj with hj|hj
    ·exact hmono j b (by rw[show nextL f b=d0++k::r from hd1];exact List.mem_append_left _ hj) (hd2 j hj)
    ·rw[List.mem_singleton]at hj;subst hj;exact .inr (by rw[hix j hk.1];simp)
  ·rw[List.mem_singleton]at he;subst he;exact⟨[],rfl,fun j hj=>by cases hj⟩
 ·rw[hix c h0,hmap];by_cases hck:c=k
  ·subst hck;simp
  ·have:=H.mem c h0;simp only[hck,decide_false,Bool.false_or,List.mem_append,List.mem_singleton,or_false]at this⊢;exact this
 ·rw[hmap]at h;rcases h with h|h
  ·exact H.rch c (.inl h)
  ·rcases List.mem_append.1 h with h|h
   ·exact H.rch c (.inr h)
   ·rw[List.mem_singleton]at h;subst h;exact hbr.step hkn hno
 ·rw[hmap,←List.append_assoc];refine List.nodup_append.2 ⟨H.nod,by simp,fun a ha c hc'=>?_⟩;rw[List.mem_singleton]at hc';subst hc';intro e;subst e;have:=(H.mem a hk.1).2 (List.mem_append.1 ha);rw[hc]at this;cases this
 ·rcases H.par c h with h0|⟨q,h1,h2⟩
  ·exact .inl h0
  ·refine .inr ⟨q,h1,?_⟩;rcases h2 with h2|h2
   ·exact .inl (by rw[hmap];exact List.mem_append_left _ h2)
   ·exact .inr h2
 ·rcases List.eq_nil_or_concat t' with ht|⟨t0,e3,ht⟩
  ·subst ht;have e':(s++[(⟨b,r⟩:FStep)])++[⟨k,nextL f k⟩]=(t++[e1])++[e2]:=by rw[e];simp
   obtain⟨h1,h2⟩:=List.append_inj' e' rfl;obtain⟨_,h3⟩:=List.append_inj' h1 rfl;cases h2;cases h3;exact hkn
  ·rw[List.concat_eq_append]at ht;subst ht;have e':(s++[(⟨b,r⟩:FStep)])++[⟨k,nextL f k⟩]=(t++e1::e2::t0)++[e3]:=by rw[e];simp
   obtain⟨h1,_⟩:=List.append_inj' e' rfl;rcases List.eq_nil_or_concat t0 with ht|⟨t1,e4,ht⟩
   ·subst ht;have e'':s++[(⟨b,r⟩:FStep)]=(t++[e1])++[e2]:=by rw[h1];simp
    obtain⟨h3,h4⟩:=List.append_inj' e'' rfl;cases h4;exact H.chain t e1 ⟨b,k::r⟩ [] (by rw[h3];simp)
   ·rw[List.concat_eq_append]at ht;subst ht;have e'':s++[(⟨b,r⟩:FStep)]=(t++e1::e2::t1)++[e4]:=by rw[h1];simp
    obtain⟨h3,_⟩:=List.append_inj' e'' rfl;exact H.chain t e1 e2 (t1++[⟨b,k::r⟩]) (by rw[h3];simp)
 ·cases s with
  |nil=>
   cases ht;exact H.bot ⟨b,k::r⟩ [] rfl
  |cons e0 s=>
   cases ht;exact H.bot e (s++[⟨b,k::r⟩]) rfl
 ·rw[hix 0 (Int.le_refl 0),H.zero,Bool.or_true]
theorem FP(f:Func)(b:Int):(nextL f b).length≤2:=by
 unfold nextL;rw[List.length_map];exact MU f b
def WC(q:List Bool×List FStep×List Int):Nat:=4 *(q.1.filter fun c=>!c).length+(q.2.1.map fun e=>e.next.length+1).sum
theorem EZ{l:List Int}{n:Nat}(hd:l.Nodup)(hl:∀b∈l,0≤b∧b.toNat < n):l.length≤n:=by
 have:=MS (m:=(List.range n).map Int.ofNat) hd fun b hb=>by
  obtain⟨h0,h1⟩:=hl b hb;exact List.mem_map.2 ⟨b.toNat,List.mem_range.2 h1,by show((b.toNat:Nat):Int)=b;omega⟩
 simpa using this
theorem Dfs.few(H:Dfs f no come s left):left.length+s.length≤f.blocks.length:=by
 have:=EZ H.nod fun c hc=>(H.rch c (List.mem_append.1 hc)).lt
 simpa using this
theorem O8:∀{l:List Bool} {i:Nat},l[i]? =some false→((l.set i true).filter fun c=>!c).length+1=(l.filter fun c=>!c).length
 | [],i,h=>by simp at h
 |c::l,0,h=>by
  simp at h;subst h;simp
 |c::l,i+1,h=>by
  have ih:=O8 (l:=l) (i:=i) (by simpa using h);cases c <;> simp[ih]
theorem RD{l:List Bool}{k:Int}(h:k.toNat < l.length)(hc:ixD l k=false):l[k.toNat]? =some false:=by
 unfold ixD at hc;rw[List.getD_eq_getElem?_getD,List.getElem?_eq_getElem h]at hc;rw[List.getElem?_eq_getElem h];exact congrArg some hc
structure WalkP(f:Func)(no:Int)(l:List Int):Prop where
 nod:l.Nodup
 mem:∀b,b∈l↔RchF f no b
 par:∀b∈l,b=0∨∃k,b∈nextL f k∧∃l1 l2 l3,l=l1++b::(l2++k::l3)
theorem Dfs.fin(H:Dfs f no come [] left):WalkP f no left:=by
 have hz:=(H.mem 0 (Int.le_refl 0)).1 H.zero;simp only[List.map_nil,List.not_mem_nil,or_false]at hz;refine⟨by simpa using H.nod,fun b=>⟨fun h=>H.rch b (.inl h),fun h=>?_⟩,fun b hb=>?_⟩
 ·induction h with
  |start _ _=>exact hz
  |@step a b h1 h2 h3 ih=>
   rcases H.done a ih b h2 with e|e
   ·exact absurd e h3
   ·have:=(H.mem b (BM h2).1).1 e;simpa using this
 ·rcases H.par b hb with h|⟨k,h1,h2⟩
  ·exact .inl h
  ·rcases h2 with h2|h2
   ·simp at h2
   ·exact .inr ⟨k,h1,h2⟩
theorem VN{α:Type}{s:List α}{e:α}(h:s.length≤2097152):IntKind.i64.wrap ((((s++[e]).length:Nat):Int) - 1)=(s.length:Int):=by
 rw[IntWalk.i64_in _ (by simp;omega)];simp
theorem Td{α:Type}[Inhabited α](s:List α)(e:α):ixD (s++[e]) (s.length:Int)=e:=Bj (k:=s.length) (by simp)
theorem QM(c:FineF f):∀q,Dfs f no q.1 q.2.1 q.2.2→∃r,(M.loop (D4 f no) q).to r∧WalkP f no r:=by
 refine M.loop_inv (fun q=>Dfs f no q.1 q.2.1 q.2.2) WC (WalkP f no) ?_;rintro⟨come,st,left⟩ H;have H:Dfs f no come st left:=H;have hn:=c.small.blocks;rcases List.eq_nil_or_concat st with hs|⟨s,e,hs⟩
 ·subst hs;refine⟨.inr left,Ao (by simp) (Ad _),(fun s' h=>by cases h),fun r h=>?_⟩;cases h;exact H.fin
 ·rw[List.concat_eq_append]at hs;subst hs;have hfew:=H.few;have hsl:s.length≤2097152:=by simp at hfew;omega
  have hw:=VN (s:=s) (e:=e) hsl;have hl:=Td s e;have hin:Bq (s++[e]) (s.length:Int)=true:=AW (by simp);have hset:∀e':FStep,(s++[e]).set s.length e'=s++[e']:=fun e'=>by simp
  obtain⟨b,nx⟩:=e;have hrb:RchF f no b:=H.rch b (.inr (by simp));have hbl:=hrb.lt;have hwb:Wd .i64 b=true:=by
   unfold Wd;simp[Lit.wf,IntKind.min,IntKind.max,IntKind.signed,IntKind.bits];omega
  simp only[D4];rw[hw,hl,Int.toNat_natCast];simp only[hset];cases nx with
  |nil=>
   refine⟨.inl (come,s,left++[b]),Ax (by simp) (Ae hin (Ax (by simp) (Ae hwb (Ae ?_ (Ae ?_ ?_))))),fun s' h=>?_,(fun r h=>by cases h)⟩
   ·unfold GC maxLen;simp at hfew⊢;omega
   ·unfold Wk;simp
   ·rw[List.take_left' rfl];exact Ad _
   ·cases h;refine⟨H.pop,?_⟩;simp[WC]
  |cons k r=>
   obtain⟨d0,hd1,_⟩:=H.els ⟨b,k::r⟩ (by simp);have hkn:k∈nextL f b:=by rw[show nextL f b=d0++k::r from hd1];simp
   have hk:=BM hkn;have h0:ixD (k::r) 0=k:=rfl;have hsl2:Wj (k::r) 1 (((k::r).length:Nat):Int)=r:=by
    unfold Wj;simp
   have hkl:Bq come k=true:=Bt.2 ⟨hk.1,by rw[H.len];exact hk.2⟩;have hok:Ez ⟨b,r⟩=true:=hwb;have hwk:Wd .i64 k=true:=by
    unfold Wd;simp[Lit.wf,IntKind.min,IntKind.max,IntKind.signed,IntKind.bits];omega
   have pre:∀{x:M ((List Bool×List FStep×List Int)⊕List Int)} {y},x.to y→(M.chk (Bq (k::r) 0) (M.chk (Wk (k::r) 1 (((k::r).length:Nat):Int)) (M.chk (Ez ⟨b,r⟩) (M.chk (Bq come k) x)))).to y:=fun hx=>
    Ae rfl (Ae (by unfold Wk;simp;omega) (Ae hok (Ae hkl hx)))
   simp only[h0,hsl2];cases hc:(!(ixD come k)&&(k !=no))with
   |false=>
    have hck:k=no∨ixD come k=true:=by
     cases h1:ixD come k with
     |true=>exact .inr rfl
     |false=>rw[h1]at hc;simp at hc;exact .inl hc
    refine⟨.inl (come,s++[⟨b,r⟩],left),Ax (by simp) (Ae hin (Ao (by simp;omega) (pre (Ao rfl (Ad _))))),fun s' h=>?_,(fun r h=>by cases h)⟩;cases h;refine⟨H.skip hck,?_⟩;simp[WC]
   |true=>
    simp only[Bool.and_eq_true,Bool.not_eq_true',bne_iff_ne,ne_eq]at hc;refine⟨.inl (come.set k.toNat true,s++[⟨b,r⟩]++[⟨k,nextL f k⟩],left),Ax (by simp) (Ae hin (Ao (by simp;omega) (pre (Ax rfl (Ae hkl (Ac (Ae (BL.2 c) (Ad _)) (Ae hwk (Ae ?_ (Ad _))))))))),fun s' h=>?_,(fun r h=>by cases h)⟩
    ·unfold GC maxLen;simp at hfew⊢;omega
    ·cases h;refine⟨H.push hc.1 hc.2,?_⟩;have hf:=O8 (RD (by rw[H.len];exact hk.2) hc.1);have hl2:=FP f k;simp[WC];omega
theorem QL(c:FineF f)(no:Int):∃l,(DQ f no).to l∧WalkP f no l:=by
 unfold DQ;have hn:=c.small.blocks;cases hc:(((f.blocks.length:Int) ==0)||(no ==0))with
 |true=>
  refine⟨[],Ax rfl (Ad _),List.nodup_nil,fun b=>⟨(fun h=>by cases h),fun h=>?_⟩,(fun b hb=>by cases hb)⟩;exfalso;induction h with
  |start h1 h2=>
   simp only[Bool.or_eq_true,beq_iff_eq]at hc;rcases hc with h|h
   ·omega
   ·exact h1 h
  |step _ _ _ ih=>exact ih
 |false=>
  simp only[Bool.or_eq_false_iff,beq_eq_false_iff_ne,ne_eq]at hc;have hpos:0 < f.blocks.length:=by omega
  have hrep:∀b:Int,ixD (List.replicate f.blocks.length false) b=false:=fun b=>by
   unfold ixD;rw[List.getD_eq_getElem?_getD,List.getElem?_replicate];split <;> rfl
  have hix:∀b:Int,0≤b→ixD ((List.replicate f.blocks.length false).set (0:Int).toNat true) b=decide (b=0):=fun b hb=>by
   rw[O4 (Int.le_refl 0) (by simpa using hpos) hb,hrep,Bool.or_false]
  obtain⟨l,h1,h2⟩:=QM (no:=no) c ((List.replicate f.blocks.length false).set (0:Int).toNat true,[⟨0,nextL f 0⟩],[]) ⟨by simp,fun e he=>by
   rw[List.mem_singleton]at he;subst he;exact⟨[],rfl,fun k hk=>by cases hk⟩,(fun b hb=>by rw[hix b hb];simp),fun b hb=>by
   simp at hb;subst hb;exact .start hc.2 hpos,by simp,fun b hb=>by simp at hb,fun b hb=>by simp at hb,fun s e1 e2 s' e=>by
   have:=congrArg List.length e;simp at this;omega,fun e s he=>by cases he;rfl,by rw[hix 0 (Int.le_refl 0)];rfl⟩
  refine⟨l,Ao rfl (Ae ?_ (Ae ?_ (Ac (Ae (BL.2 c) (Ad _)) (Ae rfl (Ac ?_ (Ad _)))))),h2⟩
  ·unfold JW maxLen;simp;omega
  ·exact Bt.2 ⟨by omega,by simpa using hpos⟩
  ·rw[Int.toNat_natCast];exact h1
def FE(n:Nat)(l:List Int)(k:Nat):List Bool:=(List.range n).map fun(b:Nat)=>(l.take k).contains (b:Int)
theorem Ju(n:Nat)(l:List Int)(k:Nat):(FE n l k).length=n:=by simp[FE]
theorem T1(n:Nat)(l:List Int):FE n l 0=List.replicate n false:=by
 unfold FE;refine List.ext_getElem? fun b=>?_
 rw[List.getElem?_map,List.getElem?_replicate];by_cases hb:b < n
 ·rw[List.getElem?_range hb,if_pos hb];simp
 ·rw[List.getElem?_eq_none (by simpa using hb),if_neg hb];rfl
theorem QQ{n:Nat}{l:List Int}{k:Nat}{x:Int}(hx:l[k]? =some x)(h0:0≤x)(hn:x.toNat < n):(FE n l k).set x.toNat true=FE n l (k+1):=by
 refine List.ext_getElem? fun b=>?_
 rw[List.getElem?_set,Ju];have ht:l.take (k+1)=l.take k++[x]:=by rw[List.take_add_one,hx];rfl
 by_cases e:x.toNat=b
 ·rw[if_pos e,if_pos (by omega)];unfold FE;rw[List.getElem?_map,List.getElem?_range (by omega),ht];have:(b:Int)=x:=by omega
  simp[this]
 ·rw[if_neg e];unfold FE;rw[List.getElem?_map,List.getElem?_map,ht];by_cases hb:b < n
  ·rw[List.getElem?_range hb];have:(b:Int)≠x:=by omega
   simp[this]
  ·rw[List.getElem?_eq_none (by simpa using hb)];rfl
theorem SF{n:Nat}{l:List Int}{b:Nat}(hb:b < n):ixD (FE n l l.length) (b:Int)=l.contains (b:Int):=by
 unfold FE;exact Bj (k:=b) (by rw[List.getElem?_map,List.getElem?_range hb,List.take_length];rfl)
theorem PG(c:FineF f):∃l,(DQ f (-1)).to l∧WalkP f (-1) l∧(ED f).to (FE f.blocks.length l l.length):=by
 obtain⟨l,h1,h2⟩:=QL c (-1);have hn:=c.small.blocks;have hlen:l.length≤f.blocks.length:=EZ h2.nod fun b hb=>((h2.mem b).1 hb).lt
 refine⟨l,h1,h2,Ae (by unfold JW maxLen;simp;omega) (Ac h1 (Ac ?_ (Ad _)))⟩;rw[Int.toNat_natCast,←T1 f.blocks.length l];refine Ay (fun k:Nat=>((k:Int),FE f.blocks.length l k)) l.length (fun k hk=>?_) ?_ (Nat.zero_le _)
 ·obtain⟨x,hx⟩:∃x,l[k]? =some x:=⟨_,List.getElem?_eq_getElem hk⟩
  have hxr:=((h2.mem x).1 (List.mem_of_getElem? hx)).lt;simp only[Df,Bj hx];rw[IntWalk.i64_in _ (by omega),show((k:Int)+1)=((k+1:Nat):Int)by omega,QQ hx hxr.1 hxr.2];exact Ax (decide_eq_true (by omega)) (Ae (AW hk) (Ae (Bt.2 ⟨hxr.1,by rw[Ju];exact hxr.2⟩) (Ad _)))
 ·simp only[Df];exact Ao (decide_eq_false (by omega)) (Ad _)
theorem SW(c:FineF f):∃l,(DQ f (-1)).to l∧WalkP f (-1) l∧(Gp f).to l.reverse:=by
 obtain⟨l,h1,h2⟩:=QL c (-1);have hn:=c.small.blocks;have hlen:l.length≤f.blocks.length:=EZ h2.nod fun b hb=>((h2.mem b).1 hb).lt
 exact⟨l,h1,h2,Ac h1 (Ae (decide_eq_true (by omega)) (Ad _))⟩
def Fz(o:Int→List Int)(ks:List Int):List Int:=
 match ks.filter fun k=>!(o k).isEmpty with
 | []=>[]
 |k::r=>r.foldl (fun l j=>l.filter fun x=>(o j).contains x) (o k)
theorem O0{o:Int→List Int}{x:Int}:∀{r l:List Int},x∈r.foldl (fun l j=>l.filter fun x=>(o j).contains x) l↔x∈l∧∀j∈r,x∈o j
 | [],l=>by simp
 |j::r,l=>by
  rw[List.foldl_cons,O0 (r:=r),List.mem_filter];simp only[List.contains_iff_mem,List.mem_cons,forall_eq_or_imp];exact and_assoc
theorem OZ{o:Int→List Int}{ks:List Int}{x:Int}(h:∃k∈ks,o k≠[]):x∈Fz o ks↔∀k∈ks,o k≠[]→x∈o k:=by
 have hf:∀k,k∈(ks.filter fun k=>!(o k).isEmpty)↔k∈ks∧o k≠[]:=fun k=>by
  rw[List.mem_filter];simp
 unfold Fz;generalize (ks.filter fun k=>!(o k).isEmpty)=fs at hf;cases fs with
 |nil=>
  obtain⟨k,h1,h2⟩:=h;exact absurd ((hf k).2 ⟨h1,h2⟩) (by simp)
 |cons a r=>
  simp only;rw[O0];constructor
  ·rintro⟨h1,h2⟩ k hk hne;rcases List.mem_cons.1 ((hf k).2 ⟨hk,hne⟩)with rfl|h3
   ·exact h1
   ·exact h2 k h3
  ·intro h1;exact⟨h1 a ((hf a).1 (by simp)).1 ((hf a).1 (by simp)).2,fun j hj=>h1 j ((hf j).1 (List.mem_cons_of_mem _ hj)).1 ((hf j).1 (List.mem_cons_of_mem _ hj)).2⟩
def RG(l:List Int)(b:Int):List Int:=l.filter (fun x=>decide (x < b))++b::l.filter fun x=>decide (b < x)
theorem Hu{l:List Int}{b x:Int}:x∈RG l b↔x=b∨x∈l:=by
 unfold RG;simp only[List.mem_append,List.mem_cons,List.mem_filter,decide_eq_true_eq];constructor
 ·rintro(⟨h,_⟩|h|⟨h,_⟩)
  ·exact .inr h
  ·exact .inl h
  ·exact .inr h
 ·rintro(h|h)
  ·exact .inr (.inl h)
  ·rcases Int.lt_trichotomy x b with h1|h1|h1
   ·exact .inl ⟨h,h1⟩
   ·exact .inr (.inl h1)
   ·exact .inr (.inr ⟨h,h1⟩)
theorem Of{l:List Int}{b:Int}:RG l b≠[]:=by unfold RG;simp
def Mh(o:Int→List Int)(bf:Int→List Int)(b:Int):List Int:=RG (if b=0 then []else Fz o (bf b)) b
structure DomI(f:Func)(bf:Int→List Int)(o:Int→List Int):Prop where
 self:∀b,o b≠[]→b∈o b
 reach:∀b,o b≠[]→RchF f (-1) b
 all:∀b,o b≠[]→∀x,¬RchF f x b→x∈o b
 low:∀b,b≠0→o b≠[]→∀x,(∀k∈bf b,o k≠[]→x∈o k)→x∈o b
 has:∀b,b≠0→o b≠[]→∃k∈bf b,o k≠[]
section
variable{f:Func}{bf:Int→List Int}{o:Int→List Int}{b:Int}
def T0(o:Int→List Int)(b:Int)(l:List Int):Int→List Int:=fun c=>if c=b then l else o c
theorem DomI.step(H:DomI f bf o)(hbf:∀b k,k∈bf b↔RchF f (-1) k∧b∈nextL f k∨(k∈bf b∧¬RchF f (-1) k))(hb:RchF f (-1) b)(hk:b≠0→∃k∈bf b,o k≠[]):DomI f bf (T0 o b (Mh o bf b))∧(o b≠[]→∀x∈Mh o bf b,x∈o b):=by
 have hnx:∀k,k∈bf b→o k≠[]→b∈nextL f k:=fun k h1 h2=>by
  rcases(hbf b k).1 h1 with h|h
  ·exact h.2
  ·exact absurd (H.reach k h2) h.2
 have hmem:∀x,x∈Mh o bf b↔x=b∨(b≠0∧∀k∈bf b,o k≠[]→x∈o k):=fun x=>by
  unfold Mh;rw[Hu];by_cases h0:b=0
  ·rw[if_pos h0];simp[h0]
  ·rw[if_neg h0,OZ (hk h0)];simp[h0]
 have hsub:o b≠[]→∀x∈Mh o bf b,x∈o b:=fun hne x hx=>by
  rcases(hmem x).1 hx with h|⟨h0,h⟩
  ·subst h;exact H.self x hne
  ·exact H.low b h0 hne x h
 have hne:Mh o bf b≠[]:=Of;have hu:∀c,T0 o b (Mh o bf b) c=if c=b then Mh o bf b else o c:=fun _=>rfl
 have hnn:∀c,o c≠[]→T0 o b (Mh o bf b) c≠[]:=fun c hc=>by
  rw[hu];split
  ·exact hne
  ·exact hc
 refine⟨⟨fun c hc=>?_,fun c hc=>?_,fun c hc x hx=>?_,fun c h0 hc x hx=>?_,fun c h0 hc=>?_⟩,hsub⟩
 ·rw[hu]at hc⊢;split
  ·rename_i e;subst e;exact(hmem c).2 (.inl rfl)
  ·rename_i e;rw[if_neg e]at hc;exact H.self c hc
 ·rw[hu]at hc;by_cases e:c=b
  ·subst e;exact hb
  ·rw[if_neg e]at hc;exact H.reach c hc
 ·rw[hu]at hc⊢;by_cases e:c=b
  ·subst e;rw[if_pos rfl];by_cases hxc:x=c
   ·exact(hmem x).2 (.inl hxc)
   ·refine(hmem x).2 (.inr ⟨fun h0=>?_,fun k hk1 hk2=>H.all k hk2 x fun hr=>hx (hr.step (hnx k hk1 hk2) fun e=>hxc e.symm)⟩);subst h0;cases hb with
    |start _ hp=>exact hx (.start hxc hp)
    |step _ hn _=>exact hx (.start hxc (by have:=BM hn;omega))
  ·rw[if_neg e]at hc⊢;exact H.all c hc x hx
 ·have hup:∀k,o k≠[]→∀y∈T0 o b (Mh o bf b) k,y∈o k:=fun k hk2 y hy=>by
   rw[hu]at hy;split at hy
   ·rename_i e;rw[e]at hk2⊢;exact hsub hk2 y hy
   ·exact hy
  by_cases e:c=b
  ·subst e;rw[hu,if_pos rfl];exact(hmem x).2 (.inr ⟨h0,fun k h1 h2=>hup k h2 x (hx k h1 (hnn k h2))⟩)
  ·rw[hu,if_neg e]at hc⊢;exact H.low c h0 hc x fun k h1 h2=>hup k h2 x (hx k h1 (hnn k h2))
 ·rw[hu]at hc;obtain⟨k,h1,h2⟩:∃k∈bf c,o k≠[]:=by
   by_cases e:c=b
   ·subst e;exact hk h0
   ·rw[if_neg e]at hc;exact H.has c h0 hc
  exact⟨k,h1,hnn k h2⟩
theorem DomI.fin(H:DomI f bf o)(hbf:∀b k,RchF f (-1) k→b∈nextL f k→k∈bf b)(hall:∀b,RchF f (-1) b→o b≠[])(hst:∀b,RchF f (-1) b→Mh o bf b=o b)(hb:RchF f (-1) b):∀x,x∈o b↔¬RchF f x b:=fun x=>by
 refine⟨fun hx hr=>?_,fun h=>H.all b (hall b hb) x h⟩;revert hx;induction hr with
 |start h0 hp=>
  intro hx;rw[←hst 0 hb]at hx;unfold Mh at hx;rw[if_pos rfl,Hu]at hx;rcases hx with h|h
  ·exact h0 h
  ·cases h
 |@step a c h1 h2 h3 ih=>
  intro hx;have ha:RchF f (-1) a:=by
   clear ih hx h2 h3 hb;induction h1 with
   |start _ hp=>exact .start (by decide) hp
   |@step p q _ hq _ ih=>exact ih.step hq (by have:=BM hq;omega)
  rw[←hst c hb]at hx;unfold Mh at hx;rw[Hu]at hx;rcases hx with h|h
  ·exact h3 h.symm
  ·split at h
   ·cases h
   ·have hac:=hbf c a ha h2;exact ih ha ((OZ ⟨a,hac,hall a ha⟩).1 h a hac (hall a ha))
end
theorem HT{l:List Int}(h:Xa l):l.Nodup:=h.imp fun h=>by omega
theorem IB{l:List Int}{p:Int→Bool}(h:Xa l):Xa (l.filter p):=List.Pairwise.filter p h
theorem Pj{l:List Int}{b:Int}(h:Xa l):Xa (RG l b):=by
 unfold RG Xa;rw[List.pairwise_append];refine⟨IB h,List.pairwise_cons.2 ⟨fun x hx=>by simpa using(List.mem_filter.1 hx).2,IB h⟩,fun x hx y hy=>?_⟩;have h1:x < b:=by simpa using(List.mem_filter.1 hx).2
 rcases List.mem_cons.1 hy with rfl|hy
 ·exact h1
 ·have h2:b < y:=by simpa using(List.mem_filter.1 hy).2
  omega
theorem Uv{l:List Int}{b:Int}(h:Xa l)(hb:b∈l):RG l b=l:=Kg (Pj h) h fun x=>by
 rw[Hu];exact⟨fun e=>e.elim (fun e=>e▸hb) id,.inr⟩
theorem No:∀{l:List Int} {b:Int},Xa l→l.take (l.countP (· < b))=l.filter (fun x=>decide (x < b))∧l.drop (l.countP (· < b))=l.filter fun x=>!decide (x < b)
 | [],b,_=>by simp
 |x::l,b,h=>by
  unfold Xa at h;rw[List.pairwise_cons]at h;obtain⟨h1,h2⟩:=No (b:=b) h.2;by_cases hx:x < b
  ·rw[List.countP_cons_of_pos (by simpa using hx),List.take_succ_cons,List.drop_succ_cons,h1,h2];simp[hx]
  ·have h3:∀y∈l,¬y < b:=fun y hy=>by have:=h.1 y hy;omega
   rw[List.countP_cons_of_neg (by simpa using hx),List.countP_eq_zero.2 (fun y hy=>by simpa using h3 y hy)];refine⟨?_,?_⟩
   ·rw[List.take_zero,List.filter_eq_nil_iff.2];intro y hy;rcases List.mem_cons.1 hy with rfl|hy
    ·simpa using hx
    ·simpa using h3 y hy
   ·rw[List.drop_zero,List.filter_eq_self.2];intro y hy;rcases List.mem_cons.1 hy with rfl|hy
    ·simpa using hx
    ·simpa using h3 y hy
theorem Te{l:List Int}{b:Int}(h:Xa l)(hb:b∉l):l.take (l.countP (· < b))++b::l.drop (l.countP (· < b))=RG l b:=by
 obtain⟨h1,h2⟩:=No (b:=b) h;rw[h1,h2];unfold RG;congr 2;refine List.filter_congr fun x hx=>?_
 have:x≠b:=fun e=>hb (e▸hx)
 by_cases h3:x < b
 ·rw[decide_eq_true h3,decide_eq_false (by omega)];rfl
 ·rw[decide_eq_false h3,decide_eq_true (by omega)];rfl
theorem On{l m:List Int}(hl:Xa l)(hm:Xa m)(h:∀x∈l,x∈m)(hne:l≠m):l.length < m.length:=by
 have e:l=m.filter fun x=>l.contains x:=Kg hl (IB hm) fun x=>by
  rw[List.mem_filter,List.contains_iff_mem];exact⟨fun hx=>⟨h x hx,hx⟩,fun hx=>hx.2⟩
 have h1:=List.length_filter_le (fun x=>l.contains x) m;rw[←e]at h1;rcases Nat.lt_or_eq_of_le h1 with h2|h2
 ·exact h2
 ·rw[e]at h2;have h3:=List.length_filter_eq_length_iff.1 h2;exact absurd (e.trans (List.filter_eq_self.2 h3)) hne
theorem SB{k n:Nat}(h:k < n)(hn:n≤2147483648):IntKind.i64.wrap ((k:Int)+1)=((k+1:Nat):Int):=by
 rw[IntWalk.i64_in _ (by omega)];omega
theorem Tm(a b:List Int)(ha:a.length≤2147483648):(BE a b).to (a ==b):=by
 unfold BE;by_cases hl:a.length=b.length
 ·refine Ao (by simp[hl]) ?_;have key:∀k,k≤a.length→a.take k=b.take k→(∃z,(M.loop (Ba a b) (k:Int)).to z∧((z= .inl ()∧a=b)∨(z= .inr false∧a≠b))):=by
   intro k hk;generalize hm:a.length - k=m;induction m generalizing k with
   |zero=>
    intro he;refine⟨.inl (),M.loop_out ?_,.inl ⟨rfl,?_⟩⟩
    ·simp only[Ba];exact Ao (decide_eq_false (by omega)) (Ad _)
    ·rw[List.take_of_length_le (by omega),List.take_of_length_le (by omega)]at he;exact he
   |succ m ih=>
    intro he;have hka:k < a.length:=by omega
    obtain⟨x,hx⟩:∃x,a[k]? =some x:=⟨_,List.getElem?_eq_getElem hka⟩
    obtain⟨y,hy⟩:∃y,b[k]? =some y:=⟨_,List.getElem?_eq_getElem (by omega)⟩
    by_cases hxy:x=y
    ·obtain⟨z,h1,h2⟩:=ih (k+1) (by omega) (by omega) (by rw[List.take_add_one,List.take_add_one,he,hx,hy,hxy]);refine⟨z,M.loop_in ?_ h1,h2⟩;simp only[Ba,Bj hx,Bj hy];refine Ax (decide_eq_true (by omega)) (Ae (AW hka) (Ae (AW (by omega)) (Ao (by simp[hxy]) ?_)));rw[SB hka ha];exact Ad _
    ·refine⟨.inr false,M.loop_out ?_,.inr ⟨rfl,fun e=>hxy ?_⟩⟩
     ·simp only[Ba,Bj hx,Bj hy];exact Ax (decide_eq_true (by omega)) (Ae (AW hka) (Ae (AW (by omega)) (Ax (by simp[hxy]) (Ad _))))
     ·subst e;rw[hx]at hy;exact Option.some.inj hy
  obtain⟨z,h1,h2⟩:=key 0 (Nat.zero_le _) rfl;rcases h2 with⟨rfl,e⟩|⟨rfl,e⟩
  ·rw[show(a ==b)=true from beq_iff_eq.2 e];exact M.els_l h1 (Ad _)
  ·rw[show(a ==b)=false from beq_eq_false_iff_ne.2 e];exact M.els_r h1
 ·rw[show(a ==b)=false from beq_eq_false_iff_ne.2 fun e=>hl (by rw[e])];exact Ax (by simp;omega) (Ad _)
theorem QK{x:Int}(h:-9223372036854775808≤x∧x≤9223372036854775807):Wd .i64 x=true:=by
 unfold Wd;simp[Lit.wf,IntKind.min,IntKind.max,IntKind.signed,IntKind.bits];omega
theorem Mx{l:List Int}(n:Int)(h:Xa l)(hl:l.length≤2147483648):(Cb l n).to (((l.countP (· < n):Nat):Int),l.contains n):=
 Ae (by rw[Bool.and_eq_true];exact⟨L7.2 h,decide_eq_true hl⟩) (Ad _)
theorem R9{a b:List Int}(ha:a.length≤2147483648)(hb:Xa b)(hbl:b.length≤2147483648)(hr:∀x∈a,Wd .i64 x=true):(Em a b).to (a.filter fun x=>b.contains x):=by
 unfold Em;refine Ac ?_ (Ad _);have key:=Ay (step:=CG a b) (fun k:Nat=>((k:Int),(a.take k).filter fun x=>b.contains x)) a.length (r:=a.filter fun x=>b.contains x) (fun k hk=>?_) ?_ (j:=0) (Nat.zero_le _)
 ·simpa using key
 ·obtain⟨x,hx⟩:∃x,a[k]? =some x:=⟨_,List.getElem?_eq_getElem hk⟩
  simp only[CG,Bj hx];have hle:=List.length_filter_le (fun x=>b.contains x) (a.take k);rw[List.length_take]at hle;refine Ax (decide_eq_true (by omega)) (Ac (a:=(a.take (k+1)).filter fun x=>b.contains x) (Ae (AW hk) (Ac (Mx x hb hbl) ?_)) ?_)
  ·rw[List.take_add_one,hx,List.filter_append];cases hc:b.contains x with
   |true=>
    refine Ax rfl (Ae (hr x (List.mem_of_getElem? hx)) (Ae ?_ ?_))
    ·generalize ((a.take k).filter fun x=>b.contains x).length=q at hle;unfold GC maxLen;simp;omega
    ·simp only[Option.toList_some,List.filter_cons,hc,if_true,List.filter_nil];exact Ad _
   |false=>
    refine Ao rfl ?_;simp only[Option.toList_some,List.filter_cons,hc,List.filter_nil,List.append_nil,Bool.false_eq_true,if_false];exact Ad _
  ·rw[SB hk ha];exact Ad _
 ·simp only[CG,List.take_length];exact Ao (decide_eq_false (by omega)) (Ad _)
def Cp(out:List (List Int))(b:Int):List Int:=if 0≤b then out.getD b.toNat []else []
def FC(f:Func)(b:Int):List Int:=if 0≤b∧b.toNat < f.blocks.length then Vx f b.toNat else []
theorem Rr{f:Func}{k:Int}{x:W6 f}(h:x∈CP f k):0≤k:=by
 unfold CP at h;split at h
 ·assumption
 ·cases h
theorem Cc{f:Func}{b k:Int}:k∈FC f b↔b∈nextL f k:=by
 unfold FC;constructor
 ·intro h;split at h
  ·rename_i hb;obtain⟨k',⟨x,hx,e⟩,rfl⟩:=(Gs hb.2 k).1 h;refine List.mem_map.2 ⟨x,hx,?_⟩;show(x.1:Int)=b;omega
  ·cases h
 ·intro h;have hin:=BM h;rw[if_pos hin];obtain⟨x,hx,e⟩:=List.mem_map.1 h;have hk:=Rr hx;refine(Gs hin.2 k).2 ⟨k.toNat,⟨x,?_,?_⟩,by omega⟩
  ·rw[Int.toNat_of_nonneg hk];exact hx
  ·have:(x.1:Int)=b:=e;omega
structure RowsA(f:Func)(out:List (List Int)):Prop where
 len:out.length=f.blocks.length
 asc:∀r∈out,Xa r
 rng:∀r∈out,∀x∈r,0≤x∧x.toNat < f.blocks.length
section
variable{f:Func}{out:List (List Int)}
theorem CD{b:Int}(h0:0≤b):Cp out b=ixD out b:=by unfold Cp ixD;rw[if_pos h0];rfl
theorem OR{b:Int}(h:Cp out b≠[]):Cp out b∈out:=by
 unfold Cp at h⊢;split
 ·rename_i h0;rw[if_pos h0]at h;rw[List.getD_eq_getElem?_getD]at h⊢;cases e:out[b.toNat]? with
  |none=>rw[e]at h;exact absurd rfl h
  |some r=>exact List.mem_of_getElem? e
 ·rename_i h0;rw[if_neg h0]at h;exact absurd rfl h
theorem Es(H:RowsA f out)(b:Int):Xa (Cp out b):=by
 by_cases h:Cp out b= []
 ·rw[h];exact List.Pairwise.nil
 ·exact H.asc _ (OR h)
theorem I7(H:RowsA f out){b x:Int}(hx:x∈Cp out b):0≤x∧x.toNat < f.blocks.length:=H.rng _ (OR (List.ne_nil_of_mem hx)) x hx
theorem SN{b:Int}{l:List Int}(h0:0≤b)(hb:b.toNat < out.length):Cp (out.set b.toNat l)=T0 (Cp out) b l:=by
 funext c;show Cp (out.set b.toNat l) c=if c=b then l else Cp out c
 unfold Cp;by_cases hc:c=b
 ·subst hc;rw[if_pos h0,if_pos rfl,List.getD_eq_getElem?_getD,List.getElem?_set_self hb];rfl
 ·rw[if_neg hc];by_cases h1:0≤c
  ·rw[if_pos h1,if_pos h1,List.getD_eq_getElem?_getD,List.getElem?_set_ne (by omega),←List.getD_eq_getElem?_getD]
  ·rw[if_neg h1,if_neg h1]
theorem RowsA.set(H:RowsA f out){b:Nat}{l:List Int}(ha:Xa l)(hr:∀x∈l,0≤x∧x.toNat < f.blocks.length):RowsA f (out.set b l):=
 ⟨by simp[H.len],fun r h=>(List.mem_or_eq_of_mem_set h).elim (H.asc r) fun e=>e▸ha,fun r h=>(List.mem_or_eq_of_mem_set h).elim (H.rng r) fun e=>e▸hr⟩
theorem O6{o:Int→List Int}:∀(r l:List Int),(r.foldl (fun l j=>l.filter fun x=>(o j).contains x) l).Sublist l
 | [],_=>List.Sublist.refl _
 |_::r,_=>(O6 r _).trans List.filter_sublist
theorem O1{o:Int→List Int}(ks:List Int):Fz o ks= []∨∃k∈ks,(Fz o ks).Sublist (o k):=by
 unfold Fz;cases e:ks.filter fun k=>!(o k).isEmpty with
 |nil=>exact .inl rfl
 |cons k r=>exact .inr ⟨k,(List.mem_filter.1 (e▸List.mem_cons_self:k∈ks.filter fun k=>!(o k).isEmpty)).1,O6 r _⟩
theorem LN(H:RowsA f out)(ks:List Int):Xa (Fz (Cp out) ks):=by
 rcases O1 (o:=Cp out) ks with h|⟨k,_,h⟩
 ·rw[h];exact List.Pairwise.nil
 ·exact(Es H k).sublist h
theorem Jg(H:RowsA f out){ks:List Int}{x:Int}(hx:x∈Fz (Cp out) ks):0≤x∧x.toNat < f.blocks.length:=by
 rcases O1 (o:=Cp out) ks with h|⟨k,_,h⟩
 ·rw[h]at hx;cases hx
 ·exact I7 H (h.subset hx)
theorem Rz{o:Int→List Int}{ks:List Int}{k:Int}:Fz o (ks++[k])=if(o k).isEmpty then Fz o ks else if ks.any (fun k=>!(o k).isEmpty)then(Fz o ks).filter (fun x=>(o k).contains x)else o k:=by
 unfold Fz;rw[List.filter_append];cases hk:(o k).isEmpty with
 |true=>simp[hk]
 |false=>
  simp only[List.filter_cons,hk,Bool.not_false,if_true,List.filter_nil,Bool.false_eq_true,if_false];cases e:ks.filter fun k=>!(o k).isEmpty with
  |nil=>
   rw[show ks.any (fun k=>!(o k).isEmpty)=false from ?_]
   ·simp
   ·rw[List.any_eq_false];exact List.filter_eq_nil_iff.1 e
  |cons a r=>
   rw[show ks.any (fun k=>!(o k).isEmpty)=true from ?_]
   ·simp
   ·have:a∈ks.filter fun k=>!(o k).isEmpty:=e▸List.mem_cons_self
    exact List.any_eq_true.2 ⟨a,(List.mem_filter.1 this).1,(List.mem_filter.1 this).2⟩
theorem F4{n:Nat}{l:List Int}(h:Xa l)(hr:∀x∈l,0≤x∧x.toNat < n):l.length≤n:=EZ (HT h) hr
theorem Ur(c:FineF f)(H:RowsA f out){r1:List Int}{r2:List (List Int)}{i:Int}{ks:List Int}(hks:ixD r2 (ixD r1 i)=ks)(hk:∀k∈ks,0≤k∧k.toNat < f.blocks.length)(hl:ks.length≤2147483648):
 (M.loop (Cj r1 r2 out i) ([],false,0)).to (Fz (Cp out) ks):=by
 have hn:=c.small.blocks;have key:=Ay (step:=Cj r1 r2 out i) (fun k:Nat=>(Fz (Cp out) (ks.take k),(ks.take k).any (fun k=>!(Cp out k).isEmpty),(k:Int))) ks.length (r:=Fz (Cp out) ks) (fun k hkl=>?_) ?_ (j:=0) (Nat.zero_le _)
 ·exact key
 ·obtain⟨x,hx⟩:∃x,ks[k]? =some x:=⟨_,List.getElem?_eq_getElem hkl⟩
  have hxr:=hk x (List.mem_of_getElem? hx);have hin:Bq out x=true:=Bt.2 ⟨hxr.1,by rw[H.len];exact hxr.2⟩;simp only[Cj,hks,Bj hx,←CD (out:=out) hxr.1];refine Ax (decide_eq_true (by omega)) (Ac (Ae (AW hkl) (Ae hin (a:=(Fz (Cp out) (ks.take (k+1)),(ks.take (k+1)).any (fun k=>!(Cp out k).isEmpty))) ?_)) ?_)
  ·rw[List.take_add_one,hx,Option.toList_some,Rz,List.any_append];cases he:(Cp out x).isEmpty with
   |true=>
    refine Ax rfl ?_;simp only[if_true,List.any_cons,he,Bool.not_true,List.any_nil,Bool.or_false];exact Ad _
   |false=>
    refine Ao rfl ?_;simp only[Bool.false_eq_true,if_false,List.any_cons,he,Bool.not_false,Bool.true_or,Bool.or_true];cases ha:(ks.take k).any (fun k=>!(Cp out k).isEmpty)with
    |false=>
     simp only[Bool.false_eq_true,if_false];exact Ax rfl (Ae hin (Ad _))
    |true=>
     simp only[if_true];have hma:=LN H (ks.take k);refine Ao rfl (Ae hin (Ac (R9 ?_ (Es H x) ?_ fun y hy=>?_) (Ad _)))
     ·have:=F4 hma fun y hy=>Jg H hy
      omega
     ·have:=F4 (Es H x) fun y hy=>I7 H hy
      omega
     ·have:=Jg H hy;exact QK (by omega)
  ·rw[SB hkl hl];exact Ad _
 ·simp only[Cj,hks,List.take_length];exact Ao (decide_eq_false (by omega)) (Ad _)
def BZ(f:Func)(out:List (List Int))(b:Int):List Int:=Mh (Cp out) (FC f) b
theorem Mt(H:RowsA f out)(b:Int):Xa (BZ f out b):=by
 unfold BZ Mh;refine Pj ?_;split
 ·exact List.Pairwise.nil
 ·exact LN H _
theorem Ms(H:RowsA f out){b x:Int}(h0:0≤b∧b.toNat < f.blocks.length)(hx:x∈BZ f out b):0≤x∧x.toNat < f.blocks.length:=by
 unfold BZ Mh at hx;rcases Hu.1 hx with h|h
 ·rw[h];exact h0
 ·split at h
  ·cases h
  ·exact Jg H h
theorem Vw(c:FineF f)(H:RowsA f out){r1:List Int}{k:Nat}{b:Int}{more:Bool}(hb:r1[k]? =some b)(hl:r1.length≤2147483648)(h0:0≤b∧b.toNat < f.blocks.length):
 (B0 r1 (Gy f f.blocks.length) (more,(k:Int),out)).to (.inl (more||(BZ f out b !=Cp out b),((k+1:Nat):Int),out.set b.toNat (BZ f out b))):=by
 have hn:=c.small.blocks;have hk:=(List.getElem?_eq_some_iff.1 hb).1;have hbi:ixD r1 (k:Int)=b:=Bj hb;have hbf:ixD (Gy f f.blocks.length) b=FC f b:=by
  unfold FC;rw[if_pos h0];rfl
 have hin:Bq out b=true:=Bt.2 ⟨h0.1,by rw[H.len];exact h0.2⟩;have hinb:Bq (Gy f f.blocks.length) b=true:=Bt.2 ⟨h0.1,by rw[Du];exact h0.2⟩;have hkr:∀x∈FC f b,0≤x∧x.toNat < f.blocks.length:=fun x hx=>by
  unfold FC at hx;rw[if_pos h0]at hx;obtain⟨k',he,rfl⟩:=(Gs h0.2 x).1 hx;exact⟨by omega,by simpa using(Jl he).1⟩
 have hkl:(FC f b).length≤2147483648:=by
  have:FC f b∈Gy f f.blocks.length:=by
   rw[←hbf];exact List.mem_of_getElem? (A0 hinb)
  have:=Om f f.blocks.length _ this;omega
 have hmt:=Ur c H (r1:=r1) (r2:=Gy f f.blocks.length) (i:=(k:Int)) (ks:=FC f b) (by rw[hbi,hbf]) hkr hkl;have hL:∀l,l=(if b=0 then []else Fz (Cp out) (FC f b))→Xa l∧l.length≤2147483648:=fun l hl=>by
  have h1:Xa l:=by
   rw[hl];split
   ·exact List.Pairwise.nil
   ·exact LN H _
  refine⟨h1,?_⟩;have:=F4 (n:=f.blocks.length) h1 fun x hx=>by
   rw[hl]at hx;split at hx
   ·cases hx
   ·exact Jg H hx
  omega
 obtain⟨l,hle⟩:∃l,l=(if b=0 then []else Fz (Cp out) (FC f b)):=⟨_,rfl⟩
 obtain⟨hla,hll⟩:=hL l hle;have hst:BZ f out b=RG l b:=by unfold BZ Mh;rw[hle]
 have hne:BZ f out b≠[]:=by rw[hst];exact Of
 have hsa:=Mt H b;have hsl:=F4 hsa fun x hx=>Ms H h0 hx
 simp only[B0,hbi];refine Ax (decide_eq_true (by omega)) (Ac (Ae (AW hk) (Ae hinb (Ac hmt (Ac (a:=l) ?_ (Ac (Mx b hla hll) (Ac (a:=BZ f out b) ?_ (Ae hin (Ac (a:=(BZ f out b ==Cp out b)) ?_ (b:=(more||(BZ f out b !=Cp out b),out.set b.toNat (BZ f out b))) ?_)))))))) ?_)
 ·by_cases hb0:b=0
  ·rw[hle,if_pos hb0];exact Ax (by simp[hb0]) (Ad _)
  ·rw[hle,if_neg hb0];exact Ao (by simp[hb0]) (Ad _)
 ·cases hc:l.contains b with
  |true=>
   refine Ao rfl ?_;rw[hst,Uv hla (List.contains_iff_mem.1 hc)];exact Ad _
  |false=>
   have hcl:l.countP (fun x=>decide (x < b))≤l.length:=List.countP_le_length;refine Ax rfl (Ac (Ae (decide_eq_true hll) (Ad _)) (Ae (QK (by omega)) (Ae ?_ (Ae (decide_eq_true hll) ?_))))
   ·exact decide_eq_true ⟨by simp only;omega,by simp only[Int.toNat_natCast];exact hcl⟩
   ·simp only[Int.toNat_natCast];rw[hst,←Te hla (fun e=>by rw[List.contains_iff_mem.2 e]at hc;cases hc)];exact Ad _
 ·rw[CD h0.1];exact Tm _ _ (by omega)
 ·cases he:(BZ f out b ==Cp out b)with
  |true=>
   refine Ao rfl ?_;have e:BZ f out b=Cp out b:=beq_iff_eq.1 he;rw[show(BZ f out b !=Cp out b)=false from by unfold bne;rw[he];rfl,Bool.or_false];rw[show out.set b.toNat (BZ f out b)=out from ?_]
   ·exact Ad _
   ·rw[e,CD h0.1];have hg:=A0 hin;refine List.ext_getElem? fun j=>?_
    rw[List.getElem?_set];split
    ·rename_i hj;subst hj;rw[if_pos (Bt.1 hin).2,hg]
    ·rfl
  |false=>
   refine Ax rfl (Ae hin (Ae ?_ ?_))
   ·cases hs:BZ f out b with
    |nil=>exact absurd hs hne
    |cons _ _=>rfl
   ·rw[show(BZ f out b !=Cp out b)=true from by unfold bne;rw[he];rfl,Bool.or_true];exact Ad _
 ·rw[SB hk hl];exact Ad _
end
theorem QS{α:Type}{g:α→Nat}:∀{l:List α} {i:Nat} {x y:α},l[i]? =some x→((l.set i y).map g).sum+g x=(l.map g).sum+g y
 | [],_,_,_,h=>by simp at h
 |a::l,0,x,y,h=>by
  simp at h;subst h;simp only[List.set_cons_zero,List.map_cons,List.sum_cons];omega
 |a::l,i+1,x,y,h=>by
  have:=QS (g:=g) (l:=l) (i:=i) (x:=x) (y:=y) (by simpa using h);simp only[List.set_cons_succ,List.map_cons,List.sum_cons];omega
section
variable{f:Func}
def WD(f:Func)(out:List (List Int)):Nat:=(out.map fun l=>if l.isEmpty then f.blocks.length+1 else l.length).sum
structure OrdP(f:Func)(ord:List Int):Prop where
 len:ord.length≤f.blocks.length
 mem:∀b,b∈ord↔RchF f (-1) b
 par:∀(j:Nat) (b:Int),ord[j]? =some b→b=0∨∃(k:Int) (i:Nat),i < j∧ord[i]? =some k∧b∈nextL f k
theorem Ve{l:List Int}(H:WalkP f (-1) l):OrdP f l.reverse:=by
 refine⟨?_,fun b=>by rw[List.mem_reverse];exact H.mem b,fun j b hj=>?_⟩
 ·rw[List.length_reverse];exact EZ H.nod fun b hb=>((H.mem b).1 hb).lt
 ·have hb:b∈l:=List.mem_reverse.1 (List.mem_of_getElem? hj);rcases H.par b hb with h|⟨k,h1,l1,l2,l3,h2⟩
  ·exact .inl h
  ·refine .inr ⟨k,l3.length,?_,?_,h1⟩
   ·have hnd:l.reverse.Nodup:=List.pairwise_reverse.2 (H.nod.imp fun h=>h.symm);have h3:l.reverse[l3.length+1+l2.length]? =some b:=by
     rw[h2];simp only[List.reverse_append,List.reverse_cons,List.append_assoc,List.cons_append,List.nil_append];rw[List.getElem?_append_right (by simp;omega)];simp only[List.length_reverse];rw[show l3.length+1+l2.length - l3.length=l2.length+1 by omega,List.getElem?_cons_succ,List.getElem?_append_right (by simp)];simp
    have h4:j=l3.length+1+l2.length:=by
     obtain⟨p1,e1⟩:=List.getElem?_eq_some_iff.1 hj;obtain⟨p2,e2⟩:=List.getElem?_eq_some_iff.1 h3;have hp:=List.pairwise_iff_getElem.1 hnd;rcases Nat.lt_trichotomy j (l3.length+1+l2.length)with h|h|h
     ·exact absurd (e1.trans e2.symm) (hp _ _ p1 p2 h)
     ·exact h
     ·exact absurd (e2.trans e1.symm) (hp _ _ p2 p1 h)
    omega
   ·rw[h2];simp only[List.reverse_append,List.reverse_cons,List.append_assoc,List.cons_append,List.nil_append];rw[List.getElem?_append_right (by simp)];simp
structure RndI(f:Func)(ord:List Int)(out0:List (List Int))(more:Bool)(k:Nat)(out:List (List Int)):Prop where
 rows:RowsA f out
 dom:DomI f (FC f) (Cp out)
 known:∀(j:Nat) (b:Int),j < k→ord[j]? =some b→Cp out b≠[]
 same:more=false→out=out0∧∀(j:Nat) (b:Int),j < k→ord[j]? =some b→BZ f out b=Cp out b
 le:WD f out≤WD f out0
 lt:more=true→WD f out < WD f out0
theorem V6(f:Func)(b k:Int):k∈FC f b↔RchF f (-1) k∧b∈nextL f k∨(k∈FC f b∧¬RchF f (-1) k):=by
 by_cases h:RchF f (-1) k
 ·rw[Cc];exact⟨fun e=>.inl ⟨h,e⟩,fun e=>e.elim (·.2) fun e=>absurd h e.2⟩
 ·exact⟨fun e=>.inr ⟨e,h⟩,fun e=>e.elim (fun e=>absurd e.1 h) (·.1)⟩
theorem RndI.next{ord:List Int}{out0 out:List (List Int)}{more:Bool}{k:Nat}{b:Int}(O:OrdP f ord)(H:RndI f ord out0 more k out)(hb:ord[k]? =some b):RndI f ord out0 (more||(BZ f out b !=Cp out b)) (k+1) (out.set b.toNat (BZ f out b)):=by
 have hr:=(O.mem b).1 (List.mem_of_getElem? hb);have hl:=hr.lt;have hlo:b.toNat < out.length:=by rw[H.rows.len];exact hl.2
 have hk:b≠0→∃k∈FC f b,Cp out k≠[]:=fun h0=>by
  rcases O.par k b hb with h|⟨q,i,hi,hq,hn⟩
  ·exact absurd h h0
  ·exact⟨q,Cc.2 hn,H.known i q hi hq⟩
 obtain⟨hD,hS⟩:=H.dom.step (V6 f) hr hk;have eset:=SN (out:=out) (l:=BZ f out b) hl.1 hlo;have hsa:=Mt H.rows b;have hsr:∀x∈BZ f out b,0≤x∧x.toNat < f.blocks.length:=fun x hx=>Ms H.rows hl hx
 have hne:BZ f out b≠[]:=by unfold BZ Mh;exact Of
 have hold:out[b.toNat]? =some (Cp out b):=by
  rw[CD hl.1];exact A0 (Bt.2 ⟨hl.1,hlo⟩)
 have hmu:=QS (g:=fun l:List Int=>if l.isEmpty then f.blocks.length+1 else l.length) (y:=BZ f out b) hold;have hnewmu:(if(BZ f out b).isEmpty then f.blocks.length+1 else(BZ f out b).length)=(BZ f out b).length:=by
  cases hs:BZ f out b with
  |nil=>exact absurd hs hne
  |cons _ _=>rfl
 have hlen:=F4 hsa hsr;simp only[hnewmu]at hmu;have hdec:BZ f out b≠Cp out b→(BZ f out b).length < (if(Cp out b).isEmpty then f.blocks.length+1 else(Cp out b).length):=fun hd=>by
  cases ho:Cp out b with
  |nil=>simp;omega
  |cons x l=>
   have h1:Cp out b≠[]:=by rw[ho];simp
   have:=On hsa (Es H.rows b) (hS h1) hd;rw[ho]at this;exact this
 have hkn:∀c,Cp out c≠[]→Cp (out.set b.toNat (BZ f out b)) c≠[]:=fun c hc=>by
  rw[eset];unfold T0;split
  ·exact hne
  ·exact hc
 have hmul:WD f (out.set b.toNat (BZ f out b))≤WD f out∧(BZ f out b≠Cp out b→WD f (out.set b.toNat (BZ f out b)) < WD f out):=by
  by_cases hd:BZ f out b=Cp out b
  ·have:(BZ f out b).length=(if(Cp out b).isEmpty then f.blocks.length+1 else(Cp out b).length):=by rw[←hd,hnewmu]
   exact⟨by unfold WD;omega,fun h=>absurd hd h⟩
  ·have:=hdec hd;exact⟨by unfold WD;omega,fun _=>by unfold WD;omega⟩
 have hsame:BZ f out b=Cp out b→out.set b.toNat (BZ f out b)=out:=fun e=>by
  rw[e];refine List.ext_getElem? fun j=>?_
  rw[List.getElem?_set];split
  ·rename_i hj;subst hj;exact hold.symm
  ·rfl
 have hle:=H.le;refine⟨H.rows.set hsa hsr,by rw[eset];exact hD,fun j c hj hc=>?_,fun hm=>?_,by omega,fun hm=>?_⟩
 ·by_cases e:j=k
  ·subst e;rw[hb]at hc;cases hc;rw[eset];unfold T0;rw[if_pos rfl];exact hne
  ·exact hkn c (H.known j c (by omega) hc)
 ·rw[Bool.or_eq_false_iff]at hm;have hd:BZ f out b=Cp out b:=by simpa using hm.2
  obtain⟨h1,h2⟩:=H.same hm.1;rw[hsame hd];refine⟨h1,fun j c hj hc=>?_⟩;by_cases e:j=k
  ·subst e;rw[hb]at hc;cases hc;exact hd
  ·exact h2 j c (by omega) hc
 ·rw[Bool.or_eq_true]at hm;rcases hm with hm|hm
  ·have:=H.lt hm;omega
  ·have:=hmul.2 (by simpa using hm);omega
theorem SO(c:FineF f){ord:List Int}(O:OrdP f ord){out0:List (List Int)}(h0:RowsA f out0)(hd:DomI f (FC f) (Cp out0)):
 ∃r,(M.loop (B0 ord (Gy f f.blocks.length)) (false,0,out0)).to r∧RndI f ord out0 r.1 ord.length r.2:=by
 have hn:=c.small.blocks;have hol:=O.len;refine M.loop_inv (step:=B0 ord (Gy f f.blocks.length)) (fun q=>∃k:Nat,q.2.1=(k:Int)∧k≤ord.length∧RndI f ord out0 q.1 k q.2.2) (fun q=>ord.length - q.2.1.toNat) (fun r=>RndI f ord out0 r.1 ord.length r.2) ?_ _ ⟨0,rfl,Nat.zero_le _,h0,hd,(fun j b hj=>absurd hj (Nat.not_lt_zero _)),fun _=>⟨rfl,fun j b hj=>absurd hj (Nat.not_lt_zero _)⟩,Nat.le_refl _,fun e=>by cases e⟩;rintro⟨more,i,out⟩ ⟨k,e,hk,H⟩;have e:i=(k:Int):=e;subst e;by_cases hkl:k < ord.length
 ·obtain⟨b,hb⟩:∃b,ord[k]? =some b:=⟨_,List.getElem?_eq_getElem hkl⟩
  have hr:=((O.mem b).1 (List.mem_of_getElem? hb)).lt;refine⟨_,Vw c H.rows hb (by omega) hr,fun s' h=>?_,fun r h=>by cases h⟩;cases h;exact⟨⟨k+1,rfl,hkl,H.next O hb⟩,by simp only[Int.toNat_natCast];omega⟩
 ·have:k=ord.length:=by omega
  subst this;refine⟨.inr (more,out),?_,(fun s' h=>by cases h),fun r h=>by cases h;exact H⟩;simp only[B0];exact Ao (decide_eq_false (by omega)) (Ad _)
structure AboveP(f:Func)(out:List (List Int)):Prop where
 rows:RowsA f out
 mem:∀b x,x∈Cp out b↔RchF f (-1) b∧¬RchF f x b
theorem HV(c:FineF f):∃out,(BQ f).to out∧AboveP f out:=by
 have hn:=c.small.blocks;obtain⟨l,_,hw,ho⟩:=SW c;have O:=Ve hw;have hrep:∀b,Cp (List.replicate f.blocks.length ([]:List Int)) b= []:=fun b=>by
  unfold Cp;split
  ·rw[List.getD_eq_getElem?_getD,List.getElem?_replicate];split <;> rfl
  ·rfl
 obtain⟨out,h1,h2⟩:=M.loop_inv (step:=Fp l.reverse (Gy f f.blocks.length)) (fun q=>RowsA f q.2∧DomI f (FC f) (Cp q.2)∧(q.1=false→∀b,RchF f (-1) b→Cp q.2 b≠[]∧BZ f q.2 b=Cp q.2 b)) (fun q=>if q.1 then WD f q.2+1 else 0) (fun out=>AboveP f out) (by
  rintro⟨more,out⟩ ⟨hr,hd,hs⟩;have hr:RowsA f out:=hr;cases more with
  |true=>
   obtain⟨⟨m',o'⟩,h3,H⟩:=SO c O hr hd;refine⟨.inl (m',o'),Ax rfl (Ac h3 (Ad _)),fun s' h=>?_,fun r h=>by cases h⟩;cases h;refine⟨⟨H.rows,H.dom,fun hm b hb=>?_⟩,?_⟩
   ·obtain⟨j,hj⟩:=List.getElem?_of_mem ((O.mem b).2 hb);have hjl:=(List.getElem?_eq_some_iff.1 hj).1;exact⟨H.known j b hjl hj,(H.same hm).2 j b hjl hj⟩
   ·cases m' with
    |true=>
     have:WD f o' < WD f out:=H.lt rfl;simp only[if_true];show WD f o'+1 < WD f out+1;omega
    |false=>simp
  |false=>
   refine⟨.inr out,Ao rfl (Ad _),(fun s' h=>by cases h),fun r h=>?_⟩;cases h;have hs':=hs rfl;refine⟨hr,fun b x=>⟨fun hx=>?_,fun h=>?_⟩⟩
   ·have hb:=hd.reach b (List.ne_nil_of_mem hx);exact⟨hb,(hd.fin (fun b k _ h=>Cc.2 h) (fun b hb=>(hs' b hb).1) (fun b hb=>(hs' b hb).2) hb x).1 hx⟩
   ·exact(hd.fin (fun b k _ h=>Cc.2 h) (fun b hb=>(hs' b hb).1) (fun b hb=>(hs' b hb).2) h.1 x).2 h.2)
  (true,List.replicate f.blocks.length []) ⟨⟨by simp,fun r h=>by rw[(List.mem_replicate.1 h).2];exact List.Pairwise.nil,fun r h x hx=>by rw[(List.mem_replicate.1 h).2]at hx;cases hx⟩,
   ⟨fun b h=>absurd (hrep b) h,fun b h=>absurd (hrep b) h,fun b h=>absurd (hrep b) h,fun b _ h=>absurd (hrep b) h,fun b _ h=>absurd (hrep b) h⟩,fun h=>by cases h⟩
 refine⟨out,Ac ho (Ac (Ae (BL.2 c) (Ad _)) (Ae ?_ (Ac ?_ (Ad _)))),h2⟩
 ·unfold JW maxLen;simp;omega
 ·rw[Int.toNat_natCast];exact h1
end
section
variable{f:Func}{out:List (List Int)}
theorem AboveP.uniq{a b:List (List Int)}(H:AboveP f a)(K:AboveP f b):a=b:=by
 refine List.ext_getElem? fun k=>?_
 by_cases hk:k < f.blocks.length
 ·have ha:k < a.length:=by rw[H.rows.len];exact hk
  have hb:k < b.length:=by rw[K.rows.len];exact hk
  have e:Cp a (k:Int)=Cp b (k:Int):=Kg (Es H.rows _) (Es K.rows _) fun x=>by rw[H.mem,K.mem]
  rw[CD (by omega),CD (by omega),Bj (List.getElem?_eq_getElem ha),Bj (List.getElem?_eq_getElem hb)]at e;rw[List.getElem?_eq_getElem ha,List.getElem?_eq_getElem hb,e]
 ·rw[List.getElem?_eq_none (by rw[H.rows.len];omega),List.getElem?_eq_none (by rw[K.rows.len];omega)]
theorem Hs{b k:Int}(h:b∈nextL f k):0≤k∧k.toNat < f.blocks.length:=by
 have hb:=BM h;have h1:=(Cc (f:=f)).2 h;unfold FC at h1;rw[if_pos hb]at h1;obtain⟨q,h2,rfl⟩:=(Gs hb.2 k).1 h1;exact⟨by omega,by simpa using(Jl h2).1⟩
def BO(f:Func)(out:List (List Int))(h:Int):List Int:=(FC f h).filter fun z=>(Cp out z).contains h
theorem Dy(H:AboveP f out){h b:Int}:b∈BO f out h↔h∈nextL f b∧RchF f (-1) b∧¬RchF f h b:=by
 unfold BO;rw[List.mem_filter,Cc,List.contains_iff_mem,H.mem]
theorem Jn(b:Int):(FC f b).length≤2 * f.blocks.length:=by
 unfold FC;split
 ·unfold Vx;rw[List.getD_eq_getElem?_getD];cases h:(Gy f f.blocks.length)[b.toNat]? with
  |none=>simp
  |some l=>exact Om f _ l (List.mem_of_getElem? h)
 ·simp
theorem Sc{h:Int}(h0:0≤h)(hn:h.toNat < f.blocks.length):Bq (Gy f f.blocks.length) h=true∧ixD (Gy f f.blocks.length) h=FC f h:=by
 refine⟨Bt.2 ⟨h0,by rw[Du];exact hn⟩,?_⟩;unfold FC Vx ixD;rw[if_pos ⟨h0,hn⟩];rfl
theorem Nn(c:FineF f):(En f).to (Gy f f.blocks.length):=Ae (BL.2 c) (Ad _)
theorem GV{l:List Int}{n:Int}(h:l.length≤2147483648):(CY l n).to (l.contains n):=Ae (decide_eq_true h) (Ad _)
theorem Wb{h:Int}{n:Nat}(h0:0≤h)(hn:h.toNat < n)(hs:n≤4611686018427387904):Wd .i64 h=true:=by
 unfold Wd;simp[Lit.wf,IntKind.min,IntKind.max,IntKind.signed,IntKind.bits];omega
theorem Kq{k n:Nat}(hk:k < n)(hn:n≤4611686018427387904):IntKind.i64.wrap ((k:Int)+1)=((k+1:Nat):Int):=by rw[IntWalk.i64_in _ ⟨by omega,by omega⟩];omega
theorem OO(c:FineF f)(ho:(BQ f).to out)(H:AboveP f out)(h:Int):(Ee f h).to (BO f out h):=by
 have hn:=c.small.blocks;unfold Ee;by_cases hh:0≤h∧h.toNat < f.blocks.length
 ·obtain⟨h1,h2⟩:=Sc hh.1 hh.2;have hl:(FC f h).length≤2147483648:=by have:=Jn (f:=f) h;omega
  refine Ao (by simp;omega) (Ac ho (Ac (Nn c) (Ae h1 ?_)));rw[h2];refine Ac (Ae (decide_eq_true hl) (Ad _)) (Ae (Wb hh.1 hh.2 (by omega)) (Ae (decide_eq_true hl) (Ae (List.all_eq_true.2 fun z hz=>?_) ?_)))
  ·have:=Hs (Cc.1 hz);exact Wb this.1 this.2 (by omega)
  ·have e:BO f out h=(FC f h).filter fun z=>!!((Cp out z).contains h):=by unfold BO;simp only[Bool.not_not]
   rw[e];refine Ac (RY fun z hz=>?_) (Ad _);have hz:=Hs (Cc.1 hz);rw[CD hz.1];have hr:(ixD out z).length≤2147483648:=by
    rw[←CD hz.1];have:=F4 (Es H.rows z) fun x hx=>I7 H.rows hx
    omega
   exact Ae (Bt.2 ⟨hz.1,by rw[H.rows.len];exact hz.2⟩) (Ac (GV hr) (Ad _))
 ·have e:BO f out h= []:=by unfold BO FC;rw[if_neg hh];rfl
  rw[e];refine Ax ?_ (Ad _);simp only[Bool.or_eq_true,decide_eq_true_eq];omega
def Qz(f:Func):List Int:=(List.range f.blocks.length).map fun k:Nat=>(k:Int)
theorem Fk{b:Int}:b∈Qz f↔0≤b∧b.toNat < f.blocks.length:=by
 unfold Qz;simp only[List.mem_map,List.mem_range];constructor
 ·rintro⟨k,hk,rfl⟩;exact⟨by omega,by simpa using hk⟩
 ·rintro⟨h0,h1⟩;exact⟨b.toNat,h1,by omega⟩
theorem MF(n:Nat):Xa ((List.range n).map fun k:Nat=>(k:Int)):=by
 unfold Xa;rw[List.pairwise_map];exact List.pairwise_lt_range.imp fun h=>by omega
theorem Tw(f:Func):Xa (Qz f):=MF _
theorem Tv(f:Func):(Qz f).length=f.blocks.length:=by simp[Qz]
def Cf(f:Func)(out:List (List Int)):List Int:=(Qz f).filter fun h=>!(BO f out h).isEmpty
theorem HK{p:Int→Bool}{k:Nat}:(((List.range (k+1)).map fun k:Nat=>(k:Int)).filter p)=(((List.range k).map fun k:Nat=>(k:Int)).filter p)++(if p (k:Int)then [(k:Int)]else []):=by
 rw[List.range_succ,List.map_append,List.filter_append];simp[List.filter_cons]
theorem Jj{p:Int→Bool}{k:Nat}:(((List.range k).map fun k:Nat=>(k:Int)).filter p).length≤k:=by
 have:=List.length_filter_le p ((List.range k).map fun k:Nat=>(k:Int));simpa using this
theorem Ku{n:Nat}(h:n≤8796093022208):GC n 8=true:=by
 unfold GC maxLen;simp;omega
theorem Jh(c:FineF f)(ho:(BQ f).to out)(H:AboveP f out):(CW f).to (Cf f out):=by
 have hn:=c.small.blocks;unfold CW;refine Ac (a:=Cf f out) (Ay (fun k:Nat=>((k:Int),((List.range k).map fun k:Nat=>(k:Int)).filter fun h=>!(BO f out h).isEmpty)) f.blocks.length (fun k hk=>?_) ?_ (Nat.zero_le _)) (Ad _)
 ·simp only[D8];refine Ax (decide_eq_true (by omega)) (Ac (a:=((List.range (k+1)).map fun k:Nat=>(k:Int)).filter fun h=>!(BO f out h).isEmpty) (Ac (OO c ho H _) ?_) ?_)
  ·rw[HK];cases ht:BO f out (k:Int)with
   |nil=>simp;exact Ad _
   |cons x l=>
    simp only[List.isEmpty_cons,Bool.not_false,if_true];have:=Jj (p:=fun h=>!(BO f out h).isEmpty) (k:=k);exact Ax (decide_eq_true (by simp only[List.length_cons];omega)) (Ae (Wb (by omega) (n:=f.blocks.length) (by simpa using hk) (by omega)) (Ae (Ku (by simp only[List.length_cons,List.length_nil];omega)) (Ad _)))
  ·rw[Kq hk (by omega)];exact Ad _
 ·simp only[D8];exact Ao (decide_eq_false (by omega)) (Ad _)
inductive LoopI (f:Func) (h:Int):Int→Prop
 |tail {b:Int}:b≠h→h∈nextL f b→RchF f (-1) b→¬RchF f h b→LoopI f h b
 |step {b k:Int}:b≠h→RchF f (-1) b→k∈nextL f b→k≠h→LoopI f h k→LoopI f h b
theorem LoopI.rch{h b:Int}(H:LoopI f h b):RchF f (-1) b:=by cases H <;> assumption
theorem LoopI.ne{h b:Int}(H:LoopI f h b):b≠h:=by cases H <;> assumption
open Classical in
noncomputable def Bp(f:Func)(out:List (List Int))(h:Int):List Int:=if(BO f out h).isEmpty then []else(Qz f).filter fun b=>decide (b=h∨LoopI f h b)
theorem Hv(h:Int):Xa (Bp f out h):=by
 unfold Bp;split
 ·exact List.Pairwise.nil
 ·exact(Tw f).filter _
theorem Ls{h b:Int}(hb:b∈BO f out h):0≤h∧h.toNat < f.blocks.length:=by
 unfold BO FC at hb;split at hb
 ·assumption
 ·cases hb
theorem EY{h b:Int}(ht:BO f out h≠[]):b∈Bp f out h↔b=h∨LoopI f h b:=by
 unfold Bp;rw[if_neg (by simpa using ht),List.mem_filter,Fk];simp only[decide_eq_true_eq];refine⟨(·.2),fun e=>⟨?_,e⟩⟩;rcases e with e|e
 ·obtain⟨x,hx⟩:=List.exists_mem_of_ne_nil _ ht;rw[e];exact Ls hx
 ·exact e.rch.lt
structure LoopS(f:Func)(out:List (List Int))(h:Int)(at':Nat)(wait o:List Int):Prop where
 head:h∈o
 nod:o.Nodup
 inn:∀b∈o,b≠h→LoopI f h b
 rng:∀b∈o,0≤b∧b.toNat < f.blocks.length
 wrng:∀b∈wait,0≤b∧b.toNat < f.blocks.length
 win:∀b∈wait,RchF f (-1) b→b≠h→LoopI f h b
 tls:∀b∈BO f out h,b∈wait
 bef:∀k∈o,k≠h→∀b∈FC f k,b∈wait
 done:∀(j:Nat) (b:Int),j < at'→wait[j]? =some b→RchF f (-1) b→b∈o
 le:at'≤wait.length
 few:wait.length≤2 * f.blocks.length * o.length
theorem LoopS.fin{h:Int}{wait o:List Int}(H:AboveP f out)(S:LoopS f out h wait.length wait o):∀b,b∈o↔b=h∨LoopI f h b:=fun b=>by
 have hw:∀b∈wait,RchF f (-1) b→b∈o:=fun b hb hr=>by
  obtain⟨j,hj⟩:=List.getElem?_of_mem hb;exact S.done j b (List.getElem?_eq_some_iff.1 hj).1 hj hr
 constructor
 ·intro hb;by_cases e:b=h
  ·exact .inl e
  ·exact .inr (S.inn b hb e)
 ·rintro(e|e)
  ·rw[e];exact S.head
  ·induction e with
   |tail h1 h2 h3 h4=>exact hw _ (S.tls _ ((Dy H).2 ⟨h2,h3,h4⟩)) h3
   |step h1 h2 h3 h4 _ ih=>exact hw _ (S.bef _ ih h4 _ (Cc.2 h3)) h2
theorem LoopS.skip{h b:Int}{at':Nat}{wait o:List Int}(S:LoopS f out h at' wait o)(hb:wait[at']? =some b)(hs:RchF f (-1) b→b∈o):LoopS f out h (at'+1) wait o:=
 ⟨S.head,S.nod,S.inn,S.rng,S.wrng,S.win,S.tls,S.bef,fun j c hj hc hr=>by
  by_cases e:j=at'
  ·subst e;rw[hb]at hc;cases hc;exact hs hr
  ·exact S.done j c (by omega) hc hr,(List.getElem?_eq_some_iff.1 hb).1,S.few⟩
theorem LoopS.add{h b:Int}{at':Nat}{wait o:List Int}(S:LoopS f out h at' wait o)(hb:wait[at']? =some b)(hr:RchF f (-1) b)(hn:b∉o):LoopS f out h (at'+1) (wait++FC f b) (o++[b]):=by
 have hbh:b≠h:=fun e=>hn (e▸S.head)
 have hI:=S.win b (List.mem_of_getElem? hb) hr hbh;have hlt:=(List.getElem?_eq_some_iff.1 hb).1;refine⟨List.mem_append_left _ S.head,?_,fun c hc hne=>?_,fun c hc=>?_,fun c hc=>?_,fun c hc h1 h2=>?_,fun c hc=>List.mem_append_left _ (S.tls c hc),fun k hk hkh c hc=>?_,fun j c hj hc hrc=>?_,by rw[List.length_append];omega,?_⟩
 ·rw[List.nodup_append];exact⟨S.nod,by simp,fun x hx y hy=>by rw[List.mem_singleton.1 hy];exact fun e=>hn (e▸hx)⟩
 ·rcases List.mem_append.1 hc with hc|hc
  ·exact S.inn c hc hne
  ·rw[List.mem_singleton.1 hc];exact hI
 ·rcases List.mem_append.1 hc with hc|hc
  ·exact S.rng c hc
  ·rw[List.mem_singleton.1 hc];exact hr.lt
 ·rcases List.mem_append.1 hc with hc|hc
  ·exact S.wrng c hc
  ·exact Hs (Cc.1 hc)
 ·rcases List.mem_append.1 hc with hc|hc
  ·exact S.win c hc h1 h2
  ·exact .step h2 h1 (Cc.1 hc) hbh hI
 ·rcases List.mem_append.1 hk with hk|hk
  ·exact List.mem_append_left _ (S.bef k hk hkh c hc)
  ·rw[List.mem_singleton.1 hk]at hc;exact List.mem_append_right _ hc
 ·by_cases e:j=at'
  ·subst e;rw[List.getElem?_append_left hlt,hb]at hc;cases hc;exact List.mem_append_right _ (by simp)
  ·rw[List.getElem?_append_left (by omega)]at hc;exact List.mem_append_left _ (S.done j c (by omega) hc hrc)
 ·have h1:=S.few;have h2:=Jn (f:=f) b;rw[List.length_append,List.length_append,Nat.mul_add];simp only[List.length_cons,List.length_nil];omega
theorem MR{n:Nat}{o:List Int}(h:o.Nodup)(hr:∀b∈o,0≤b∧b.toNat < n):o.length≤n:=EZ h hr
theorem Ik(c:FineF f)(ho:(BQ f).to out)(H:AboveP f out)(h:Int):(CH f h).to (Bp f out h):=by
 have hn:=c.small.blocks;unfold CH;refine Ac (OO c ho H h) ?_;by_cases ht:BO f out h= []
 ·rw[ht];have:Bp f out h= []:=by unfold Bp;rw[ht];rfl
  rw[this];exact Ax rfl (Ad _)
 ·obtain⟨x,hx⟩:=List.exists_mem_of_ne_nil _ ht;have hr:=Ls hx;obtain⟨l,_,hwk,hre⟩:=PG c;refine Ao (by simpa using ht) (Ac (Nn c) (Ac hre (Ae (Wb hr.1 hr.2 (by omega)) ?_)));have hrx:∀b:Int,0≤b→b.toNat < f.blocks.length→(ixD (FE f.blocks.length l l.length) b=true↔RchF f (-1) b):=fun b h0 h1=>by
   have:=SF (l:=l) h1;rw[Int.toNat_of_nonneg h0]at this;rw[this,List.contains_iff_mem,hwk.mem]
  have q1:∀b∈BO f out h,0≤b∧b.toNat < f.blocks.length:=fun b hb=>((Dy H).1 hb).2.1.lt
  have q2:∀b∈BO f out h,RchF f (-1) b→b≠h→LoopI f h b:=fun b hb hrb hne=>.tail hne ((Dy H).1 hb).1 hrb ((Dy H).1 hb).2.2
  have q3:(BO f out h).length≤2 * f.blocks.length * [h].length:=by
   have h3:=Jn (f:=f) h;have h4:(BO f out h).length≤(FC f h).length:=List.length_filter_le _ _;simp only[List.length_cons,List.length_nil,Nat.zero_add,Nat.mul_one];exact Nat.le_trans h4 h3
  obtain⟨r,h1,h2⟩:=M.loop_inv (step:=D7 (Gy f f.blocks.length) (FE f.blocks.length l l.length)) (fun q=>∃k:Nat,q.1=(k:Int)∧LoopS f out h k q.2.1 q.2.2) (fun q=>(f.blocks.length+1 - q.2.2.length) *(2 * f.blocks.length+1)+(q.2.1.length - q.1.toNat)) (fun r=>r=Bp f out h) (by
   rintro⟨i,wait,o⟩ ⟨k,e,S⟩;have e:i=(k:Int):=e;subst e;have S:LoopS f out h k wait o:=S;have hol:=MR S.nod S.rng;have hwl:wait.length≤2 * f.blocks.length * f.blocks.length:=Nat.le_trans S.few (Nat.mul_le_mul_left _ hol);have hnn:2 * f.blocks.length * f.blocks.length≤2 * 2097152 * 2097152:=Nat.mul_le_mul (by omega) hn;simp only[D7];by_cases hk:k=wait.length
   ·subst hk;refine⟨.inr (o.mergeSort fun x y=>decide (x≤y)),Ax (by simp) (Ae (decide_eq_true (by omega)) (Ad _)),(fun s' e=>by cases e),fun r e=>?_⟩;cases e;refine Kg (Tz S.nod) (Hv h) fun b=>?_
    rw[List.mem_mergeSort,S.fin H,EY ht]
   ·have hkl:k < wait.length:=by have:=S.le;omega
    obtain⟨b,hb⟩:∃b,wait[k]? =some b:=⟨_,List.getElem?_eq_getElem hkl⟩
    have hbr:=S.wrng b (List.mem_of_getElem? hb);have hix:ixD wait (k:Int)=b:=Bj hb;rw[hix];have hin:Bq (FE f.blocks.length l l.length) b=true:=Bt.2 ⟨hbr.1,by rw[Ju];exact hbr.2⟩;by_cases hadd:RchF f (-1) b∧b∉o
    ·have S2:=S.add hb hadd.1 hadd.2;have hol2:=MR S2.nod S2.rng;rw[List.length_append]at hol2;simp only[List.length_cons,List.length_nil]at hol2;obtain⟨g1,g2⟩:=Sc hbr.1 hbr.2;have hwl2:wait.length+(FC f b).length≤2 * f.blocks.length * f.blocks.length:=by
      have:=S2.few;rw[List.length_append,List.length_append]at this;exact Nat.le_trans this (Nat.mul_le_mul_left _ hol2)
     have hbl:=Jn (f:=f) b;have hre2:=(hrx b hbr.1 hbr.2).2 hadd.1;refine⟨.inl (((k+1:Nat):Int),wait++FC f b,o++[b]),Ao (by simp;omega) (Ac (a:=(wait++FC f b,o++[b])) (Ae (AW hkl) (Ae hin (Ac (AN hre2 (GV (by omega))) (Ax (by rw[hre2];simpa using hadd.2) (Ae (Wb hbr.1 hbr.2 (by omega)) (Ae (Ku (by simp only[List.length_cons,List.length_nil];omega)) (Ae g1 ?_))))))) ?_),fun s' e=>?_,fun r e=>by cases e⟩
     ·rw[g2];exact Ae (Ku (by omega)) (Ad _)
     ·rw[Kq hkl (by omega)];exact Ad _
     ·cases e;refine⟨⟨k+1,rfl,S2⟩,?_⟩;have h5:f.blocks.length+1 - o.length=(f.blocks.length+1 - (o.length+1))+1:=by omega
      simp only[List.length_append,List.length_cons,List.length_nil,Int.toNat_natCast,Nat.zero_add];rw[h5,Nat.add_mul];omega
    ·refine⟨.inl (((k+1:Nat):Int),wait,o),Ao (by simp;omega) (Ac (a:=(wait,o)) (Ae (AW hkl) (Ae hin ?_)) ?_),fun s' e=>?_,fun r e=>by cases e⟩
     ·by_cases hrb:RchF f (-1) b
      ·have hre2:=(hrx b hbr.1 hbr.2).2 hrb;have hbo:b∈o:=Classical.byContradiction fun e=>hadd ⟨hrb,e⟩
       exact Ac (AN hre2 (GV (by omega))) (Ao (by rw[hre2];simpa using hbo) (Ad _))
      ·have hre2:ixD (FE f.blocks.length l l.length) b=false:=by
        cases e:ixD (FE f.blocks.length l l.length) b with
        |false=>rfl
        |true=>exact absurd ((hrx b hbr.1 hbr.2).1 e) hrb
       exact Ac (M.whn_f hre2) (Ao (by rw[hre2];rfl) (Ad _))
     ·rw[Kq hkl (by omega)];exact Ad _
     ·cases e;refine⟨⟨k+1,rfl,S.skip hb fun hrb=>Classical.byContradiction fun e=>hadd ⟨hrb,e⟩⟩,?_⟩;simp only[Int.toNat_natCast];omega)
   (0,BO f out h,[h]) ⟨0,rfl,⟨by simp,by simp,fun b hb hne=>absurd (List.mem_singleton.1 hb) hne,fun b hb=>by rw[List.mem_singleton.1 hb];exact hr,q1,q2,fun b hb=>hb,fun k hk hkh=>absurd (List.mem_singleton.1 hk) hkh,fun j b hj=>absurd hj (Nat.not_lt_zero _),Nat.zero_le _,q3⟩⟩
  rw[←h2];exact h1
end
theorem LS{α:Type}{l:List α}{k:Nat}(h:k < l.length):Bq l (k:Int)=true:=Bt.2 ⟨by omega,by rw[Int.toNat_natCast];exact h⟩
theorem LT{k n:Nat}(hk:k < n)(hn:n≤4611686018427387904):IntKind.i64.wrap ((k:Int)+1)=((k+1:Nat):Int):=by rw[IntWalk.i64_in _ ⟨by omega,by omega⟩];omega
section
variable{f:Func}{b:Nat}{bl:Block}{x:Ins}(hb:f.blocks[b]? =some bl)(hne:bl.ins≠[])(hw:Bo x=false)
include hb hne hw
end
section
variable{P:Program}{C:Ctx}{t:List AV}{h:List ABlk}{o:Oper}
end
def Oe(r:Int):Ins:=⟨0,r,0,0,0,0,[],0,0⟩
theorem Um{r:Int}(h:Wc .i64 r):okIns (Oe r):=⟨(by decide:(Lit.int .u8 (0:Int)).wf=true),h,(by decide:(Lit.int .i64 (0:Int)).wf=true),(by decide:(Lit.int .i64 (0:Int)).wf=true),(by decide:(Lit.int .u32 (0:Int)).wf=true),(by decide:(Lit.int .i64 (0:Int)).wf=true),(by decide:(Lit.int .i64 (0:Int)).wf=true),(by decide:(Lit.int .i64 (0:Int)).wf=true),fun x hx=>by cases hx⟩
theorem Vc(r:Int):readsC (Oe r)= []:=rfl
theorem TZ(r:Int):Bo (Oe r)=true:=rfl
theorem SR(l:List Ins):(l.flatMap AZ).length≤Co EO.bulk l:=by
 induction l with
 |nil=>simp[Co]
 |cons x l ih=>
  have h1:=JI x;have h2:=L3 x;have h3:=CX N7 x.args;have h4:(AZ x).length≤(readsC x).length+1:=by
   unfold AZ;rw[List.length_append];split <;> simp
  simp only[List.flatMap_cons,List.length_append,Co];omega
theorem N0(l:List Block):(l.flatMap fun b=>b.ins.flatMap AZ).length≤Co Bc.bulk l:=by
 induction l with
 |nil=>simp[Co]
 |cons b l ih=>
  have h1:=SR b.ins;have h2:=Dt b;simp only[List.flatMap_cons,List.length_append,Co];omega
theorem Se{f:Func}(h:Cl.bulk f≤2097152):(QA f).length≤2097152:=by
 have h1:=N0 f.blocks;have h2:=E7 f;have e:(QA f).length=(f.blocks.flatMap fun b=>b.ins.flatMap AZ).length:=rfl;omega
theorem HJ{f:Func}(ho:okFunc f)(h:Cl.bulk f≤2097152):FineF f:=⟨ho,Pz h,PF h,Se h,RH h⟩
theorem LO{ρ:Type}{step:Int→M (Int⊕(Unit⊕ρ))}{p:Nat→Bool}{v:ρ}{n:Nat}
 (h:∀k,k < n→(step (k:Int)).to (if p k then .inr (.inr v)else .inl ((k+1:Nat):Int))) (ho:(step (n:Int)).to (.inr (.inl ()))):(M.loop step 0).to (if(List.range n).any p then .inr v else .inl ()):=by
 have key:∀(d k:Nat),k+d=n→(M.loop step (k:Int)).to (if(List.range' k d).any p then .inr v else .inl ()):=by
  intro d;induction d with
  |zero=>
   intro k hk;have:k=n:=by omega
   subst this;exact M.loop_out ho
  |succ d ih=>
   intro k hk;have hs:=h k (by omega);rw[List.range'_succ,List.any_cons];by_cases hp:p k=true
   ·rw[hp]at hs⊢;exact M.loop_out hs
   ·have hp:p k=false:=by simpa using hp
    rw[hp]at hs⊢;rw[Bool.false_or];exact M.loop_in hs (ih (k+1) (by omega))
 have:=key n 0 (by omega);rwa [←List.range_eq_range']at this
theorem Oj{ρ:Type}{x:M (Unit⊕ρ)}{c:Bool}{v d:ρ}(h:x.to (if c then .inr v else .inl ())):(M.els x fun _=>M.ok d).to (if c then v else d):=by
 cases c
 ·exact M.els_l h (Ad _)
 ·exact M.els_r h
theorem Oo{α:Type}{l:List α}{p:Nat→Bool}{q:α→Bool}(h:∀k x,l[k]? =some x→p k=q x):(List.range l.length).any p=l.any q:=by
 rw[Bool.eq_iff_iff,List.any_eq_true,List.any_eq_true];constructor
 ·rintro⟨k,hk,hp⟩;have hk:=List.mem_range.1 hk;exact⟨l[k],List.getElem_mem hk,by rw[←h k _ (List.getElem?_eq_getElem hk)];exact hp⟩
 ·rintro⟨x,hx,hq⟩;obtain⟨k,hk⟩:=List.mem_iff_getElem?.1 hx;exact⟨k,List.mem_range.2 (List.getElem?_eq_some_iff.1 hk).1,by rw[h k x hk];exact hq⟩
theorem snoc_ind{α:Type}{motive:List α→Prop}(nil:motive [])(append_singleton:∀l x,motive l→motive (l++[x]))(l:List α):motive l:=by
 have h:∀l:List α,motive l.reverse:=fun l=>by
  induction l with
  |nil=>exact nil
  |cons x l ih=>rw[List.reverse_cons];exact append_singleton _ _ ih
 have:=h l.reverse;rwa [List.reverse_reverse]at this
def P6(s:List Bool):Nat:=(s.filter id).length
theorem UK:∀(s:List Bool),P6 s≤s.length:=fun s=>List.length_filter_le _ _
def WG(s t:List Bool):Prop:=s.length=t.length∧∀i:Nat,s[i]? =some true→t[i]? =some true
theorem D1{s:List Bool}:WG s s:=⟨rfl,fun _ h=>h⟩
theorem WG.tr{s t u:List Bool}(h:WG s t)(k:WG t u):WG s u:=⟨h.1.trans k.1,fun i hi=>k.2 i (h.2 i hi)⟩
theorem DT:∀{s t:List Bool},WG s t→P6 s≤P6 t∧(P6 s=P6 t→s=t)
 | [],[],_=>⟨Nat.le_refl _,fun _=>rfl⟩
 | [],_::_,h=>by have:=h.1;simp at this
 |_::_,[],h=>by have:=h.1;simp at this
 |a::s,b::t,h=>by
  have hst:WG s t:=⟨by have:=h.1;simpa using this,fun i hi=>by have:=h.2 (i+1);simpa using this (by simpa using hi)⟩
  obtain⟨h1,h2⟩:=DT hst;have h0:a=true→b=true:=fun e=>by have:=h.2 0;simpa using this (by simpa using e)
  unfold P6 at *;cases a <;> cases b
  ·simp only[List.filter_cons,id,Bool.false_eq_true,if_false];exact⟨h1,fun e=>by rw[h2 e]⟩
  ·simp only[List.filter_cons,id,Bool.false_eq_true,if_false,if_true,List.length_cons];exact⟨by omega,fun e=>by omega⟩
  ·exact absurd (h0 rfl) (by simp)
  ·simp only[List.filter_cons,id,if_true,List.length_cons];exact⟨by omega,fun e=>by rw[h2 (by omega)]⟩
def Dq(f:List Bool→List Bool):Nat→List Bool→List Bool
 |0,s=>s
 |n+1,s=>f (Dq f n s)
theorem Gi{f:List Bool→List Bool}(hf:∀s,WG s (f s))(n:Nat)(s:List Bool):WG s (Dq f n s):=by
 induction n with
 |zero=>exact D1
 |succ n ih=>exact ih.tr (hf _)
theorem MX{f:List Bool→List Bool}(hf:∀s,WG s (f s))(s:List Bool)(n:Nat)(hn:s.length≤n):f (Dq f n s)=Dq f n s:=by
 have key:∀k,f (Dq f k s)=Dq f k s∨k < P6 (Dq f (k+1) s):=by
  intro k;induction k with
  |zero=>
   by_cases e:P6 s=P6 (f s)
   ·exact .inl ((DT (hf s)).2 e).symm
   ·refine .inr ?_;have:=(DT (hf s)).1;show 0 < P6 (f s);omega
  |succ k ih=>
   by_cases e:P6 (Dq f (k+1) s)=P6 (f (Dq f (k+1) s))
   ·exact .inl ((DT (hf _)).2 e).symm
   ·have h1:=(DT (hf (Dq f (k+1) s))).1;rcases ih with h|h
    ·refine .inl ?_;show f (f (Dq f k s))=f (Dq f k s);rw[h,h]
    ·refine .inr ?_;show k+1 < P6 (f (Dq f (k+1) s));omega
 rcases key n with h|h
 ·exact h
 ·have h1:=UK (Dq f (n+1) s);have h2:=(Gi hf (n+1) s).1;omega
def CE(g:List Bool→Nat→List Bool)(n:Nat)(s:List Bool):List Bool:=(List.range n).foldl g s
theorem Dr{g:List Bool→Nat→List Bool}{n:Nat}{s:List Bool}:CE g (n+1) s=g (CE g n s) n:=by
 unfold CE;rw[List.range_succ,List.foldl_append];rfl
theorem De{g:List Bool→Nat→List Bool}(hg:∀s b,WG s (g s b))(n:Nat)(s:List Bool):WG s (CE g n s):=by
 induction n with
 |zero=>exact D1
 |succ n ih=>rw[Dr];exact ih.tr (hg _ _)
theorem Tb{s t:List Bool}(h:WG s t)(k:WG t s):s=t:=(DT h).2 (Nat.le_antisymm (DT h).1 (DT k).1)
theorem M3{g:List Bool→Nat→List Bool}(hg:∀s b,WG s (g s b)){n:Nat}{s:List Bool}(h:CE g n s=s):∀k,k < n→CE g k s=s∧g s k=s:=by
 have hle:∀(k d:Nat),WG (CE g k s) (CE g (k+d) s):=fun k d=>by
  induction d with
  |zero=>exact D1
  |succ d ih=>exact ih.tr (by rw[show k+(d+1)=(k+d)+1 by omega,Dr];exact hg _ _)
 have hk:∀k,k≤n→CE g k s=s:=fun k hk=>by
  have:=hle k (n - k);rw[show k+(n - k)=n by omega,h]at this;exact Tb this (De hg k s)
 intro k hkn;have h1:=hk k (by omega);have h2:=hk (k+1) (by omega);rw[Dr,h1]at h2;exact⟨h1,h2⟩
theorem Im{s:List Bool}(i:Nat):WG s (s.set i true):=⟨by simp,fun j hj=>by
 rw[List.getElem?_set];split
 ·rename_i e;subst e;rw[if_pos (List.getElem?_eq_some_iff.1 hj).1]
 ·exact hj⟩
theorem GY{s:List Bool}{b:Int}(h0:0≤b):ixD s b=true↔s[b.toNat]? =some true:=by
 unfold ixD;rw[List.getD_eq_getElem?_getD];cases s[b.toNat]? with
 |none=>constructor <;> intro h <;> cases h
 |some v=>simp
section
variable{f:Func}
def Ic(no:Int)(s:List Bool)(l:List Int):List Bool:=l.foldl (fun s x=>if x !=no then s.set x.toNat true else s) s
theorem JB(no:Int):∀(l:List Int) (s:List Bool),WG s (Ic no s l)
 | [],s=>D1
 |x::l,s=>by
  unfold Ic;rw[List.foldl_cons];refine WG.tr ?_ (JB no l _);split
  ·exact Im _
  ·exact D1
theorem JA{no x:Int}{s:List Bool}{l:List Int}:Ic no s (l++[x])=if x !=no then(Ic no s l).set x.toNat true else Ic no s l:=by
 unfold Ic;rw[List.foldl_append];rfl
theorem T5{no:Int}{s:List Bool}{i:Nat}:∀{l:List Int},(Ic no s l)[i]? =some true→s[i]? =some true∨∃x∈l,x≠no∧x.toNat=i:=by
 intro l;induction l using snoc_ind with
 |nil=>exact .inl
 |append_singleton l x ih=>
  rw[JA];by_cases e:(x !=no)=true
  ·rw[if_pos e,List.getElem?_set];split
   ·rename_i h;exact fun _=>.inr ⟨x,by simp,by simpa using e,h⟩
   ·intro h;rcases ih h with h|⟨y,hy,h⟩
    ·exact .inl h
    ·exact .inr ⟨y,List.mem_append_left _ hy,h⟩
  ·rw[if_neg e];intro h;rcases ih h with h|⟨y,hy,h⟩
   ·exact .inl h
   ·exact .inr ⟨y,List.mem_append_left _ hy,h⟩
theorem SM{no:Int}{s:List Bool}{x:Int}:∀{l:List Int},x∈l→x≠no→x.toNat < s.length→(Ic no s l)[x.toNat]? =some true:=by
 intro l;induction l using snoc_ind with
 |nil=>intro h;cases h
 |append_singleton l y ih=>
  intro hx hn hl;have hlen:=(JB no l s).1;rw[JA];rcases List.mem_append.1 hx with h|h
  ·split
   ·exact(Im _).2 _ (ih h hn hl)
   ·exact ih h hn hl
  ·rw[List.mem_singleton.1 h]at hn hl⊢;rw[if_pos (by simpa using hn),List.getElem?_set_self (by omega)]
def BY(f:Func)(no:Int)(s:List Bool)(b:Nat):List Bool:=if ixD s (b:Int)then Ic no s (nextL f (b:Int))else s
theorem Fe(no:Int)(s:List Bool)(b:Nat):WG s (BY f no s b):=by
 unfold BY;split
 ·exact JB no _ s
 ·exact D1
def FT(f:Func)(no:Int):List Bool:=if 0 < f.blocks.length∧no≠0 then(List.replicate f.blocks.length false).set 0 true else List.replicate f.blocks.length false
theorem J1(no:Int):(FT f no).length=f.blocks.length:=by unfold FT;split <;> simp
noncomputable def I1(f:Func)(no:Int):List Bool:=Dq (CE (BY f no) f.blocks.length) f.blocks.length (FT f no)
theorem G4(no:Int):(I1 f no).length=f.blocks.length:=by
 have:=(Gi (De (Fe (f:=f) no) f.blocks.length) f.blocks.length (FT f no)).1;rw[J1]at this;exact this.symm
theorem NP{no:Int}{s:List Bool}(hs:∀i:Nat,s[i]? =some true→RchF f no (i:Int))(b:Nat):∀i:Nat,(BY f no s b)[i]? =some true→RchF f no (i:Int):=fun i hi=>by
 unfold BY at hi;split at hi
 ·rename_i h;rcases T5 hi with h1|⟨x,hx,hn,rfl⟩
  ·exact hs i h1
  ·have hb:=hs b (by have:=(GY (s:=s) (b:=(b:Int)) (by omega)).1 h;simpa using this);have h0:=(BM hx).1;rw[Int.toNat_of_nonneg h0];exact .step hb hx hn
 ·exact hs i hi
theorem Pt(no:Int):∀i:Nat,(I1 f no)[i]? =some true→RchF f no (i:Int):=by
 have h0:∀i:Nat,(FT f no)[i]? =some true→RchF f no (i:Int):=fun i hi=>by
  unfold FT at hi;split at hi
  ·rename_i h;rw[List.getElem?_set]at hi;split at hi
   ·rename_i e;subst e;exact .start h.2 h.1
   ·rw[List.getElem?_replicate]at hi;split at hi <;> simp at hi
  ·rw[List.getElem?_replicate]at hi;split at hi <;> simp at hi
 have h1:∀(n:Nat) (s:List Bool),(∀i:Nat,s[i]? =some true→RchF f no (i:Int))→∀i:Nat,(CE (BY f no) n s)[i]? =some true→RchF f no (i:Int):=fun n s hs=>by
  induction n with
  |zero=>exact hs
  |succ n ih=>rw[Dr];exact NP ih n
 unfold I1;generalize f.blocks.length=m;have h2:∀k (i:Nat),(Dq (CE (BY f no) m) k (FT f no))[i]? =some true→RchF f no (i:Int):=fun k=>by
  induction k with
  |zero=>exact h0
  |succ k ih=>exact h1 m _ ih
 exact h2 m
theorem Lp(no:Int){b:Int}(h0:0≤b):ixD (I1 f no) b=true↔RchF f no b:=by
 rw[GY h0];constructor
 ·intro h;have:=Pt no _ h;rwa [Int.toNat_of_nonneg h0]at this
 ·intro h;have hfix:=MX (De (Fe (f:=f) no) f.blocks.length) (FT f no) f.blocks.length (by rw[J1];exact Nat.le_refl _);have hst:=M3 (Fe (f:=f) no) hfix;have hle:=Gi (De (Fe (f:=f) no) f.blocks.length) f.blocks.length (FT f no);change CE (BY f no) f.blocks.length (I1 f no)=I1 f no at hfix;change∀k,k < f.blocks.length→CE (BY f no) k (I1 f no)=I1 f no∧BY f no (I1 f no) k=I1 f no at hst;change WG (FT f no) (I1 f no)at hle;induction h with
  |start h1 h2=>
   refine hle.2 _ ?_;unfold FT;rw[if_pos ⟨h2,h1⟩];exact List.getElem?_set_self (by simpa using h2)
  |step ha hb hn ih=>
   have ha0:=ha.lt;have ih:=ih ha0.1;have hs:=(hst _ ha0.2).2;unfold BY at hs;rw[Int.toNat_of_nonneg ha0.1,if_pos ((GY ha0.1).2 ih)]at hs;rw[←hs];exact SM hb hn (by rw[G4];exact(BM hb).2)
theorem JU(c:FineF f)(b:Int):(Hq f b).to (nextL f b):=Ae (BL.2 c) (Ad _)
theorem KL(c:FineF f)(no:Int):(Dp f no).to (I1 f no):=by
 have hn:=c.small.blocks;unfold Dp;refine Ae (by unfold JW maxLen;simp;omega) (Ac (a:=FT f no) ?_ (Ac (a:=I1 f no) ?_ (Ad _)))
 ·rw[Int.toNat_natCast,List.length_replicate];unfold FT;by_cases h:0 < f.blocks.length∧no≠0
  ·rw[if_pos h];exact Ax (by simp;omega) (Ae (Bt.2 ⟨Int.le_refl _,by simpa using h.1⟩) (Ad _))
  ·rw[if_neg h];refine Ao ?_ (Ad _);rw[←Bool.not_eq_true];simp;omega
 ·refine Ay (step:=CF f no) (fun k:Nat=>((k:Int),Dq (CE (BY f no) f.blocks.length) k (FT f no))) f.blocks.length (fun k hk=>?_) ?_ (Nat.zero_le _)
  ·have hlen:(Dq (CE (BY f no) f.blocks.length) k (FT f no)).length=f.blocks.length:=by
    have:=(Gi (De (Fe (f:=f) no) f.blocks.length) k (FT f no)).1;rw[J1]at this;exact this.symm
   simp only[CF,Dq,hlen];generalize Dq (CE (BY f no) f.blocks.length) k (FT f no)=s at hlen⊢;refine Ax (decide_eq_true (by omega)) (Ac (a:=CE (BY f no) f.blocks.length s) ?_ (by rw[LT hk (by omega)];exact Ad _));refine Ay (step:=Cq f no) (fun k:Nat=>((k:Int),CE (BY f no) k s)) f.blocks.length (fun b hb=>?_) ?_ (Nat.zero_le _)
   ·have hlb:(CE (BY f no) b s).length=f.blocks.length:=by
     have:=(De (Fe (f:=f) no) b s).1;rw[hlen]at this;exact this.symm
    simp only[Cq,hlb];rw[Dr];generalize CE (BY f no) b s=u at hlb⊢;refine Ax (decide_eq_true (by omega)) (Ac (JU c _) (Ac (a:=BY f no u b) ?_ (by rw[LT hb (by omega)];exact Ad _)));have hnl:=FP f (b:Int);have hbin:∀v:List Bool,v.length=f.blocks.length→Bq v (b:Int)=true:=fun v hv=>AW (by omega)
    unfold BY;by_cases hub:ixD u (b:Int)=true
    ·rw[if_pos hub];refine Ay (step:=B2 no (b:Int) (nextL f (b:Int))) (fun k:Nat=>((k:Int),Ic no u ((nextL f (b:Int)).take k))) (nextL f (b:Int)).length (fun q hq=>?_) ?_ (Nat.zero_le _)
     ·obtain⟨x,hx⟩:∃x,(nextL f (b:Int))[q]? =some x:=⟨_,List.getElem?_eq_getElem hq⟩
      have hxr:=BM (List.mem_of_getElem? hx);have hl2:=(JB no ((nextL f (b:Int)).take q) u)
      have hlv:(Ic no u ((nextL f (b:Int)).take q)).length=f.blocks.length:=by rw[←hl2.1];exact hlb
      have htr:ixD (Ic no u ((nextL f (b:Int)).take q)) (b:Int)=true:=by
       rw[GY (by omega)]at hub⊢;exact hl2.2 _ hub
      have htk:(nextL f (b:Int)).take (q+1)=(nextL f (b:Int)).take q++[x]:=by rw[List.take_add_one,hx];rfl
      simp only[B2,Bj hx];rw[htk,JA];refine Ae (by rw[hbin _ hlv];simp) (Ax (by rw[htr,Bool.and_true];exact decide_eq_true (by omega)) (Ac (Ae (AW hq) ?_) (by rw[LT hq (by omega)];exact Ad _)));by_cases hxn:(x !=no)=true
      ·rw[if_pos hxn];exact Ax hxn (Ae (AW hq) (Ae (Bt.2 ⟨hxr.1,by rw[hlv];exact hxr.2⟩) (Ad _)))
      ·rw[if_neg hxn];exact Ao (by simpa using hxn) (Ad _)
     ·rw[List.take_length];have hlv:(Ic no u (nextL f (b:Int))).length=f.blocks.length:=by rw[←(JB no (nextL f (b:Int)) u).1];exact hlb
      simp only[B2];exact Ae (by rw[hbin _ hlv];simp) (Ao (by rw[decide_eq_false (by omega)];rfl) (Ad _))
    ·rw[if_neg hub];refine M.loop_out ?_;simp only[B2];exact Ae (by rw[hbin _ hlb];simp) (Ao (by rw[Bool.not_eq_true]at hub;rw[hub,Bool.and_false]) (Ad _))
   ·have hlb:(CE (BY f no) f.blocks.length s).length=f.blocks.length:=by
     have:=(De (Fe (f:=f) no) f.blocks.length s).1;rw[hlen]at this;exact this.symm
    simp only[Cq,hlb];exact Ao (decide_eq_false (by omega)) (Ad _)
  ·have:=G4 (f:=f) no;unfold I1 at this;simp only[CF,this];exact Ao (decide_eq_false (by omega)) (Ad _)
theorem IH(c:FineF f):(Ek f).to (I1 f (-1)):=Ac (KL c (-1)) (Ad _)
open Classical in
noncomputable def Qd(f:Func)(a:Nat)(b:Nat):List Int:=((List.range a).map fun k:Nat=>(k:Int)).filter fun x=>decide (RchF f (-1) (b:Int)∧¬RchF f x (b:Int))
noncomputable def G2(f:Func)(a b:Nat):List (List Int):=(List.range f.blocks.length).map fun i=>if i < b then Qd f (a+1) i else Qd f a i
theorem CB(a b:Nat):(G2 f a b).length=f.blocks.length:=by simp[G2]
theorem DB{a b i:Nat}(hi:i < f.blocks.length):(G2 f a b)[i]? =some (if i < b then Qd f (a+1) i else Qd f a i):=by
 unfold G2;rw[List.getElem?_map,List.getElem?_range hi];rfl
open Classical in
theorem Sh(a b:Nat):Qd f (a+1) b=Qd f a b++(if RchF f (-1) (b:Int)∧¬RchF f (a:Int) (b:Int)then [(a:Int)]else []):=by
 unfold Qd;rw[HK];simp
theorem Sf{a b:Nat}(hb:b < f.blocks.length):G2 f a (b+1)=(G2 f a b).set b (Qd f (a+1) b):=by
 refine List.ext_getElem? fun i=>?_
 rw[List.getElem?_set,CB];by_cases hi:i < f.blocks.length
 ·rw[DB hi,DB hi];by_cases e:b=i
  ·subst e;rw[if_pos rfl,if_pos hi,if_pos (by omega)]
  ·rw[if_neg e];by_cases h:i < b
   ·rw[if_pos h,if_pos (by omega)]
   ·rw[if_neg h,if_neg (by omega)]
 ·rw[List.getElem?_eq_none (by rw[CB];omega),List.getElem?_eq_none (by rw[CB];omega)];split
  ·rename_i e;exact absurd hb (by omega)
  ·rfl
theorem TC(a:Nat):G2 f a f.blocks.length=G2 f (a+1) 0:=by
 refine List.ext_getElem? fun i=>?_
 by_cases hi:i < f.blocks.length
 ·rw[DB hi,DB hi,if_pos hi,if_neg (by omega)]
 ·rw[List.getElem?_eq_none (by rw[CB];omega),List.getElem?_eq_none (by rw[CB];omega)]
theorem TD(a b:Nat):(Qd f a b).length≤a:=Jj
theorem Sg:AboveP f (G2 f f.blocks.length 0):=by
 refine⟨⟨CB _ _,fun r hr=>?_,fun r hr x hx=>?_⟩,fun b x=>?_⟩
 ·obtain⟨i,hi⟩:=List.getElem?_of_mem hr;have hil:i < f.blocks.length:=by rw[←CB (f:=f) f.blocks.length 0];exact(List.getElem?_eq_some_iff.1 hi).1
  rw[DB hil,if_neg (by omega)]at hi;cases hi;exact(MF _).filter _
 ·obtain⟨i,hi⟩:=List.getElem?_of_mem hr;have hil:i < f.blocks.length:=by rw[←CB (f:=f) f.blocks.length 0];exact(List.getElem?_eq_some_iff.1 hi).1
  rw[DB hil,if_neg (by omega)]at hi;cases hi;exact Fk.1 (List.mem_filter.1 hx).1
 ·by_cases hb:0≤b∧b.toNat < f.blocks.length
  ·rw[CD hb.1];unfold ixD;rw[List.getD_eq_getElem?_getD,DB hb.2,if_neg (by omega)];show x∈Qd f f.blocks.length b.toNat↔_;unfold Qd;rw[Int.toNat_of_nonneg hb.1,List.mem_filter];simp only[decide_eq_true_eq];refine⟨(·.2),fun h=>⟨?_,h⟩⟩;refine Fk.2 ?_;refine Classical.byContradiction fun hx=>h.2 ?_
   have hne:∀c,RchF f (-1) c→c≠x:=fun c hc e=>hx (e▸hc.lt)
   have h1:=h.1;induction h1 with
   |start h1 h2=>exact .start (fun e=>hne 0 (.start h1 h2) e.symm) h2
   |step ha hb' hn ih=>exact .step (ih ha.lt ⟨ha,fun k=>h.2 (.step k hb' (hne _ (.step ha hb' hn)))⟩) hb' (hne _ (.step ha hb' hn))
  ·have e:Cp (G2 f f.blocks.length 0) b= []:=by
    unfold Cp;split
    ·rw[List.getD_eq_getElem?_getD,List.getElem?_eq_none (by rw[CB];omega)];rfl
    ·rfl
   rw[e];exact⟨(fun h=>by cases h),fun h=>absurd h.1.lt hb⟩
theorem Lc(c:FineF f):(EX f).to (G2 f f.blocks.length 0):=by
 have hn:=c.small.blocks;unfold EX;refine Ae (by unfold JW maxLen;simp;omega) (Ac (IH c) (Ac (a:=G2 f f.blocks.length 0) ?_ (Ad _)));have h0:List.replicate (Int.toNat (f.blocks.length:Int)) ([]:List Int)=G2 f 0 0:=by
  rw[Int.toNat_natCast];refine List.ext_getElem? fun i=>?_
  rw[List.getElem?_replicate];by_cases hi:i < f.blocks.length
  ·rw[if_pos hi,DB hi,if_neg (by omega)];rfl
  ·rw[if_neg hi,List.getElem?_eq_none (by rw[CB];omega)]
 rw[h0];refine Ay (step:=DM f (I1 f (-1))) (fun a:Nat=>((a:Int),G2 f a 0)) f.blocks.length (fun a ha=>?_) ?_ (Nat.zero_le _)
 ·simp only[DM];refine Ax (decide_eq_true (by omega)) (Ac (KL c _) (Ac (a:=G2 f (a+1) 0) ?_ (by rw[LT ha (by omega)];exact Ad _)));rw[←TC];refine Ay (step:=C4 f (I1 f (-1)) (a:Int) (I1 f (a:Int))) (fun b:Nat=>((b:Int),G2 f a b)) f.blocks.length (fun b hb=>?_) ?_ (Nat.zero_le _)
  ·simp only[C4];have hb1:Bq (I1 f (-1)) (b:Int)=true:=AW (by rw[G4];exact hb);have hb2:Bq (I1 f (a:Int)) (b:Int)=true:=AW (by rw[G4];exact hb);have hb3:Bq (G2 f a b) (b:Int)=true:=AW (by rw[CB];exact hb);have hrow:ixD (G2 f a b) (b:Int)=Qd f a b:=Bj (by rw[DB hb,if_neg (by omega)]);have hpl:=TD (f:=f) a b;have h1:=Lp (f:=f) (-1) (b:=(b:Int)) (by omega);have h2:=Lp (f:=f) (a:Int) (b:=(b:Int)) (by omega);refine Ax (decide_eq_true (by omega)) (Ac (a:=G2 f a (b+1)) (Ae hb1 (Ae (by rw[hb2];simp) ?_)) (by rw[LT hb (by omega)];exact Ad _));rw[Sf hb,Sh,hrow];by_cases hc:RchF f (-1) (b:Int)∧¬RchF f (a:Int) (b:Int)
   ·rw[if_pos hc];have e1:=h1.2 hc.1;have e2:ixD (I1 f (a:Int)) (b:Int)=false:=by rw[←Bool.not_eq_true];exact fun e=>hc.2 (h2.1 e)
    rw[Int.toNat_natCast];refine Ax (by rw[e1,e2];rfl) (Ae (by unfold WJ;simp;omega) (Ae hb3 (Ae (Wb (n:=f.blocks.length) (by omega) (by simpa using ha) (by omega)) (Ae (Ku (by simp only[List.length_cons,List.length_nil];omega)) (Ae (AW (by rw[List.length_set,CB];exact hb)) (Ad _))))))
   ·rw[if_neg hc,List.append_nil];have e:(G2 f a b).set b (Qd f a b)=G2 f a b:=by
     refine List.ext_getElem? fun i=>?_
     rw[List.getElem?_set];split
     ·rename_i e;subst e;rw[if_pos (by rw[CB];exact hb),DB hb,if_neg (by omega)]
     ·rfl
    rw[e];refine Ao ?_ (Ad _);rw[←Bool.not_eq_true];intro e;rw[Bool.and_eq_true,h1,Bool.not_eq_true',←Bool.not_eq_true,h2]at e;exact hc e
  ·simp only[C4];exact Ao (decide_eq_false (by omega)) (Ad _)
 ·simp only[DM];exact Ao (decide_eq_false (by omega)) (Ad _)
end
section
variable{f:Func}{out:List (List Int)}
theorem Og{l:List Int}{n:Int}(hn:l.length≤4611686018427387904):(JJ l n).to (l.contains n):=by
 have h:=LO (step:=FL l n) (p:=fun k=>l.getD k 0 ==n) (v:=true) (n:=l.length) (fun k hk=>?_) ?_
 ·unfold JJ;have h2:=Oj (d:=false) h;rw[Oo (q:=fun x=>x ==n) fun k x hx=>by rw[List.getD,hx];rfl]at h2;have e:(if(l.any fun x=>x ==n)=true then true else false)=l.contains n:=by
   rw[show l.contains n=l.any fun x=>x ==n by rw[List.contains_eq_any_beq];congr 1;funext x;exact Bool.beq_comm ..];cases l.any fun x=>x ==n <;> rfl
  rwa [e]at h2
 ·obtain⟨x,hx⟩:∃x,l[k]? =some x:=⟨_,List.getElem?_eq_getElem hk⟩
  have hd:l.getD k 0=x:=by rw[List.getD,hx];rfl
  unfold FL;rw[Bj hx,hd,LT hk hn];refine Ax (decide_eq_true (by omega)) (Ae (LS hk) ?_);by_cases h:(x ==n)=true
  ·rw[h];exact Ax rfl (Ad _)
  ·have h:(x ==n)=false:=by simpa using h
   rw[h];exact Ao rfl (Ad _)
 ·unfold FL;exact Ao (decide_eq_false (by omega)) (Ad _)
def G9(f:Func)(out:List (List Int))(h b:Int):Bool:=(nextL f b).contains h&&(Cp out b).contains h
theorem G8{h b:Int}:G9 f out h b=true↔b∈BO f out h:=by
 unfold G9 BO;rw[Bool.and_eq_true,List.mem_filter,Cc,List.contains_iff_mem]
theorem Lw(H:AboveP f out)(b:Int):(Cp out b).length≤f.blocks.length:=F4 (Es H.rows b) fun x hx=>I7 H.rows hx
theorem Mo(c:FineF f)(H:AboveP f out)(h:Int){b:Nat}(hb:b < f.blocks.length):(Gf f out h (b:Int)).to (G9 f out h (b:Int)):=by
 have hn:=c.small.blocks;have hin:Bq out (b:Int)=true:=AW (by rw[H.rows.len];exact hb);have hl:=FP f (b:Int);have hr:=Lw H (b:Int);unfold Gf G9;refine Ac (JU c _) (Ac (Og (by omega)) (Ae (by rw[hin];simp) ?_));rw[CD (by omega)]at hr⊢;by_cases hc:(nextL f (b:Int)).contains h=true
 ·exact Ac (AN hc (Og (by omega))) (Ad _)
 ·have hc:(nextL f (b:Int)).contains h=false:=by simpa using hc
  rw[hc,Bool.false_and];exact Ac (M.whn_f rfl) (Ad _)
theorem KD{p:Nat→Bool}{k:Nat}:(List.range (k+1)).any p=((List.range k).any p||p k):=by
 rw[List.range_succ,List.any_append];simp
theorem Vb(h:Int):((List.range f.blocks.length).any fun b:Nat=>G9 f out h (b:Int))= !(BO f out h).isEmpty:=by
 rw[Bool.eq_iff_iff,List.any_eq_true];constructor
 ·rintro⟨b,_,hb⟩;have:=G8.1 hb;simpa using List.ne_nil_of_mem this
 ·intro e;obtain⟨b,hb⟩:=List.exists_mem_of_ne_nil (BO f out h) (by simpa using e);have hr:=Hs (Cc.1 (List.mem_filter.1 hb).1);refine⟨b.toNat,List.mem_range.2 hr.2,G8.2 ?_⟩;rwa [Int.toNat_of_nonneg hr.1]
theorem Gj(c:FineF f)(H:AboveP f out):(Ei f).to (Cf f out):=by
 have hn:=c.small.blocks;have hA:=Lc c;rw[H.uniq Sg];rw[H.uniq Sg]at H;unfold Ei;refine Ac hA (Ac (a:=Cf f (G2 f f.blocks.length 0)) (Ay (fun k:Nat=>((k:Int),((List.range k).map fun k:Nat=>(k:Int)).filter fun h=>!(BO f (G2 f f.blocks.length 0) h).isEmpty)) f.blocks.length (fun k hk=>?_) ?_ (Nat.zero_le _)) (Ad _))
 ·simp only[Et];refine Ax (decide_eq_true (by omega)) (Ac (a:=((List.range (k+1)).map fun k:Nat=>(k:Int)).filter fun h=>!(BO f (G2 f f.blocks.length 0) h).isEmpty) (Ac (a:=!(BO f (G2 f f.blocks.length 0) (k:Int)).isEmpty) ?_ ?_) ?_)
  ·rw[←Vb];refine Ay (step:=C1 f (G2 f f.blocks.length 0) (k:Int)) (fun j:Nat=>((List.range j).any fun b:Nat=>G9 f (G2 f f.blocks.length 0) (k:Int) (b:Int),(j:Int))) f.blocks.length (fun j hj=>?_) ?_ (Nat.zero_le _)
   ·simp only[C1];rw[KD];refine Ax (decide_eq_true (by omega)) ?_;cases(List.range j).any fun b:Nat=>G9 f (G2 f f.blocks.length 0) (k:Int) (b:Int)with
    |true=>exact Ac (M.whn_f rfl) (by rw[LT hj (by omega)];exact Ad _)
    |false=>exact Ac (AN rfl (Mo c H _ hj)) (by rw[LT hj (by omega)];exact Ad _)
   ·simp only[C1];exact Ao (decide_eq_false (by omega)) (Ad _)
  ·rw[HK];cases ht:BO f (G2 f f.blocks.length 0) (k:Int)with
   |nil=>simp;exact Ao rfl (Ad _)
   |cons x l=>
    simp only[List.isEmpty_cons,Bool.not_false,if_true];have:=Jj (p:=fun h=>!(BO f (G2 f f.blocks.length 0) h).isEmpty) (k:=k);exact Ax rfl (Ae (Wb (by omega) (n:=f.blocks.length) (by simpa using hk) (by omega)) (Ae (Ku (by simp only[List.length_cons,List.length_nil];omega)) (Ad _)))
  ·rw[LT hk (by omega)];exact Ad _
 ·simp only[Et];exact Ao (decide_eq_false (by omega)) (Ad _)
def innL(h:Int)(b:Nat)(s:List Bool)(l:List Int):List Bool:=l.foldl (fun s x=>if x !=h&&ixD s x then s.set b true else s) s
theorem Hx{h x:Int}{b:Nat}{s:List Bool}{l:List Int}:innL h b s (l++[x])=if x !=h&&ixD (innL h b s l) x then(innL h b s l).set b true else innL h b s l:=by
 unfold innL;rw[List.foldl_append];rfl
theorem LQ(h:Int)(b:Nat)(s:List Bool):∀l:List Int,WG s (innL h b s l):=fun l=>by
 induction l using snoc_ind with
 |nil=>exact D1
 |append_singleton l x ih=>
  rw[Hx];split
  ·exact ih.tr (Im _)
  ·exact ih
theorem Uw{h:Int}{b:Nat}{s:List Bool}{i:Nat}:∀{l:List Int},(∀x∈l,0≤x)→(innL h b s l)[i]? =some true→s[i]? =some true∨(i=b∧∃x∈l,x≠h∧s[x.toNat]? =some true):=by
 intro l;induction l using snoc_ind generalizing i with
 |nil=>exact fun _=>.inl
 |append_singleton l x ih=>
  intro h0;have hl0:∀x∈l,0≤x:=fun y hy=>h0 y (List.mem_append_left _ hy)
  rw[Hx];have up:(s[i]? =some true∨(i=b∧∃y∈l,y≠h∧s[y.toNat]? =some true))→s[i]? =some true∨(i=b∧∃y∈l++[x],y≠h∧s[y.toNat]? =some true):=fun e=>by
   rcases e with e|⟨e1,y,hy,e2⟩
   ·exact .inl e
   ·exact .inr ⟨e1,y,List.mem_append_left _ hy,e2⟩
  split
  ·rename_i hc;rw[Bool.and_eq_true]at hc;intro hi;rw[List.getElem?_set]at hi;split at hi
   ·rename_i e;have hx:=(GY (h0 x (by simp))).1 hc.2;rcases ih hl0 hx with k|⟨_,y,hy,k⟩
    ·exact .inr ⟨e.symm,x,by simp,by simpa using hc.1,k⟩
    ·exact .inr ⟨e.symm,y,List.mem_append_left _ hy,k⟩
   ·exact up (ih hl0 hi)
  ·exact fun hi=>up (ih hl0 hi)
theorem Tf{h x:Int}{b:Nat}{s:List Bool}(hb:b < s.length):∀{l:List Int},x∈l→x≠h→0≤x→s[x.toNat]? =some true→(innL h b s l)[b]? =some true:=by
 intro l;induction l using snoc_ind with
 |nil=>intro e;cases e
 |append_singleton l y ih=>
  intro hx hn h0 hs;have hle:=LQ h b s l;rw[Hx];rcases List.mem_append.1 hx with e|e
  ·split
   ·exact(Im _).2 _ (ih e hn h0 hs)
   ·exact ih e hn h0 hs
  ·rw[←List.mem_singleton.1 e];have h1:ixD (innL h b s l) x=true:=(GY h0).2 (hle.2 _ hs);rw[if_pos (by rw[h1,Bool.and_true];simpa using hn)];exact List.getElem?_set_self (by rw[←hle.1];exact hb)
open Classical in
noncomputable def Ca(f:Func)(out:List (List Int))(h:Int)(s:List Bool)(b:Nat):List Bool:=
 if(b:Int)=h∨¬RchF f (-1) (b:Int)then s else innL h b (if G9 f out h (b:Int)then s.set b true else s) (nextL f (b:Int))
theorem Hc(h:Int)(s:List Bool)(b:Nat):WG s (Ca f out h s b):=by
 unfold Ca;split
 ·exact D1
 ·refine WG.tr ?_ (LQ h b _ _);split
  ·exact Im _
  ·exact D1
noncomputable def WI(f:Func)(out:List (List Int))(h:Int):List Bool:=Dq (CE (Ca f out h) f.blocks.length) (f.blocks.length+1) (List.replicate f.blocks.length false)
theorem Od(h:Int):(WI f out h).length=f.blocks.length:=by
 have:=(Gi (De (Hc (f:=f) (out:=out) h) f.blocks.length) (f.blocks.length+1) (List.replicate f.blocks.length false)).1;rw[List.length_replicate]at this;exact this.symm
theorem RE(H:AboveP f out)(h:Int):∀i:Nat,(WI f out h)[i]? =some true→LoopI f h (i:Int):=by
 have hstep:∀(s:List Bool) (b:Nat),(∀i:Nat,s[i]? =some true→LoopI f h (i:Int))→∀i:Nat,(Ca f out h s b)[i]? =some true→LoopI f h (i:Int):=fun s b hs i hi=>by
  unfold Ca at hi;split at hi
  ·exact hs i hi
  ·rename_i hc;have hbh:(b:Int)≠h:=fun e=>hc (.inl e)
   have hbr:RchF f (-1) (b:Int):=Classical.byContradiction fun e=>hc (.inr e)
   have hs1:∀i:Nat,(if G9 f out h (b:Int)=true then s.set b true else s)[i]? =some true→LoopI f h (i:Int):=fun i hi=>by
    split at hi
    ·rename_i ht;rw[List.getElem?_set]at hi;split at hi
     ·rename_i e;subst e;have:=(Dy H).1 (G8.1 ht);exact .tail hbh this.1 hbr this.2.2
     ·exact hs i hi
    ·exact hs i hi
   rcases Uw (fun x hx=>(BM hx).1) hi with k|⟨rfl,x,hx,hn,k⟩
   ·exact hs1 i k
   ·have:=hs1 _ k;rw[Int.toNat_of_nonneg (BM hx).1]at this;exact .step hbh hbr hx hn this
 have h1:∀(n:Nat) (s:List Bool),(∀i:Nat,s[i]? =some true→LoopI f h (i:Int))→∀i:Nat,(CE (Ca f out h) n s)[i]? =some true→LoopI f h (i:Int):=fun n s hs=>by
  induction n with
  |zero=>exact hs
  |succ n ih=>rw[Dr];exact hstep _ _ ih
 unfold WI;have h2:∀k (i:Nat),(Dq (CE (Ca f out h) f.blocks.length) k (List.replicate f.blocks.length false))[i]? =some true→LoopI f h (i:Int):=fun k=>by
  induction k with
  |zero=>
   intro i hi;have hi:(List.replicate f.blocks.length false)[i]? =some true:=hi;rw[List.getElem?_replicate]at hi;split at hi <;> simp at hi
  |succ k ih=>exact h1 _ _ ih
 exact h2 _
theorem Uu(H:AboveP f out)(h:Int){b:Int}(h0:0≤b):ixD (WI f out h) b=true↔LoopI f h b:=by
 rw[GY h0];constructor
 ·intro k;have:=RE H h _ k;rwa [Int.toNat_of_nonneg h0]at this
 ·intro k;have hfix0:=MX (De (Hc (f:=f) (out:=out) h) f.blocks.length) (List.replicate f.blocks.length false) f.blocks.length (by simp);have hfix:CE (Ca f out h) f.blocks.length (WI f out h)=WI f out h:=by
   unfold WI Dq;rw[hfix0,hfix0]
  have hst:=M3 (Hc (f:=f) (out:=out) h) hfix;induction k with
  |@tail b h1 h2 h3 h4=>
   have hs:=(hst _ h3.lt.2).2;have hin:b.toNat < (WI f out h).length:=by rw[Od];exact h3.lt.2
   unfold Ca at hs;rw[Int.toNat_of_nonneg h0,if_neg (fun e=>e.elim h1 fun e=>e h3),if_pos (G8.2 ((Dy H).2 ⟨h2,h3,h4⟩))]at hs;rw[←hs];exact(LQ _ _ _ _).2 _ (List.getElem?_set_self hin)
  |@step b k h1 h2 h3 h4 _ ih=>
   have hs:=(hst _ h2.lt.2).2;have hin:b.toNat < (WI f out h).length:=by rw[Od];exact h2.lt.2
   have hk0:=(BM h3).1;unfold Ca at hs;rw[Int.toNat_of_nonneg h0,if_neg (fun e=>e.elim h1 fun e=>e h2)]at hs;rw[←hs];refine Tf ?_ h3 h4 hk0 ?_
   ·split
    ·rw[List.length_set];exact hin
    ·exact hin
   ·have:=ih hk0;split
    ·exact(Im _).2 _ this
    ·exact this
theorem LV(h:Int):(Cf f out).contains h= !(BO f out h).isEmpty:=by
 unfold Cf;rw[Bool.eq_iff_iff,List.contains_iff_mem,List.mem_filter,Fk];refine⟨(·.2),fun e=>⟨?_,e⟩⟩;obtain⟨b,hb⟩:=List.exists_mem_of_ne_nil (BO f out h) (by simpa using e);exact Ls hb
theorem Gk:(Cf f out).length≤f.blocks.length:=by
 unfold Cf;have:=List.length_filter_le (fun h=>!(BO f out h).isEmpty) (Qz f);rwa [Tv]at this
open Classical in
theorem Hw(c:FineF f)(H:AboveP f out)(h:Int):(Gg f h).to (Bp f out h):=by
 have hn:=c.small.blocks;have hhl:=Gk (f:=f) (out:=out);unfold Gg;refine Ac (Gj c H) (Ac (Og (by omega)) ?_);rw[LV,Bool.not_not];cases ht:(BO f out h).isEmpty with
 |true=>
  have:Bp f out h= []:=by unfold Bp;rw[if_pos ht]
  rw[this];exact Ax rfl (Ad _)
 |false=>
  have hA:=Lc c;rw[←H.uniq Sg]at hA;refine Ao rfl (Ac hA (Ac (IH c) (Ae (by unfold JW maxLen;simp;omega) (Ac (a:=WI f out h) ?_ (Ac (a:=Bp f out h) ?_ (Ad _))))))
  ·rw[Int.toNat_natCast];unfold WI;refine Ay (step:=DJ f h out (I1 f (-1))) (fun k:Nat=>((k:Int),Dq (CE (Ca f out h) f.blocks.length) k (List.replicate f.blocks.length false))) (f.blocks.length+1) (fun k hk=>?_) ?_ (Nat.zero_le _)
   ·have hlen:(Dq (CE (Ca f out h) f.blocks.length) k (List.replicate f.blocks.length false)).length=f.blocks.length:=by
     have:=(Gi (De (Hc (f:=f) (out:=out) h) f.blocks.length) k (List.replicate f.blocks.length false)).1;rw[List.length_replicate]at this;exact this.symm
    simp only[DJ,Dq];generalize Dq (CE (Ca f out h) f.blocks.length) k (List.replicate f.blocks.length false)=s at hlen⊢;refine Ax (decide_eq_true (by omega)) (Ac (a:=CE (Ca f out h) f.blocks.length s) ?_ (by rw[LT hk (by omega)];exact Ad _));refine Ay (step:=DI f h out (I1 f (-1))) (fun k:Nat=>((k:Int),CE (Ca f out h) k s)) f.blocks.length (fun b hb=>?_) ?_ (Nat.zero_le _)
    ·have hlb:(CE (Ca f out h) b s).length=f.blocks.length:=by
      have:=(De (Hc (f:=f) (out:=out) h) b s).1;rw[hlen]at this;exact this.symm
     simp only[DI];rw[Dr];generalize CE (Ca f out h) b s=u at hlb⊢;have hrb:Bq (I1 f (-1)) (b:Int)=true:=AW (by rw[G4];exact hb);have hub:Bq u (b:Int)=true:=AW (by omega);refine Ax (decide_eq_true (by omega)) (Ac (a:=Ca f out h u b) (Ae (by rw[hrb];simp) ?_) (by rw[LT hb (by omega)];exact Ad _));have hwr:=Lp (f:=f) (-1) (b:=(b:Int)) (by omega);unfold Ca;by_cases hc:(b:Int)=h∨¬RchF f (-1) (b:Int)
     ·rw[if_pos hc];refine Ax ?_ (Ad _);rcases hc with e|e
      ·rw[e];simp
      ·rw[←hwr,Bool.not_eq_true]at e;rw[e];simp
     ·rw[if_neg hc];have hbh:((b:Int) ==h)=false:=by simpa using fun e=>hc (.inl e)
      have hbr:ixD (I1 f (-1)) (b:Int)=true:=hwr.2 (Classical.byContradiction fun e=>hc (.inr e));refine Ao (by rw[hbh,hbr];rfl) (Ac (a:=if G9 f out h (b:Int)=true then u.set b true else u) (Ac (Mo c H h hb) ?_) (Ac (JU c _) (Ac (a:=innL h b (if G9 f out h (b:Int)=true then u.set b true else u) (nextL f (b:Int))) ?_ (Ad _))))
      ·cases G9 f out h (b:Int)with
       |true=>rw[Int.toNat_natCast];exact Ax rfl (Ae hub (Ad _))
       |false=>exact Ao rfl (Ad _)
      ·have hlv:(if G9 f out h (b:Int)=true then u.set b true else u).length=f.blocks.length:=by
        split
        ·rw[List.length_set];exact hlb
        ·exact hlb
       generalize (if G9 f out h (b:Int)=true then u.set b true else u)=v at hlv⊢;have hnl:=FP f (b:Int);refine Ay (step:=DH h (b:Int) (nextL f (b:Int))) (fun k:Nat=>((k:Int),innL h b v ((nextL f (b:Int)).take k))) (nextL f (b:Int)).length (fun q hq=>?_) ?_ (Nat.zero_le _)
       ·obtain⟨x,hx⟩:∃x,(nextL f (b:Int))[q]? =some x:=⟨_,List.getElem?_eq_getElem hq⟩
        have hxr:=BM (List.mem_of_getElem? hx);have hlw:(innL h b v ((nextL f (b:Int)).take q)).length=f.blocks.length:=by rw[←(LQ h b v ((nextL f (b:Int)).take q)).1];exact hlv
        have htk:(nextL f (b:Int)).take (q+1)=(nextL f (b:Int)).take q++[x]:=by rw[List.take_add_one,hx];rfl
        simp only[DH,Bj hx];rw[htk,Hx];generalize innL h b v ((nextL f (b:Int)).take q)=y at hlw⊢;refine Ax (decide_eq_true (by omega)) (Ac (Ae (AW hq) (Ae (by rw[AW hq];simp) (Ae (by rw[Bt.2 ⟨hxr.1,by rw[hlw];exact hxr.2⟩];simp) ?_))) (by rw[LT hq (by omega)];exact Ad _));by_cases hcc:(x !=h&&ixD y x)=true
        ·rw[if_pos hcc];exact Ax hcc (Ae (AW (by omega)) (by rw[Int.toNat_natCast];exact Ad _))
        ·rw[if_neg hcc];exact Ao (by simpa using hcc) (Ad _)
       ·rw[List.take_length];simp only[DH];exact Ao (decide_eq_false (by omega)) (Ad _)
    ·simp only[DI];exact Ao (decide_eq_false (by omega)) (Ad _)
   ·simp only[DJ];exact Ao (decide_eq_false (by omega)) (Ad _)
  ·have e:Bp f out h=(Qz f).filter fun b=>ixD (WI f out h) b||b ==h:=by
    unfold Bp;rw[if_neg (by rw[ht];simp)];refine List.filter_congr fun b hb=>?_
    rw[Bool.eq_iff_iff,decide_eq_true_eq,Bool.or_eq_true,Uu H h (Fk.1 hb).1,beq_iff_eq];exact Or.comm
   rw[e];refine Ay (step:=DG f h (WI f out h)) (fun k:Nat=>((k:Int),((List.range k).map fun k:Nat=>(k:Int)).filter fun b=>ixD (WI f out h) b||b ==h)) f.blocks.length (fun k hk=>?_) ?_ (Nat.zero_le _)
   ·simp only[DG];refine Ax (decide_eq_true (by omega)) (Ac (a:=((List.range (k+1)).map fun k:Nat=>(k:Int)).filter fun b=>ixD (WI f out h) b||b ==h) (Ae (AW (by rw[Od];exact hk)) ?_) (by rw[LT hk (by omega)];exact Ad _));rw[HK];have hfl:=Jj (p:=fun b=>ixD (WI f out h) b||b ==h) (k:=k);cases ixD (WI f out h) (k:Int)||(k:Int) ==h with
    |true=>
     refine Ax rfl (Ae (Wb (n:=f.blocks.length) (by omega) (by simpa using hk) (by omega)) (Ae (Ku (by simp only[List.length_cons,List.length_nil];omega)) (Ad _)))
    |false=>
     simp only[Bool.false_eq_true,if_false,List.append_nil];exact Ao rfl (Ad _)
   ·simp only[DG];exact Ao (decide_eq_false (by omega)) (Ad _)
def MY(l:List Int)(L:List Int):List Int:=L.foldl (fun l b=>l.set b.toNat (ixD l b+1)) l
theorem J3{l L:List Int}{b:Int}:MY l (L++[b])=(MY l L).set b.toNat (ixD (MY l L) b+1):=by
 unfold MY;rw[List.foldl_append];rfl
theorem LR{l:List Int}:∀L:List Int,(MY l L).length=l.length:=fun L=>by
 induction L using snoc_ind with
 |nil=>rfl
 |append_singleton L b ih=>rw[J3,List.length_set,ih]
theorem RI{l:List Int}{x:Int}(hx:0≤x):∀{L:List Int},L.Nodup→(∀b∈L,0≤b∧b.toNat < l.length)→ixD (MY l L) x=ixD l x+if x∈L then 1 else 0:=by
 intro L;induction L using snoc_ind with
 |nil=>intro _ _;simp[MY]
 |append_singleton L b ih=>
  intro hn hr;have hn':=List.nodup_append.1 hn;have ih':=ih hn'.1 fun c hc=>hr c (List.mem_append_left _ hc)
  have hbr:=hr b (by simp);rw[J3];by_cases e:x=b
  ·subst e;have hnL:x∉L:=fun h=>hn'.2.2 x h x (by simp) rfl
   rw[if_neg hnL]at ih';unfold ixD at ih'⊢;rw[List.getD_eq_getElem?_getD,List.getElem?_set_self (by rw[LR];exact hbr.2),if_pos (by simp)];simp only[Option.getD_some];omega
  ·have h1:x∈L++[b]↔x∈L:=by simp[e]
   simp only[h1];rw[←ih'];unfold ixD;rw[List.getD_eq_getElem?_getD,List.getElem?_set_ne (by omega),List.getD_eq_getElem?_getD]
noncomputable def depthK(f:Func)(out:List (List Int))(k:Nat):List Int:=((Cf f out).take k).foldl (fun l h=>MY l (Bp f out h)) (List.replicate f.blocks.length 0)
noncomputable def AK(f:Func)(out:List (List Int)):List Int:=depthK f out (Cf f out).length
theorem Fq{k:Nat}{h:Int}(hk:(Cf f out)[k]? =some h):depthK f out (k+1)=MY (depthK f out k) (Bp f out h):=by
 unfold depthK;rw[List.take_add_one,hk,List.foldl_append];rfl
theorem CV(k:Nat):(depthK f out k).length=f.blocks.length:=by
 unfold depthK;generalize (Cf f out).take k=L;induction L using snoc_ind with
 |nil=>simp
 |append_singleton L b ih=>rw[List.foldl_append];simp only[List.foldl_cons,List.foldl_nil];rw[LR,ih]
theorem FQ{h b:Int}(hb:b∈Bp f out h):0≤b∧b.toNat < f.blocks.length:=by
 unfold Bp at hb;split at hb
 ·cases hb
 ·exact Fk.1 (List.mem_filter.1 hb).1
theorem FR(h:Int):(Bp f out h).length≤f.blocks.length:=F4 (Hv h) fun x hx=>FQ hx
theorem R6{x:Int}(hx:0≤x)(hx2:x.toNat < f.blocks.length):∀k,k≤(Cf f out).length→ixD (depthK f out k) x=((((Cf f out).take k).countP fun h=>(Bp f out h).contains x:Nat):Int):=by
 intro k;induction k with
 |zero=>
  intro _;unfold depthK ixD;simp[List.getElem?_replicate,hx2]
 |succ k ih=>
  intro hk;obtain⟨h,hh⟩:∃h,(Cf f out)[k]? =some h:=⟨_,List.getElem?_eq_getElem hk⟩
  rw[Fq hh,RI hx (HT (Hv h)) (fun b hb=>by rw[CV];exact FQ hb),ih (by omega),List.take_add_one,hh,List.countP_append];simp only[Option.toList_some,List.countP_cons,List.countP_nil,List.contains_iff_mem,Nat.zero_add];split <;> simp
theorem Nc{x:Int}(hx:0≤x)(hx2:x.toNat < f.blocks.length){k:Nat}(hk:k≤(Cf f out).length):0≤ixD (depthK f out k) x∧ixD (depthK f out k) x≤(k:Int):=by
 rw[R6 hx hx2 k hk];have:=List.countP_le_length (p:=fun h=>(Bp f out h).contains x) (l:=(Cf f out).take k);rw[List.length_take]at this;omega
theorem J2(c:FineF f){h:Int}{k q:Nat}{x:Int}(hk:k < (Cf f out).length)(hq:(Bp f out h)[q]? =some x):
 Bq (MY (depthK f out k) ((Bp f out h).take q)) x=true∧Wd .i64 (IntKind.i64.wrap (ixD (MY (depthK f out k) ((Bp f out h).take q)) x+1))=true∧
  (MY (depthK f out k) ((Bp f out h).take q)).set (Int.toNat x) (IntKind.i64.wrap (ixD (MY (depthK f out k) ((Bp f out h).take q)) x+1))=MY (depthK f out k) ((Bp f out h).take (q+1)):=by
 have hn:=c.small.blocks;have hxr:=FQ (List.mem_of_getElem? hq);have hhl:=Gk (f:=f) (out:=out);have hd:=Nc (f:=f) (out:=out) hxr.1 hxr.2 (k:=k) (by omega);have hnod:=HT (Hv (f:=f) (out:=out) h);have htk:(Bp f out h).take (q+1)=(Bp f out h).take q++[x]:=by rw[List.take_add_one,hq];rfl
 have hnt:x∉(Bp f out h).take q:=fun e=>by
  have h2:((Bp f out h).take (q+1)).Nodup:=hnod.sublist (List.take_sublist _ _);rw[htk]at h2;exact(List.nodup_append.1 h2).2.2 x e x (by simp) rfl
 have hat:=RI (l:=depthK f out k) hxr.1 (hnod.sublist (List.take_sublist q _)) fun b hb=>by rw[CV];exact FQ (List.mem_of_mem_take hb)
 rw[if_neg hnt,Int.add_zero]at hat;have hw:IntKind.i64.wrap (ixD (depthK f out k) x+1)=ixD (depthK f out k) x+1:=IntWalk.i64_in _ (by omega);refine⟨Bt.2 ⟨hxr.1,by rw[LR,CV];exact hxr.2⟩,?_,?_⟩
 ·rw[hat,hw];exact Wb (n:=f.blocks.length+2) (by omega) (by omega) (by omega)
 ·rw[htk,J3,hat,hw]
theorem HM(c:FineF f)(ho:(BQ f).to out)(H:AboveP f out):(CA f).to (AK f out):=by
 have hn:=c.small.blocks;have hhl:=Gk (f:=f) (out:=out);unfold CA;refine Ae (by unfold JW maxLen;simp;omega) (Ac (Jh c ho H) (Ac (a:=AK f out) (Ay (step:=Dh f (Cf f out)) (fun k:Nat=>((k:Int),depthK f out k)) (Cf f out).length (fun k hk=>?_) ?_ (Nat.zero_le _)) (Ad _)))
 ·obtain⟨h,hh⟩:∃h,(Cf f out)[k]? =some h:=⟨_,List.getElem?_eq_getElem hk⟩
  simp only[Dh,Bj hh];have hll:=FR (f:=f) (out:=out) h;refine Ax (decide_eq_true (by omega)) (Ae (AW hk) (Ac (Ik c ho H h) (Ac (a:=depthK f out (k+1)) ?_ (by rw[LT hk (by omega)];exact Ad _))));rw[Fq hh];refine Ay (step:=CI (Bp f out h)) (fun q:Nat=>((q:Int),MY (depthK f out k) ((Bp f out h).take q))) (Bp f out h).length (fun q hq=>?_) ?_ (Nat.zero_le _)
  ·obtain⟨x,hx⟩:∃x,(Bp f out h)[q]? =some x:=⟨_,List.getElem?_eq_getElem hq⟩
   obtain⟨h1,h2,h3⟩:=J2 c hk hx;simp only[CI,Bj hx];refine Ax (decide_eq_true (by omega)) (Ae (AW hq) (Ae h1 (Ae h2 ?_)));rw[h3,LT hq (by omega)];exact Ad _
  ·rw[List.take_length];simp only[CI];exact Ao (decide_eq_false (by omega)) (Ad _)
 ·simp only[Dh];exact Ao (decide_eq_false (by omega)) (Ad _)
theorem Iy(c:FineF f)(H:AboveP f out):(EW f).to (AK f out):=by
 have hn:=c.small.blocks;have hhl:=Gk (f:=f) (out:=out);unfold EW;refine Ac (Gj c H) (Ae (by unfold JW maxLen;simp;omega) (Ac (a:=AK f out) (Ay (step:=DK f (Cf f out)) (fun k:Nat=>((k:Int),depthK f out k)) (Cf f out).length (fun k hk=>?_) ?_ (Nat.zero_le _)) (Ad _)))
 ·obtain⟨h,hh⟩:∃h,(Cf f out)[k]? =some h:=⟨_,List.getElem?_eq_getElem hk⟩
  simp only[DK,Bj hh];have hll:=FR (f:=f) (out:=out) h;refine Ax (decide_eq_true (by omega)) (Ae (AW hk) (Ac (Hw c H h) (Ac (a:=depthK f out (k+1)) ?_ (by rw[LT hk (by omega)];exact Ad _))));rw[Fq hh];refine Ay (step:=C2 (Bp f out h)) (fun q:Nat=>((q:Int),MY (depthK f out k) ((Bp f out h).take q))) (Bp f out h).length (fun q hq=>?_) ?_ (Nat.zero_le _)
  ·obtain⟨x,hx⟩:∃x,(Bp f out h)[q]? =some x:=⟨_,List.getElem?_eq_getElem hq⟩
   obtain⟨h1,h2,h3⟩:=J2 c hk hx;simp only[C2,Bj hx];refine Ax (decide_eq_true (by omega)) (Ae (AW hq) (Ae h1 (Ae h2 ?_)));rw[h3,LT hq (by omega)];exact Ad _
  ·rw[List.take_length];simp only[C2];exact Ao (decide_eq_false (by omega)) (Ad _)
 ·simp only[DK];exact Ao (decide_eq_false (by omega)) (Ad _)
end
def pwI(d:Int):Nat:=(if 4 < d then 4 else d).toNat
def BS(d:Int):Int:=10 ^ pwI d
theorem Rd(d:Int):pwI d≤4:=by unfold pwI;split <;> omega
theorem Re{d:Int}(h:0≤d):((pwI d:Nat):Int)=if 4 < d then 4 else d:=by unfold pwI;split <;> omega
theorem II(d:Int):BS d=1∧pwI d=0∨BS d=10∧pwI d=1∨BS d=100∧pwI d=2∨BS d=1000∧pwI d=3∨BS d=10000∧pwI d=4:=by
 have h:=Rd d;unfold BS;have h2:pwI d=0∨pwI d=1∨pwI d=2∨pwI d=3∨pwI d=4:=by omega
 rcases h2 with e|e|e|e|e <;> rw[e] <;> simp
theorem Ii(d:Int):1≤BS d∧BS d≤10000:=by rcases II d with⟨e,_⟩|⟨e,_⟩|⟨e,_⟩|⟨e,_⟩|⟨e,_⟩ <;> rw[e] <;> omega
def Wt(f:Func)(dl:List Int)(k:Nat):List (Int×Int):=(Nm (f.blocks.getD k default)).map fun r=>(r,BS (ixD dl (k:Int)))
def Wr(f:Func)(dl:List Int)(k:Nat):List (Int×Int):=((List.range f.blocks.length).take k).flatMap (Wt f dl)
def Wu(f:Func)(dl:List Int):List (Int×Int):=(List.range f.blocks.length).flatMap (Wt f dl)
theorem O7{α β:Type}(g:α→List β)(l:List α)(k:Nat):(l.take k).flatMap g <+:l.flatMap g:=by
 conv=>rhs;rw[←List.take_append_drop k l]
 rw[List.flatMap_append];exact List.prefix_append _ _
section
variable{f:Func}{dl:List Int}
theorem OU{k:Nat}(hk:k < f.blocks.length):Wr f dl (k+1)=Wr f dl k++Wt f dl k:=by
 unfold Wr;exact Eo (List.getElem?_range hk)
theorem Ub(k:Nat):Wr f dl k <+:Wu f dl:=O7 _ _ _
theorem Q8:Wr f dl f.blocks.length=Wu f dl:=by
 unfold Wr Wu;rw[show(List.range f.blocks.length).take f.blocks.length=List.range f.blocks.length from List.take_of_length_le (by simp)]
theorem OW{k:Nat}{b:Block}(hb:f.blocks[k]? =some b):Wt f dl k=(Nm b).map fun r=>(r,BS (ixD dl (k:Int))):=by
 unfold Wt;rw[List.getD_eq_getElem?_getD,hb];rfl
def Ws(f:Func)(dl:List Int)(k:Nat)(b:Block)(i:Nat):List (Int×Int):=Wr f dl k++((b.ins.take i).flatMap AZ).map fun r=>(r,BS (ixD dl (k:Int)))
def Wq(f:Func)(dl:List Int)(k:Nat)(b:Block)(i:Nat)(x:Ins)(q:Nat):List (Int×Int):=Ws f dl k b i++((AZ x).take q).map fun r=>(r,BS (ixD dl (k:Int)))
theorem OV{k:Nat}{b:Block}:Ws f dl k b 0=Wr f dl k:=by simp[Ws]
theorem Q9{k:Nat}{b:Block}(hb:f.blocks[k]? =some b):Ws f dl k b b.ins.length=Wr f dl (k+1):=by
 rw[OU (List.getElem?_eq_some_iff.1 hb).1,OW hb];unfold Ws Nm;rw[List.take_length]
theorem SP{k i:Nat}{b:Block}{x:Ins}:Wq f dl k b i x 0=Ws f dl k b i:=by simp[Wq]
theorem Q7{k i:Nat}{b:Block}{x:Ins}(hx:b.ins[i]? =some x):Wq f dl k b i x (AZ x).length=Ws f dl k b (i+1):=by
 unfold Wq Ws;rw[List.take_length,Eo hx,List.map_append,List.append_assoc]
theorem OT{k i q:Nat}{b:Block}{x:Ins}{r:Int}(hr:(AZ x)[q]? =some r):Wq f dl k b i x (q+1)=Wq f dl k b i x q++[(r,BS (ixD dl (k:Int)))]:=by
 unfold Wq;rw[List.take_add_one,hr,List.map_append,List.append_assoc];rfl
theorem NW{k i:Nat}{b:Block}(hb:f.blocks[k]? =some b):Ws f dl k b i <+:Wu f dl:=by
 refine List.IsPrefix.trans ?_ (Ub (k+1));rw[OU (List.getElem?_eq_some_iff.1 hb).1,OW hb];unfold Ws Nm;exact(List.prefix_append_right_inj _).2 ((O7 _ _ _).map _)
theorem Ua{k i q:Nat}{b:Block}{x:Ins}(hb:f.blocks[k]? =some b)(hx:b.ins[i]? =some x):Wq f dl k b i x q <+:Wu f dl:=by
 refine List.IsPrefix.trans ?_ (NW hb (i:=i+1));rw[←Q7 hx];unfold Wq;rw[List.take_length];exact(List.prefix_append_right_inj _).2 ((List.take_prefix _ _).map _)
theorem NY:(Wu f dl).map (·.1)=QA f:=by
 unfold Wu QA;rw[List.map_flatMap];have e:(List.range f.blocks.length).map (fun k=>f.blocks.getD k default)=f.blocks:=by
  refine List.ext_getElem? fun k=>?_
  rw[List.getElem?_map];by_cases hk:k < f.blocks.length
  ·rw[List.getElem?_range hk];show some (f.blocks.getD k default)=_;rw[List.getD_eq_getElem?_getD,List.getElem?_eq_getElem hk];rfl
  ·rw[List.getElem?_eq_none (by simpa using hk),List.getElem?_eq_none (by omega)];rfl
 conv=>rhs;rw[←e]
 rw[List.flatMap_map];congr 1;funext k;unfold Wt;rw[List.map_map];exact List.map_id'' (fun _=>rfl) _
theorem NX:(Wu f dl).length=(QA f).length:=by rw[←NY (dl:=dl),List.length_map]
theorem Uc{p:Int×Int}(h:p∈Wu f dl):1≤p.2∧p.2≤10000:=by
 unfold Wu at h;obtain⟨k,_,h⟩:=List.mem_flatMap.1 h;unfold Wt at h;obtain⟨r,_,rfl⟩:=List.mem_map.1 h;exact Ii _
theorem Ue{x:Ins}(ho:okIns x)(hl:x.args.length≤2097152):(FZ x).to (AZ x):=by
 unfold FZ AZ;have h1:(GJ x).to (readsC x):=Ae (by rw[Bool.and_eq_true];exact⟨BP.2 ho,decide_eq_true hl⟩) (Ad _);have h2:(FI x).to (if Bo x then x.d else 0,Bo x):=Ae (BP.2 ho) (Ad _);have h3:=Ie hl;refine Ac h1 (Ac (a:=readsC x++if Bo x then [x.d]else []) (Ac h2 ?_) (Ad _));cases Bo x with
 |true=>exact Ax rfl (Ae ho.d (Ae (Ku (by simp only[List.length_cons,List.length_nil];omega)) (Ad _)))
 |false=>
  simp only[Bool.false_eq_true,if_false,List.append_nil];exact Ao rfl (Ad _)
theorem Ui{d:List Int}{k:Int}(h:0≤ixD d k):(M.loop (Cz d k) (1,0)).to (BS (ixD d k)):=by
 have he:=Re h;have h4:=Rd (ixD d k);unfold BS;refine Ay (step:=Cz d k) (fun j:Nat=>((10:Int) ^ j,(j:Int))) (pwI (ixD d k)) (fun j hj=>?_) ?_ (Nat.zero_le _)
 ·simp only[Cz];refine Ax (decide_eq_true (by rw[←he];omega)) ?_;have e:IntKind.i64.wrap ((10:Int) ^ j * 10)=(10:Int) ^ (j+1):=by
   have hj4:j=0∨j=1∨j=2∨j=3:=by omega
   rcases hj4 with rfl|rfl|rfl|rfl <;> rfl
  rw[e,Kq hj (by omega)];exact Ad _
 ·simp only[Cz];exact Ao (decide_eq_false (by rw[←he];omega)) (Ad _)
theorem La(c:FineF f){b:Block}(hb:b∈f.blocks){x:Ins}(hx:x∈b.ins):okIns x∧x.args.length≤2097152:=⟨(c.ok.blocks b hb).ins x hx,by
 have:=((c.small.all b hb).all x hx)
 omega⟩
variable{out:List (List Int)}{σ:Type}{step:σ→Int→Int→M σ}
theorem Ix{k:Nat}(hk:k < f.blocks.length):0≤ixD (AK f out) (k:Int):=(Nc (f:=f) (out:=out) (x:=(k:Int)) (by omega) (by simpa using hk) (Nat.le_refl _)).1
theorem R5(c:FineF f)(ho:(BQ f).to out)(H:AboveP f out)(G:List (Int×Int)→σ)(hs:∀pre p,pre++[p] <+:Wu f (AK f out)→(step (G pre) p.1 p.2).to (G (pre++[p]))):
 (E4 step f (G [])).to (G (Wu f (AK f out))):=by
 have hn:=c.small.blocks;have hdl:(AK f out).length=f.blocks.length:=CV _;unfold E4;refine Ac (HM c ho H) (Ac (a:=G (Wu f (AK f out))) ?_ (Ad _));rw[←Q8];refine Ay (step:=DR step f (AK f out)) (fun k:Nat=>((k:Int),G (Wr f (AK f out) k))) f.blocks.length (fun k hk=>?_) ?_ (Nat.zero_le _)
 ·obtain⟨b,hb⟩:∃b,f.blocks[k]? =some b:=⟨_,List.getElem?_eq_getElem hk⟩
  have hin:=c.ins b (List.mem_of_getElem? hb);simp only[DR];refine Ax (decide_eq_true (by omega)) (Ae (AW (by omega)) (Ac (Ui (Ix hk)) (Ae (AW hk) (Ac (a:=G (Wr f (AK f out) (k+1))) ?_ (by rw[Kq hk (by omega)];exact Ad _)))));rw[←Q9 hb];refine(show(M.loop (Cy step f (k:Int) (BS (ixD (AK f out) (k:Int)))) (0,G (Wr f (AK f out) k))).to _ from ?_);rw[←OV (b:=b)];refine Ay (step:=Cy step f (k:Int) (BS (ixD (AK f out) (k:Int)))) (fun i:Nat=>((i:Int),G (Ws f (AK f out) k b i))) b.ins.length (fun i hi=>?_) ?_ (Nat.zero_le _)
  ·obtain⟨x,hx⟩:∃x,b.ins[i]? =some x:=⟨_,List.getElem?_eq_getElem hi⟩
   obtain⟨hox,hax⟩:=La c (List.mem_of_getElem? hb) (List.mem_of_getElem? hx);simp only[Cy,Bj hb,Bj hx];refine Ax (decide_eq_true (by omega)) (Ae (AW hi) (Ac (Ue hox hax) (Ac (a:=G (Ws f (AK f out) k b (i+1))) ?_ (by rw[Kq hi (by omega)];exact Ad _))));rw[←Q7 hx,←SP (x:=x)];have hrl:(AZ x).length≤2097155:=by
    have:=Ie hax;unfold AZ;rw[List.length_append];split <;> simp <;> omega
   refine Ay (step:=Dg step (BS (ixD (AK f out) (k:Int))) (AZ x)) (fun q:Nat=>((q:Int),G (Wq f (AK f out) k b i x q))) (AZ x).length (fun q hq=>?_) ?_ (Nat.zero_le _)
   ·obtain⟨r,hr⟩:∃r,(AZ x)[q]? =some r:=⟨_,List.getElem?_eq_getElem hq⟩
    simp only[Dg,Bj hr];have hst:=hs (Wq f (AK f out) k b i x q) (r,BS (ixD (AK f out) (k:Int))) (by rw[←OT hr];exact Ua hb hx);rw[OT hr];exact Ax (decide_eq_true (by omega)) (Ae (AW hq) (Ac hst (by rw[Kq hq (by omega)];exact Ad _)))
   ·simp only[Dg];exact Ao (decide_eq_false (by omega)) (Ad _)
  ·simp only[Cy,Bj hb];exact Ao (decide_eq_false (by omega)) (Ad _)
 ·simp only[DR,hdl];exact Ao (decide_eq_false (by omega)) (Ad _)
def B6(r:Int)(l:List (Int×Int)):Int:=((l.filter fun p=>p.1 ==r).map (·.2)).sum
theorem CJ(r:Int)(l m:List (Int×Int)):B6 r (l++m)=B6 r l+B6 r m:=by simp[B6,List.filter_append]
theorem E5(r:Int)(p:Int×Int):B6 r [p]=if p.1 ==r then p.2 else 0:=by
 unfold B6;rw[List.filter_cons];split <;> simp
theorem Nd(r:Int):∀{l:List (Int×Int)},(∀p∈l,1≤p.2∧p.2≤10000)→0≤B6 r l∧B6 r l≤10000 *(l.length:Int)
 | [],_=>by simp[B6]
 |p::l,h=>by
  have ih:=Nd r (l:=l) fun q hq=>h q (List.mem_cons_of_mem _ hq)
  have hp:=h p (by simp);rw[show p::l= [p]++l from rfl,CJ,E5,List.length_append];simp only[List.length_cons,List.length_nil];split <;> omega
theorem JO{pre:List (Int×Int)}(c:FineF f)(h:pre <+:Wu f dl)(r:Int):0≤B6 r pre∧B6 r pre≤30000000000:=by
 have h1:=Nd r (l:=pre) fun p hp=>Uc (h.subset hp)
 have h2:=h.length_le;have h3:=c.all;rw[NX]at h2;omega
theorem Iz(c:FineF f)(ho:(BQ f).to out)(H:AboveP f out)(r:Int):(Cg f r).to (B6 r (Wu f (AK f out))):=by
 unfold Cg;refine Ac (a:=(r,B6 r (Wu f (AK f out)))) ?_ (Ad _);refine R5 c ho H (fun pre=>(r,B6 r pre)) fun pre p hp=>?_
 have h1:=JO c hp r;rw[CJ,E5]at h1⊢;simp only[Fr];cases hc:p.1 ==r with
 |true=>
  rw[hc]at h1;refine Ax rfl ?_;simp only[if_true]at h1⊢;rw[IntWalk.i64_in _ (by omega)];exact Ad _
 |false=>
  refine Ao rfl ?_;simp only[Bool.false_eq_true,if_false,Int.add_zero];exact Ad _
def ER(l:List (Int×Int)):List (Int×Int):=l.foldl (fun m p=>KP m p.1 ((FB m p.1).getD 0+p.2)) []
theorem KN(l:List (Int×Int))(p:Int×Int):ER (l++[p])=KP (ER l) p.1 ((FB (ER l) p.1).getD 0+p.2):=by
 unfold ER;rw[List.foldl_append];rfl
theorem KX{r:Int}{l:List (Int×Int)}(h:r∉l.map (·.1)):B6 r l=0:=by
 unfold B6;rw[List.filter_eq_nil_iff.2 fun p hp=>by
  intro e;exact h (List.mem_map.2 ⟨p,hp,by simpa using e⟩)]
 rfl
theorem I6(l:List (Int×Int)):Pq (ER l)∧(ER l).length≤l.length∧∀x,FB (ER l) x=if x∈l.map (·.1)then some (B6 x l)else none:=by
 induction l using snoc_ind with
 |nil=>exact⟨Pq.nil,Nat.le_refl _,fun x=>rfl⟩
 |append_singleton l p ih=>
  obtain⟨h1,h2,h3⟩:=ih;rw[KN];refine⟨h1.put _ _,?_,fun x=>?_⟩
  ·have:=Ta (l:=ER l) p.1 ((FB (ER l) p.1).getD 0+p.2);rw[List.length_append];simp only[List.length_cons,List.length_nil];omega
  ·rw[Gl h1,List.map_append,CJ,E5];by_cases e:x=p.1
   ·subst e;rw[if_pos rfl,if_pos (by simp),h3];split
    ·simp
    ·rename_i hn;rw[KX hn];simp
   ·rw[if_neg e,h3];have e2:(p.1 ==x)=false:=by simpa using fun k=>e k.symm
    rw[e2];have e3:x∈l.map (·.1)++[p].map (·.1)↔x∈l.map (·.1):=by simp[e]
    simp only[e3];simp
theorem G5(l:List (Int×Int))(x:Int):G6 (ER l) x=B6 x l:=by
 unfold G6;rw[(I6 l).2.2 x];split
 ·rfl
 ·rename_i h;rw[KX h];rfl
theorem RB:FA (ER (Wu f dl))=CO f:=by
 obtain⟨h1,_,h3⟩:=I6 (Wu f dl);refine Kg (List.pairwise_map.2 h1) (EV f).1 fun x=>?_
 rw[(EV f).2,←NY (dl:=dl)];have h4:=h3 x;constructor
 ·intro hx;obtain⟨p,hp,e⟩:=List.mem_map.1 hx;have h5:FB (ER (Wu f dl)) x=some p.2:=(Gn h1).2 (by rw[←e];exact hp);rw[h5]at h4;split at h4
  ·assumption
  ·cases h4
 ·intro hx;rw[if_pos hx]at h4;exact List.mem_map.2 ⟨_,(Gn h1).1 h4,rfl⟩
def E6(f:Func)(dl:List Int):List Int:=Gw (ER (Wu f dl)) (CO f)
theorem L2(c:FineF f)(ho:(BQ f).to out)(H:AboveP f out):(Ef f).to (E6 f (AK f out)):=by
 unfold Ef;have hall:=c.all;have hk:=I6 (Wu f (AK f out));rw[NX]at hk;refine Ac (a:=ER (Wu f (AK f out))) (R5 c ho H ER fun pre p hp=>?_) (Ae (decide_eq_true ⟨by omega,hk.1⟩) ?_)
 ·have hpm:p∈Wu f (AK f out):=hp.subset (by simp);have hw:Wd .i64 p.1=true:=Sd c.ok p.1 (by rw[←NY (dl:=AK f out)];exact List.mem_map.2 ⟨p,hpm,rfl⟩);have hpl:=hp.length_le;rw[NX,List.length_append]at hpl;have h2:=(I6 pre).2.1;have h3:(FB (ER pre) p.1).getD 0=B6 p.1 pre:=G5 pre p.1;have h4:=JO c hp p.1;rw[CJ,E5]at h4;simp only[beq_self_eq_true,if_true]at h4;rw[KN];simp only[EH];refine Ae hw (Ae (decide_eq_true (by unfold maxLen;omega)) ?_);rw[h3,IntWalk.i64_in _ (by omega)];exact Ad _
 ·rw[RB];exact Ad _
end
end Mu
end
