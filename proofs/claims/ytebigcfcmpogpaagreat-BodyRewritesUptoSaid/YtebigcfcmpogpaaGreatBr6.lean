/-
  Own texts laid together, part 6: MuR23, MuBodyQ, MuBodyH, MuBodyR, MuBodyS, MuBodyT, MuHead18, MuEdgeM, MuLaw17D, MuBound3, MuOfP, MuLaw18M, MuRef18T, MuRightM, MuRightP, MuRewP, MuOpen, MuRowT.
  Conditions: as each part says.
-/
import Derived.Test.YtebigcfcmpogpaaGreatBr5
import Derived.Test.YtebigcfcmpogpaaGreatRows
import Derived.Carry
import Derived.OpenShut
import Derived.ProofKit
set_option maxRecDepth 100000
set_option maxHeartbeats 4000000
set_option linter.unusedSimpArgs false
set_option linter.unusedVariables false
section
namespace Mu
open Go Go.RowKit Go.Proofs
noncomputable section
def KH(p:Plan):M Int:=M.cnd p.leaf (M.ok 8) (M.ok 24)
theorem QU{p:Plan}{r:Int}(H:(KH p).to r):Fn Tryz.prog 36 [.agg (AM p)] (.lit (.int .i64 r)):=by
 delta KH at H;try dsimp only at H
 refine AE Tryz.func36 rfl (by kernel_rfl) rfl Tryz.ntmps36 fun C hC=>?_
 refine nS ?_;refine wS (sB (sT (wN ?_)));refine Ad fun Khs1 hs1=>?_
 refine wS (sT (sT (wN ?_)));refine Aj rfl (fun hb2=>?_) (fun hb2=>?_)
 ·have H:=Au hb2 H;refine wS (sT (wN ?_));obtain rfl:=Ac.1 H;exact Ar ⟨.inr rfl,Fin.cl rfl⟩
 ·have H:=Av hb2 H;refine Am ?_;refine hs1 _ ?_;refine nT ?_;refine wS (sT (wN ?_));obtain rfl:=Ac.1 H;exact Ar ⟨.inr rfl,Fin.cl rfl⟩
def Cw(atP0:Int)(stead:Int):M Int:=M.cnd (decide (atP0≥32)) (M.ok stead) (M.ok atP0)
theorem MF{atP0:Int}{stead:Int}{r:Int}(H:(Cw atP0 stead).to r):Fn Tryz.prog 83 [.lit (.int .i64 atP0),.lit (.int .i64 stead)] (.lit (.int .i64 r)):=by
 delta Cw at H;try dsimp only at H
 refine AE Tryz.func83 rfl (by kernel_rfl) rfl Tryz.ntmps83 fun C hC=>?_
 refine nS ?_;refine wS (sT (wN ?_));refine Ad fun Khs1 hs1=>?_
 refine wS (sT (sT (wN ?_)));refine Aj rfl (fun hb2=>?_) (fun hb2=>?_)
 ·have H:=Au hb2 H;refine wS (sT (sT (wN ?_)));obtain rfl:=Ac.1 H;exact Ar ⟨.inr rfl,Fin.cl rfl⟩
 ·have H:=Av hb2 H;refine Am ?_;refine hs1 _ ?_;refine nT ?_;refine wS (sT (sT (wN ?_)));obtain rfl:=Ac.1 H;exact Ar ⟨.inr rfl,Fin.cl rfl⟩
def B0(d:Int)(a:Int):M ACell:=M.ok ⟨0,(-1),d,a,(-1),[]⟩
theorem Gx{d:Int}{a:Int}{r:ACell}(H:(B0 d a).to r):Fn Tryz.prog 81 [.lit (.int .i64 d),.lit (.int .i64 a)] (.agg (Co r)):=by
 delta B0 at H;try dsimp only at H
 refine ID Tryz.func81 rfl (by kernel_rfl) rfl (by kernel_rfl:T9 Tryz.prog 67=some (true,6)) Tryz.ntmps81 fun C hC=>?_
 refine nS ?_;refine wS (sA0 (wN ?_));refine wS (sT (sT ?_));refine sA (hq:=AK (rs:=[.lit (.int .u8 0),.lit (.int .i64 (-1)),.lit (.int .i64 d),.lit (.int .i64 a),.lit (.int .i64 (-1)),.lit (.slice none 0 0)]) rfl G1 rfl rfl) (ht:=LM) ?_;refine sW ?_;refine wN ?_;obtain rfl:=Ac.1 H;exact Ar ⟨⟨.inr rfl,0,_,rfl,rfl,Fin.weak rfl (fun _ _ _ H=>Up.rel (Lf (.cons (.refl _) (.cons (.refl _) (.cons (.refl _) (.cons (.refl _) (.cons (.refl _) (.cons (.nil _) .nil))))))) H)⟩,fun i cells e1 e2=>by cases e1;cases e2;rfl⟩
def FU(r1:List Pair):(Int×(List ACell))→M ((Int×(List ACell))⊕((List ACell))):=fun(i2,l4)=>M.cnd (decide (i2 < (r1.length:Int))) (M.chk (BN r1 i2) (M.bnd (B0 ((ixD r1 i2).a) ((ixD r1 i2).b)) fun r12=>M.chk (Bg r12) (M.chk (Gn (l4.length+ [r12].length) 64) (M.ok (.inl (IntKind.i64.wrap (i2+1),l4++[r12])))))) (M.ok (.inr l4))
def Gy(l:List Pair):M (List ACell):=M.bnd (Gz l) fun r1=>M.bnd (M.loop (FU r1) (0,([]:List ACell))) fun l7=>M.ok l7
theorem Je{l:List Pair}{r:List ACell}(H:(Gy l).to r):LI Tryz.prog 37 [.bs AH l] 67 AN r:=by
 delta Gy at H;try dsimp only at H
 refine Hg Tryz.func37 rfl (by kernel_rfl) rfl Tryz.ntmps37 fun C hC=>?_
 refine nS ?_;refine wS (sT (wN ?_));refine wS (sT (wN ?_));obtain⟨r1,k1,H⟩:=Al.1 H;have k1:=QW k1;refine wS (sT (sC k1 (sT (wN ?_))));refine A1 _ (CS 3 67 AN rfl (by decide)) ?_;obtain⟨z5,HX5,Hl5⟩:=Al.1 H;refine Bn (β:=((List ACell))×(Nat)) (fun q5=>z5=q5.1) (fun q5=>⟨A3 (.own 0 q5.2::A20 (A4 [])),[.row q5.2 67 AN q5.1]⟩) ?_ ?_
 ·refine wS (sT (wN ?_));refine Ak ?_;refine Bv HX5 (fun s5 b5=>⟨.bs AH r1::A2 (.own 0 b5::.lit (.int .i64 s5.1)::A20 (A3 [])),[.row b5 67 AN s5.2]⟩) 0 (?_) ?_
  ·try dsimp only
   exact Bd
  ·rintro⟨i2,l4⟩ v3 x5 H Hr5;try dsimp only
   dsimp only[FU]at H;refine Ad fun Khs8 hs8=>?_
   refine wS (sT (sT (sT (sT (wN ?_)))));refine Aj rfl (fun hb9=>?_) (fun hb9=>?_)
   ·have H:=Au hb9 H;refine Am ?_;refine hs8 _ ?_;refine nT ?_;refine Ad fun Khs10 hs10=>?_
    refine Ak ?_;obtain⟨c11,H⟩:=Ab.1 H;obtain⟨r12,k12,H⟩:=Al.1 H;have k12:=Gx k12;obtain⟨c13,H⟩:=Ab.1 H;obtain⟨c14,H⟩:=Ab.1 H;refine dSE 13 (hq:=?_);refine qT (qT (qT (qX c11 (qT (qT (qT (qT (qX c11 (qT (qT (qC k12 ?_)))))))))));refine qA (hq:=AX.lt (xs:=[.tmp 24]) (T:=AN) (ds:=[r12]) rfl rfl rfl (by rfl) (by decide) (.cons (Ca c13) .nil)) (ht:=(AA (AA (AA LN)))) ?_;refine qN (sP c14 (sT (wN ?_)));refine hs10 _ ?_;refine nT ?_;refine wSE (sT (sT (sT (wN ?_))));have e5:=Ac.1 H;repeat(first|refine abN ?_|refine asN ?_)
    refine An ⟨_,v3+1,e5.symm,?_⟩;try dsimp only
    exact Bd
   ·have H:=Av hb9 H;refine AB ?_;repeat(first|refine BM ?_|refine exO (by decide) ?_|refine asE ?_)
    refine exN ?_;have e5:=Hr5 _ (Ac.1 H).symm;repeat(first|refine abN ?_|refine asN ?_)
    refine An ⟨(_,v3),e5.symm,?_⟩;try dsimp only
    exact Bd
 ·rintro⟨l7,v6⟩ hz5;try dsimp only at hz5
  have H:=Hl5;rw[hz5]at H;try dsimp only
  refine wS (sT (sT (wN ?_)));obtain rfl:=Ac.1 H;exact Ar ⟨.inr rfl,rfl,0,v6,rfl,rfl⟩
def Fr(p:Plan)(x:Ins):(Int×(List Pair)×(List Int))→M ((Int×(List Pair)×(List Int))⊕((List Pair)×(List Int))):=fun(k2,l4,l6)=>M.cnd (decide (k2 < (x.args.length:Int))) (M.chk (BN x.args k2) (M.chk (BN p.at_ (ixD x.args k2)) (M.chk (BA ⟨IntKind.i64.wrap (8+k2),ixD p.at_ (ixD x.args k2)⟩) (M.chk (Gn (l4.length+([⟨IntKind.i64.wrap (8+k2),ixD p.at_ (ixD x.args k2)⟩]:List Pair).length) 16) (M.chk (wfB .i64 (IntKind.i64.wrap (8+k2))) (M.chk (Gn (l6.length+ [IntKind.i64.wrap (8+k2)].length) 8) (M.ok (.inl (IntKind.i64.wrap (k2+1),l4++([⟨IntKind.i64.wrap (8+k2),ixD p.at_ (ixD x.args k2)⟩]:List Pair),l6++[IntKind.i64.wrap (8+k2)]))))))))) (M.ok (.inr (l4,l6)))
def Pn(p:Plan)(x:Ins)(i:Int):M (List ACell):=M.bnd (M.loop (Fr p x) (0,([]:List Pair),([]:List Int))) fun(l9,l11)=>M.bnd (Gy l9) fun r21=>M.chk (Bg ⟨1,i,8,(-1),(-1),l11⟩) (M.chk (Gn (r21.length+([⟨1,i,8,(-1),(-1),l11⟩]:List ACell).length) 64) (M.bnd (M.chk (BN p.at_ x.d) (M.cnd ((ixD p.at_ x.d) !=8) (M.chk (BN p.at_ x.d) (M.bnd (B0 (ixD p.at_ x.d) 8) fun r31=>M.chk (Bg r31) (M.chk (Gn ((r21++([⟨1,i,8,(-1),(-1),l11⟩]:List ACell)).length+ [r31].length) 64) (M.ok ((r21++([⟨1,i,8,(-1),(-1),l11⟩]:List ACell))++[r31]))))) (M.ok (r21++([⟨1,i,8,(-1),(-1),l11⟩]:List ACell))))) fun l26=>M.ok l26))
theorem VX{p:Plan}{x:Ins}{i:Int}{r:List ACell}(H:(Pn p x i).to r):Fn Tryz.prog 82 [.agg (AM p),.agg (BB x),.lit (.int .i64 i)] (.bs AN r):=by
 delta Pn at H;try dsimp only at H
 refine AE Tryz.func82 rfl (by kernel_rfl) rfl Tryz.ntmps82 fun C hC=>?_
 refine nS ?_;refine wS (sB (sB (sT (wN ?_))));refine wS (sT (wN ?_));refine wS (sT ?_);refine sA (hq:=AK (rs:=[.lit (.int .u8 1),.lit (.int .i64 i),.lit (.int .i64 8),.lit (.int .i64 (-1)),.lit (.int .i64 (-1)),.lit (.slice none 0 0)]) rfl G1 rfl rfl) (ht:=(AA O7)) ?_;refine sA0 ?_;refine sW ?_;refine wN ?_;refine A1 _ (CS 7 57 AH rfl (by decide)) ?_;refine A1 _ (Fh 2 5 3 tInt rfl rfl (by decide)) ?_;obtain⟨z7,HX7,Hl7⟩:=Al.1 H;refine Bn (β:=((List Pair)×(List Int))×(Nat×Nat)) (fun q7=>z7=q7.1) (fun q7=>⟨A3 (.ptr 0 0::.ptr 1 0::A2 (.own 3 q7.2.1::.ptr 2 0::A40 (A10 (A6 [])))),[.box (AM p),.box (BB x),.box [.lit (.int .u8 1),.lit (.int .i64 i),.lit (.int .i64 8),.lit (.int .i64 (-1)),.lit (.int .i64 (-1)),.own 4 q7.2.2],.row q7.2.1 57 AH q7.1.1,.row q7.2.2 3 tInt q7.1.2]⟩) ?_ ?_
 ·refine wS (sT (wN ?_));refine Ak ?_;refine Bv HX7 (fun s7 b7=>⟨A3 (.ptr 0 0::.ptr 1 0::A2 (.own 3 b7.1::.ptr 2 0::.lit (.int .i64 s7.1)::A40 (A10 (A5 [])))),[.box (AM p),.box (BB x),.box [.lit (.int .u8 1),.lit (.int .i64 i),.lit (.int .i64 8),.lit (.int .i64 (-1)),.lit (.int .i64 (-1)),.own 4 b7.2],.row b7.1 57 AH s7.2.1,.row b7.2 3 tInt s7.2.2]⟩) (0,0) (?_) ?_
  ·try dsimp only
   exact Bd
  ·rintro⟨k2,l4,l6⟩ ⟨v3,v5⟩ x7 H Hr7;try dsimp only
   dsimp only[Fr]at H;refine Ad fun Khs12 hs12=>?_
   refine wS (sT (sT (sT (sT (sT (wN ?_))))));refine Aj rfl (fun hb13=>?_) (fun hb13=>?_)
   ·have H:=Au hb13 H;refine Am ?_;refine hs12 _ ?_;refine nT ?_;refine Ad fun Khs14 hs14=>?_
    refine Ak ?_;obtain⟨c15,H⟩:=Ab.1 H;obtain⟨c16,H⟩:=Ab.1 H;obtain⟨c17,H⟩:=Ab.1 H;obtain⟨c18,H⟩:=Ab.1 H;refine dS 14 (hq:=?_);refine qT (qT (qT (qT (qT (qT (qT (qT (qX c15 (qT (qX c16 (qT ?_)))))))))));refine qA (hq:=AK (rs:=[.lit (.int .i64 (IntKind.i64.wrap (8+k2))),.lit (.int .i64 (ixD p.at_ (ixD x.args k2)))]) rfl CA rfl rfl) (ht:=(As Oc)) ?_;refine qA (hq:=AX.lt (xs:=[.tmp 32]) (T:=AH) (ds:=[⟨IntKind.i64.wrap (8+k2),ixD p.at_ (ixD x.args k2)⟩]) rfl rfl rfl (by rfl) (by decide) (.cons (BO c17) .nil)) (ht:=(As LN)) ?_;refine qN (sP c18 (sT (wN ?_)));obtain⟨c19,H⟩:=Ab.1 H;obtain⟨c20,H⟩:=Ab.1 H;refine wSE (sT (sT (sT (sT ?_))));refine sA (hq:=AX.lt (xs:=[.tmp 38]) (T:=tInt) (ds:=[IntKind.i64.wrap (8+k2)]) rfl rfl rfl (by rfl) (by decide) (.cons (Fit.int c19) .nil)) (ht:=(As LM)) ?_;refine sP c20 (sT ?_);refine sW ?_;refine wN ?_;refine hs14 _ ?_;refine nT ?_;refine wSE (sT (sT (sT (wN ?_))));have e7:=Ac.1 H;repeat(first|refine abN ?_|refine asN ?_)
    refine An ⟨_,(v3+1,v5+1),e7.symm,?_⟩;try dsimp only
    exact Bd
   ·have H:=Av hb13 H;refine AB ?_;repeat(first|refine BM ?_|refine exO (by decide) ?_|refine asE ?_)
    refine exN ?_;have e7:=Hr7 _ (Ac.1 H).symm;repeat(first|refine abN ?_|refine asN ?_)
    refine An ⟨(_,(v3,v5)),e7.symm,?_⟩;try dsimp only
    exact Bd
 ·rintro⟨⟨l9,l11⟩,⟨v8,v10⟩⟩ hz7;try dsimp only at hz7
  have H:=Hl7;rw[hz7]at H;try dsimp only at H
  try dsimp only
  refine A1 _ (IY hC 3 rfl (by(simp only[fzH,Cr,AV.fz,ABlk.fz,List.map_cons,List.map_nil,List.drop_zero,List.take_succ_cons,List.take_zero,List.set_cons_succ,List.set_cons_zero,and_self,and_true,true_and,if_true,Nat.reduceEqDiff,false_and,if_false];first|done|exact rfl)) (by(simp only[fzH,Cr,AV.fz,ABlk.fz,List.map_cons,List.map_nil,List.drop_zero,List.take_succ_cons,List.take_zero,List.set_cons_succ,List.set_cons_zero,and_self,and_true,true_and,if_true,Nat.reduceEqDiff,false_and,if_false];first|done|exact rfl))) ?_;refine A1 _ (IY hC 4 rfl (by(simp only[fzH,Cr,AV.fz,ABlk.fz,List.map_cons,List.map_nil,List.drop_zero,List.take_succ_cons,List.take_zero,List.set_cons_succ,List.set_cons_zero,and_self,and_true,true_and,if_true,Nat.reduceEqDiff,false_and,if_false];first|done|exact rfl)) (by(simp only[fzH,Cr,AV.fz,ABlk.fz,List.map_cons,List.map_nil,List.drop_zero,List.take_succ_cons,List.take_zero,List.set_cons_succ,List.set_cons_zero,and_self,and_true,true_and,if_true,Nat.reduceEqDiff,false_and,if_false];first|done|exact rfl))) ?_;obtain⟨r21,k21,H⟩:=Al.1 H;have k21:=Je k21;obtain⟨c22,H⟩:=Ab.1 H;obtain⟨c23,H⟩:=Ab.1 H;refine A1 ⟨A3 (.ptr 0 0::.ptr 1 0::A2 (.bs AH l9::.ptr 2 0::A40 (A10 (A6 [])))),[.box [.lit (.bool p.leaf),.lit (.int .i64 p.slots),.bs tInt p.at_],.box [.lit (.int .u8 x.op),.lit (.int .i64 x.d),.lit (.int .i64 x.a),.lit (.int .i64 x.b),.lit (.int .u32 x.n),.lit (.int .i64 x.f),.bs tInt x.args,.lit (.int .i64 x.l1),.lit (.int .i64 x.l2)],.box [.lit (.int .u8 1),.lit (.int .i64 i),.lit (.int .i64 8),.lit (.int .i64 (-1)),.lit (.int .i64 (-1)),.bs tInt l11],.dead,.dead,.dead]⟩ (St.le.trans Bd (FJ 1 rfl)) ?_;refine Ad fun Kg24 hg24=>?_
  refine Ip (n:=6) (fun b=>⟨A3 (.ptr 0 0::.ptr 1 0::A2 (.bs AH l9::.ptr 2 0::.any::(bif b 5 then .own 5 (0+1)else .any)::A20 (A10 (.any::(bif b 0 then .bs AH l9 else .any)::(bif b 1 then .own 5 0 else .any)::(bif b 2 then .agg [.lit (.int .u8 1),.lit (.int .i64 i),.lit (.int .i64 8),.lit (.int .i64 (-1)),.lit (.int .i64 (-1)),.bs tInt l11]else .any)::(bif b 3 then .bs AN [⟨1,i,8,(-1),(-1),l11⟩]else .any)::(bif b 4 then .own 5 (0+1)else .any)::A10 (A8 []))))),[.box [.lit (.bool p.leaf),.lit (.int .i64 p.slots),.bs tInt p.at_],.box [.lit (.int .u8 x.op),.lit (.int .i64 x.d),.lit (.int .i64 x.a),.lit (.int .i64 x.b),.lit (.int .u32 x.n),.lit (.int .i64 x.f),.bs tInt x.args,.lit (.int .i64 x.l1),.lit (.int .i64 x.l2)],.box [.lit (.int .u8 1),.lit (.int .i64 i),.lit (.int .i64 8),.lit (.int .i64 (-1)),.lit (.int .i64 (-1)),.bs tInt l11],.dead,.dead,(bif b 4 then .row (0+1) 67 AN (r21++([⟨1,i,8,(-1),(-1),l11⟩]:List ACell))else(bif b 1 then .row 0 67 AN r21 else .dead))]⟩) rfl (by kernel_rfl) (by kernel_rfl) ?_ (hg24 _ ?_)
  ·refine Bh (fun b hb ha hc=>?_) ?_
   ·try dsimp only
    refine BD (AX.move rfl NO) ?_;exact St.le.refl
   refine Bh (fun b hb ha hc=>?_) ?_
   ·have h0:b 0=true:=ha 0 _ rfl rfl;have h4:b 4=false:=Ct hc (i:=1) (j:=4) (k:=0) rfl rfl rfl rfl hb;have h5:b 5=false:=Ct hc (i:=1) (j:=5) (k:=3) rfl rfl rfl rfl hb;have u4:upd b 1 4=false:=h4;try dsimp only
    refine I1 5 rfl (Ab2 ((AL (AO PJ)).trans (Cf h0 _ _)) rfl) k21 (by decide) rfl (congrArg some ((DJ h4 _ _).trans (DJ hb _ _))) (by repeat(first|exact Jk|refine BT rfl ?_|refine BT (CL rfl rfl) ?_|refine BT (CL rfl (CL rfl rfl)) ?_|refine BT (CL rfl (CL rfl (CL rfl rfl))) ?_)) (by repeat(first|exact Jj|refine BS rfl ?_|refine BS (US hb rfl) ?_|refine BS (US h4 rfl) ?_|refine BS (US h5 rfl) ?_|refine BS (Ae7 rfl rfl) ?_)) ?_;simp only[DJ u4];exact St.le.refl
   refine Bh (fun b hb ha hc=>?_) ?_
   ·try dsimp only
    refine BD (Bc rfl (AO Oy) rfl rfl) ?_;exact St.le.refl
   refine Bh (fun b hb ha hc=>?_) ?_
   ·have h2:b 2=true:=ha 0 _ rfl rfl;try dsimp only
    refine BD (AX.lt (xs:=[.tmp 44]) (T:=AN) (ds:=[⟨1,i,8,(-1),(-1),l11⟩]) rfl rfl rfl (by rfl) (by decide) (.cons (Cl ((AL (AO NU)).trans (Cf h2 _ _)) (Ca c22)) .nil)) ?_;exact St.le.refl
   refine Bh (fun b hb ha hc=>?_) ?_
   ·have h1:b 1=true:=ha 0 _ rfl rfl;have h3:b 3=true:=ha 1 _ rfl rfl;try dsimp only
    refine Kv rfl ((AL (AO Kw)).trans (Cf h1 _ _)) (congrArg some ((DJ hb _ _).trans (RQ h1 _ _))) ((AL (AO L9)).trans (Cf h3 _ _)) rfl c23 ?_;exact St.le.refl
   refine Bh (fun b hb ha hc=>?_) ?_
   ·have h4:b 4=true:=ha 0 _ rfl rfl;try dsimp only
    refine BD (AX.assign rfl ((AL (AO Qd)).trans (Cf h4 _ _))) ?_;exact St.le.refl
   exact Ry
  ·refine A1 ⟨A3 (.ptr 0 0::.ptr 1 0::A2 (.bs AH l9::.ptr 2 0::.any::.own 5 (0+1)::A20 (A10 (.any::.bs AH l9::.own 5 0::.agg [.lit (.int .u8 1),.lit (.int .i64 i),.lit (.int .i64 8),.lit (.int .i64 (-1)),.lit (.int .i64 (-1)),.bs tInt l11]::.bs AN [⟨1,i,8,(-1),(-1),l11⟩]::.own 5 (0+1)::A10 (A8 []))))),[.box [.lit (.bool p.leaf),.lit (.int .i64 p.slots),.bs tInt p.at_],.box [.lit (.int .u8 x.op),.lit (.int .i64 x.d),.lit (.int .i64 x.a),.lit (.int .i64 x.b),.lit (.int .u32 x.n),.lit (.int .i64 x.f),.bs tInt x.args,.lit (.int .i64 x.l1),.lit (.int .i64 x.l2)],.box [.lit (.int .u8 1),.lit (.int .i64 i),.lit (.int .i64 8),.lit (.int .i64 (-1)),.lit (.int .i64 (-1)),.bs tInt l11],.dead,.dead,.row (0+1) 67 AN (r21++([⟨1,i,8,(-1),(-1),l11⟩]:List ACell))]⟩ St.le.refl ?_;obtain⟨z27,HX27,Hl27⟩:=Al.1 H;refine Bn (β:=((List ACell))×(Nat)) (fun q27=>z27=q27.1) (fun q27=>⟨A10 (.own 5 q27.2::A40 (A10 (A4 []))),[.dead,.dead,.dead,.dead,.dead,.row q27.2 67 AN q27.1]⟩) ?_ ?_
   ·have H:=HX27;obtain⟨c28,H⟩:=Ab.1 H;refine wS (sT (sT (sT (sT (sX c28 (sT (sT (wN ?_))))))));refine Aj rfl (fun hb29=>?_) (fun hb29=>?_)
    ·have H:=Au hb29 H;obtain⟨c30,H⟩:=Ab.1 H;obtain⟨r31,k31,H⟩:=Al.1 H;have k31:=Gx k31;obtain⟨c32,H⟩:=Ab.1 H;obtain⟨c33,H⟩:=Ab.1 H;refine wSE (sT (sT (sT (sT (sT (sX c30 (sT (sC k31 ?_))))))));refine sA (hq:=AX.lt (xs:=[.tmp 61]) (T:=AN) (ds:=[r31]) rfl rfl rfl (by rfl) (by decide) (.cons (Ca c32) .nil)) (ht:=(As (AA (AA (AA Mx))))) ?_;refine sP c33 (sT (wN ?_));have e27:=Ac.1 H;repeat(first|refine abN ?_|refine asN ?_)
     refine An ⟨(_,0+1+1),e27.symm,?_⟩;try dsimp only
     exact leC (Cut.dead (Cut.dead (Cut.dead (Cut.cons (Cut.cons (Cut.cons (Cut.nil _)))))))
    ·have H:=Av hb29 H;refine Am ?_;have e27:=Ac.1 H;repeat(first|refine abN ?_|refine asN ?_)
     refine An ⟨(_,0+1),e27.symm,?_⟩;try dsimp only
     exact leC (Cut.dead (Cut.dead (Cut.dead (Cut.cons (Cut.cons (Cut.cons (Cut.nil _)))))))
   ·rintro⟨l26,v25⟩ hz27;try dsimp only at hz27
    have H:=Hl27;rw[hz27]at H;try dsimp only
    refine wS (sT (sT (wN ?_)));obtain rfl:=Ac.1 H;exact Ar ⟨.inr rfl,Fin.own rfl⟩
def Cj(p:Plan)(x:Ins)(i:Int):M (List ACell):=M.cnd (x.op ==5) (M.bnd (Pn p x i) fun r3=>M.ok r3) (M.cnd (x.op ==10) (M.bnd (KH p) fun r6=>M.chk (BN p.at_ x.a) (M.chk (BA ⟨r6,ixD p.at_ x.a⟩) (M.bnd (Gy [⟨r6,ixD p.at_ x.a⟩]) fun r9=>M.chk (Bg ⟨1,i,(-1),r6,(-1),[]⟩) (M.chk (Gn (r9.length+([⟨1,i,(-1),r6,(-1),[]⟩]:List ACell).length) 64) (M.ok (r9++([⟨1,i,(-1),r6,(-1),[]⟩]:List ACell))))))) (M.bnd (B4 x) fun r13=>M.bnd (M.cnd (decide ((r13.length:Int) > 0)) (M.chk (BN r13 0) (M.chk (BN p.at_ (ixD r13 0)) (M.bnd (Cw (ixD p.at_ (ixD r13 0)) 1) fun r21=>M.chk (BN r13 0) (M.chk (BN p.at_ (ixD r13 0)) (M.cnd (decide ((ixD p.at_ (ixD r13 0))≥32)) (M.chk (BN r13 0) (M.chk (BN p.at_ (ixD r13 0)) (M.bnd (B0 1 (ixD p.at_ (ixD r13 0))) fun r27=>M.chk (Bg r27) (M.chk (Gn (([]:List ACell).length+ [r27].length) 64) (M.ok (r21,([]:List ACell)++[r27])))))) (M.ok (r21,([]:List ACell)))))))) (M.ok ((-1),([]:List ACell)))) fun(c2_314,l16)=>M.bnd (M.cnd (decide ((r13.length:Int) > 1)) (M.chk (BN r13 1) (M.chk (BN p.at_ (ixD r13 1)) (M.bnd (Cw (ixD p.at_ (ixD r13 1)) 2) fun r37=>M.chk (BN r13 1) (M.chk (BN p.at_ (ixD r13 1)) (M.chk (!(decide ((ixD p.at_ (ixD r13 1))≥32))||(BN r13 1)) (M.chk (!(decide ((ixD p.at_ (ixD r13 1))≥32))||(BN p.at_ (ixD r13 1))) (M.chk (!(decide ((ixD p.at_ (ixD r13 1))≥32))||(BN r13 0)) (M.chk (!(decide ((ixD p.at_ (ixD r13 1))≥32))||(BN p.at_ (ixD r13 0))) (M.cnd ((decide ((ixD p.at_ (ixD r13 1))≥32))&&((ixD p.at_ (ixD r13 1)) ==(ixD p.at_ (ixD r13 0)))) (M.ok (1,l16)) (M.chk (BN r13 1) (M.chk (BN p.at_ (ixD r13 1)) (M.cnd (decide ((ixD p.at_ (ixD r13 1))≥32)) (M.chk (BN r13 1) (M.chk (BN p.at_ (ixD r13 1)) (M.bnd (B0 2 (ixD p.at_ (ixD r13 1))) fun r50=>M.chk (Bg r50) (M.chk (Gn (l16.length+ [r50].length) 64) (M.ok (r37,l16++[r50])))))) (M.ok (r37,l16)))))))))))))) (M.ok ((-1),l16))) fun(c2_430,l32)=>M.bnd (BG x) fun r53=>M.cnd (!r53.2) (M.chk (Bg ⟨1,i,(-1),c2_314,c2_430,[]⟩) (M.chk (Gn (l32.length+([⟨1,i,(-1),c2_314,c2_430,[]⟩]:List ACell).length) 64) (M.ok (l32++([⟨1,i,(-1),c2_314,c2_430,[]⟩]:List ACell))))) (M.chk (BN p.at_ r53.1) (M.bnd (Cw (ixD p.at_ r53.1) 1) fun r59=>M.chk (Bg ⟨1,i,r59,c2_314,c2_430,[]⟩) (M.chk (Gn (l32.length+([⟨1,i,r59,c2_314,c2_430,[]⟩]:List ACell).length) 64) (M.bnd (M.chk (BN p.at_ r53.1) (M.cnd (decide ((ixD p.at_ r53.1)≥32)) (M.chk (BN p.at_ r53.1) (M.bnd (B0 (ixD p.at_ r53.1) 1) fun r68=>M.chk (Bg r68) (M.chk (Gn ((l32++([⟨1,i,r59,c2_314,c2_430,[]⟩]:List ACell)).length+ [r68].length) 64) (M.ok ((l32++([⟨1,i,r59,c2_314,c2_430,[]⟩]:List ACell))++[r68]))))) (M.ok (l32++([⟨1,i,r59,c2_314,c2_430,[]⟩]:List ACell))))) fun l63=>M.ok l63))))))
theorem QV{p:Plan}{x:Ins}{i:Int}{r:List ACell}(H:(Cj p x i).to r):Fn Tryz.prog 38 [.agg (AM p),.agg (BB x),.lit (.int .i64 i)] (.bs AN r):=by
 delta Cj at H;try dsimp only at H
 refine AE Tryz.func38 rfl (by kernel_rfl) rfl Tryz.ntmps38 fun C hC=>?_
 refine nS ?_;refine wS (sB (sB (sT (wN ?_))));refine Ad fun Khs1 hs1=>?_
 refine wS (sT (sT (sT (wN ?_))));refine Aj rfl (fun hb2=>?_) (fun hb2=>?_)
 ·have H:=Au hb2 H;obtain⟨r3,k3,H⟩:=Al.1 H;have k3:=VX k3;refine wS (sT (sT (sT (sC k3 (sT (wN ?_))))));obtain rfl:=Ac.1 H;exact Ar ⟨.inr rfl,Fin.cl rfl⟩
 ·have H:=Av hb2 H;refine Am ?_;refine hs1 _ ?_;refine nT ?_;refine wS (sT ?_);refine sA (hq:=AK (rs:=[.lit (.int .u8 1),.lit (.int .i64 i),.lit (.int .i64 (-1)),.lit (.int .i64 (-1)),.lit (.int .i64 (-1)),.lit (.slice none 0 0)]) rfl G1 rfl rfl) (ht:=(AA (AA O7))) ?_;refine sA0 ?_;refine sW ?_;refine wN ?_;refine Ad fun Khs4 hs4=>?_
  refine wS (sT (sT (sT (wN ?_))));refine Aj rfl (fun hb5=>?_) (fun hb5=>?_)
  ·have H:=Au hb5 H;obtain⟨r6,k6,H⟩:=Al.1 H;have k6:=QU k6;refine wS (sT (sC k6 (sT ?_)));refine sW ?_;refine wN ?_;obtain⟨c7,H⟩:=Ab.1 H;obtain⟨c8,H⟩:=Ab.1 H;obtain⟨r9,k9,H⟩:=Al.1 H;have k9:=Je k9;obtain⟨c10,H⟩:=Ab.1 H;obtain⟨c11,H⟩:=Ab.1 H;refine A1 ⟨.agg (AM p)::.agg (BB x)::.lit (.int .i64 i)::.ptr 0 0::.ptr 1 0::.any::.lit (.slice none 0 0)::.ptr 2 0::A4 (.ptr 1 0::.lit (.int .u8 x.op)::.lit (.bool (x.op ==5))::A4 (.lit (.int .i64 i)::.agg [.lit (.int .u8 1),.lit (.int .i64 i),.lit (.int .i64 (-1)),.lit (.int .i64 (-1)),.lit (.int .i64 (-1)),.lit (.slice none 0 0)]::.ptr 1 0::.lit (.int .u8 x.op)::.lit (.bool (x.op ==10))::.agg (AM p)::.lit (.int .i64 r6)::.ptr 2 3::A80 (A40 (A20 (A2 []))))),[.box (AM p),.box (BB x),.box [.lit (.int .u8 1),.lit (.int .i64 i),.lit (.int .i64 (-1)),.lit (.int .i64 r6),.lit (.int .i64 (-1)),.lit (.slice none 0 0)],.dead]⟩ (St.le.trans Bd (FJ 1 rfl)) ?_;refine Ad fun Kg12 hg12=>?_
   refine Ip (n:=15) (fun b=>⟨.agg (AM p)::.agg (BB x)::.lit (.int .i64 i)::.ptr 0 0::.ptr 1 0::.any::(bif b 14 then .own 3 (0+1)else .lit (.slice none 0 0))::.ptr 2 0::A4 (.ptr 1 0::.lit (.int .u8 x.op)::.lit (.bool (x.op ==5))::A4 (.lit (.int .i64 i)::.agg [.lit (.int .u8 1),.lit (.int .i64 i),.lit (.int .i64 (-1)),.lit (.int .i64 (-1)),.lit (.int .i64 (-1)),.lit (.slice none 0 0)]::.ptr 1 0::.lit (.int .u8 x.op)::.lit (.bool (x.op ==10))::.agg (AM p)::.lit (.int .i64 r6)::.ptr 2 3::(bif b 0 then .ptr 2 3 else .any)::(bif b 1 then .lit (.int .i64 r6)else .any)::(bif b 2 then .ptr 0 2 else .any)::(bif b 3 then .bs tInt p.at_ else .any)::(bif b 4 then .ptr 1 2 else .any)::(bif b 5 then .lit (.int .i64 x.a)else .any)::(bif b 6 then .bp tInt (ixD p.at_ x.a) 0 else .any)::(bif b 7 then .lit (.int .i64 (ixD p.at_ x.a))else .any)::(bif b 8 then .agg [.lit (.int .i64 r6),.lit (.int .i64 (ixD p.at_ x.a))]else .any)::(bif b 9 then .bs AH [⟨r6,ixD p.at_ x.a⟩]else .any)::(bif b 10 then .own 3 0 else .any)::(bif b 11 then .agg [.lit (.int .u8 1),.lit (.int .i64 i),.lit (.int .i64 (-1)),.lit (.int .i64 r6),.lit (.int .i64 (-1)),.lit (.slice none 0 0)]else .any)::(bif b 12 then .bs AN [⟨1,i,(-1),r6,(-1),[]⟩]else .any)::(bif b 13 then .own 3 (0+1)else .any)::A80 (A40 (A8 [])))),[.box (AM p),.box (BB x),.box [.lit (.int .u8 1),.lit (.int .i64 i),.lit (.int .i64 (-1)),.lit (.int .i64 r6),.lit (.int .i64 (-1)),.lit (.slice none 0 0)],(bif b 13 then .row (0+1) 67 AN (r9++([⟨1,i,(-1),r6,(-1),[]⟩]:List ACell))else(bif b 10 then .row 0 67 AN r9 else .dead))]⟩) rfl (by kernel_rfl) (by kernel_rfl) ?_ (hg12 _ ?_)
   ·refine Bh (fun b hb ha hc=>?_) ?_
    ·try dsimp only
     refine BD (BU rfl NO rfl) ?_;exact St.le.refl
    refine Bh (fun b hb ha hc=>?_) ?_
    ·have h0:b 0=true:=ha 0 _ rfl rfl;try dsimp only
     refine BD (Bk rfl ((AO (AO (AO Kw))).trans (Cf h0 _ _)) rfl rfl) ?_;exact St.le.refl
    refine Bh (fun b hb ha hc=>?_) ?_
    ·try dsimp only
     refine BD (BU rfl Kw rfl) ?_;exact St.le.refl
    refine Bh (fun b hb ha hc=>?_) ?_
    ·have h2:b 2=true:=ha 0 _ rfl rfl;try dsimp only
     refine BD (Bk rfl ((AO (AO (AO L9))).trans (Cf h2 _ _)) rfl rfl) ?_;exact St.le.refl
    refine Bh (fun b hb ha hc=>?_) ?_
    ·try dsimp only
     refine BD (BU rfl NU rfl) ?_;exact St.le.refl
    refine Bh (fun b hb ha hc=>?_) ?_
    ·have h4:b 4=true:=ha 0 _ rfl rfl;try dsimp only
     refine BD (Bk rfl ((AO (AO (AO NO))).trans (Cf h4 _ _)) rfl rfl) ?_;exact St.le.refl
    refine Bh (fun b hb ha hc=>?_) ?_
    ·have h3:b 3=true:=ha 0 _ rfl rfl;have h5:b 5=true:=ha 1 _ rfl rfl;try dsimp only
     refine BD (Dy rfl ((AO (AO (AO Qd))).trans (Cf h3 _ _)) ((AL Oy).trans (Cf h5 _ _)) rfl c7) ?_;exact St.le.refl
    refine Bh (fun b hb ha hc=>?_) ?_
    ·have h6:b 6=true:=ha 0 _ rfl rfl;try dsimp only
     refine BD (DE rfl ((AL U2).trans (Cf h6 _ _)) rfl) ?_;exact St.le.refl
    refine Bh (fun b hb ha hc=>?_) ?_
    ·have h1:b 1=true:=ha 0 _ rfl rfl;have h7:b 7=true:=ha 1 _ rfl rfl;try dsimp only
     refine BD (ND (rs:=[.lit (.int .i64 r6),.lit (.int .i64 (ixD p.at_ x.a))]) rfl CA (Ab2 ((AO (AO (AO NU))).trans (Cf h1 _ _)) (Ab2 ((AL PJ).trans (Cf h7 _ _)) rfl)) rfl rfl) ?_;exact St.le.refl
    refine Bh (fun b hb ha hc=>?_) ?_
    ·have h8:b 8=true:=ha 0 _ rfl rfl;try dsimp only
     refine BD (AX.lt (xs:=[.tmp 35]) (T:=AH) (ds:=[⟨r6,ixD p.at_ x.a⟩]) rfl rfl rfl (by rfl) (by decide) (.cons (Cl ((AL Kw).trans (Cf h8 _ _)) (BO c8)) .nil)) ?_;exact St.le.refl
    refine Bh (fun b hb ha hc=>?_) ?_
    ·have h9:b 9=true:=ha 0 _ rfl rfl;have h13:b 13=false:=Ct hc (i:=10) (j:=13) (k:=0) rfl rfl rfl rfl hb;have h14:b 14=false:=Ct hc (i:=10) (j:=14) (k:=12) rfl rfl rfl rfl hb;have u13:upd b 10 13=false:=h13;try dsimp only
     refine I1 3 rfl (Ab2 ((AL NU).trans (Cf h9 _ _)) rfl) k9 (by decide) rfl (congrArg some ((DJ h13 _ _).trans (DJ hb _ _))) (by repeat(first|exact Jk|refine BT rfl ?_|refine BT (CL rfl rfl) ?_|refine BT (CL rfl (CL rfl rfl)) ?_|refine BT (CL rfl (CL rfl (CL rfl rfl))) ?_)) (by repeat(first|exact Jj|refine BS rfl ?_|refine BS (US hb rfl) ?_|refine BS (US h13 rfl) ?_|refine BS (US h14 rfl) ?_|refine BS (Ae7 rfl rfl) ?_)) ?_;simp only[DJ u13];exact St.le.refl
    refine Bh (fun b hb ha hc=>?_) ?_
    ·try dsimp only
     refine BD (Bc rfl NO rfl rfl) ?_;exact St.le.refl
    refine Bh (fun b hb ha hc=>?_) ?_
    ·have h11:b 11=true:=ha 0 _ rfl rfl;try dsimp only
     refine BD (AX.lt (xs:=[.tmp 38]) (T:=AN) (ds:=[⟨1,i,(-1),r6,(-1),[]⟩]) rfl rfl rfl (by rfl) (by decide) (.cons (Cl ((AL Qd).trans (Cf h11 _ _)) (Fit.up (Lf (.cons (.refl _) (.cons (.refl _) (.cons (.refl _) (.cons (.refl _) (.cons (.refl _) (.cons (.nil _) .nil))))))) (Ca c10))) .nil)) ?_;exact St.le.refl
    refine Bh (fun b hb ha hc=>?_) ?_
    ·have h10:b 10=true:=ha 0 _ rfl rfl;have h12:b 12=true:=ha 1 _ rfl rfl;try dsimp only
     refine Kv rfl ((AL L9).trans (Cf h10 _ _)) (congrArg some ((DJ hb _ _).trans (RQ h10 _ _))) ((AL NO).trans (Cf h12 _ _)) rfl c11 ?_;exact St.le.refl
    refine Bh (fun b hb ha hc=>?_) ?_
    ·have h13:b 13=true:=ha 0 _ rfl rfl;try dsimp only
     refine BD (AX.assign rfl ((AL (AO Oy)).trans (Cf h13 _ _))) ?_;exact St.le.refl
    exact Ry
   ·refine A1 ⟨.agg (AM p)::.agg (BB x)::.lit (.int .i64 i)::.ptr 0 0::.ptr 1 0::.any::.own 3 (0+1)::.ptr 2 0::A4 (.ptr 1 0::.lit (.int .u8 x.op)::.lit (.bool (x.op ==5))::A4 (.lit (.int .i64 i)::.agg [.lit (.int .u8 1),.lit (.int .i64 i),.lit (.int .i64 (-1)),.lit (.int .i64 (-1)),.lit (.int .i64 (-1)),.lit (.slice none 0 0)]::.ptr 1 0::.lit (.int .u8 x.op)::.lit (.bool (x.op ==10))::.agg (AM p)::.lit (.int .i64 r6)::.ptr 2 3::.ptr 2 3::.lit (.int .i64 r6)::.ptr 0 2::.bs tInt p.at_::.ptr 1 2::.lit (.int .i64 x.a)::.bp tInt (ixD p.at_ x.a) 0::.lit (.int .i64 (ixD p.at_ x.a))::.agg [.lit (.int .i64 r6),.lit (.int .i64 (ixD p.at_ x.a))]::.bs AH [⟨r6,ixD p.at_ x.a⟩]::.own 3 0::.agg [.lit (.int .u8 1),.lit (.int .i64 i),.lit (.int .i64 (-1)),.lit (.int .i64 r6),.lit (.int .i64 (-1)),.lit (.slice none 0 0)]::.bs AN [⟨1,i,(-1),r6,(-1),[]⟩]::.own 3 (0+1)::A80 (A40 (A8 [])))),[.box (AM p),.box (BB x),.box [.lit (.int .u8 1),.lit (.int .i64 i),.lit (.int .i64 (-1)),.lit (.int .i64 r6),.lit (.int .i64 (-1)),.lit (.slice none 0 0)],.row (0+1) 67 AN (r9++([⟨1,i,(-1),r6,(-1),[]⟩]:List ACell))]⟩ St.le.refl ?_;obtain rfl:=Ac.1 H;exact Ar ⟨.inr rfl,Fin.own rfl⟩
  ·have H:=Av hb5 H;refine Am ?_;refine hs4 _ ?_;refine nT ?_;refine wS (sT (wN ?_));obtain⟨r13,k13,H⟩:=Al.1 H;have k13:=Tj k13;refine wS (sT (sC k13 (sT (wN ?_))));refine A1 _ (CS 8 67 AN rfl (by decide)) ?_;obtain⟨z17,HX17,Hl17⟩:=Al.1 H;refine Bn (β:=(Int×(List ACell))×(Nat)) (fun q17=>z17=q17.1) (fun q17=>⟨A3 (.ptr 0 0::.ptr 1 0::A2 (.ptr 2 0::.own 3 q17.2::.bs tInt r13::A80 (A40 (A20 (A10 (A9 [])))))),[.box (AM p),.box (BB x),.box [.lit (.int .u8 1),.lit (.int .i64 i),.lit (.int .i64 (-1)),.lit (.int .i64 q17.1.1),.lit (.int .i64 (-1)),.lit (.slice none 0 0)],.row q17.2 67 AN q17.1.2]⟩) ?_ ?_
   ·have H:=HX17;refine wS (sT (sT (sT (wN ?_))));refine Aj rfl (fun hb18=>?_) (fun hb18=>?_)
    ·have H:=Au hb18 H;obtain⟨c19,H⟩:=Ab.1 H;obtain⟨c20,H⟩:=Ab.1 H;obtain⟨r21,k21,H⟩:=Al.1 H;have k21:=MF k21;refine dS 9 (hq:=?_);refine qT (qT (qT (qX c19 (qT (qX c20 (qT (qC k21 (qT (qN ?_)))))))));refine sW ?_;refine wN ?_;obtain⟨c22,H⟩:=Ab.1 H;obtain⟨c23,H⟩:=Ab.1 H;refine dS 8 (hq:=?_);refine qT (qT (qT (qX c22 (qT (qX c23 (qT (qT (qN (wN ?_)))))))));refine Aj rfl (fun hb24=>?_) (fun hb24=>?_)
     ·have H:=Au hb24 H;obtain⟨c25,H⟩:=Ab.1 H;obtain⟨c26,H⟩:=Ab.1 H;obtain⟨r27,k27,H⟩:=Al.1 H;have k27:=Gx k27;obtain⟨c28,H⟩:=Ab.1 H;obtain⟨c29,H⟩:=Ab.1 H;refine dSE 10 (hq:=?_);refine qT (qT (qT (qT (qX c25 (qT (qX c26 (qT (qC k27 ?_))))))));refine qA (hq:=AX.lt (xs:=[.tmp 71]) (T:=AN) (ds:=[r27]) rfl rfl rfl (by rfl) (by decide) (.cons (Ca c28) .nil)) (ht:=(As (As (AA Oc)))) ?_;refine qN (sP c29 (sT (wN ?_)));have e17:=Ac.1 H;repeat(first|refine abN ?_|refine asN ?_)
      refine An ⟨(_,0+1),e17.symm,?_⟩;try dsimp only
      exact Bd
     ·have H:=Av hb24 H;refine Am ?_;have e17:=Ac.1 H;repeat(first|refine abN ?_|refine asN ?_)
      refine An ⟨(_,0),e17.symm,?_⟩;try dsimp only
      exact Bd
    ·have H:=Av hb18 H;refine Am ?_;have e17:=Ac.1 H;repeat(first|refine abN ?_|refine asN ?_)
     refine An ⟨(_,0),e17.symm,?_⟩;try dsimp only
     exact Bd
   ·rintro⟨⟨c2_314,l16⟩,v15⟩ hz17;try dsimp only at hz17
    have H:=Hl17;rw[hz17]at H;try dsimp only at H⊢
    obtain⟨z33,HX33,Hl33⟩:=Al.1 H;refine Bn (β:=(Int×(List ACell))×(Nat)) (fun q33=>z33=q33.1) (fun q33=>⟨A3 (.ptr 0 0::.ptr 1 0::A2 (.ptr 2 0::.own 3 q33.2::A80 (A80 []))),[.box (AM p),.box (BB x),.box [.lit (.int .u8 1),.lit (.int .i64 i),.lit (.int .i64 (-1)),.lit (.int .i64 c2_314),.lit (.int .i64 q33.1.1),.lit (.slice none 0 0)],.row q33.2 67 AN q33.1.2]⟩) ?_ ?_
    ·have H:=HX33;refine wS (sT (sT (sT (wN ?_))));refine Aj rfl (fun hb34=>?_) (fun hb34=>?_)
     ·have H:=Au hb34 H;obtain⟨c35,H⟩:=Ab.1 H;obtain⟨c36,H⟩:=Ab.1 H;obtain⟨r37,k37,H⟩:=Al.1 H;have k37:=MF k37;refine dS 9 (hq:=?_);refine qT (qT (qT (qX c35 (qT (qX c36 (qT (qC k37 (qT (qN ?_)))))))));refine sW ?_;refine wN ?_;obtain⟨c38,H⟩:=Ab.1 H;obtain⟨c39,H⟩:=Ab.1 H;obtain⟨c40,H⟩:=Ab.1 H;obtain⟨c41,H⟩:=Ab.1 H;obtain⟨c42,H⟩:=Ab.1 H;obtain⟨c43,H⟩:=Ab.1 H;refine dS 25 (hq:=?_);refine qT (qT (qT (qX c38 (qT (qX c39 (qT (qT (qT ?_))))))));refine qGt rfl ?_;refine qGt rfl ?_;refine qGt rfl ?_;refine UI rfl c40 ?_;refine qGt rfl ?_;refine UI rfl c41 ?_;refine qGt rfl ?_;refine qGt rfl ?_;refine qGt rfl ?_;refine qGt rfl ?_;refine UI rfl c42 ?_;refine qGt rfl ?_;refine UI rfl c43 ?_;refine qGt rfl ?_;refine qGt rfl (qT (qN (wN ?_)));refine Aj rfl (fun hb44=>?_) (fun hb44=>?_)
      ·have H:=Au hb44 H;refine wSE (sT ?_);refine sW ?_;refine wN ?_;have e33:=Ac.1 H;repeat(first|refine abN ?_|refine asN ?_)
       refine An ⟨(_,v15),e33.symm,?_⟩;try dsimp only
       exact Bd
      ·have H:=Av hb44 H;obtain⟨c45,H⟩:=Ab.1 H;obtain⟨c46,H⟩:=Ab.1 H;refine dS 8 (hq:=?_);refine qT (qT (qT (qX c45 (qT (qX c46 (qT (qT (qN (wN ?_)))))))));refine Aj rfl (fun hb47=>?_) (fun hb47=>?_)
       ·have H:=Au hb47 H;obtain⟨c48,H⟩:=Ab.1 H;obtain⟨c49,H⟩:=Ab.1 H;obtain⟨r50,k50,H⟩:=Al.1 H;have k50:=Gx k50;obtain⟨c51,H⟩:=Ab.1 H;obtain⟨c52,H⟩:=Ab.1 H;refine dSE 10 (hq:=?_);refine qT (qT (qT (qT (qX c48 (qT (qX c49 (qT (qC k50 ?_))))))));refine qA (hq:=AX.lt (xs:=[.tmp 128]) (T:=AN) (ds:=[r50]) rfl rfl rfl (by rfl) (by decide) (.cons (Ca c51) .nil)) (ht:=(As (As (As (As LN))))) ?_;refine qN (sP c52 (sT (wN ?_)));have e33:=Ac.1 H;repeat(first|refine abN ?_|refine asN ?_)
        refine An ⟨(_,v15+1),e33.symm,?_⟩;try dsimp only
        exact Bd
       ·have H:=Av hb47 H;refine Am ?_;have e33:=Ac.1 H;repeat(first|refine abN ?_|refine asN ?_)
        refine An ⟨(_,v15),e33.symm,?_⟩;try dsimp only
        exact Bd
     ·have H:=Av hb34 H;refine Am ?_;have e33:=Ac.1 H;repeat(first|refine abN ?_|refine asN ?_)
      refine An ⟨(_,v15),e33.symm,?_⟩;try dsimp only
      exact Bd
    ·rintro⟨⟨c2_430,l32⟩,v31⟩ hz33;try dsimp only at hz33
     have H:=Hl33;rw[hz33]at H;try dsimp only at H⊢
     obtain⟨r53,k53,H⟩:=Al.1 H;have k53:=Lr k53;refine wS (sT (sC k53 (sT (sT (sT (sT (sT (wN ?_))))))));refine Ad fun Khs54 hs54=>?_
     refine wS (sT (sT (wN ?_)));refine Aj rfl (fun hb55=>?_) (fun hb55=>?_)
     ·have H:=Au hb55 H;obtain⟨c56,H⟩:=Ab.1 H;obtain⟨c57,H⟩:=Ab.1 H;refine wS (sT (sT ?_));refine sA (hq:=AX.lt (xs:=[.tmp 139]) (T:=AN) (ds:=[⟨1,i,(-1),c2_314,c2_430,[]⟩]) rfl rfl rfl (by rfl) (by decide) (.cons (Fit.up (Lf (.cons (.refl _) (.cons (.refl _) (.cons (.refl _) (.cons (.refl _) (.cons (.refl _) (.cons (.nil _) .nil))))))) (Ca c56)) .nil)) (ht:=(As (As (As (As (AA O7)))))) (hk:=?_);refine sP c57 (sT (wN ?_));obtain rfl:=Ac.1 H;exact Ar ⟨.inr rfl,Fin.own rfl⟩
     ·have H:=Av hb55 H;refine Am ?_;refine hs54 _ ?_;refine nT ?_;obtain⟨c58,H⟩:=Ab.1 H;obtain⟨r59,k59,H⟩:=Al.1 H;have k59:=MF k59;refine wS (sT (sT (sT (sX c58 (sT (sC k59 (sT ?_)))))));refine sW ?_;refine wN ?_;obtain⟨c60,H⟩:=Ab.1 H;obtain⟨c61,H⟩:=Ab.1 H;refine wS (sT (sT ?_));refine sA (hq:=AX.lt (xs:=[.tmp 150]) (T:=AN) (ds:=[⟨1,i,r59,c2_314,c2_430,[]⟩]) rfl rfl rfl (by rfl) (by decide) (.cons (Fit.up (Lf (.cons (.refl _) (.cons (.refl _) (.cons (.refl _) (.cons (.refl _) (.cons (.refl _) (.cons (.nil _) .nil))))))) (Ca c60)) .nil)) (ht:=(As (As (As (As (AA (AA LM))))))) (hk:=?_);refine sP c61 (sT (wN ?_));obtain⟨z64,HX64,Hl64⟩:=Al.1 H;refine Bn (β:=((List ACell))×(Nat)) (fun q64=>z64=q64.1) (fun q64=>⟨A8 (.own 3 q64.2::A80 (A80 [])),[.dead,.dead,.dead,.row q64.2 67 AN q64.1]⟩) ?_ ?_
      ·have H:=HX64;obtain⟨c65,H⟩:=Ab.1 H;refine wS (sT (sT (sT (sX c65 (sT (sT (wN ?_)))))));refine Aj rfl (fun hb66=>?_) (fun hb66=>?_)
       ·have H:=Au hb66 H;obtain⟨c67,H⟩:=Ab.1 H;obtain⟨r68,k68,H⟩:=Al.1 H;have k68:=Gx k68;obtain⟨c69,H⟩:=Ab.1 H;obtain⟨c70,H⟩:=Ab.1 H;refine wSE (sT (sT (sT (sT (sX c67 (sT (sC k68 ?_)))))));refine sA (hq:=AX.lt (xs:=[.tmp 165]) (T:=AN) (ds:=[r68]) rfl rfl rfl (by rfl) (by decide) (.cons (Ca c69) .nil)) (ht:=(As (As (As (As (As Mx)))))) (hk:=?_);refine sP c70 (sT (wN ?_));have e64:=Ac.1 H;repeat(first|refine abN ?_|refine asN ?_)
        refine An ⟨(_,v31+1+1),e64.symm,?_⟩;try dsimp only
        exact leC (Cut.dead (Cut.dead (Cut.dead (Cut.cons (Cut.nil _)))))
       ·have H:=Av hb66 H;refine Am ?_;have e64:=Ac.1 H;repeat(first|refine abN ?_|refine asN ?_)
        refine An ⟨(_,v31+1),e64.symm,?_⟩;try dsimp only
        exact leC (Cut.dead (Cut.dead (Cut.dead (Cut.cons (Cut.nil _)))))
      ·rintro⟨l63,v62⟩ hz64;try dsimp only at hz64
       have H:=Hl64;rw[hz64]at H;try dsimp only
       refine wS (sT (sT (wN ?_)));obtain rfl:=Ac.1 H;exact Ar ⟨.inr rfl,Fin.own rfl⟩
def Hy(f:Func)(p:Plan)(bP2:Int)(i:Int):M (List ACell×Int):=M.bnd (CE f p) fun r2=>M.cnd (!r2) (M.ok ([],2)) (M.chk (!(!(((decide (bP2 < 0))||(decide (bP2≥(f.blocks.length:Int))))||(decide (i < 0))))||(BN f.blocks bP2)) (M.cnd ((((decide (bP2 < 0))||(decide (bP2≥(f.blocks.length:Int))))||(decide (i < 0)))||(decide (i≥(((ixD f.blocks bP2).ins).length:Int)))) (M.ok ([],7)) (M.chk (BN f.blocks bP2) (M.chk (BN ((ixD f.blocks bP2).ins) i) (M.bnd (Cj p (ixD ((ixD f.blocks bP2).ins) i) i) fun r9=>M.ok (r9,0))))))
theorem Tf{f:Func}{p:Plan}{bP2:Int}{i:Int}{r:List ACell×Int}(H:(Hy f p bP2 i).to r):Fn Tryz.prog 13 [.agg (Aq f),.agg (AM p),.lit (.int .i64 bP2),.lit (.int .i64 i)] (.tup [.bs AN r.1,.lit (.int .i64 r.2)]):=by
 delta Hy at H;try dsimp only at H
 refine IE Tryz.func13 rfl (by kernel_rfl) rfl Tryz.ntmps13 fun C hC=>?_
 refine nS ?_;refine wS (sB (sB (sT (sT (wN ?_)))));refine Ad fun Khs1 hs1=>?_
 obtain⟨r2,k2,H⟩:=Al.1 H;have k2:=MH k2;refine wS (sT (sT (sC k2 (sT (wN ?_)))));refine Aj rfl (fun hb3=>?_) (fun hb3=>?_)
 ·have H:=Au hb3 H;refine wS (sT (sT (wN ?_)));obtain rfl:=Ac.1 H;refine A1 _ (Ko 8 AN rfl) ?_;exact Ar ⟨.inr rfl,_,_,Fin.cl rfl,rfl,rfl⟩
 ·have H:=Av hb3 H;refine Am ?_;refine hs1 _ ?_;refine nT ?_;refine Ad fun Khs4 hs4=>?_
  obtain⟨c5,H⟩:=Ab.1 H;refine wS (sT (sT (sT ?_)));refine sGf rfl ?_;refine sGf rfl ?_;refine sGf rfl ?_;refine sGf rfl ?_;refine sGf rfl (sT (sT ?_));refine sGf rfl ?_;refine sGf rfl (sT (sT ?_));refine sGf rfl ?_;refine sGf rfl ?_;refine sGf rfl ?_;refine sGf rfl ?_;refine sG (g:=(!(((decide (bP2 < 0))||(decide (bP2≥(f.blocks.length:Int))))||(decide (i < 0))))) (hg:=SJ rfl) (hq:=fun hg=>Dy rfl ((AO (AO (AO Qd))).trans (Cf hg _ _)) ((AO (AO (AO NO))).trans (Cf hg _ _)) rfl (DG c5 hg)) (ht:=(As Oc)) (hk:=?_);refine sGf rfl ?_;refine sGf rfl ?_;refine sGf rfl ?_;refine sGf rfl (sT (wN ?_));refine Aj rfl (fun hb6=>?_) (fun hb6=>?_)
  ·have H:=Au hb6 H;refine wS (sT (sT (wN ?_)));obtain rfl:=Ac.1 H;refine A1 _ (Ko 8 AN rfl) ?_;exact Ar ⟨.inr rfl,_,_,Fin.cl rfl,rfl,rfl⟩
  ·have H:=Av hb6 H;refine Am ?_;refine hs4 _ ?_;refine nT ?_;obtain⟨c7,H⟩:=Ab.1 H;obtain⟨c8,H⟩:=Ab.1 H;obtain⟨r9,k9,H⟩:=Al.1 H;have k9:=QV k9;refine dS 14 (hq:=?_);refine qT (qT (qT (qT (qX c7 (qT (qT (qT (qX c8 (qT (qT (qC k9 ?_)))))))))));refine qT (qT (qN (wN ?_)));obtain rfl:=Ac.1 H;exact Ar ⟨.inr rfl,_,_,Fin.cl rfl,rfl,rfl⟩
def Do(p:Plan)(r4:List (List (List Int)))(r5:Int):(Int×(List Pair))→M ((Int×(List Pair))⊕((List Pair))):=fun(k13,l15)=>M.chk (BN r4 0) (M.chk (BN (ixD r4 0) 0) (M.cnd (decide (k13 < ((ixD (ixD r4 0) 0).length:Int))) (M.bnd (M.chk (BN r4 0) (M.chk (BN (ixD r4 0) 0) (M.chk (BN (ixD (ixD r4 0) 0) k13) (M.cnd ((ixD (ixD (ixD r4 0) 0) k13) ==r5) (M.chk (BN p.at_ r5) (M.bnd (KH p) fun r31=>M.chk (BA ⟨ixD p.at_ r5,IntKind.i64.wrap (r31+r5)⟩) (M.chk (Gn (l15.length+([⟨ixD p.at_ r5,IntKind.i64.wrap (r31+r5)⟩]:List Pair).length) 16) (M.ok (l15++([⟨ixD p.at_ r5,IntKind.i64.wrap (r31+r5)⟩]:List Pair)))))) (M.ok l15))))) fun l24=>M.ok (.inl (IntKind.i64.wrap (k13+1),l24))) (M.ok (.inr l15))))
def CO(f:Func)(p:Plan)(r4:List (List (List Int))):(Int×(List Pair))→M ((Int×(List Pair))⊕((List Pair))):=fun(r5,l7)=>M.cnd ((decide (r5 < f.args))&&(decide ((r4.length:Int) > 0))) (M.bnd (M.loop (Do p r4 r5) (0,l7)) fun l18=>M.ok (.inl (IntKind.i64.wrap (r5+1),l18))) (M.ok (.inr l7))
def Dm(f:Func)(p:Plan)(b36:Int):(Int×(List ACell))→M ((Int×(List ACell))⊕((List ACell))):=fun(i48,l52)=>M.chk (BN f.blocks b36) (M.cnd (decide (i48 < (((ixD f.blocks b36).ins).length:Int))) (M.chk (BN f.blocks b36) (M.chk (BN ((ixD f.blocks b36).ins) i48) (M.bnd (Cj ⟨p.leaf,p.slots,p.at_⟩ (ixD ((ixD f.blocks b36).ins) i48) i48) fun r64=>M.chk (Gn (l52.length+r64.length) 64) (M.ok (.inl (IntKind.i64.wrap (i48+1),l52++r64)))))) (M.ok (.inr l52)))
def Dn(f:Func)(p:Plan):(Int×(List ABlock))→M ((Int×(List ABlock))⊕((List ABlock))):=fun(b36,l39)=>M.cnd (decide (b36 < (f.blocks.length:Int))) (M.bnd (M.loop (Dm f p b36) (0,([]:List ACell))) fun l57=>M.chk (HT ⟨l57⟩) (M.chk (Gn (l39.length+([⟨l57⟩]:List ABlock).length) 24) (M.ok (.inl (IntKind.i64.wrap (b36+1),l39++([⟨l57⟩]:List ABlock)))))) (M.ok (.inr l39))
def Fv(f:Func)(p:Plan):M (AFunc×Int):=M.bnd (CE f p) fun r2=>M.cnd (!r2) (M.ok (⟨false,0,[],[]⟩,2)) (M.bnd (Ti f) fun r4=>M.bnd (M.loop (CO f p r4) (0,([]:List Pair))) fun l10=>M.bnd (Gy l10) fun r34=>M.bnd (M.loop (Dn f p) (0,([]:List ABlock))) fun l43=>M.ok (⟨p.leaf,p.slots,r34,l43⟩,0))
theorem Po{f:Func}{p:Plan}{r:AFunc×Int}(H:(Fv f p).to r):Fn Tryz.prog 11 [.agg (Aq f),.agg (AM p)] (.tup [.agg (IA r.1),.lit (.int .i64 r.2)]):=by
 delta Fv at H;try dsimp only at H
 refine NG Tryz.func11 rfl (by kernel_rfl) rfl (by kernel_rfl:T9 Tryz.prog 34=some (true,4)) Tryz.ntmps11 fun C hC=>?_
 refine nS ?_;refine wS (sB (sB (sA0 (sT (wN ?_)))));refine Ad fun Khs1 hs1=>?_
 obtain⟨r2,k2,H⟩:=Al.1 H;have k2:=MH k2;refine wS (sT (sT (sC k2 (sT (wN ?_)))));refine Aj rfl (fun hb3=>?_) (fun hb3=>?_)
 ·have H:=Au hb3 H;refine wS ?_;refine sA (hq:=AK (rs:=[.lit (.bool false),.lit (.int .i64 0),.lit (.slice none 0 0),.lit (.slice none 0 0)]) rfl MP rfl rfl) (ht:=(AA (AA O8))) ?_;refine sW ?_;refine sT (wN ?_);obtain rfl:=Ac.1 H;exact Ar ⟨.inr rfl,2,_,rfl,rfl,rfl,Fin.weak rfl (fun _ _ _ H=>Up.rel (Ajf (.cons (Lf (.cons (.refl _) (.cons (.refl _) (.cons (.nil _) (.cons (.nil _) .nil))))) (.cons (.refl _) .nil))) H)⟩
 ·have H:=Av hb3 H;refine Am ?_;refine hs1 _ ?_;refine nT ?_;refine wS (sT (sT (sT (sT ?_))));refine sA (hq:=AK (rs:=[.lit (.bool p.leaf),.lit (.int .i64 p.slots),.lit (.slice none 0 0),.lit (.slice none 0 0)]) rfl MP rfl rfl) (ht:=(AA (AA LM))) ?_;refine sA0 ?_;refine sW ?_;refine wN ?_;obtain⟨r4,k4,H⟩:=Al.1 H;have k4:=Q0 k4;refine wS (sT (sC k4 (sT (wN ?_))));refine wS (sT (wN ?_));refine A1 _ (CS 8 57 AH rfl (by decide)) ?_;obtain⟨z8,HX8,Hl8⟩:=Al.1 H;refine Bn (β:=((List Pair))×(Nat)) (fun q8=>z8=q8.1) (fun q8=>⟨A2 (.ptr 0 0::.ptr 1 0::.ptr 2 0::.any::.ptr 3 0::.any::.own 4 q8.2::A80 (A20 (A5 []))),[.box (Aq f),.box (AM p),.box [.lit (.bool false),.lit (.int .i64 0),.lit (.slice none 0 0),.lit (.slice none 0 0)],.box [.lit (.bool p.leaf),.lit (.int .i64 p.slots),.lit (.slice none 0 0),.lit (.slice none 0 0)],.row q8.2 57 AH q8.1]⟩) ?_ ?_
  ·refine wS (sT (wN ?_));refine Ak ?_;refine Bv HX8 (fun s8 b8=>⟨A2 (.ptr 0 0::.ptr 1 0::.ptr 2 0::.any::.ptr 3 0::.bs tInt.slice.slice r4::.own 4 b8::.lit (.int .i64 s8.1)::A80 (A20 (A4 []))),[.box (Aq f),.box (AM p),.box [.lit (.bool false),.lit (.int .i64 0),.lit (.slice none 0 0),.lit (.slice none 0 0)],.box [.lit (.bool p.leaf),.lit (.int .i64 p.slots),.lit (.slice none 0 0),.lit (.slice none 0 0)],.row b8 57 AH s8.2]⟩) 0 (?_) ?_
   ·try dsimp only
    exact Bd
   ·rintro⟨r5,l7⟩ v6 x8 H Hr8;try dsimp only
    dsimp only[CO]at H;refine Ad fun Khs11 hs11=>?_
    refine wS (sT (sT (sT (sT (sT ?_)))));refine sGt rfl ?_;refine sGt rfl ?_;refine sGt rfl (sT (wN ?_));refine Aj rfl (fun hb12=>?_) (fun hb12=>?_)
    ·have H:=Au hb12 H;refine Am ?_;refine hs11 _ ?_;refine nT ?_;obtain⟨z16,HX16,Hl16⟩:=Al.1 H;refine Bn (β:=((List Pair))×(Nat)) (fun q16=>z16=q16.1) (fun q16=>⟨A2 (.ptr 0 0::.ptr 1 0::.ptr 2 0::.any::.ptr 3 0::.bs tInt.slice.slice r4::.own 4 q16.2::.lit (.int .i64 r5)::A20 (A10 (.bs tInt.slice (ixD r4 0)::A40 (A20 (A10 (A3 [])))))),[.box (Aq f),.box (AM p),.box [.lit (.bool false),.lit (.int .i64 0),.lit (.slice none 0 0),.lit (.slice none 0 0)],.box [.lit (.bool p.leaf),.lit (.int .i64 p.slots),.lit (.slice none 0 0),.lit (.slice none 0 0)],.row q16.2 57 AH q16.1]⟩) ?_ ?_
     ·refine Ak ?_;refine wS (sT (wN ?_));refine Ak ?_;refine Bv HX16 (fun s16 b16=>⟨A2 (.ptr 0 0::.ptr 1 0::.ptr 2 0::.any::.ptr 3 0::.bs tInt.slice.slice r4::.own 4 b16::.lit (.int .i64 r5)::.lit (.int .i64 s16.1)::A80 (A20 (A3 []))),[.box (Aq f),.box (AM p),.box [.lit (.bool false),.lit (.int .i64 0),.lit (.slice none 0 0),.lit (.slice none 0 0)],.box [.lit (.bool p.leaf),.lit (.int .i64 p.slots),.lit (.slice none 0 0),.lit (.slice none 0 0)],.row b16 57 AH s16.2]⟩) v6 (?_) ?_
      ·try dsimp only
       exact Bd
      ·rintro⟨k13,l15⟩ v14 x16 H Hr16;try dsimp only
       dsimp only[Do]at H;refine Ad fun Khs19 hs19=>?_
       obtain⟨c20,H⟩:=Ab.1 H;obtain⟨c21,H⟩:=Ab.1 H;refine wS (sT (sT (sX c20 (sT (sX c21 (sT (sT (sT (wN ?_)))))))));refine Aj rfl (fun hb22=>?_) (fun hb22=>?_)
       ·have H:=Au hb22 H;refine Am ?_;refine hs19 _ ?_;refine nT ?_;obtain⟨z25,HX25,Hl25⟩:=Al.1 H;refine Bn (β:=((List Pair))×(Nat)) (fun q25=>z25=q25.1) (fun q25=>⟨A2 (.ptr 0 0::.ptr 1 0::.ptr 2 0::.any::.ptr 3 0::.bs tInt.slice.slice r4::.own 4 q25.2::.lit (.int .i64 r5)::.lit (.int .i64 k13)::A80 (A20 (A3 []))),[.box (Aq f),.box (AM p),.box [.lit (.bool false),.lit (.int .i64 0),.lit (.slice none 0 0),.lit (.slice none 0 0)],.box [.lit (.bool p.leaf),.lit (.int .i64 p.slots),.lit (.slice none 0 0),.lit (.slice none 0 0)],.row q25.2 57 AH q25.1]⟩) ?_ ?_
        ·have H:=HX25;refine Ak ?_;obtain⟨c26,H⟩:=Ab.1 H;obtain⟨c27,H⟩:=Ab.1 H;obtain⟨c28,H⟩:=Ab.1 H;refine wS (sT (sX c26 (sT (sX c27 (sT (sT (sX c28 (sT (sT (sT (wN ?_)))))))))));refine Aj rfl (fun hb29=>?_) (fun hb29=>?_)
         ·have H:=Au hb29 H;obtain⟨c30,H⟩:=Ab.1 H;obtain⟨r31,k31,H⟩:=Al.1 H;have k31:=QU k31;obtain⟨c32,H⟩:=Ab.1 H;obtain⟨c33,H⟩:=Ab.1 H;refine dSE 12 (hq:=?_);refine qT (qT (qT (qT (qX c30 (qT (qT (qC k31 (qT (qT ?_)))))))));refine qA (hq:=AK (rs:=[.lit (.int .i64 (ixD p.at_ r5)),.lit (.int .i64 (IntKind.i64.wrap (r31+r5)))]) rfl CA rfl rfl) (ht:=(As (As Ob))) ?_;refine qA (hq:=AX.lt (xs:=[.tmp 67]) (T:=AH) (ds:=[⟨ixD p.at_ r5,IntKind.i64.wrap (r31+r5)⟩]) rfl rfl rfl (by rfl) (by decide) (.cons (BO c32) .nil)) (ht:=(As (As O7))) ?_;refine qN (sP c33 (sT (wN ?_)));have e25:=Ac.1 H;repeat(first|refine abN ?_|refine asN ?_)
          refine An ⟨(_,v14+1),e25.symm,?_⟩;try dsimp only
          exact Bd
         ·have H:=Av hb29 H;refine Am ?_;have e25:=Ac.1 H;repeat(first|refine abN ?_|refine asN ?_)
          refine An ⟨(_,v14),e25.symm,?_⟩;try dsimp only
          exact Bd
        ·rintro⟨l24,v23⟩ hz25;try dsimp only at hz25
         have H:=Hl25;rw[hz25]at H;try dsimp only
         refine wSE (sT (sT (sT (wN ?_))));have e16:=Ac.1 H;repeat(first|refine abN ?_|refine asN ?_)
         refine An ⟨_,v23,e16.symm,?_⟩;try dsimp only
         exact Bd
       ·have H:=Av hb22 H;refine AB ?_;repeat(first|refine BM ?_|refine exO (by decide) ?_|refine asE ?_)
        refine exN ?_;have e16:=Hr16 _ (Ac.1 H).symm;repeat(first|refine abN ?_|refine asN ?_)
        refine An ⟨(_,v14),e16.symm,?_⟩;try dsimp only
        exact Bd
     ·rintro⟨l18,v17⟩ hz16;try dsimp only at hz16
      have H:=Hl16;rw[hz16]at H;try dsimp only
      refine wSE (sT (sT (sT (wN ?_))));have e8:=Ac.1 H;repeat(first|refine abN ?_|refine asN ?_)
      refine An ⟨_,v17,e8.symm,?_⟩;try dsimp only
      exact Bd
    ·have H:=Av hb12 H;refine AB ?_;repeat(first|refine BM ?_|refine exO (by decide) ?_|refine asE ?_)
     refine exN ?_;have e8:=Hr8 _ (Ac.1 H).symm;repeat(first|refine abN ?_|refine asN ?_)
     refine An ⟨(_,v6),e8.symm,?_⟩;try dsimp only
     exact Bd
  ·rintro⟨l10,v9⟩ hz8;try dsimp only at hz8
   have H:=Hl8;rw[hz8]at H;try dsimp only
   obtain⟨r34,k34,H⟩:=Al.1 H;have k34:=Je k34;refine wS (sT ?_);refine F7 rfl (IY hC 4 rfl (by(simp only[fzH,Cr,AV.fz,ABlk.fz,List.map_cons,List.map_nil,List.drop_zero,List.take_succ_cons,List.take_zero,List.set_cons_succ,List.set_cons_zero,and_self,and_true,true_and,if_true,Nat.reduceEqDiff,false_and,if_false];first|done|exact rfl)) (by(simp only[fzH,Cr,AV.fz,ABlk.fz,List.map_cons,List.map_nil,List.drop_zero,List.take_succ_cons,List.take_zero,List.set_cons_succ,List.set_cons_zero,and_self,and_true,true_and,if_true,Nat.reduceEqDiff,false_and,if_false];first|done|exact rfl))) ?_;(refine Bu rfl (LL 5 rfl rfl rfl k34 (by decide) rfl ?_);refine Ah6 (ht:=(As (As LM))) ?_);refine sT ?_;refine sW ?_;refine wN ?_;refine A1 _ (Fh 3 3 69 CH rfl rfl (by decide)) ?_;obtain⟨z40,HX40,Hl40⟩:=Al.1 H;refine Bn (β:=((List ABlock))×(Nat×Nat)) (fun q40=>z40=q40.1) (fun q40=>⟨A4 (.ptr 2 0::.any::.ptr 3 0::A80 (A20 (A7 []))),[.dead,.dead,.box [.lit (.bool false),.lit (.int .i64 0),.lit (.slice none 0 0),.lit (.slice none 0 0)],.box [.lit (.bool p.leaf),.lit (.int .i64 p.slots),.own 5 q40.2.1,.own 6 q40.2.2],.dead,.row q40.2.1 67 AN r34,.row q40.2.2 69 CH q40.1]⟩) ?_ ?_
   ·refine wS (sT (wN ?_));refine Ak ?_;refine Bv HX40 (fun s40 b40=>⟨A2 (.ptr 0 0::.ptr 1 0::.ptr 2 0::.any::.ptr 3 0::A4 (.lit (.int .i64 s40.1)::A80 (A20 (A2 [])))),[.box [.lit (.string f.name),.lit (.int .i64 f.args),.lit (.int .i64 f.regs),.bs B3 f.blocks],.box [.lit (.bool p.leaf),.lit (.int .i64 p.slots),.bs tInt p.at_],.box [.lit (.bool false),.lit (.int .i64 0),.lit (.slice none 0 0),.lit (.slice none 0 0)],.box [.lit (.bool p.leaf),.lit (.int .i64 p.slots),.own 5 b40.1,.own 6 b40.2],.dead,.row b40.1 67 AN r34,.row b40.2 69 CH s40.2]⟩) (0,0) (?_) ?_
    ·try dsimp only
     exact Bd
    ·rintro⟨b36,l39⟩ ⟨v37,v38⟩ x40 H Hr40;try dsimp only
     dsimp only[Dn]at H;refine Ad fun Khs44 hs44=>?_
     refine wS (sT (sT (sT (sT (sT (wN ?_))))));refine Aj rfl (fun hb45=>?_) (fun hb45=>?_)
     ·have H:=Au hb45 H;refine Am ?_;refine hs44 _ ?_;refine nT ?_;refine Ad fun Khs46 hs46=>?_
      refine Ak ?_;refine wS (sA0 (wN ?_));refine A1 _ (Fh 7 0 67 AN rfl rfl (by decide)) ?_;obtain⟨z53,HX53,Hl53⟩:=Al.1 H;refine Bn (β:=((List ACell))×(Nat×Nat×Nat)) (fun q53=>z53=q53.1) (fun q53=>⟨A2 (.ptr 0 0::.ptr 1 0::.ptr 2 0::.any::.ptr 3 0::A4 (.lit (.int .i64 b36)::.ptr 7 0::A80 (A20 [.any]))),[.box [.lit (.string f.name),.lit (.int .i64 f.args),.lit (.int .i64 f.regs),.bs B3 f.blocks],.box [.lit (.bool p.leaf),.lit (.int .i64 p.slots),.bs tInt p.at_],.box [.lit (.bool false),.lit (.int .i64 0),.lit (.slice none 0 0),.lit (.slice none 0 0)],.box [.lit (.bool p.leaf),.lit (.int .i64 p.slots),.own 5 q53.2.1,.own 6 q53.2.2.1],.dead,.row q53.2.1 67 AN r34,.row q53.2.2.1 69 CH l39,.box [.own 8 q53.2.2.2],.row q53.2.2.2 67 AN q53.1]⟩) ?_ ?_
      ·refine wS (sT (wN ?_));refine Ak ?_;refine Bv HX53 (fun s53 b53=>⟨A2 (.ptr 0 0::.ptr 1 0::.ptr 2 0::.any::.ptr 3 0::A4 (.lit (.int .i64 b36)::.ptr 7 0::.lit (.int .i64 s53.1)::A80 (A20 []))),[.box [.lit (.string f.name),.lit (.int .i64 f.args),.lit (.int .i64 f.regs),.bs B3 f.blocks],.box [.lit (.bool p.leaf),.lit (.int .i64 p.slots),.bs tInt p.at_],.box [.lit (.bool false),.lit (.int .i64 0),.lit (.slice none 0 0),.lit (.slice none 0 0)],.box [.lit (.bool p.leaf),.lit (.int .i64 p.slots),.own 5 b53.1,.own 6 b53.2.1],.dead,.row b53.1 67 AN r34,.row b53.2.1 69 CH l39,.box [.own 8 b53.2.2],.row b53.2.2 67 AN s53.2]⟩) (v37,v38,0) (?_) ?_
       ·try dsimp only
        exact Bd
       ·rintro⟨i48,l52⟩ ⟨v49,v50,v51⟩ x53 H Hr53;try dsimp only
        dsimp only[Dm]at H;refine Ad fun Khs58 hs58=>?_
        obtain⟨c59,H⟩:=Ab.1 H;refine wS (sT (sT (sT (sT (sX c59 (sT (sT (sT (sT (wN ?_))))))))));refine Aj rfl (fun hb60=>?_) (fun hb60=>?_)
        ·have H:=Au hb60 H;refine Am ?_;refine hs58 _ ?_;refine nT ?_;refine Ad fun Khs61 hs61=>?_
         refine Ak ?_;obtain⟨c62,H⟩:=Ab.1 H;obtain⟨c63,H⟩:=Ab.1 H;obtain⟨r64,k64,H⟩:=Al.1 H;have k64:=QV k64;obtain⟨c65,H⟩:=Ab.1 H;refine dSE 14 (hq:=?_);refine qT (qT (qT (qT (qT (qT (qX c62 (qT (qT (qT (qX c63 (qT ?_)))))))))));refine qT (qC k64 (qN (sP c65 (sT ?_))));refine sW ?_;refine wN ?_;refine hs61 _ ?_;refine nT ?_;refine wSE (sT (sT (sT (wN ?_))));have e53:=Ac.1 H;repeat(first|refine abN ?_|refine asN ?_)
         refine An ⟨_,(v49,v50,v51+1),e53.symm,?_⟩;try dsimp only
         exact Bd
        ·have H:=Av hb60 H;refine AB ?_;repeat(first|refine BM ?_|refine exO (by decide) ?_|refine asE ?_)
         refine exN ?_;have e53:=Hr53 _ (Ac.1 H).symm;repeat(first|refine abN ?_|refine asN ?_)
         refine An ⟨(_,(v49,v50,v51)),e53.symm,?_⟩;try dsimp only
         exact Bd
      ·rintro⟨l57,⟨v54,v55,v56⟩⟩ hz53;try dsimp only at hz53
       have H:=Hl53;rw[hz53]at H;try dsimp only
       obtain⟨c66,H⟩:=Ab.1 H;obtain⟨c67,H⟩:=Ab.1 H;refine wSE (sT (sT (sT ?_)));refine F7 rfl (IY hC 8 rfl (by(simp only[fzH,Cr,AV.fz,ABlk.fz,List.map_cons,List.map_nil,List.drop_zero,List.take_succ_cons,List.take_zero,List.set_cons_succ,List.set_cons_zero,and_self,and_true,true_and,if_true,Nat.reduceEqDiff,false_and,if_false];first|done|exact rfl)) (by(simp only[fzH,Cr,AV.fz,ABlk.fz,List.map_cons,List.map_nil,List.drop_zero,List.take_succ_cons,List.take_zero,List.set_cons_succ,List.set_cons_zero,and_self,and_true,true_and,if_true,Nat.reduceEqDiff,false_and,if_false];first|done|exact rfl))) ?_;refine sA (hq:=AX.lt (xs:=[.tmp 109]) (T:=CH) (ds:=[⟨l57⟩]) rfl rfl rfl (by rfl) (by decide) (.cons (KV c66) .nil)) (ht:=(As (As (As (AA Mx))))) ?_;refine sP c67 (sT ?_);refine sW ?_;refine wN ?_;refine hs46 _ ?_;refine nT ?_;refine wSE (sT (sT (sT (wN ?_))));have e40:=Ac.1 H;repeat(first|refine abN ?_|refine asN ?_)
       refine An ⟨_,(v54,v55+1),e40.symm,?_⟩;try dsimp only
       exact leC (Cut.cons (Cut.cons (Cut.cons (Cut.cons (Cut.cons (Cut.cons (Cut.cons (Cut.nil _))))))))
     ·have H:=Av hb45 H;refine AB ?_;repeat(first|refine BM ?_|refine exO (by decide) ?_|refine asE ?_)
      refine exN ?_;have e40:=Hr40 _ (Ac.1 H).symm;repeat(first|refine abN ?_|refine asN ?_)
      refine An ⟨(_,(v37,v38)),e40.symm,?_⟩;try dsimp only
      exact leC (Cut.dead (Cut.dead (Cut.cons (Cut.cons (Cut.cons (Cut.cons (Cut.cons (Cut.nil _))))))))
   ·rintro⟨l43,⟨v41,v42⟩⟩ hz40;try dsimp only at hz40
    have H:=Hl40;rw[hz40]at H;try dsimp only
    refine wS (sT ?_);refine F7 rfl (IY hC 5 rfl (by(simp only[fzH,Cr,AV.fz,ABlk.fz,List.map_cons,List.map_nil,List.drop_zero,List.take_succ_cons,List.take_zero,List.set_cons_succ,List.set_cons_zero,and_self,and_true,true_and,if_true,Nat.reduceEqDiff,false_and,if_false];first|done|exact rfl)) (by(simp only[fzH,Cr,AV.fz,ABlk.fz,List.map_cons,List.map_nil,List.drop_zero,List.take_succ_cons,List.take_zero,List.set_cons_succ,List.set_cons_zero,and_self,and_true,true_and,if_true,Nat.reduceEqDiff,false_and,if_false];first|done|exact rfl))) ?_;refine F7 rfl (IY hC 6 rfl (by(simp only[fzH,Cr,AV.fz,ABlk.fz,List.map_cons,List.map_nil,List.drop_zero,List.take_succ_cons,List.take_zero,List.set_cons_succ,List.set_cons_zero,and_self,and_true,true_and,if_true,Nat.reduceEqDiff,false_and,if_false];first|done|exact rfl)) (by(simp only[fzH,Cr,AV.fz,ABlk.fz,List.map_cons,List.map_nil,List.drop_zero,List.take_succ_cons,List.take_zero,List.set_cons_succ,List.set_cons_zero,and_self,and_true,true_and,if_true,Nat.reduceEqDiff,false_and,if_false];first|done|exact rfl))) ?_;refine sW ?_;refine sT (wN ?_);obtain rfl:=Ac.1 H;exact Ar ⟨.inr rfl,2,_,rfl,rfl,rfl,Fin.cl rfl⟩
def FT(a:List Int)(bP1:List Int):M Bool:=M.bnd (Ls a bP1) fun r1=>M.ok r1
theorem NR{a:List Int}{bP1:List Int}{r:Bool}(H:(FT a bP1).to r):Fn Tryz.prog 39 [.bs tInt a,.bs tInt bP1] (.lit (.bool r)):=by
 delta FT at H;try dsimp only at H
 refine AE Tryz.func39 rfl (by kernel_rfl) rfl Tryz.ntmps39 fun C hC=>?_
 refine nS ?_;refine wS (sT (wN ?_));obtain⟨r1,k1,H⟩:=Al.1 H;have k1:=NS k1;refine wS (sT (sT (sC k1 (sT (wN ?_)))));obtain rfl:=Ac.1 H;exact Ar ⟨.inr rfl,Fin.cl rfl⟩
def C4(a:List ACell)(bP1:List ACell):Int→M (Int⊕((Unit)⊕(Bool))):=fun i3=>M.cnd (decide (i3 < (a.length:Int))) (M.chk (BN a i3) (M.chk (BN bP1 i3) (M.bnd (M.whn (!(((((((ixD a i3).kind) !=((ixD bP1 i3).kind))||(((ixD a i3).at_) !=((ixD bP1 i3).at_)))||(((ixD a i3).d) !=((ixD bP1 i3).d)))||(((ixD a i3).a) !=((ixD bP1 i3).a)))||(((ixD a i3).b) !=((ixD bP1 i3).b)))) false (FT ((ixD a i3).args) ((ixD bP1 i3).args))) fun r11=>M.cnd ((((((((ixD a i3).kind) !=((ixD bP1 i3).kind))||(((ixD a i3).at_) !=((ixD bP1 i3).at_)))||(((ixD a i3).d) !=((ixD bP1 i3).d)))||(((ixD a i3).a) !=((ixD bP1 i3).a)))||(((ixD a i3).b) !=((ixD bP1 i3).b)))||(!r11)) (M.ok (.inr (.inr false))) (M.ok (.inl (IntKind.i64.wrap (i3+1))))))) (M.ok (.inr (.inl ())))
def CD(a:List ACell)(bP1:List ACell):M Bool:=M.cnd ((a.length:Int) !=(bP1.length:Int)) (M.ok false) (M.els (M.loop (C4 a bP1) 0) fun _=>M.ok true)
theorem Fu{a:List ACell}{bP1:List ACell}{r:Bool}(H:(CD a bP1).to r):Fn Tryz.prog 15 [.bs AN a,.bs AN bP1] (.lit (.bool r)):=by
 delta CD at H;try dsimp only at H
 refine AE Tryz.func15 rfl (by kernel_rfl) rfl Tryz.ntmps15 fun C hC=>?_
 refine nS ?_;refine wS (sT (wN ?_));refine Ad fun Khs1 hs1=>?_
 refine wS (sT (sT (sT (sT (sT (wN ?_))))));refine Aj rfl (fun hb2=>?_) (fun hb2=>?_)
 ·have H:=Au hb2 H;refine wS (sT (wN ?_));obtain rfl:=Ac.1 H;exact Ar ⟨.inr rfl,Fin.cl rfl⟩
 ·have H:=Av hb2 H;refine Am ?_;refine hs1 _ ?_;refine nT ?_;obtain⟨z4,HX4,Hl4,Hq4⟩:=Cc H;refine Bn (β:=(Unit)×(Unit)) (fun q4=>z4= .inl q4.1) (fun q4=>⟨A40 (A20 (A8 [])),[]⟩) ?_ ?_
  ·refine wS (sT (wN ?_));refine Ak ?_;refine Bv HX4 (fun s4 b4=>⟨.bs AN a::.bs AN bP1::A3 (.lit (.int .i64 s4)::A40 (A20 (A2 []))),[]⟩) () (?_) ?_
   ·try dsimp only
    exact Bd
   ·rintro i3 _ x4 H Hr4;try dsimp only
    dsimp only[C4]at H;refine Ad fun Khs5 hs5=>?_
    refine wS (sT (sT (sT (sT (wN ?_)))));refine Aj rfl (fun hb6=>?_) (fun hb6=>?_)
    ·have H:=Au hb6 H;refine Am ?_;refine hs5 _ ?_;refine nT ?_;refine Ad fun Khs7 hs7=>?_
     refine Ak ?_;obtain⟨c8,H⟩:=Ab.1 H;obtain⟨c9,H⟩:=Ab.1 H;refine A1 ⟨.bs AN a::.bs AN bP1::A3 (.lit (.int .i64 i3)::A7 (.lit (.int .i64 i3)::.bs AN a::.lit (.int .i64 (a.length:Int))::.lit (.bool (decide (i3 < (a.length:Int))))::A40 (A10 [.any]))),[.dead,.dead]⟩ (St.le.trans Bd (FJ 2 rfl)) ?_;refine Ad fun Kg10 hg10=>?_
     refine Ip (n:=12) (fun b=>⟨.bs AN a::.bs AN bP1::A3 (.lit (.int .i64 i3)::(bif b 8 then .ptr 0 0 else .any)::(bif b 9 then .ptr 1 0 else .any)::A5 (.lit (.int .i64 i3)::.bs AN a::.lit (.int .i64 (a.length:Int))::.lit (.bool (decide (i3 < (a.length:Int))))::A2 ((bif b 0 then .bs AN a else .any)::(bif b 1 then .lit (.int .i64 i3)else .any)::(bif b 2 then .bp AN (ixD a i3) 0 else .any)::(bif b 3 then .agg (Co (ixD a i3))else .any)::(bif b 4 then .bs AN bP1 else .any)::(bif b 5 then .lit (.int .i64 i3)else .any)::(bif b 6 then .bp AN (ixD bP1 i3) 0 else .any)::(bif b 7 then .agg (Co (ixD bP1 i3))else .any)::A40 [.any]))),[(bif b 10 then .box (Co (ixD a i3))else(bif b 8 then .box [.lit (.int .u8 0),.lit (.int .i64 0),.lit (.int .i64 0),.lit (.int .i64 0),.lit (.int .i64 0),.lit (.slice none 0 0)]else .dead)),(bif b 11 then .box (Co (ixD bP1 i3))else(bif b 9 then .box [.lit (.int .u8 0),.lit (.int .i64 0),.lit (.int .i64 0),.lit (.int .i64 0),.lit (.int .i64 0),.lit (.slice none 0 0)]else .dead))]⟩) rfl (by kernel_rfl) (by kernel_rfl) ?_ (hg10 _ ?_)
     ·refine Bh (fun b hb ha hc=>?_) ?_
      ·try dsimp only
       refine BD (AX.move rfl Oy) ?_;exact St.le.refl
      refine Bh (fun b hb ha hc=>?_) ?_
      ·try dsimp only
       refine BD (AX.move rfl L9) ?_;exact St.le.refl
      refine Bh (fun b hb ha hc=>?_) ?_
      ·have h0:b 0=true:=ha 0 _ rfl rfl;have h1:b 1=true:=ha 1 _ rfl rfl;try dsimp only
       refine BD (Dy rfl ((AO (AO Kw)).trans (Cf h0 _ _)) ((AO (AO NU)).trans (Cf h1 _ _)) rfl c8) ?_;exact St.le.refl
      refine Bh (fun b hb ha hc=>?_) ?_
      ·have h2:b 2=true:=ha 0 _ rfl rfl;try dsimp only
       refine BD (CK rfl ((AO (AO L9)).trans (Cf h2 _ _)) rfl) ?_;exact St.le.refl
      refine Bh (fun b hb ha hc=>?_) ?_
      ·try dsimp only
       refine BD (AX.move rfl U2) ?_;exact St.le.refl
      refine Bh (fun b hb ha hc=>?_) ?_
      ·try dsimp only
       refine BD (AX.move rfl L9) ?_;exact St.le.refl
      refine Bh (fun b hb ha hc=>?_) ?_
      ·have h4:b 4=true:=ha 0 _ rfl rfl;have h5:b 5=true:=ha 1 _ rfl rfl;try dsimp only
       refine BD (Dy rfl ((AO (AO NO)).trans (Cf h4 _ _)) ((AO (AO (AO Oy))).trans (Cf h5 _ _)) rfl c9) ?_;exact St.le.refl
      refine Bh (fun b hb ha hc=>?_) ?_
      ·have h6:b 6=true:=ha 0 _ rfl rfl;try dsimp only
       refine BD (CK rfl ((AO (AO (AO U2))).trans (Cf h6 _ _)) rfl) ?_;exact St.le.refl
      refine Bh (fun b hb ha hc=>?_) ?_
      ·have h10:b 10=false:=Ct hc (i:=8) (j:=10) (k:=0) rfl rfl rfl rfl hb;have u10:upd b 8 10=false:=h10;try dsimp only
       refine Mh 0 rfl (congrArg some ((DJ h10 _ _).trans (DJ hb _ _))) (by repeat(first|exact Jk|refine BT rfl ?_|refine BT (CL rfl rfl) ?_|refine BT (CL rfl (CL rfl rfl)) ?_|refine BT (CL rfl (CL rfl (CL rfl rfl))) ?_)) (by repeat(first|exact Jj|refine BS rfl ?_|refine BS (US hb rfl) ?_|refine BS (Ae7 rfl rfl) ?_)) ?_;simp only[DJ u10];exact St.le.refl
      refine Bh (fun b hb ha hc=>?_) ?_
      ·have h11:b 11=false:=Ct hc (i:=9) (j:=11) (k:=0) rfl rfl rfl rfl hb;have u11:upd b 9 11=false:=h11;try dsimp only
       refine Mh 1 rfl (congrArg some ((DJ h11 _ _).trans (DJ hb _ _))) (by repeat(first|exact Jk|refine BT rfl ?_|refine BT (CL rfl rfl) ?_|refine BT (CL rfl (CL rfl rfl)) ?_|refine BT (CL rfl (CL rfl (CL rfl rfl))) ?_)) (by repeat(first|exact Jj|refine BS rfl ?_|refine BS (US hb rfl) ?_|refine BS (Ae7 rfl rfl) ?_)) ?_;simp only[DJ u11];exact St.le.refl
      refine Bh (fun b hb ha hc=>?_) ?_
      ·have h3:b 3=true:=ha 1 _ rfl rfl;have h8:b 8=true:=ha 0 _ rfl rfl;try dsimp only
       refine IF rfl (Qd.trans (Cf h8 _ _)) (congrArg some ((DJ hb _ _).trans (RQ h8 _ _))) ((AO (AO Qd)).trans (Cf h3 _ _)) (Ez rfl) rfl (Nat.le_of_ble_eq_true rfl) ?_;exact St.le.refl
      refine Bh (fun b hb ha hc=>?_) ?_
      ·have h7:b 7=true:=ha 1 _ rfl rfl;have h9:b 9=true:=ha 0 _ rfl rfl;try dsimp only
       refine IF rfl (NO.trans (Cf h9 _ _)) (congrArg some ((DJ hb _ _).trans (RQ h9 _ _))) ((AO (AO (AO PJ))).trans (Cf h7 _ _)) (Ez rfl) rfl (Nat.le_of_ble_eq_true rfl) ?_;exact St.le.refl
      exact Ry
     ·refine A1 ⟨.bs AN a::.bs AN bP1::A3 (.lit (.int .i64 i3)::.ptr 0 0::.ptr 1 0::A5 (.lit (.int .i64 i3)::.bs AN a::.lit (.int .i64 (a.length:Int))::.lit (.bool (decide (i3 < (a.length:Int))))::A2 (.bs AN a::.lit (.int .i64 i3)::.bp AN (ixD a i3) 0::.agg (Co (ixD a i3))::.bs AN bP1::.lit (.int .i64 i3)::.bp AN (ixD bP1 i3) 0::.agg (Co (ixD bP1 i3))::A40 [.any]))),[.box (Co (ixD a i3)),.box (Co (ixD bP1 i3))]⟩ St.le.refl ?_;obtain⟨r11,k11,H⟩:=Al.1 H;refine wS (sT (sT (sT (sT (sT (sT ?_))))));refine sGf rfl ?_;refine sGf rfl ?_;refine sGf rfl ?_;refine sGf rfl ?_;refine sGf rfl (sT (sT ?_));refine sGf rfl ?_;refine sGf rfl ?_;refine sGf rfl ?_;refine sGf rfl ?_;refine sGf rfl (sT (sT ?_));refine sGf rfl ?_;refine sGf rfl ?_;refine sGf rfl ?_;refine sGf rfl ?_;refine sGf rfl (sT (sT ?_));refine sGf rfl ?_;refine sGf rfl ?_;refine sGf rfl ?_;refine sGf rfl ?_;refine sGf rfl (sT (sT ?_));refine sGf rfl ?_;refine sGf rfl ?_;refine sGf rfl ?_;refine sGf rfl ?_;refine sG (g:=(!(((((((ixD a i3).kind) !=((ixD bP1 i3).kind))||(((ixD a i3).at_) !=((ixD bP1 i3).at_)))||(((ixD a i3).d) !=((ixD bP1 i3).d)))||(((ixD a i3).a) !=((ixD bP1 i3).a)))||(((ixD a i3).b) !=((ixD bP1 i3).b))))) (hg:=SJ rfl) (hq:=fun hg=>by((try simp only[Cf hg]);(try simp only[KY hg]);exact Ba rfl rfl (NR (M.to_whn k11 hg)) rfl rfl)) (ht:=(As (As LN))) (hk:=?_);refine sGf rfl (sT (wN ?_));refine Aj rfl (fun hb12=>?_) (fun hb12=>?_)
      ·have H:=Au hb12 H;refine wS (sT (wN ?_));have H:=Ac.2 (Hq4 _ (Hr4 _ (Ac.1 H).symm).symm);obtain rfl:=Ac.1 H;exact Ar ⟨.inr rfl,Fin.cl rfl⟩
      ·have H:=Av hb12 H;refine Am ?_;refine hs7 _ ?_;refine nT ?_;refine wSE (sT (sT (sT (wN ?_))));have e4:=Ac.1 H;repeat(first|refine abN ?_|refine asN ?_)
       refine An ⟨_,(),e4.symm,?_⟩;try dsimp only
       exact leC (Cut.nil _)
    ·have H:=Av hb6 H;refine AB ?_;repeat(first|refine BM ?_|refine exO (by decide) ?_|refine asE ?_)
     refine exN ?_;have e4:=Hr4 _ (Ac.1 H).symm;repeat(first|refine abN ?_|refine asN ?_)
     refine An ⟨(_,()),e4.symm,?_⟩;try dsimp only
     exact Bd
  ·rintro⟨_,_⟩ hz4;try dsimp only at hz4
   have H:=Hl4 _ hz4;try dsimp only
   refine wS (sT (wN ?_));obtain rfl:=Ac.1 H;exact Ar ⟨.inr rfl,Fin.cl rfl⟩
def Fs(a:AFunc)(bP1:AFunc):Int→M (Int⊕((Unit)⊕(Bool))):=fun i4=>M.cnd (decide (i4 < (a.blocks.length:Int))) (M.chk (BN a.blocks i4) (M.chk (BN bP1.blocks i4) (M.bnd (CD ((ixD a.blocks i4).cells) ((ixD bP1.blocks i4).cells)) fun r11=>M.cnd (!r11) (M.ok (.inr (.inr false))) (M.ok (.inl (IntKind.i64.wrap (i4+1))))))) (M.ok (.inr (.inl ())))
def E3(a:AFunc)(bP1:AFunc):M Bool:=M.bnd (M.whn (!((a.leaf !=bP1.leaf)||(a.slots !=bP1.slots))) false (CD a.entry bP1.entry)) fun r2=>M.cnd ((((a.leaf !=bP1.leaf)||(a.slots !=bP1.slots))||(!r2))||((a.blocks.length:Int) !=(bP1.blocks.length:Int))) (M.ok false) (M.els (M.loop (Fs a bP1) 0) fun _=>M.ok true)
theorem Om{a:AFunc}{bP1:AFunc}{r:Bool}(H:(E3 a bP1).to r):Fn Tryz.prog 14 [.agg (IA a),.agg (IA bP1)] (.lit (.bool r)):=by
 delta E3 at H;try dsimp only at H
 refine AE Tryz.func14 rfl (by kernel_rfl) rfl Tryz.ntmps14 fun C hC=>?_
 refine nS ?_;refine wS (sB (sB (sT (wN ?_))));refine Ad fun Khs1 hs1=>?_
 obtain⟨r2,k2,H⟩:=Al.1 H;refine wS (sT (sT (sT (sT ?_))));refine sA (hq:=NA rfl NO (AO U2) rfl) (ht:=(AA O8)) ?_;refine sT ?_;refine sGf rfl ?_;refine sGf rfl ?_;refine sGf rfl ?_;refine sGf rfl ?_;refine sGf rfl (sT (sT ?_));refine sGf rfl ?_;refine sGf rfl ?_;refine sGf rfl ?_;refine sGf rfl ?_;refine sG (g:=(!((a.leaf !=bP1.leaf)||(a.slots !=bP1.slots)))) (hg:=SJ rfl) (hq:=fun hg=>by((try simp only[Cf hg]);(try simp only[KY hg]);exact Ba rfl rfl (Fu (M.to_whn k2 hg)) rfl rfl)) (ht:=(AA (AA LM))) ?_;refine sGf rfl (sT (sT ?_));refine sGf rfl ?_;refine sGf rfl ?_;refine sGf rfl ?_;refine sGf rfl ?_;refine sGf rfl ?_;refine sGf rfl ?_;refine sGf rfl (sT (wN ?_));refine Aj rfl (fun hb3=>?_) (fun hb3=>?_)
 ·have H:=Au hb3 H;refine wS (sT (wN ?_));obtain rfl:=Ac.1 H;exact Ar ⟨.inr rfl,Fin.cl rfl⟩
 ·have H:=Av hb3 H;refine Am ?_;refine hs1 _ ?_;refine nT ?_;obtain⟨z5,HX5,Hl5,Hq5⟩:=Cc H;refine Bn (β:=(Unit)×(Unit)) (fun q5=>z5= .inl q5.1) (fun q5=>⟨A40 (A10 (A6 [])),[.dead,.dead]⟩) ?_ ?_
  ·refine wS (sT (wN ?_));refine Ak ?_;refine Bv HX5 (fun s5 b5=>⟨A2 (.ptr 0 0::.ptr 1 0::.any::.lit (.int .i64 s5)::A40 (A10 [])),[.box (IA a),.box (IA bP1)]⟩) () (?_) ?_
   ·try dsimp only
    exact Bd
   ·rintro i4 _ x5 H Hr5;try dsimp only
    dsimp only[Fs]at H;refine Ad fun Khs6 hs6=>?_
    refine wS (sT (sT (sT (sT (sT (wN ?_))))));refine Aj rfl (fun hb7=>?_) (fun hb7=>?_)
    ·have H:=Au hb7 H;refine Am ?_;refine hs6 _ ?_;refine nT ?_;refine Ad fun Khs8 hs8=>?_
     refine Ak ?_;obtain⟨c9,H⟩:=Ab.1 H;obtain⟨c10,H⟩:=Ab.1 H;obtain⟨r11,k11,H⟩:=Al.1 H;have k11:=Fu k11;refine dS 14 (hq:=?_);refine qT (qT (qT (qX c9 (qT (qT (qT (qT (qT (qX c10 (qT (qT ?_)))))))))));refine qC k11 (qT (qN (wN ?_)));refine Aj rfl (fun hb12=>?_) (fun hb12=>?_)
     ·have H:=Au hb12 H;refine wS (sT (wN ?_));have H:=Ac.2 (Hq5 _ (Hr5 _ (Ac.1 H).symm).symm);obtain rfl:=Ac.1 H;exact Ar ⟨.inr rfl,Fin.cl rfl⟩
     ·have H:=Av hb12 H;refine Am ?_;refine hs8 _ ?_;refine nT ?_;refine wSE (sT (sT (sT (wN ?_))));have e5:=Ac.1 H;repeat(first|refine abN ?_|refine asN ?_)
      refine An ⟨_,(),e5.symm,?_⟩;try dsimp only
      exact Bd
    ·have H:=Av hb7 H;refine AB ?_;repeat(first|refine BM ?_|refine exO (by decide) ?_|refine asE ?_)
     refine exN ?_;have e5:=Hr5 _ (Ac.1 H).symm;repeat(first|refine abN ?_|refine asN ?_)
     refine An ⟨(_,()),e5.symm,?_⟩;try dsimp only
     exact leC (Cut.dead (Cut.dead (Cut.nil _)))
  ·rintro⟨_,_⟩ hz5;try dsimp only at hz5
   have H:=Hl5 _ hz5;try dsimp only
   refine wS (sT (wN ?_));obtain rfl:=Ac.1 H;exact Ar ⟨.inr rfl,Fin.cl rfl⟩
end
noncomputable section
def Dv(f:Func)(p:Plan):M Bool:=M.chk (Nh f&&decide (CX.bulk f≤2097152)&&Tw p&&p.at_.all (wfB .i64)&&decide (p.at_.length≤2147483648)&&decide ((Bp f).length≤2147483648)&&(DM f p.leaf (Bp f)).all (fun c=>decide (c.length≤2147483648))&&decide ((GH f).length≤2147483648)&&(!TC f||(GH f).all fun x=>decide ((0≤x.a∧x.a < f.regs)∧(0≤x.b∧x.b < f.regs)))) (M.ok (Df f p))
theorem IT{f:Func}{p:Plan}{r:Bool}(H:(Dv f p).to r):Fn Tryz.prog 24 [.agg (Aq f),.agg (AM p)] (.lit (.bool r)):=by
 obtain⟨c,H⟩:=Ab.1 H;obtain rfl:=Ac.1 H;simp only[Bool.and_eq_true,Bool.or_eq_true,Bool.not_eq_true',List.all_eq_true,decide_eq_true_eq]at c;obtain⟨⟨⟨⟨⟨⟨⟨⟨h1,h2⟩,h3⟩,h4⟩,h5⟩,h6⟩,h7⟩,h8⟩,h9⟩:=c;exact Abi f p (Cn.1 h1) h2 (KK h3) (fun x hx=>Li (h4 x hx)) h5 h6 h7 h8 fun hm=>by
  rcases h9 with h9|h9
  ·rw[h9]at hm;cases hm
  ·exact h9
instance{b c0 c1 c2 c3 c4 c5 c6 c7:ABlk}:HA [c0,c1,c2,c3,c4,c5,c6,c7] b 8 [c0,c1,c2,c3,c4,c5,c6,c7,b]:=⟨rfl,rfl⟩
instance{b c0 c1 c2 c3 c4 c5 c6 c7 c8:ABlk}:HA [c0,c1,c2,c3,c4,c5,c6,c7,c8] b 9 [c0,c1,c2,c3,c4,c5,c6,c7,c8,b]:=⟨rfl,rfl⟩
instance{b c0 c1 c2 c3 c4 c5 c6 c7 c8 c9:ABlk}:HA [c0,c1,c2,c3,c4,c5,c6,c7,c8,c9] b 10 [c0,c1,c2,c3,c4,c5,c6,c7,c8,c9,b]:=⟨rfl,rfl⟩
instance{b c0 c1 c2 c3 c4 c5 c6 c7 c8 c9 c10:ABlk}:HA [c0,c1,c2,c3,c4,c5,c6,c7,c8,c9,c10] b 11 [c0,c1,c2,c3,c4,c5,c6,c7,c8,c9,c10,b]:=⟨rfl,rfl⟩
instance{b c0 c1 c2 c3 c4 c5 c6 c7 c8 c9 c10 c11:ABlk}:HA [c0,c1,c2,c3,c4,c5,c6,c7,c8,c9,c10,c11] b 12 [c0,c1,c2,c3,c4,c5,c6,c7,c8,c9,c10,c11,b]:=⟨rfl,rfl⟩
theorem Zn{h:List ABlk}{x:Ins}(hk:IQ x=true):Fit h Ep (.agg (BB x)) x:=Hh (enc:=BB) fun _ _ _ _ H=>KJ (CC.1 hk) H
theorem Zo{h:List ABlk}{x:Block}(hk:JV x=true):Fit h B3 (.agg (Eg x)) x:=Hh (enc:=Eg) fun _ _ _ _ H=>Q2 (HN.1 hk).name H
def GL(f:Func)(p:Plan)(bP2:Int)(i:Int):M (List ACell×Int):=M.bnd (Dv f p) fun r2=>M.cnd (!r2) (M.ok ([],2)) (M.chk (!(!(((decide (bP2 < 0))||(decide (bP2≥(f.blocks.length:Int))))||(decide (i < 0))))||(BN f.blocks bP2)) (M.cnd ((((decide (bP2 < 0))||(decide (bP2≥(f.blocks.length:Int))))||(decide (i < 0)))||(decide (i≥(((ixD f.blocks bP2).ins).length:Int)))) (M.ok ([],7)) (M.chk (BN f.blocks bP2) (M.chk (BN ((ixD f.blocks bP2).ins) i) (M.bnd (AP p (ixD ((ixD f.blocks bP2).ins) i) i) fun r8=>M.ok (r8,0))))))
theorem R3{f:Func}{p:Plan}{bP2:Int}{i:Int}{r:List ACell×Int}(H:(GL f p bP2 i).to r):Fn Tryz.prog 12 [.agg (Aq f),.agg (AM p),.lit (.int .i64 bP2),.lit (.int .i64 i)] (.tup [.bs AN r.1,.lit (.int .i64 r.2)]):=by
 delta GL at H;try dsimp only at H
 refine IE Tryz.func12 rfl (by kernel_rfl) rfl Tryz.ntmps12 fun C hC=>?_
 simp only[List.length_cons,List.length_nil,Nat.reduceAdd,Nat.reduceSub,List.replicate_succ,List.replicate_zero,List.cons_append,List.nil_append];refine wS (sB (sB (sT (sT (wN ?_)))));refine Ad fun Khs1 hs1=>?_
 refine Ak ?_;obtain⟨r2,k2,H⟩:=Al.1 H;have k2:=IT k2;refine wS (sT (sT (sC k2 (sT (sT (wN ?_))))));refine Aj rfl (fun hb3=>?_) (fun hb3=>?_)
 ·have H:=Au hb3 H;refine wS (sT (sT (wN ?_)));obtain rfl:=Ac.1 H;refine A1 _ (Ko 8 AN rfl) ?_;exact Ar ⟨.inr rfl,_,_,Fin.cl rfl,rfl,rfl⟩
 ·have H:=Av hb3 H;obtain⟨c4,H⟩:=Ab.1 H;refine wS (sT (sT (sT ?_)));refine sGf rfl ?_;refine sGf rfl ?_;refine sGf rfl ?_;refine sGf rfl ?_;refine sGf rfl (sT (sT ?_));refine sGf rfl ?_;refine sGf rfl (sT (sT ?_));refine sGf rfl ?_;refine sGf rfl ?_;refine sGf rfl ?_;refine sGf rfl ?_;refine sG (g:=(!(((decide (bP2 < 0))||(decide (bP2≥(f.blocks.length:Int))))||(decide (i < 0))))) (hg:=SJ rfl) (hq:=fun hg=>Dy rfl ((AL Oy).trans (Cf hg _ _)) ((AL U2).trans (Cf hg _ _)) rfl (DG c4 hg)) (ht:=(As O8)) (hk:=?_);refine sGf rfl ?_;refine sGf rfl ?_;refine sGf rfl ?_;refine sGf rfl (sT (sT (wN ?_)));refine Aj rfl (fun hb5=>?_) (fun hb5=>?_)
  ·have H:=Au hb5 H;refine wS (sT (sT (wN ?_)));obtain rfl:=Ac.1 H;refine A1 _ (Ko 8 AN rfl) ?_;exact Ar ⟨.inr rfl,_,_,Fin.cl rfl,rfl,rfl⟩
  ·have H:=Av hb5 H;refine Am ?_;refine hs1 _ ?_;refine nT ?_;obtain⟨c6,H⟩:=Ab.1 H;obtain⟨c7,H⟩:=Ab.1 H;obtain⟨r8,k8,H⟩:=Al.1 H;have k8:=F5 k8;refine dS 15 (hq:=?_);refine qT ?_;refine qA (hq:=OO rfl (by kernel_rfl) (AL (AO Oy))) (ht:=(As (AA LN))) ?_;refine qT (qT (qT (qX c6 (qT (qT (qT (qX c7 (qT (qT (qC k8 (qT ?_)))))))))));refine qT (qN (wN ?_));obtain rfl:=Ac.1 H;exact Ar ⟨.inr rfl,_,_,Fin.cl rfl,rfl,rfl⟩
def C8(f:Func)(p:Plan)(r9:List (List Int)):(Int×(List Pair))→M ((Int×(List Pair))⊕((List Pair))):=fun(x11,l13)=>M.cnd (decide (x11 < ((ixD r9 0).length:Int))) (M.bnd (M.chk (BN (ixD r9 0) x11) (M.cnd (decide ((ixD (ixD r9 0) x11) < f.args)) (M.chk (BN p.at_ (ixD (ixD r9 0) x11)) (M.bnd (CJ p) fun r25=>M.chk (BA ⟨ixD p.at_ (ixD (ixD r9 0) x11),IntKind.i64.wrap (r25+(ixD (ixD r9 0) x11))⟩) (M.chk (Gn (l13.length+([⟨ixD p.at_ (ixD (ixD r9 0) x11),IntKind.i64.wrap (r25+(ixD (ixD r9 0) x11))⟩]:List Pair).length) 16) (M.ok (l13++([⟨ixD p.at_ (ixD (ixD r9 0) x11),IntKind.i64.wrap (r25+(ixD (ixD r9 0) x11))⟩]:List Pair)))))) (M.ok l13))) fun l20=>M.ok (.inl (IntKind.i64.wrap (x11+1),l20))) (M.ok (.inr l13))
def C6(f:Func)(p:Plan)(x30:Int):(Int×(List ACell))→M ((Int×(List ACell))⊕((List ACell))):=fun(x41,l44)=>M.cnd (decide (x41 < (((ixD f.blocks x30).ins).length:Int))) (M.chk (BN ((ixD f.blocks x30).ins) x41) (M.bnd (AP ⟨p.leaf,p.slots,p.at_⟩ (ixD ((ixD f.blocks x30).ins) x41) x41) fun r53=>M.chk (Gn (l44.length+r53.length) 64) (M.ok (.inl (IntKind.i64.wrap (x41+1),l44++r53))))) (M.ok (.inr l44))
def C7(f:Func)(p:Plan):(Int×(List ABlock))→M ((Int×(List ABlock))⊕((List ABlock))):=fun(x30,l32)=>M.cnd (decide (x30 < (f.blocks.length:Int))) (M.chk (BN f.blocks x30) (M.bnd (M.loop (C6 f p x30) (0,([]:List ACell))) fun l48=>M.chk (HT ⟨l48⟩) (M.chk (Gn (l32.length+([⟨l48⟩]:List ABlock).length) 24) (M.ok (.inl (IntKind.i64.wrap (x30+1),l32++([⟨l48⟩]:List ABlock))))))) (M.ok (.inr l32))
def CV(f:Func)(p:Plan):M (AFunc×Int):=M.bnd (Dv f p) fun r2=>M.cnd (!r2) (M.ok (⟨false,0,[],[]⟩,2)) (M.bnd (M.cnd (decide ((f.blocks.length:Int) > 0)) (M.bnd (Y0 f) fun r9=>M.chk (BN r9 0) (M.bnd (M.loop (C8 f p r9) (0,([]:List Pair))) fun l16=>M.ok l16)) (M.ok ([]:List Pair))) fun l6=>M.bnd (Fg l6) fun r28=>M.bnd (M.loop (C7 f p) (0,([]:List ABlock))) fun l35=>M.ok (⟨p.leaf,p.slots,r28,l35⟩,0))
theorem Gj{f:Func}{p:Plan}{r:AFunc×Int}(H:(CV f p).to r):Fn Tryz.prog 10 [.agg (Aq f),.agg (AM p)] (.tup [.agg (IA r.1),.lit (.int .i64 r.2)]):=by
 delta CV at H;try dsimp only at H
 refine NG Tryz.func10 rfl (by kernel_rfl) rfl (by kernel_rfl:T9 Tryz.prog 34=some (true,4)) Tryz.ntmps10 fun C hC=>?_
 simp only[List.length_cons,List.length_nil,Nat.reduceAdd,Nat.reduceSub,List.replicate_succ,List.replicate_zero,List.cons_append,List.nil_append];refine wS (sB (sB (sA0 (sT (wN ?_)))));refine Ad fun Khs1 hs1=>?_
 obtain⟨r2,k2,H⟩:=Al.1 H;have k2:=IT k2;refine wS (sT (sT (sC k2 (sT (wN ?_)))));refine Aj rfl (fun hb3=>?_) (fun hb3=>?_)
 ·have H:=Au hb3 H;refine wS ?_;refine sA (hq:=AK (rs:=[.lit (.bool false),.lit (.int .i64 0),.lit (.slice none 0 0),.lit (.slice none 0 0)]) rfl MP rfl rfl) (ht:=(AA (AA O7))) ?_;refine sW (sT (wN ?_));obtain rfl:=Ac.1 H;exact Ar ⟨.inr rfl,2,_,rfl,rfl,rfl,Fin.weak rfl (fun _ _ _ H=>Up.rel (Ajf (.cons (Lf (.cons (.refl _) (.cons (.refl _) (.cons (.nil _) (.cons (.nil _) .nil))))) (.cons (.refl _) .nil))) H)⟩
 ·have H:=Av hb3 H;refine Am ?_;refine hs1 _ ?_;refine nT ?_;refine A1 ⟨.agg (Aq f)::.agg (AM p)::.ptr 0 0::.ptr 1 0::.ptr 2 0::.lit (.int .i64 0)::A10 (.agg (Aq f)::.agg (AM p)::.lit (.bool r2)::.lit (.bool (!r2))::A40 (A20 (A10 (A4 [])))),[.box (Aq f),.box (AM p),.box [.lit (.bool false),.lit (.int .i64 0),.lit (.slice none 0 0),.lit (.slice none 0 0)],.dead,.dead]⟩ (St.le.trans Bd (FJ 2 rfl)) ?_;refine Ad fun Kg4 hg4=>?_
  refine Ip (n:=11) (fun b=>⟨.agg (Aq f)::.agg (AM p)::.ptr 0 0::.ptr 1 0::.ptr 2 0::.lit (.int .i64 0)::(bif b 7 then .ptr 3 0 else .any)::(bif b 8 then .ptr 4 0 else .any)::A8 (.agg (Aq f)::.agg (AM p)::.lit (.bool r2)::.lit (.bool (!r2))::.any::(bif b 0 then .agg (AM p)else .any)::(bif b 1 then .agg (AM p)else .any)::(bif b 2 then .ptr 1 0 else .any)::(bif b 3 then .lit (.bool p.leaf)else .any)::(bif b 4 then .ptr 1 1 else .any)::(bif b 5 then .lit (.int .i64 p.slots)else .any)::(bif b 6 then .agg [.lit (.bool p.leaf),.lit (.int .i64 p.slots),.lit (.slice none 0 0),.lit (.slice none 0 0)]else .any)::A40 (A20 (A6 []))),[.box (Aq f),.box (AM p),.box [.lit (.bool false),.lit (.int .i64 0),.lit (.slice none 0 0),.lit (.slice none 0 0)],(bif b 9 then .box (AM p)else(bif b 7 then .box [.lit (.bool false),.lit (.int .i64 0),.lit (.slice none 0 0)]else .dead)),(bif b 10 then .box [.lit (.bool p.leaf),.lit (.int .i64 p.slots),.lit (.slice none 0 0),.lit (.slice none 0 0)]else(bif b 8 then .box [.lit (.bool false),.lit (.int .i64 0),.lit (.slice none 0 0),.lit (.slice none 0 0)]else .dead))]⟩) rfl (by kernel_rfl) (by kernel_rfl) ?_ (hg4 _ ?_)
  ·refine Bh (fun b hb ha hc=>?_) ?_
   ·try dsimp only
    refine BD (Bc rfl Kw rfl rfl) ?_;exact St.le.refl
   refine Bh (fun b hb ha hc=>?_) ?_
   ·have h0:b 0=true:=ha 0 _ rfl rfl;try dsimp only
    refine BD (OO rfl (by kernel_rfl) ((AO (AO L9)).trans (Cf h0 _ _))) ?_;exact St.le.refl
   refine Bh (fun b hb ha hc=>?_) ?_
   ·try dsimp only
    refine BD (BU rfl Kw rfl) ?_;exact St.le.refl
   refine Bh (fun b hb ha hc=>?_) ?_
   ·have h2:b 2=true:=ha 0 _ rfl rfl;try dsimp only
    refine BD (Bk rfl ((AO (AO NO)).trans (Cf h2 _ _)) rfl rfl) ?_;exact St.le.refl
   refine Bh (fun b hb ha hc=>?_) ?_
   ·try dsimp only
    refine BD (BU rfl Kw rfl) ?_;exact St.le.refl
   refine Bh (fun b hb ha hc=>?_) ?_
   ·have h4:b 4=true:=ha 0 _ rfl rfl;try dsimp only
    refine BD (Bk rfl ((AO (AO (AO U2))).trans (Cf h4 _ _)) rfl rfl) ?_;exact St.le.refl
   refine Bh (fun b hb ha hc=>?_) ?_
   ·have h3:b 3=true:=ha 0 _ rfl rfl;have h5:b 5=true:=ha 1 _ rfl rfl;try dsimp only
    refine BD (ND (rs:=[.lit (.bool p.leaf),.lit (.int .i64 p.slots),.lit (.slice none 0 0),.lit (.slice none 0 0)]) rfl MP (Ab2 ((AO (AO (AO Oy))).trans (Cf h3 _ _)) (Ab2 ((AO (AO (AO PJ))).trans (Cf h5 _ _)) rfl)) rfl rfl) ?_;exact St.le.refl
   refine Bh (fun b hb ha hc=>?_) ?_
   ·have h9:b 9=false:=Ct hc (i:=7) (j:=9) (k:=0) rfl rfl rfl rfl hb;have u9:upd b 7 9=false:=h9;try dsimp only
    refine Mh 3 rfl (congrArg some ((DJ h9 _ _).trans (DJ hb _ _))) (by repeat(first|exact Jk|refine BT rfl ?_|refine BT (CL rfl rfl) ?_|refine BT (CL rfl (CL rfl rfl)) ?_|refine BT (CL rfl (CL rfl (CL rfl rfl))) ?_)) (by repeat(first|exact Jj|refine BS rfl ?_|refine BS (US hb rfl) ?_|refine BS (Ae7 rfl rfl) ?_)) ?_;simp only[DJ u9];exact St.le.refl
   refine Bh (fun b hb ha hc=>?_) ?_
   ·have h10:b 10=false:=Ct hc (i:=8) (j:=10) (k:=0) rfl rfl rfl rfl hb;have u10:upd b 8 10=false:=h10;try dsimp only
    refine Mh 4 rfl (congrArg some ((DJ h10 _ _).trans (DJ hb _ _))) (by repeat(first|exact Jk|refine BT rfl ?_|refine BT (CL rfl rfl) ?_|refine BT (CL rfl (CL rfl rfl)) ?_|refine BT (CL rfl (CL rfl (CL rfl rfl))) ?_)) (by repeat(first|exact Jj|refine BS rfl ?_|refine BS (US hb rfl) ?_|refine BS (Ae7 rfl rfl) ?_)) ?_;simp only[DJ u10];exact St.le.refl
   refine Bh (fun b hb ha hc=>?_) ?_
   ·have h1:b 1=true:=ha 1 _ rfl rfl;have h7:b 7=true:=ha 0 _ rfl rfl;try dsimp only
    refine IF rfl (Qd.trans (Cf h7 _ _)) (congrArg some ((DJ hb _ _).trans (RQ h7 _ _))) ((AO (AO Qd)).trans (Cf h1 _ _)) (Ez rfl) rfl (Nat.le_of_ble_eq_true rfl) ?_;exact St.le.refl
   refine Bh (fun b hb ha hc=>?_) ?_
   ·have h6:b 6=true:=ha 1 _ rfl rfl;have h8:b 8=true:=ha 0 _ rfl rfl;try dsimp only
    refine IF rfl (NO.trans (Cf h8 _ _)) (congrArg some ((DJ hb _ _).trans (RQ h8 _ _))) ((AO (AO (AO Kw))).trans (Cf h6 _ _)) (Ez rfl) rfl (Nat.le_of_ble_eq_true rfl) ?_;exact St.le.refl
   exact Ry
  ·refine A1 ⟨.agg (Aq f)::.agg (AM p)::.ptr 0 0::.ptr 1 0::.ptr 2 0::.lit (.int .i64 0)::.ptr 3 0::.ptr 4 0::A8 (.agg (Aq f)::.agg (AM p)::.lit (.bool r2)::.lit (.bool (!r2))::.any::.agg (AM p)::.agg (AM p)::.ptr 1 0::.lit (.bool p.leaf)::.ptr 1 1::.lit (.int .i64 p.slots)::.agg [.lit (.bool p.leaf),.lit (.int .i64 p.slots),.lit (.slice none 0 0),.lit (.slice none 0 0)]::A40 (A20 (A6 []))),[.box (Aq f),.box (AM p),.box [.lit (.bool false),.lit (.int .i64 0),.lit (.slice none 0 0),.lit (.slice none 0 0)],.box (AM p),.box [.lit (.bool p.leaf),.lit (.int .i64 p.slots),.lit (.slice none 0 0),.lit (.slice none 0 0)]]⟩ St.le.refl ?_;refine wS (sT (wN ?_));refine A1 _ (CS 8 57 AH rfl (by decide)) ?_;obtain⟨z7,HX7,Hl7⟩:=Al.1 H;refine Bn (β:=((List Pair))×(Nat)) (fun q7=>z7=q7.1) (fun q7=>⟨A2 (.ptr 0 0::.any::.ptr 2 0::.any::.ptr 3 0::.ptr 4 0::.own 5 q7.2::A80 (A5 [])),[.box (Aq f),.dead,.box [.lit (.bool false),.lit (.int .i64 0),.lit (.slice none 0 0),.lit (.slice none 0 0)],.box (AM p),.box [.lit (.bool p.leaf),.lit (.int .i64 p.slots),.lit (.slice none 0 0),.lit (.slice none 0 0)],.row q7.2 57 AH q7.1]⟩) ?_ ?_
   ·have H:=HX7;refine wS (sT (sT (sT (sT (wN ?_)))));refine Aj rfl (fun hb8=>?_) (fun hb8=>?_)
    ·have H:=Au hb8 H;obtain⟨r9,k9,H⟩:=Al.1 H;have k9:=YZ k9;obtain⟨c10,H⟩:=Ab.1 H;refine wS (sT (sC k9 (sX c10 (sT (sT (sT (wN ?_)))))));obtain⟨z14,HX14,Hl14⟩:=Al.1 H;refine NH (β:=((List Pair))×(Nat)) (fun q14=>z14=q14.1) (fun q14=>⟨A2 (.ptr 0 0::.any::.ptr 2 0::.any::.ptr 3 0::.ptr 4 0::.own 5 q14.2::A20 (A5 (.bp tInt.slice (ixD r9 0) 0::A40 (A10 (A9 []))))),[.box (Aq f),.dead,.box [.lit (.bool false),.lit (.int .i64 0),.lit (.slice none 0 0),.lit (.slice none 0 0)],.box (AM p),.box [.lit (.bool p.leaf),.lit (.int .i64 p.slots),.lit (.slice none 0 0),.lit (.slice none 0 0)],.row q14.2 57 AH q14.1]⟩) ?_ ?_
     ·refine Ak ?_;refine Bv HX14 (fun s14 b14=>⟨A2 (.ptr 0 0::.ptr 1 0::.ptr 2 0::.any::.ptr 3 0::.ptr 4 0::.own 5 b14::A20 (A5 (.bp tInt.slice (ixD r9 0) 0::.bs tInt (ixD r9 0)::.lit (.int .i64 ((ixD r9 0).length:Int))::.lit (.int .i64 s14.1)::A40 (A10 (A6 []))))),[.box (Aq f),.box (AM p),.box [.lit (.bool false),.lit (.int .i64 0),.lit (.slice none 0 0),.lit (.slice none 0 0)],.box (AM p),.box [.lit (.bool p.leaf),.lit (.int .i64 p.slots),.lit (.slice none 0 0),.lit (.slice none 0 0)],.row b14 57 AH s14.2]⟩) 0 (?_) ?_
      ·try dsimp only
       exact Bd
      ·rintro⟨x11,l13⟩ v12 x14 H Hr14;try dsimp only
       dsimp only[C8]at H;refine wS (sT (wN ?_));refine Ad fun Khs17 hs17=>?_
       refine Aj rfl (fun hb18=>?_) (fun hb18=>?_)
       ·have H:=Au hb18 H;refine Am ?_;refine hs17 _ ?_;refine nT ?_;obtain⟨z21,HX21,Hl21⟩:=Al.1 H;refine Bn (β:=((List Pair))×(Nat)) (fun q21=>z21=q21.1) (fun q21=>⟨A2 (.ptr 0 0::.ptr 1 0::.ptr 2 0::.any::.ptr 3 0::.ptr 4 0::.own 5 q21.2::A20 (A5 (.bp tInt.slice (ixD r9 0) 0::.bs tInt (ixD r9 0)::.lit (.int .i64 ((ixD r9 0).length:Int))::.lit (.int .i64 x11)::A40 (A10 (A6 []))))),[.box (Aq f),.box (AM p),.box [.lit (.bool false),.lit (.int .i64 0),.lit (.slice none 0 0),.lit (.slice none 0 0)],.box (AM p),.box [.lit (.bool p.leaf),.lit (.int .i64 p.slots),.lit (.slice none 0 0),.lit (.slice none 0 0)],.row q21.2 57 AH q21.1]⟩) ?_ ?_
        ·have H:=HX21;refine Ak ?_;obtain⟨c22,H⟩:=Ab.1 H;refine wS (sX c22 (sT (sT (wN ?_))));refine wS (sT (sT (sT (sT (wN ?_)))));refine Aj rfl (fun hb23=>?_) (fun hb23=>?_)
         ·have H:=Au hb23 H;obtain⟨c24,H⟩:=Ab.1 H;obtain⟨r25,k25,H⟩:=Al.1 H;have k25:=EX k25;obtain⟨c26,H⟩:=Ab.1 H;obtain⟨c27,H⟩:=Ab.1 H;refine dSE 12 (hq:=?_);refine qT (qT (qT (qT (qX c24 (qT (qT (qC k25 (qT (qT ?_)))))))));refine qA (hq:=AK (rs:=[.lit (.int .i64 (ixD p.at_ (ixD (ixD r9 0) x11))),.lit (.int .i64 (IntKind.i64.wrap (r25+(ixD (ixD r9 0) x11))))]) rfl CA rfl rfl) (ht:=(As (AA (AA LM)))) (hk:=?_);refine qA (hq:=AX.lt (xs:=[.tmp 55]) (T:=AH) (ds:=[⟨ixD p.at_ (ixD (ixD r9 0) x11),IntKind.i64.wrap (r25+(ixD (ixD r9 0) x11))⟩]) rfl rfl rfl (by rfl) (by decide) (.cons (BO c26) .nil)) (ht:=(As (AA (AA (AA Oc))))) ?_;refine qN (sP c27 (sT (wN ?_)));have e21:=Ac.1 H;repeat(first|refine abN ?_|refine asN ?_)
          refine An ⟨(_,v12+1),e21.symm,?_⟩;try dsimp only
          exact Bd
         ·have H:=Av hb23 H;refine Am ?_;have e21:=Ac.1 H;repeat(first|refine abN ?_|refine asN ?_)
          refine An ⟨(_,v12),e21.symm,?_⟩;try dsimp only
          exact Bd
        ·rintro⟨l20,v19⟩ hz21;try dsimp only at hz21
         have H:=Hl21;rw[hz21]at H;try dsimp only
         refine wSE (sT (sT (wN ?_)));have e14:=Ac.1 H;repeat(first|refine abN ?_|refine asN ?_)
         refine An ⟨_,v19,e14.symm,?_⟩;try dsimp only
         exact Bd
       ·have H:=Av hb18 H;refine AB ?_;repeat(first|refine BM ?_|refine exO (by decide) ?_|refine asE ?_)
        refine exN ?_;have e14:=Hr14 _ (Ac.1 H).symm;repeat(first|refine abN ?_|refine asN ?_)
        refine An ⟨(_,v12),e14.symm,?_⟩;try dsimp only
        exact leC (Cut.cons (Cut.dead (Cut.cons (Cut.cons (Cut.cons (Cut.cons (Cut.nil _)))))))
     ·rintro⟨l16,v15⟩ s14 hz14 hle14;try dsimp only at hz14
      try dsimp only at hle14
      have H:=Hl14;rw[hz14]at H;have e7:=Ac.1 H;repeat(first|refine abN ?_|refine asN ?_)
      refine An ⟨(_,v15),e7.symm,?_⟩;try dsimp only
      refine St.le.trans hle14 ?_;exact Bd
    ·have H:=Av hb8 H;refine Am ?_;have e7:=Ac.1 H;repeat(first|refine abN ?_|refine asN ?_)
     refine An ⟨(_,0),e7.symm,?_⟩;try dsimp only
     exact leC (Cut.cons (Cut.dead (Cut.cons (Cut.cons (Cut.cons (Cut.cons (Cut.nil _)))))))
   ·rintro⟨l6,v5⟩ hz7;try dsimp only at hz7
    have H:=Hl7;rw[hz7]at H;try dsimp only
    obtain⟨r28,k28,H⟩:=Al.1 H;have k28:=If k28;refine wS (sT ?_);refine F7 rfl (IY hC 5 rfl (by(simp only[fzH,Cr,AV.fz,ABlk.fz,List.map_cons,List.map_nil,List.drop_zero,List.take_succ_cons,List.take_zero,List.set_cons_succ,List.set_cons_zero,and_self,and_true,true_and,if_true,Nat.reduceEqDiff,false_and,if_false];first|done|exact rfl)) (by(simp only[fzH,Cr,AV.fz,ABlk.fz,List.map_cons,List.map_nil,List.drop_zero,List.take_succ_cons,List.take_zero,List.set_cons_succ,List.set_cons_zero,and_self,and_true,true_and,if_true,Nat.reduceEqDiff,false_and,if_false];first|done|exact rfl))) ?_;refine sC k28 (sT (sW (wN ?_)));refine A1 _ (Fh 4 3 69 CH rfl rfl (by decide)) ?_;obtain⟨z33,HX33,Hl33⟩:=Al.1 H;refine Bn (β:=((List ABlock))×(Nat)) (fun q33=>z33=q33.1) (fun q33=>⟨A4 (.ptr 2 0::A2 (.ptr 4 0::A80 (A6 []))),[.dead,.dead,.box [.lit (.bool false),.lit (.int .i64 0),.lit (.slice none 0 0),.lit (.slice none 0 0)],.dead,.box [.lit (.bool p.leaf),.lit (.int .i64 p.slots),.bs AN r28,.own 6 q33.2],.dead,.row q33.2 69 CH q33.1]⟩) ?_ ?_
    ·refine wS (sT (sT (sT (sT (wN ?_)))));refine Ak ?_;refine Bv HX33 (fun s33 b33=>⟨A4 (.ptr 2 0::.any::.ptr 3 0::.ptr 4 0::A40 (A10 (A5 (.bs B3 f.blocks::.lit (.int .i64 (f.blocks.length:Int))::.lit (.int .i64 s33.1)::A20 (A8 []))))),[.dead,.dead,.box [.lit (.bool false),.lit (.int .i64 0),.lit (.slice none 0 0),.lit (.slice none 0 0)],.box [.lit (.bool p.leaf),.lit (.int .i64 p.slots),.bs tInt p.at_],.box [.lit (.bool p.leaf),.lit (.int .i64 p.slots),.bs AN r28,.own 6 b33],.dead,.row b33 69 CH s33.2]⟩) 0 (?_) ?_
     ·try dsimp only
      exact leC (Cut.dead (Cut.cons (Cut.cons (Cut.cons (Cut.cons (Cut.cons (Cut.cons (Cut.nil _))))))))
     ·rintro⟨x30,l32⟩ v31 x33 H Hr33;try dsimp only
      dsimp only[C7]at H;refine wS (sT (wN ?_));refine Ad fun Khs36 hs36=>?_
      refine Aj rfl (fun hb37=>?_) (fun hb37=>?_)
      ·have H:=Au hb37 H;refine Am ?_;refine hs36 _ ?_;refine nT ?_;refine Ad fun Khs38 hs38=>?_
       refine Ak ?_;obtain⟨c39,H⟩:=Ab.1 H;refine wS (sX c39 (sT (sA0 (sW (wN ?_)))));refine wS (sA0 (wN ?_));refine A1 _ (Fh 8 0 67 AN rfl rfl (by decide)) ?_;obtain⟨z45,HX45,Hl45⟩:=Al.1 H;refine Bn (β:=((List ACell))×(Nat×Nat)) (fun q45=>z45=q45.1) (fun q45=>⟨A4 (.ptr 2 0::.any::.ptr 3 0::.ptr 4 0::A5 (.ptr 8 0::A40 (A9 (.bs B3 f.blocks::.lit (.int .i64 (f.blocks.length:Int))::.lit (.int .i64 x30)::A20 (A8 []))))),[.dead,.dead,.box [.lit (.bool false),.lit (.int .i64 0),.lit (.slice none 0 0),.lit (.slice none 0 0)],.box [.lit (.bool p.leaf),.lit (.int .i64 p.slots),.bs tInt p.at_],.box [.lit (.bool p.leaf),.lit (.int .i64 p.slots),.bs AN r28,.own 6 q45.2.1],.dead,.row q45.2.1 69 CH l32,.dead,.box [.own 9 q45.2.2],.row q45.2.2 67 AN q45.1]⟩) ?_ ?_
       ·refine wS (sT (sT (sT (sT (wN ?_)))));refine Ak ?_;refine Bv HX45 (fun s45 b45=>⟨A4 (.ptr 2 0::.any::.ptr 3 0::.ptr 4 0::A5 (.ptr 8 0::A40 (A9 (.bs B3 f.blocks::.lit (.int .i64 (f.blocks.length:Int))::.lit (.int .i64 x30)::A4 (.bs Ep ((ixD f.blocks x30).ins)::.lit (.int .i64 (((ixD f.blocks x30).ins).length:Int))::.lit (.int .i64 s45.1)::A20 [.any]))))),[.dead,.dead,.box [.lit (.bool false),.lit (.int .i64 0),.lit (.slice none 0 0),.lit (.slice none 0 0)],.box [.lit (.bool p.leaf),.lit (.int .i64 p.slots),.bs tInt p.at_],.box [.lit (.bool p.leaf),.lit (.int .i64 p.slots),.bs AN r28,.own 6 b45.1],.dead,.row b45.1 69 CH l32,.dead,.box [.own 9 b45.2],.row b45.2 67 AN s45.2]⟩) (v31,0) (?_) ?_
        ·try dsimp only
         exact leC (Cut.cons (Cut.cons (Cut.cons (Cut.cons (Cut.cons (Cut.cons (Cut.cons (Cut.dead (Cut.cons (Cut.cons (Cut.nil _)))))))))))
        ·rintro⟨x41,l44⟩ ⟨v42,v43⟩ x45 H Hr45;try dsimp only
         dsimp only[C6]at H;refine wS (sT (wN ?_));refine Ad fun Khs49 hs49=>?_
         refine Aj rfl (fun hb50=>?_) (fun hb50=>?_)
         ·have H:=Au hb50 H;refine Am ?_;refine hs49 _ ?_;refine nT ?_;refine Ad fun Khs51 hs51=>?_
          refine Ak ?_;obtain⟨c52,H⟩:=Ab.1 H;refine wS (sT (sX c52 (sT (sA0 (sT (sW (wN ?_)))))));obtain⟨r53,k53,H⟩:=Al.1 H;have k53:=F5 k53;obtain⟨c54,H⟩:=Ab.1 H;refine dSE 6 (hq:=?_);refine qT (qT (qT (qT (qT (qC k53 (qN (sP c54 (sT (sW (wN ?_))))))))));refine hs51 _ ?_;refine nT ?_;refine wSE (sT (sT (wN ?_)));have e45:=Ac.1 H;repeat(first|refine abN ?_|refine asN ?_)
          refine An ⟨_,(v42,v43+1),e45.symm,?_⟩;try dsimp only
          exact leC (Cut.cons (Cut.cons (Cut.cons (Cut.cons (Cut.cons (Cut.cons (Cut.cons (Cut.cons (Cut.cons (Cut.cons (Cut.nil _)))))))))))
         ·have H:=Av hb50 H;refine AB ?_;repeat(first|refine BM ?_|refine exO (by decide) ?_|refine asE ?_)
          refine exN ?_;have e45:=Hr45 _ (Ac.1 H).symm;repeat(first|refine abN ?_|refine asN ?_)
          refine An ⟨(_,(v42,v43)),e45.symm,?_⟩;try dsimp only
          exact Bd
       ·rintro⟨l48,⟨v46,v47⟩⟩ hz45;try dsimp only at hz45
        have H:=Hl45;rw[hz45]at H;try dsimp only
        obtain⟨c55,H⟩:=Ab.1 H;obtain⟨c56,H⟩:=Ab.1 H;refine wSE (sT (sT (sT ?_)));refine F7 rfl (IY hC 9 rfl (by(simp only[fzH,Cr,AV.fz,ABlk.fz,List.map_cons,List.map_nil,List.drop_zero,List.take_succ_cons,List.take_zero,List.set_cons_succ,List.set_cons_zero,and_self,and_true,true_and,if_true,Nat.reduceEqDiff,false_and,if_false];first|done|exact rfl)) (by(simp only[fzH,Cr,AV.fz,ABlk.fz,List.map_cons,List.map_nil,List.drop_zero,List.take_succ_cons,List.take_zero,List.set_cons_succ,List.set_cons_zero,and_self,and_true,true_and,if_true,Nat.reduceEqDiff,false_and,if_false];first|done|exact rfl))) ?_;refine sA (hq:=AX.lt (xs:=[.tmp 88]) (T:=CH) (ds:=[⟨l48⟩]) rfl rfl rfl (by rfl) (by decide) (.cons (KV c55) .nil)) (ht:=(As (As (AA (AA (AA LN)))))) (hk:=?_);refine sP c56 (sT (sW (wN ?_)));refine hs38 _ ?_;refine nT ?_;refine wSE (sT (sT (wN ?_)));have e33:=Ac.1 H;repeat(first|refine abN ?_|refine asN ?_)
        refine An ⟨_,v46+1,e33.symm,?_⟩;try dsimp only
        exact leC (Cut.cons (Cut.cons (Cut.cons (Cut.cons (Cut.cons (Cut.cons (Cut.cons (Cut.nil _))))))))
      ·have H:=Av hb37 H;refine AB ?_;repeat(first|refine BM ?_|refine exO (by decide) ?_|refine asE ?_)
       refine exN ?_;have e33:=Hr33 _ (Ac.1 H).symm;repeat(first|refine abN ?_|refine asN ?_)
       refine An ⟨(_,v31),e33.symm,?_⟩;try dsimp only
       exact leC (Cut.cons (Cut.cons (Cut.cons (Cut.dead (Cut.cons (Cut.cons (Cut.cons (Cut.nil _))))))))
    ·rintro⟨l35,v34⟩ hz33;try dsimp only at hz33
     have H:=Hl33;rw[hz33]at H;try dsimp only
     refine wS (sT ?_);refine F7 rfl (IY hC 6 rfl (by(simp only[fzH,Cr,AV.fz,ABlk.fz,List.map_cons,List.map_nil,List.drop_zero,List.take_succ_cons,List.take_zero,List.set_cons_succ,List.set_cons_zero,and_self,and_true,true_and,if_true,Nat.reduceEqDiff,false_and,if_false];first|done|exact rfl)) (by(simp only[fzH,Cr,AV.fz,ABlk.fz,List.map_cons,List.map_nil,List.drop_zero,List.take_succ_cons,List.take_zero,List.set_cons_succ,List.set_cons_zero,and_self,and_true,true_and,if_true,Nat.reduceEqDiff,false_and,if_false];first|done|exact rfl))) ?_;refine sW (sT (wN ?_));obtain rfl:=Ac.1 H;exact Ar ⟨.inr rfl,2,_,rfl,rfl,rfl,Fin.cl rfl⟩
def Fd:M Bool:=M.chk (IQ ⟨1,2,0,1,0,0,[],0,0⟩) (M.chk (IQ ⟨10,0,2,0,0,0,[],0,0⟩) (M.chk (JV ⟨⟨#[]⟩,[⟨1,2,0,1,0,0,[],0,0⟩,⟨10,0,2,0,0,0,[],0,0⟩]⟩) (M.bnd (CV ⟨⟨#[]⟩,2,3,[⟨⟨#[]⟩,[⟨1,2,0,1,0,0,[],0,0⟩,⟨10,0,2,0,0,0,[],0,0⟩]⟩]⟩ ⟨false,1,[32,25,24]⟩) fun r4=>M.chk (Bg ⟨0,(-1),32,24,(-1),[]⟩) (M.chk (Bg ⟨0,(-1),1,32,(-1),[]⟩) (M.chk (Bg ⟨1,0,24,1,25,[]⟩) (M.chk (Bg ⟨1,1,(-1),24,(-1),[]⟩) (M.chk (HT ⟨[⟨0,(-1),1,32,(-1),[]⟩,⟨1,0,24,1,25,[]⟩,⟨1,1,(-1),24,(-1),[]⟩]⟩) (M.bnd (CV ⟨⟨#[]⟩,2,3,[⟨⟨#[]⟩,[⟨1,2,0,1,0,0,[],0,0⟩,⟨10,0,2,0,0,0,[],0,0⟩]⟩]⟩ ⟨false,0,[32,25,24]⟩) fun r10=>M.chk (BA ⟨8,9⟩) (M.chk (BA ⟨9,8⟩) (M.bnd (Dw [⟨8,9⟩,⟨9,8⟩]) fun r13=>M.chk (BA ⟨3,8⟩) (M.chk (BA ⟨9,3⟩) (M.bnd (D1 r13 [⟨3,8⟩,⟨8,9⟩,⟨9,3⟩]) fun r16=>M.chk (!r16||(BA ⟨8,16⟩)) (M.chk (!r16||(BA ⟨9,8⟩)) (M.chk (!r16||(BA ⟨10,10⟩)) (M.bnd (M.whn r16 [] (Dw [⟨8,16⟩,⟨9,8⟩,⟨10,10⟩])) fun r20=>M.chk (!r16||(BA ⟨9,8⟩)) (M.chk (!r16||(BA ⟨8,16⟩)) (M.bnd (M.whn r16 false (D1 r20 [⟨9,8⟩,⟨8,16⟩])) fun r23=>M.chk (!(r16&&r23)||(BA ⟨24,25⟩)) (M.chk (!(r16&&r23)||(BA ⟨25,26⟩)) (M.chk (!(r16&&r23)||(BA ⟨26,24⟩)) (M.chk (!(r16&&r23)||(BA ⟨27,24⟩)) (M.bnd (M.whn (r16&&r23) [] (Dw [⟨24,25⟩,⟨25,26⟩,⟨26,24⟩,⟨27,24⟩])) fun r28=>M.chk (!(r16&&r23)||(BA ⟨27,24⟩)) (M.chk (!(r16&&r23)||(BA ⟨3,24⟩)) (M.chk (!(r16&&r23)||(BA ⟨24,25⟩)) (M.chk (!(r16&&r23)||(BA ⟨25,26⟩)) (M.chk (!(r16&&r23)||(BA ⟨26,3⟩)) (M.bnd (M.whn (r16&&r23) false (D1 r28 [⟨27,24⟩,⟨3,24⟩,⟨24,25⟩,⟨25,26⟩,⟨26,3⟩])) fun r34=>M.bnd (M.whn ((r16&&r23)&&r34) false (E3 r4.1 ⟨false,1,[⟨0,(-1),32,24,(-1),[]⟩],[⟨[⟨0,(-1),1,32,(-1),[]⟩,⟨1,0,24,1,25,[]⟩,⟨1,1,(-1),24,(-1),[]⟩]⟩]⟩)) fun r35=>M.ok (((((r16&&r23)&&r34)&&r35)&&(r4.2 ==0))&&(r10.2 ==2))))))))))))))))))))))))))))
theorem Ly{r:Bool}(H:(Fd).to r):Fn Tryz.prog 9 [] (.lit (.bool r)):=by
 delta Fd at H;try dsimp only at H
 refine AE Tryz.func9 rfl (by kernel_rfl) rfl Tryz.ntmps9 fun C hC=>?_
 simp only[List.length_cons,List.length_nil,Nat.reduceAdd,Nat.reduceSub,List.replicate_succ,List.replicate_zero,List.cons_append,List.nil_append];refine wS (sT (wN ?_));obtain⟨c1,H⟩:=Ab.1 H;obtain⟨c2,H⟩:=Ab.1 H;obtain⟨c3,H⟩:=Ab.1 H;refine wS ?_;refine sA (hq:=AK (rs:=[.lit (.int .u8 1),.lit (.int .i64 2),.lit (.int .i64 0),.lit (.int .i64 1),.lit (.int .u32 0),.lit (.int .i64 0),.lit (.slice none 0 0),.lit (.int .i64 0),.lit (.int .i64 0)]) rfl Aia rfl rfl) (ht:=LM) ?_;refine sA (hq:=AK (rs:=[.lit (.int .u8 10),.lit (.int .i64 0),.lit (.int .i64 2),.lit (.int .i64 0),.lit (.int .u32 0),.lit (.int .i64 0),.lit (.slice none 0 0),.lit (.int .i64 0),.lit (.int .i64 0)]) rfl Aia rfl rfl) (ht:=(AA Oc)) ?_;refine sA (hq:=AX.lt (xs:=[.tmp 7,.tmp 8]) (T:=Ep) (ds:=[⟨1,2,0,1,0,0,[],0,0⟩,⟨10,0,2,0,0,0,[],0,0⟩]) rfl rfl rfl (by rfl) (by decide) (.cons (Fit.up (Lf (.cons (.refl _) (.cons (.refl _) (.cons (.refl _) (.cons (.refl _) (.cons (.refl _) (.cons (.refl _) (.cons (.nil _) (.cons (.refl _) (.cons (.refl _) .nil)))))))))) (Zn c1)) (.cons (Fit.up (Lf (.cons (.refl _) (.cons (.refl _) (.cons (.refl _) (.cons (.refl _) (.cons (.refl _) (.cons (.refl _) (.cons (.nil _) (.cons (.refl _) (.cons (.refl _) .nil)))))))))) (Zn c2)) .nil))) (ht:=(AA LN)) (hk:=?_);refine sA (hq:=AK (rs:=[.lit (.string ⟨#[]⟩),.bs Ep [⟨1,2,0,1,0,0,[],0,0⟩,⟨10,0,2,0,0,0,[],0,0⟩]]) rfl Aez rfl rfl) (ht:=(AA O8)) ?_;refine sA (hq:=AX.lt (xs:=[.tmp 10]) (T:=B3) (ds:=[⟨⟨#[]⟩,[⟨1,2,0,1,0,0,[],0,0⟩,⟨10,0,2,0,0,0,[],0,0⟩]⟩]) rfl rfl rfl (by rfl) (by decide) (.cons (Zo c3) .nil)) (ht:=(AA Ob)) ?_;refine sA (hq:=AK (rs:=[.lit (.string ⟨#[]⟩),.lit (.int .i64 2),.lit (.int .i64 3),.bs B3 [⟨⟨#[]⟩,[⟨1,2,0,1,0,0,[],0,0⟩,⟨10,0,2,0,0,0,[],0,0⟩]⟩]]) rfl Aib rfl rfl) (ht:=(AA O7)) ?_;refine sA0 (sW (wN ?_));obtain⟨r4,k4,H⟩:=Al.1 H;have k4:=Gj k4;refine wS (sT ?_);refine sA (hq:=AX.lt (xs:=[.const (.int .i64 32),.const (.int .i64 25),.const (.int .i64 24)]) (T:=tInt) (ds:=[32,25,24]) rfl rfl rfl (by rfl) (by decide) (.cons (Fit.int (Li (by decide))) (.cons (Fit.int (Li (by decide))) (.cons (Fit.int (Li (by decide))) .nil)))) (ht:=(AA LM)) (hk:=?_);refine sA (hq:=AK (rs:=[.lit (.bool false),.lit (.int .i64 1),.bs tInt [32,25,24]]) rfl Adt rfl rfl) (ht:=(AA (AA Oc))) ?_;refine sC k4 (sT (sT (sT (sA0 (sW (sT (wN ?_)))))));obtain⟨c5,H⟩:=Ab.1 H;obtain⟨c6,H⟩:=Ab.1 H;obtain⟨c7,H⟩:=Ab.1 H;obtain⟨c8,H⟩:=Ab.1 H;obtain⟨c9,H⟩:=Ab.1 H;refine wS ?_;refine sA (hq:=AK (rs:=[.lit (.int .u8 0),.lit (.int .i64 (-1)),.lit (.int .i64 32),.lit (.int .i64 24),.lit (.int .i64 (-1)),.lit (.slice none 0 0)]) rfl G1 rfl rfl) (ht:=(AA (AA O7))) ?_;refine sA (hq:=AX.lt (xs:=[.tmp 20]) (T:=AN) (ds:=[⟨0,(-1),32,24,(-1),[]⟩]) rfl rfl rfl (by rfl) (by decide) (.cons (Fit.up (Lf (.cons (.refl _) (.cons (.refl _) (.cons (.refl _) (.cons (.refl _) (.cons (.refl _) (.cons (.nil _) .nil))))))) (Ca c5)) .nil)) (ht:=(AA (AA S6))) (hk:=?_);refine sA (hq:=AK (rs:=[.lit (.int .u8 0),.lit (.int .i64 (-1)),.lit (.int .i64 1),.lit (.int .i64 32),.lit (.int .i64 (-1)),.lit (.slice none 0 0)]) rfl G1 rfl rfl) (ht:=(AA (AA Mx))) ?_;refine sA (hq:=AK (rs:=[.lit (.int .u8 1),.lit (.int .i64 0),.lit (.int .i64 24),.lit (.int .i64 1),.lit (.int .i64 25),.lit (.slice none 0 0)]) rfl G1 rfl rfl) (ht:=(AA (AA LM))) ?_;refine sA (hq:=AK (rs:=[.lit (.int .u8 1),.lit (.int .i64 1),.lit (.int .i64 (-1)),.lit (.int .i64 24),.lit (.int .i64 (-1)),.lit (.slice none 0 0)]) rfl G1 rfl rfl) (ht:=(AA (AA (AA Oc)))) ?_;refine sA (hq:=AX.lt (xs:=[.tmp 22,.tmp 23,.tmp 24]) (T:=AN) (ds:=[⟨0,(-1),1,32,(-1),[]⟩,⟨1,0,24,1,25,[]⟩,⟨1,1,(-1),24,(-1),[]⟩]) rfl rfl rfl (by rfl) (by decide) (.cons (Fit.up (Lf (.cons (.refl _) (.cons (.refl _) (.cons (.refl _) (.cons (.refl _) (.cons (.refl _) (.cons (.nil _) .nil))))))) (Ca c6)) (.cons (Fit.up (Lf (.cons (.refl _) (.cons (.refl _) (.cons (.refl _) (.cons (.refl _) (.cons (.refl _) (.cons (.nil _) .nil))))))) (Ca c7)) (.cons (Fit.up (Lf (.cons (.refl _) (.cons (.refl _) (.cons (.refl _) (.cons (.refl _) (.cons (.refl _) (.cons (.nil _) .nil))))))) (Ca c8)) .nil)))) (ht:=(AA (AA (AA LN)))) (hk:=?_);refine sA (hq:=AK (rs:=[.bs AN [⟨0,(-1),1,32,(-1),[]⟩,⟨1,0,24,1,25,[]⟩,⟨1,1,(-1),24,(-1),[]⟩]]) rfl Abu rfl rfl) (ht:=(AA (AA (AA O8)))) ?_;refine sA (hq:=AX.lt (xs:=[.tmp 26]) (T:=CH) (ds:=[⟨[⟨0,(-1),1,32,(-1),[]⟩,⟨1,0,24,1,25,[]⟩,⟨1,1,(-1),24,(-1),[]⟩]⟩]) rfl rfl rfl (by rfl) (by decide) (.cons (KV c9) .nil)) (ht:=(AA (AA (AA Ob)))) ?_;refine sA (hq:=AK (rs:=[.lit (.bool false),.lit (.int .i64 1),.bs AN [⟨0,(-1),32,24,(-1),[]⟩],.bs CH [⟨[⟨0,(-1),1,32,(-1),[]⟩,⟨1,0,24,1,25,[]⟩,⟨1,1,(-1),24,(-1),[]⟩]⟩]]) rfl MP rfl rfl) (ht:=(AA (AA (AA O7)))) ?_;refine sA0 (sW (wN ?_));obtain⟨r10,k10,H⟩:=Al.1 H;have k10:=Gj k10;refine wS (sT ?_);refine sA (hq:=AX.lt (xs:=[.const (.int .i64 32),.const (.int .i64 25),.const (.int .i64 24)]) (T:=tInt) (ds:=[32,25,24]) rfl rfl rfl (by rfl) (by decide) (.cons (Fit.int (Li (by decide))) (.cons (Fit.int (Li (by decide))) (.cons (Fit.int (Li (by decide))) .nil)))) (ht:=(AA (AA (AA LM)))) (hk:=?_);refine sA (hq:=AK (rs:=[.lit (.bool false),.lit (.int .i64 0),.bs tInt [32,25,24]]) rfl Adt rfl rfl) (ht:=(As Oc)) ?_;refine sC k10 (sT (sT (sT (sA0 (sW (sT (wN ?_)))))));obtain⟨c11,H⟩:=Ab.1 H;obtain⟨c12,H⟩:=Ab.1 H;obtain⟨r13,k13,H⟩:=Al.1 H;have k13:=E8 k13;obtain⟨c14,H⟩:=Ab.1 H;obtain⟨c15,H⟩:=Ab.1 H;obtain⟨r16,k16,H⟩:=Al.1 H;have k16:=H6 k16;obtain⟨c17,H⟩:=Ab.1 H;obtain⟨c18,H⟩:=Ab.1 H;obtain⟨c19,H⟩:=Ab.1 H;obtain⟨r20,k20,H⟩:=Al.1 H;obtain⟨c21,H⟩:=Ab.1 H;obtain⟨c22,H⟩:=Ab.1 H;obtain⟨r23,k23,H⟩:=Al.1 H;obtain⟨c24,H⟩:=Ab.1 H;obtain⟨c25,H⟩:=Ab.1 H;obtain⟨c26,H⟩:=Ab.1 H;obtain⟨c27,H⟩:=Ab.1 H;obtain⟨r28,k28,H⟩:=Al.1 H;obtain⟨c29,H⟩:=Ab.1 H;obtain⟨c30,H⟩:=Ab.1 H;obtain⟨c31,H⟩:=Ab.1 H;obtain⟨c32,H⟩:=Ab.1 H;obtain⟨c33,H⟩:=Ab.1 H;obtain⟨r34,k34,H⟩:=Al.1 H;obtain⟨r35,k35,H⟩:=Al.1 H;refine wS ?_;refine sA (hq:=AK (rs:=[.lit (.int .i64 8),.lit (.int .i64 9)]) rfl CA rfl rfl) (ht:=(As O7)) ?_;refine sA (hq:=AK (rs:=[.lit (.int .i64 9),.lit (.int .i64 8)]) rfl CA rfl rfl) (ht:=(As S6)) ?_;refine sA (hq:=AX.lt (xs:=[.tmp 36,.tmp 37]) (T:=AH) (ds:=[⟨8,9⟩,⟨9,8⟩]) rfl rfl rfl (by rfl) (by decide) (.cons (BO c11) (.cons (BO c12) .nil))) (ht:=(As Mx)) ?_;refine sC k13 ?_;refine sA (hq:=AK (rs:=[.lit (.int .i64 3),.lit (.int .i64 8)]) rfl CA rfl rfl) (ht:=(As (AA Oc))) ?_;refine sA (hq:=AK (rs:=[.lit (.int .i64 8),.lit (.int .i64 9)]) rfl CA rfl rfl) (ht:=(As (AA LN))) ?_;refine sA (hq:=AK (rs:=[.lit (.int .i64 9),.lit (.int .i64 3)]) rfl CA rfl rfl) (ht:=(As (AA O8))) ?_;refine sA (hq:=AX.lt (xs:=[.tmp 40,.tmp 41,.tmp 42]) (T:=AH) (ds:=[⟨3,8⟩,⟨8,9⟩,⟨9,3⟩]) rfl rfl rfl (by rfl) (by decide) (.cons (BO c14) (.cons (BO c11) (.cons (BO c15) .nil)))) (ht:=(As (AA Ob))) ?_;refine sC k16 (sT ?_);refine sG (g:=r16) (hg:=Gg rfl) (hq:=fun hg=>AK (rs:=[.lit (.int .i64 8),.lit (.int .i64 16)]) rfl CA rfl rfl) (ht:=(As (AA Mx))) ?_;refine sG (g:=r16) (hg:=Gg rfl) (hq:=fun hg=>AK (rs:=[.lit (.int .i64 9),.lit (.int .i64 8)]) rfl CA rfl rfl) (ht:=(As (AA LM))) ?_;refine sG (g:=r16) (hg:=Gg rfl) (hq:=fun hg=>AK (rs:=[.lit (.int .i64 10),.lit (.int .i64 10)]) rfl CA rfl rfl) (ht:=(As (AA (AA Oc)))) ?_;refine sG (g:=r16) (hg:=Gg rfl) (hq:=fun hg=>AX.lt (xs:=[.tmp 46,.tmp 47,.tmp 48]) (T:=AH) (ds:=[⟨8,16⟩,⟨9,8⟩,⟨10,10⟩]) rfl rfl rfl (by rfl) (by decide) (.cons (Cl ((AL (AO Qd)).trans (Cf hg _ _)) (BO (DG c17 hg))) (.cons (Cl ((AL (AO NO)).trans (Cf hg _ _)) (BO (DG c18 hg))) (.cons (Cl ((AL (AO (AO Oy))).trans (Cf hg _ _)) (BO (DG c19 hg))) .nil)))) (ht:=(As (AA (AA LN)))) (hk:=?_);refine sG (g:=r16) (hg:=Gg rfl) (hq:=fun hg=>by((try simp only[Cf hg]);(try simp only[KY hg]);exact Ba rfl rfl (E8 (M.to_whn k20 hg)) rfl rfl)) (ht:=(As (AA (AA O8)))) ?_;refine sG (g:=r16) (hg:=Gg rfl) (hq:=fun hg=>AK (rs:=[.lit (.int .i64 9),.lit (.int .i64 8)]) rfl CA rfl rfl) (ht:=(As (AA (AA Ob)))) ?_;refine sG (g:=r16) (hg:=Gg rfl) (hq:=fun hg=>AK (rs:=[.lit (.int .i64 8),.lit (.int .i64 16)]) rfl CA rfl rfl) (ht:=(As (AA (AA O7)))) ?_;refine sG (g:=r16) (hg:=Gg rfl) (hq:=fun hg=>AX.lt (xs:=[.tmp 51,.tmp 52]) (T:=AH) (ds:=[⟨9,8⟩,⟨8,16⟩]) rfl rfl rfl (by rfl) (by decide) (.cons (Cl ((AL (AO (AO Kw))).trans (Cf hg _ _)) (BO (DG c21 hg))) (.cons (Cl ((AL (AO (AO NU))).trans (Cf hg _ _)) (BO (DG c22 hg))) .nil))) (ht:=(As (AA (AA S6)))) (hk:=?_);refine sG (g:=r16) (hg:=Gg rfl) (hq:=fun hg=>by((try simp only[Cf hg]);(try simp only[KY hg]);exact Ba rfl rfl (H6 (M.to_whn k23 hg)) rfl rfl)) (ht:=(As (AA (AA Mx)))) ?_;refine sT (sT ?_);refine sG (g:=(r16&&r23)) (hg:=Gg rfl) (hq:=fun hg=>AK (rs:=[.lit (.int .i64 24),.lit (.int .i64 25)]) rfl CA rfl rfl) (ht:=(As (AA (AA (AA LN))))) ?_;refine sG (g:=(r16&&r23)) (hg:=Gg rfl) (hq:=fun hg=>AK (rs:=[.lit (.int .i64 25),.lit (.int .i64 26)]) rfl CA rfl rfl) (ht:=(As (AA (AA (AA O8))))) ?_;refine sG (g:=(r16&&r23)) (hg:=Gg rfl) (hq:=fun hg=>AK (rs:=[.lit (.int .i64 26),.lit (.int .i64 24)]) rfl CA rfl rfl) (ht:=(As (AA (AA (AA Ob))))) ?_;refine sG (g:=(r16&&r23)) (hg:=Gg rfl) (hq:=fun hg=>AK (rs:=[.lit (.int .i64 27),.lit (.int .i64 24)]) rfl CA rfl rfl) (ht:=(As (AA (AA (AA O7))))) ?_;refine sG (g:=(r16&&r23)) (hg:=Gg rfl) (hq:=fun hg=>AX.lt (xs:=[.tmp 57,.tmp 58,.tmp 59,.tmp 60]) (T:=AH) (ds:=[⟨24,25⟩,⟨25,26⟩,⟨26,24⟩,⟨27,24⟩]) rfl rfl rfl (by rfl) (by decide) (.cons (Cl ((AL (AO (AO (AO U2)))).trans (Cf hg _ _)) (BO (DG c24 hg))) (.cons (Cl ((AL (AO (AO (AO PJ)))).trans (Cf hg _ _)) (BO (DG c25 hg))) (.cons (Cl ((AL (AO (AO (AO Kw)))).trans (Cf hg _ _)) (BO (DG c26 hg))) (.cons (Cl ((AL (AO (AO (AO NU)))).trans (Cf hg _ _)) (BO (DG c27 hg))) .nil))))) (ht:=(As (AA (AA (AA S6))))) (hk:=?_);refine sG (g:=(r16&&r23)) (hg:=Gg rfl) (hq:=fun hg=>by((try simp only[Cf hg]);(try simp only[KY hg]);exact Ba rfl rfl (E8 (M.to_whn k28 hg)) rfl rfl)) (ht:=(As (AA (AA (AA Mx))))) ?_;refine sG (g:=(r16&&r23)) (hg:=Gg rfl) (hq:=fun hg=>AK (rs:=[.lit (.int .i64 27),.lit (.int .i64 24)]) rfl CA rfl rfl) (ht:=(As (AA (AA (AA LM))))) ?_;refine sG (g:=(r16&&r23)) (hg:=Gg rfl) (hq:=fun hg=>AK (rs:=[.lit (.int .i64 3),.lit (.int .i64 24)]) rfl CA rfl rfl) (ht:=(As (As Oc))) ?_;refine sG (g:=(r16&&r23)) (hg:=Gg rfl) (hq:=fun hg=>AK (rs:=[.lit (.int .i64 24),.lit (.int .i64 25)]) rfl CA rfl rfl) (ht:=(As (As LN))) ?_;refine sG (g:=(r16&&r23)) (hg:=Gg rfl) (hq:=fun hg=>AK (rs:=[.lit (.int .i64 25),.lit (.int .i64 26)]) rfl CA rfl rfl) (ht:=(As (As O8))) ?_;refine sG (g:=(r16&&r23)) (hg:=Gg rfl) (hq:=fun hg=>AK (rs:=[.lit (.int .i64 26),.lit (.int .i64 3)]) rfl CA rfl rfl) (ht:=(As (As Ob))) ?_;refine sG (g:=(r16&&r23)) (hg:=Gg rfl) (hq:=fun hg=>AX.lt (xs:=[.tmp 63,.tmp 64,.tmp 65,.tmp 66,.tmp 67]) (T:=AH) (ds:=[⟨27,24⟩,⟨3,24⟩,⟨24,25⟩,⟨25,26⟩,⟨26,3⟩]) rfl rfl rfl (by rfl) (by decide) (.cons (Cl ((AL (AO (AO (AO NO)))).trans (Cf hg _ _)) (BO (DG c29 hg))) (.cons (Cl ((AL (AL Oy)).trans (Cf hg _ _)) (BO (DG c30 hg))) (.cons (Cl ((AL (AL U2)).trans (Cf hg _ _)) (BO (DG c31 hg))) (.cons (Cl ((AL (AL PJ)).trans (Cf hg _ _)) (BO (DG c32 hg))) (.cons (Cl ((AL (AL Kw)).trans (Cf hg _ _)) (BO (DG c33 hg))) .nil)))))) (ht:=(As (As O7))) (hk:=?_);refine sG (g:=(r16&&r23)) (hg:=Gg rfl) (hq:=fun hg=>by((try simp only[Cf hg]);(try simp only[KY hg]);exact Ba rfl rfl (H6 (M.to_whn k34 hg)) rfl rfl)) (ht:=(As (As S6))) ?_;refine sT (sT ?_);refine sG (g:=((r16&&r23)&&r34)) (hg:=Gg rfl) (hq:=fun hg=>Bc rfl PJ rfl rfl) (ht:=(As (As (AA Oc)))) ?_;refine sG (g:=((r16&&r23)&&r34)) (hg:=Gg rfl) (hq:=fun hg=>Bc rfl NU rfl rfl) (ht:=(As (As (AA LN)))) ?_;refine sG (g:=((r16&&r23)&&r34)) (hg:=Gg rfl) (hq:=fun hg=>by((try simp only[Cf hg]);(try simp only[KY hg]);exact Ba rfl rfl (Om (M.to_whn k35 hg)) rfl rfl)) (ht:=(As (As (AA O8)))) ?_;refine sT (sT ?_);refine sGt rfl ?_;refine sGt rfl (sT (sT ?_));refine sGt rfl ?_;refine sGt rfl (sT (sT (wN ?_)));obtain rfl:=Ac.1 H;exact Ar ⟨.inr rfl,Fin.cl rfl⟩
def Dh(f:Func)(p:Plan)(atP2:Int×Int):M Bool:=M.bnd (QZ f) fun r2=>M.cnd (r2||(decide ((p.at_.length:Int) > 300))) (M.bnd Fd fun r4=>M.ok r4) (M.bnd (CV f p) fun r5=>M.bnd (Fv f p) fun r6=>M.bnd (GL f p atP2.1 atP2.2) fun r7=>M.bnd (Hy f p atP2.1 atP2.2) fun r8=>M.bnd (E3 r5.1 r6.1) fun r9=>M.bnd (M.whn (r9&&(r5.2 ==r6.2)) false (CD r7.1 r8.1)) fun r10=>M.bnd (M.whn (((r9&&(r5.2 ==r6.2))&&r10)&&(r7.2 ==r8.2)) false Fd) fun r11=>M.ok ((((r9&&(r5.2 ==r6.2))&&r10)&&(r7.2 ==r8.2))&&r11))
theorem IG{f:Func}{p:Plan}{atP2:Int×Int}{r:Bool}(H:(Dh f p atP2).to r):Fn Tryz.prog 3 [.agg (Aq f),.agg (AM p),.agg [.lit (.int .i64 atP2.1),.lit (.int .i64 atP2.2)]] (.lit (.bool r)):=by
 delta Dh at H;try dsimp only at H
 refine AE Tryz.func3 rfl (by kernel_rfl) rfl Tryz.ntmps3 fun C hC=>?_
 simp only[List.length_cons,List.length_nil,Nat.reduceAdd,Nat.reduceSub,List.replicate_succ,List.replicate_zero,List.cons_append,List.nil_append];refine wS (sB (sB (sB (sT (wN ?_)))));refine Ad fun Khs1 hs1=>?_
 obtain⟨r2,k2,H⟩:=Al.1 H;have k2:=Th k2;refine wS (sT (sC k2 (sT ?_)));refine sGf rfl ?_;refine sGf rfl ?_;refine sGf rfl ?_;refine sGf rfl (sT (wN ?_));refine Aj rfl (fun hb3=>?_) (fun hb3=>?_)
 ·have H:=Au hb3 H;obtain⟨r4,k4,H⟩:=Al.1 H;have k4:=Ly k4;refine wS (sC k4 (sT (wN ?_)));obtain rfl:=Ac.1 H;exact Ar ⟨.inr rfl,Fin.cl rfl⟩
 ·have H:=Av hb3 H;refine Am ?_;refine hs1 _ ?_;refine nT ?_;obtain⟨r5,k5,H⟩:=Al.1 H;have k5:=Gj k5;refine wS (sT (sT (sC k5 (sT (sT (sT (sA0 (sW (sT (wN ?_))))))))));obtain⟨r6,k6,H⟩:=Al.1 H;have k6:=Po k6;refine wS (sT (sT (sC k6 (sT (sT (sT (sA0 (sW (sT (wN ?_))))))))));obtain⟨r7,k7,H⟩:=Al.1 H;have k7:=R3 k7;refine wS (sT (sT ?_));refine sA (hq:=Cy (k:=0) (n:=2) (by kernel_rfl) rfl L9 rfl Zc (by omega)) (ht:=(As LM)) ?_;refine sA (hq:=Bk rfl (AL NO) rfl rfl) (ht:=(As (AA Oc))) ?_;refine sA (hq:=Cy (k:=1) (n:=2) (by kernel_rfl) rfl L9 rfl Zc (by omega)) (ht:=(As (AA LN))) ?_;refine sA (hq:=Bk rfl (AL (AO U2)) rfl rfl) (ht:=(As (AA O8))) ?_;refine sC k7 (sT (sT (sT (sT (sT (wN ?_))))));obtain⟨r8,k8,H⟩:=Al.1 H;have k8:=Tf k8;refine wS (sT (sT ?_));refine sA (hq:=Cy (k:=0) (n:=2) (by kernel_rfl) rfl L9 rfl Zc (by omega)) (ht:=(As (AA (AA LN)))) ?_;refine sA (hq:=Bk rfl (AL (AO (AO U2))) rfl rfl) (ht:=(As (AA (AA O8)))) ?_;refine sA (hq:=Cy (k:=1) (n:=2) (by kernel_rfl) rfl L9 rfl Zc (by omega)) (ht:=(As (AA (AA Ob)))) ?_;refine sA (hq:=Bk rfl (AL (AO (AO Kw))) rfl rfl) (ht:=(As (AA (AA O7)))) ?_;refine sC k8 (sT (sT (sT (sT (sT (wN ?_))))));obtain⟨r9,k9,H⟩:=Al.1 H;have k9:=Om k9;obtain⟨r10,k10,H⟩:=Al.1 H;obtain⟨r11,k11,H⟩:=Al.1 H;refine wS (sT (sT (sC k9 (sT ?_))));refine sGt rfl ?_;refine sGt rfl ?_;refine sGt rfl (sT (sT ?_));refine sGt rfl ?_;refine sGt rfl ?_;refine sG (g:=(r9&&(r5.2 ==r6.2))) (hg:=Gg rfl) (hq:=fun hg=>by((try simp only[Cf hg]);(try simp only[KY hg]);exact Ba rfl rfl (Fu (M.to_whn k10 hg)) rfl rfl)) (ht:=(As (As Ob))) ?_;refine sT (sT ?_);refine sGt rfl ?_;refine sGt rfl ?_;refine sGt rfl (sT (sT ?_));refine sG (g:=(((r9&&(r5.2 ==r6.2))&&r10)&&(r7.2 ==r8.2))) (hg:=Gg rfl) (hq:=fun hg=>by((try simp only[Cf hg]);(try simp only[KY hg]);exact Ba rfl rfl (Ly (M.to_whn k11 hg)) rfl rfl)) (ht:=(As (As (AA Ob)))) ?_;refine sT (sT (wN ?_));obtain rfl:=Ac.1 H;exact Ar ⟨.inr rfl,Fin.cl rfl⟩
end
theorem w23{k n:Nat}(hk:k < n)(hn:n≤10000000):IntKind.i64.wrap ((k:Int)+1)=((k+1:Nat):Int):=by
 rw[IntWalk.i64_in _ (by omega)];rfl
theorem Dt{α:Type}{l:List α}{k:Nat}(h:k < l.length):BN l (k:Int)=true:=Ee.2 ⟨by omega,by rw[Int.toNat_natCast];exact h⟩
theorem D6{n b:Nat}(hn:n≤100000000)(hb:b≤1000):Gn n b=true:=by
 unfold Gn maxLen;rw[Bool.and_eq_true,decide_eq_true_eq,decide_eq_true_eq];refine⟨by omega,?_⟩;have:=Nat.mul_le_mul hn hb;omega
theorem Tz{x:Pair}(h:okPair x):BA x=true:=by
 unfold BA;rw[Bool.and_eq_true];exact⟨h.a,h.b⟩
theorem JZ{ρ:Type}{step:Int→M (Int⊕(Unit⊕ρ))}{p:Nat→Bool}{v:ρ}{n:Nat}
 (h:∀k,k < n→(step (k:Int)).to (if p k then .inr (.inr v)else .inl ((k+1:Nat):Int))) (ho:(step (n:Int)).to (.inr (.inl ()))):(M.loop step 0).to (if(List.range n).any p then .inr v else .inl ()):=by
 have key:∀(d k:Nat),k+d=n→(M.loop step (k:Int)).to (if(List.range' k d).any p then .inr v else .inl ()):=by
  intro d;induction d with
  |zero=>
   intro k hk;have:k=n:=by omega
   subst this;exact M.loop_out ho
  |succ d ih=>
   intro k hk;have hs:=h k (by omega);rw[List.range'_succ,List.any_cons];by_cases hp:p k=true
   ·rw[hp]at hs⊢;exact M.loop_out hs
   ·have hp:p k=false:=by simpa using hp
    rw[hp]at hs⊢;rw[Bool.false_or];exact M.loop_in hs (ih (k+1) (by omega))
 have:=key n 0 (by omega);rwa [←List.range_eq_range']at this
theorem WB{ρ:Type}{x:M (Unit⊕ρ)}{c:Bool}{v d:ρ}(h:x.to (if c then .inr v else .inl ())):(M.els x fun _=>M.ok d).to (if c then v else d):=by
 cases c
 ·exact M.els_l h (Ae _)
 ·exact M.els_r h
theorem Afi(c:Bool):(if c then true else false)=c:=by cases c <;> rfl
def Aft(l:List Pair)(k:Nat)(p:Int):Bool:=(List.range l.length).any fun i=>decide (i≠k)&&decide ((l.getD i default).b=p)
theorem Ze{l:List Pair}(hl:l.length≤10000000){k:Nat}{p:Int}:(LX l (k:Int) p).to (Aft l k p):=by
 have h:=JZ (step:=Fq l (k:Int) p) (p:=fun i=>decide (i≠k)&&decide ((l.getD i default).b=p)) (v:=true) (n:=l.length) (fun i hi=>?_) ?_
 ·have h2:=WB (d:=false) h;rw[Afi]at h2;exact h2
 ·obtain⟨x,hx⟩:∃x,l[i]? =some x:=⟨_,List.getElem?_eq_getElem hi⟩
  have hd:l.getD i default=x:=by rw[List.getD,hx];rfl
  unfold Fq;rw[Ce hx,w23 hi hl];simp only[hd];refine Ax (decide_eq_true (by omega)) (Af (by rw[Dt hi,Bool.or_true]) ?_);have e:((i:Int) !=(k:Int))=decide (i≠k):=by
   by_cases h:i=k
   ·subst h;simp
   ·rw[decide_eq_true h,bne_iff_ne];omega
  have e2:(x.b ==p)=decide (x.b=p):=rfl;rw[e,e2];cases hc:(decide (i≠k)&&decide (x.b=p))with
  |true=>exact Ax rfl (Ae _)
  |false=>exact Aw rfl (Ae _)
 ·unfold Fq;exact Aw (decide_eq_false (by omega)) (Ae _)
theorem Afc{l:List Pair}(hl:l.length≤10000000){p:Int}:(LW l p).to (l.any fun y=>decide (y.a=p)):=by
 have h:=JZ (step:=Fp l p) (p:=fun i=>decide ((l.getD i default).a=p)) (v:=true) (n:=l.length) (fun i hi=>?_) ?_
 ·have h2:=WB (d:=false) h;rw[Afi]at h2;have e:((List.range l.length).any fun i=>decide ((l.getD i default).a=p))=l.any fun y=>decide (y.a=p):=by
   rw[Bool.eq_iff_iff,List.any_eq_true,List.any_eq_true];constructor
   ·rintro⟨k,hk,hp⟩;have hk:=List.mem_range.1 hk;refine⟨l[k],List.getElem_mem hk,?_⟩;rw[List.getD,List.getElem?_eq_getElem hk]at hp;exact hp
   ·rintro⟨x,hx,hq⟩;obtain⟨k,hk⟩:=List.mem_iff_getElem?.1 hx;refine⟨k,List.mem_range.2 (List.getElem?_eq_some_iff.1 hk).1,?_⟩;rw[List.getD,hk];exact hq
  rw[e]at h2;exact h2
 ·obtain⟨x,hx⟩:∃x,l[i]? =some x:=⟨_,List.getElem?_eq_getElem hi⟩
  have hd:l.getD i default=x:=by rw[List.getD,hx];rfl
  unfold Fp;rw[Ce hx,w23 hi hl];simp only[hd];refine Ax (decide_eq_true (by omega)) (Af (Dt hi) ?_);have e2:(x.a ==p)=decide (x.a=p):=rfl;rw[e2];cases hc:decide (x.a=p)with
  |true=>exact Ax rfl (Ae _)
  |false=>exact Aw rfl (Ae _)
 ·unfold Fp;exact Aw (decide_eq_false (by omega)) (Ae _)
theorem Vx{l:List Pair}{k:Nat}(hk:k < l.length)(hl:l.length≤10000000):(Fo l (k:Int)).to (l.eraseIdx k):=by
 have e1:slD l 0 (k:Int)=l.take k:=by unfold slD;simp
 have e2:slD l (((k+1:Nat):Int)) (l.length:Int)=l.drop (k+1):=by unfold slD;rw[Int.toNat_natCast,Int.toNat_natCast,List.take_length]
 have e3:([]:List Pair)++l.take k++l.drop (k+1)=l.eraseIdx k:=by rw[List.nil_append,List.eraseIdx_eq_take_drop_succ]
 unfold Fo;rw[w23 hk hl,e1,e2,e3];refine Af (O6.2 ⟨by omega,by omega,by rw[Int.toNat_natCast];omega⟩) (Af (D6 (by simp;omega) (by omega)) (Af (O6.2 ⟨by omega,by omega,by rw[Int.toNat_natCast];omega⟩) (Af (D6 (by simp;omega) (by omega)) (Ae _))))
theorem Rz{left:List Pair}(hI:InvP left){k:Nat}{x:Pair}(hx:left[k]? =some x):Aft left k x.a= !Qe left x:=by
 unfold Qe Aft;rw[Bool.not_not,Bool.eq_iff_iff,List.any_eq_true,List.any_eq_true];constructor
 ·rintro⟨i,hi,hp⟩;have hi:=List.mem_range.1 hi;rw[Bool.and_eq_true,decide_eq_true_eq,decide_eq_true_eq,List.getD,List.getElem?_eq_getElem hi]at hp;refine⟨left[i],List.getElem_mem hi,?_⟩;rw[Bool.and_eq_true,decide_eq_true_eq,YW];refine⟨fun e=>hp.1 ?_,hp.2⟩;have hk:=(List.getElem?_eq_some_iff.1 hx).1;have h1:(left.map (·.a))[i]? =(left.map (·.a))[k]?:=by rw[List.getElem?_map,List.getElem?_map,hx,List.getElem?_eq_getElem hi,e]
  exact(List.getElem?_inj (by rw[List.length_map];exact hi) hI.nd).1 h1
 ·rintro⟨y,hy,hp⟩;rw[Bool.and_eq_true,decide_eq_true_eq,YW]at hp;obtain⟨i,hi⟩:=List.mem_iff_getElem?.1 hy;refine⟨i,List.mem_range.2 (List.getElem?_eq_some_iff.1 hi).1,?_⟩;rw[Bool.and_eq_true,decide_eq_true_eq,decide_eq_true_eq,List.getD,hi];refine⟨fun e=>hp.1 ?_,hp.2⟩;subst e;rw[hi]at hx;exact Option.some.inj hx
theorem Zr{left:List Pair}(hI:InvP left)(hl:left.length≤10000000):(M.loop (Cq left) 0).to (match left.findIdx? (Qe left)with|some k=>(k:Int)|none=>(left.length:Int)):=by
 have stepf:∀(k:Nat) (x:Pair),left[k]? =some x→Qe left x=false→(Cq left (k:Int)).to (.inl ((k+1:Nat):Int)):=fun k x hx hf=>by
  have hk:=(List.getElem?_eq_some_iff.1 hx).1;have hfr:=Ze (l:=left) hl (k:=k) (p:=x.a);rw[Rz hI hx,hf]at hfr;unfold Cq;rw[Ce hx,w23 hk hl];refine Af (by rw[Dt hk,Bool.or_true]) (Ag (BC (decide_eq_true (by omega)) hfr) ?_);exact Ax (by rw[decide_eq_true (by omega)];rfl) (Ae _)
 have stept:∀(k:Nat) (x:Pair),left[k]? =some x→Qe left x=true→(Cq left (k:Int)).to (.inr (k:Int)):=fun k x hx hf=>by
  have hk:=(List.getElem?_eq_some_iff.1 hx).1;have hfr:=Ze (l:=left) hl (k:=k) (p:=x.a);rw[Rz hI hx,hf]at hfr;unfold Cq;rw[Ce hx,w23 hk hl];refine Af (by rw[Dt hk,Bool.or_true]) (Ag (BC (decide_eq_true (by omega)) hfr) ?_);exact Aw (by rw[decide_eq_true (by omega)];rfl) (Ae _)
 cases hc:left.findIdx? (Qe left)with
 |some k=>
  obtain⟨hk,ht,hb⟩:=List.findIdx?_eq_some_iff_getElem.1 hc;refine Bz (fun j:Nat=>(j:Int)) k (fun j hj=>?_) (stept k _ (List.getElem?_eq_getElem hk) ht) (Nat.zero_le _);exact stepf j _ (List.getElem?_eq_getElem (by omega)) (by have:=hb j hj;simpa using this)
 |none=>
  rw[List.findIdx?_eq_none_iff]at hc;refine Bz (fun j:Nat=>(j:Int)) left.length (fun j hj=>?_) ?_ (Nat.zero_le _)
  ·exact stepf j _ (List.getElem?_eq_getElem hj) (hc _ (List.getElem_mem hj))
  ·have hd:decide ((left.length:Int) < (left.length:Int))=false:=decide_eq_false (by omega);simp only[Cq,hd];exact Af rfl (Ag (M.whn_f rfl) (Aw rfl (Ae _)))
theorem Aee{y:Pair}{l:List Pair}(hl:(y::l).length≤10000000)(hok:∀x∈y::l,okPair x):(M.loop (DK (y::l)) (0,y::l)).to (unblock (y::l) y.a):=by
 have h0:ixD (y::l) 0=y:=rfl;refine Bz (fun k:Nat=>((k:Int),ubk (y::l) y.a k)) (y::l).length (fun k hk=>?_) ?_ (Nat.zero_le _)
 ·obtain⟨x,hx⟩:∃x,(y::l)[k]? =some x:=⟨_,List.getElem?_eq_getElem hk⟩
  have hxu:=(XM (p:=y.a) hk).trans hx;have hlu:=XL (y::l) y.a k;have hn:=Ut (p:=y.a) hx;have hox:=hok x (List.mem_of_getElem? hx);have hin:BN (ubk (y::l) y.a k) (k:Int)=true:=Dt (by omega);simp only[DK,Ce hxu,h0];refine Ax (decide_eq_true (by omega)) ?_;rw[w23 hk hl];by_cases hb:x.b=y.a
  ·rw[if_pos hb]at hn;rw[hn,Int.toNat_natCast];refine Ag (Af hin (Ax (by rw[hb];exact beq_self_eq_true _) (Af hin (Af (Tz ⟨hox.a,(rfl:wfI .i64 3)⟩) (Ae _))))) (Ae _)
  ·rw[if_neg hb]at hn;rw[hn];exact Ag (Af hin (Aw (beq_eq_false_iff_ne.2 hb) (Ae _))) (Ae _)
 ·simp only[DK,XN];exact Aw (decide_eq_false (by rw[Dr];omega)) (Ae _)
theorem Yi:∀{n:Nat} {left rr:List Pair},AtO n left rr→InvP left→left.length≤2100000→(∀x∈left,okPair x)→∀out:List Pair,out.length+rr.length≤5000000→(M.loop Db (left,out)).to (out++rr):=by
 intro n left rr H;induction H with
 |nil=>
  intro _ _ _ out _;refine M.loop_out ?_;simp only[Db];rw[List.append_nil];exact Aw (decide_eq_false (by simp)) (Ae _)
 |@out n k left r x h1 h2 h3 ih=>
  intro hI hl hok out ho;have hk:=(List.getElem?_eq_some_iff.1 h2).1;have hox:=hok x (List.mem_of_getElem? h2);have hf:=Zr hI (by omega);rw[h1]at hf;try dsimp only at hf
  have hih:=ih (hI.erase k) (by rw[List.length_eraseIdx_of_lt hk];omega) (fun y hy=>hok y ((List.eraseIdx_sublist left k).subset hy)) (out++[x]) (by simp only[List.length_append,List.length_cons,List.length_nil]at ho⊢;omega);rw[List.append_assoc]at hih;refine M.loop_in ?_ hih;simp only[Db];refine Ax (decide_eq_true (by omega)) (Ag hf ?_);rw[Ce h2];refine Ax (decide_eq_true (by omega)) (Af (Dt hk) (Af (Tz hox) (Af (D6 ?_ (by omega)) (Ag (Vx hk (by omega)) (Ae _)))));simp only[List.length_cons,List.length_nil]at ho⊢;omega
 |@via n y l r h1 h3 ih=>
  intro hI hl hok out ho;have hf:=Zr hI (by omega);rw[h1]at hf;try dsimp only at hf
  have hih:=ih (hI.unblock y.a) (by rw[Dr];exact hl) (KA hok y.a) (out++[⟨3,y.a⟩]) (by simp only[List.length_append,List.length_cons,List.length_nil]at ho⊢;omega);rw[List.append_assoc]at hih;refine M.loop_in ?_ hih;have h0:ixD (y::l) 0=y:=rfl;simp only[Db];refine Ax (decide_eq_true (by simp)) (Ag hf ?_);rw[h0];refine Aw (decide_eq_false (by omega)) (Af (Dt (k:=0) (by simp)) (Af (Tz ⟨(rfl:wfI .i64 3),(hok y (by simp)).a⟩) (Af (D6 ?_ (by omega)) (Ag (Aee (by omega) hok) (Ae _)))));simp only[List.length_cons,List.length_nil]at ho⊢;omega
theorem VL{l:List Pair}(hl:l.length≤2100000)(hok:∀x∈l,okPair x):(M.loop (D7 l) (0,[],[])).to (DR l):=by
 have hF:∀k,k≤l.length→((CR [] (l.take k)).filter NT).length≤k:=fun k hk=>by
  have h1:=List.length_filter_le NT (CR [] (l.take k));have h2:=GG (l.take k) [];rw[List.length_take]at h2;omega
 refine Bz (fun k:Nat=>((k:Int),(CR [] (l.take k)).filter NT,l.take k)) l.length (fun k hk=>?_) ?_ (Nat.zero_le _)
 ·obtain⟨x,hx⟩:∃x,l[k]? =some x:=⟨_,List.getElem?_eq_getElem hk⟩
  have hox:=hok x (List.mem_of_getElem? hx);have hft:=Nd hx;have hin:=Dt (l:=l) hk;have hit:=Afc (l:=l.take k) (by rw[List.length_take];omega) (p:=x.a);have htk:l.take (k+1)=l.take k++[x]:=by rw[List.take_add_one,hx];rfl
  have hlen:=hF k (by omega);simp only[D7,Ce hx];rw[w23 hk (by omega),htk];refine Ax (decide_eq_true (by omega)) ?_;refine Ag (a:=(CR [] (l.take (k+1))).filter NT) ?_ ?_
  ·refine Af hin (Ag hit (Af (by rw[hin,Bool.or_true]) (Af (by rw[hin,Bool.or_true]) (Af (by rw[hin,Bool.or_true]) (Af (by rw[hin,Bool.or_true]) ?_)))));have hkeep:(((x.a !=x.b)&&(x.a !=3))&&(x.b !=3))=NT x:=by
    unfold NT;rw[Bool.not_or,Bool.not_or];rfl
   rw[hft,List.filter_append];cases hany:(l.take k).any fun y=>decide (y.a=x.a)with
   |true=>
    rw[if_pos rfl,List.filter_nil,List.append_nil];exact Aw rfl (Ae _)
   |false=>
    rw[if_neg (by simp),Bool.not_false,Bool.true_and,hkeep];cases hkb:NT x with
    |true=>
     rw[List.filter_cons,if_pos hkb,List.filter_nil];exact Ax rfl (Af hin (Af (Tz hox) (Af (D6 (by simp only[List.length_cons,List.length_nil];omega) (by omega)) (Ae _))))
    |false=>
     rw[List.filter_cons,if_neg (by rw[hkb];simp),List.filter_nil,List.append_nil];exact Aw rfl (Ae _)
  ·rw[htk];exact Af hin (Af (Tz hox) (Af (D6 (by simp only[List.length_cons,List.length_nil,List.length_take];omega) (by omega)) (Ae _)))
 ·simp only[D7];refine Aw (decide_eq_false (by omega)) ?_;rw[List.take_length];exact Ae _
theorem Lp{l:List Pair}(hl:l.length≤2100000)(hok:∀x∈l,okPair x){n:Nat}{r:List Pair}(hA:AtO n (DR l) r)(hr:r.length≤5000000):(Gz l).to r:=by
 have hs:=KD l;have h:=Yi hA (N9 l) (by omega) (JK hok) [] (by simpa using hr);exact Ag (VL hl hok) (Ag h (Ae _))
theorem Age{α:Type}{x y:M α}(h:x.run=y.run):x=y:=by
 cases x;cases y;cases h;rfl
theorem Cz{α β:Type}{a:α}{f:α→M β}:M.bnd (M.ok a) f=f a:=Age rfl
theorem Ed{α:Type}{a:α}{t:List α}:BN (a::t) 0=true:=Ee.2 ⟨by decide,by simp⟩
theorem En{α:Type}{a b:α}{t:List α}:BN (a::b::t) 1=true:=Ee.2 ⟨by decide,by simp⟩
theorem n20{n:Nat}:decide (((n+1+1:Nat):Int) > 0)=true:=decide_eq_true (by omega)
theorem n21{n:Nat}:decide (((n+1+1:Nat):Int) > 1)=true:=decide_eq_true (by omega)
theorem Acy{c:ACell}(h0:wfB .u8 c.kind=true)(h1:wfB .i64 c.at_=true)(h2:wfB .i64 c.d=true)(h3:wfB .i64 c.a=true)(h4:wfB .i64 c.b=true):Bg c=true:=by
 unfold Bg;rw[h0,h1,h2,h3,h4];rfl
structure At23(p:Plan)(x:Ins)(i:Int):Prop where
 ok:okIns x
 few:x.args.length≤2097152
 i:wfB .i64 i=true
 reads:∀r∈readsC x,BN p.at_ r=true
 writes:AY x=true→BN p.at_ x.d=true
 wf:∀r,BN p.at_ r=true→wfB .i64 (ixD p.at_ r)=true
def DI(v:Int):Bool:=decide (v≥32)
def MK(p:Plan)(a:Int):List ACell:=bif DI (ixD p.at_ a)then [⟨0,-1,1,ixD p.at_ a,-1,[]⟩]else []
def NL(p:Plan)(a b:Int):List ACell:=bif DI (ixD p.at_ b)then(bif ixD p.at_ a ==ixD p.at_ b then []else [⟨0,-1,2,ixD p.at_ b,-1,[]⟩])else []
def opA(p:Plan)(a:Int):Int:=bif DI (ixD p.at_ a)then 1 else ixD p.at_ a
def opB(p:Plan)(a b:Int):Int:=bif DI (ixD p.at_ b)then(bif ixD p.at_ a ==ixD p.at_ b then 1 else 2)else ixD p.at_ b
def opD(p:Plan)(w:Bool)(d:Int):Int:=bif w then(bif DI (ixD p.at_ d)then 1 else ixD p.at_ d)else -1
def L1(p:Plan)(w:Bool)(d:Int):List ACell:=bif w then(bif DI (ixD p.at_ d)then [⟨0,-1,ixD p.at_ d,1,-1,[]⟩]else [])else []
def L5(p:Plan)(x:Ins)(i:Int):List Int→List ACell
 | []=>⟨1,i,opD p (AY x) x.d,-1,-1,[]⟩::L1 p (AY x) x.d
 | [a]=>MK p a++⟨1,i,opD p (AY x) x.d,opA p a,-1,[]⟩::L1 p (AY x) x.d
 |a::b::_=>MK p a++(NL p a b++⟨1,i,opD p (AY x) x.d,opA p a,opB p a b,[]⟩::L1 p (AY x) x.d)
theorem M.chk_T{α:Type}{x:M α}:M.chk true x=x:=rfl
theorem M.cnd_T{α:Type}{x y:M α}:M.cnd true x y=x:=rfl
theorem M.cnd_F{α:Type}{x y:M α}:M.cnd false x y=y:=rfl
theorem M.whn_T{α:Type}{d:α}{x:M α}:M.whn true d x=x:=rfl
theorem M.whn_F{α:Type}{d:α}{x:M α}:M.whn false d x=M.ok d:=rfl
theorem ixD_0{α:Type}[Inhabited α]{a:α}{t:List α}:ixD (a::t) 0=a:=rfl
theorem ixD_1{α:Type}[Inhabited α]{a b:α}{t:List α}:ixD (a::b::t) 1=b:=rfl
theorem n00:decide (((0:Nat):Int) > 0)=false:=rfl
theorem n01:decide (((0:Nat):Int) > 1)=false:=rfl
theorem n10:decide (((1:Nat):Int) > 0)=true:=rfl
theorem n11:decide (((1:Nat):Int) > 1)=false:=rfl
theorem b21:((2:Int) ==2)=true:=rfl
theorem b22:((1:Int) ==2)=false:=rfl
theorem dec_sl(v:Int):decide (v≥32)=DI v:=rfl
theorem r1:Gn 1 64=true:=by decide
theorem r2:Gn 2 64=true:=by decide
theorem r3:Gn 3 64=true:=by decide
theorem r4:Gn 4 64=true:=by decide
theorem XU{p:Plan}{x:Ins}{i:Int}(H:At23 p x i)(h5:(x.op ==5)=false)(h10:(x.op ==10)=false):(AP p x i).to (L5 p x i (readsC x)):=by
 have hO:decide (x.args.length≤2097152)=true:=decide_eq_true H.few;have hO':=CC.2 H.ok;have w0:wfB .u8 0=true:=by decide
 have w1:wfB .u8 1=true:=by decide
 have m1:wfB .i64 (-1)=true:=by decide
 have o1:wfB .i64 1=true:=by decide
 have o2:wfB .i64 2=true:=by decide
 have hi:=H.i;have hwd:∃hw:Bool,AY x=hw∧(hw=true→BN p.at_ x.d=true∧wfB .i64 (ixD p.at_ x.d)=true):=⟨_,rfl,fun h=>⟨H.writes h,H.wf _ (H.writes h)⟩⟩
 obtain⟨hw,hwr,hdd⟩:=hwd;cases hl:readsC x with
 |nil=>
  cases hw with
  |false=>simp only[↓dec_sl,AP,AU,Be,AQ,AJ,AF,Bs,Bl,BF,BP,Cj,Cw,B0,B4,BG,L5,MK,NL,opA,opB,opD,L1,hO,hO',hl,hwr,h5,h10,Cz,M.chk_T,M.cnd_T,M.cnd_F,M.whn_T,M.whn_F,n00,n01,n10,n11,n20,n21,Ed,En,ixD_0,ixD_1,Bool.not_false,Bool.not_true,Bool.true_or,Bool.false_or,Bool.false_and,Bool.true_and,Bool.and_true,Bool.and_false,Bool.or_true,Bool.or_false,Bool.and_self,Bool.or_self,w0,w1,m1,o1,o2,hi,Bg,List.nil_append,List.cons_append,List.append_nil,List.length_cons,List.length_nil,Nat.zero_add,Nat.reduceAdd,Nat.reduceLeDiff,decide_true,r1,r2,r3,r4,beq_self_eq_true,ite_true,ite_false,Bool.false_eq_true,if_true,if_false,cond_true,cond_false,b21,b22,if_true];exact Ae _
  |true=>
   obtain⟨d1,d2⟩:=hdd rfl;cases sd:DI (ixD p.at_ x.d)with
   |false=>simp only[↓dec_sl,AP,AU,Be,AQ,AJ,AF,Bs,Bl,BF,BP,Cj,Cw,B0,B4,BG,L5,MK,NL,opA,opB,opD,L1,hO,hO',hl,hwr,h5,h10,Cz,M.chk_T,M.cnd_T,M.cnd_F,M.whn_T,M.whn_F,n00,n01,n10,n11,n20,n21,Ed,En,ixD_0,ixD_1,Bool.not_false,Bool.not_true,Bool.true_or,Bool.false_or,Bool.false_and,Bool.true_and,Bool.and_true,Bool.and_false,Bool.or_true,Bool.or_false,Bool.and_self,Bool.or_self,w0,w1,m1,o1,o2,hi,Bg,List.nil_append,List.cons_append,List.append_nil,List.length_cons,List.length_nil,Nat.zero_add,Nat.reduceAdd,Nat.reduceLeDiff,decide_true,r1,r2,r3,r4,beq_self_eq_true,ite_true,ite_false,Bool.false_eq_true,if_true,if_false,cond_true,cond_false,b21,b22,d1,d2,sd];exact Ae _
   |true=>
    have e1:((1:Int) ==ixD p.at_ x.d)=false:=by have:=of_decide_eq_true (show decide (ixD p.at_ x.d≥32)=true from sd);simp;omega
    simp only[↓dec_sl,AP,AU,Be,AQ,AJ,AF,Bs,Bl,BF,BP,Cj,Cw,B0,B4,BG,L5,MK,NL,opA,opB,opD,L1,hO,hO',hl,hwr,h5,h10,Cz,M.chk_T,M.cnd_T,M.cnd_F,M.whn_T,M.whn_F,n00,n01,n10,n11,n20,n21,Ed,En,ixD_0,ixD_1,Bool.not_false,Bool.not_true,Bool.true_or,Bool.false_or,Bool.false_and,Bool.true_and,Bool.and_true,Bool.and_false,Bool.or_true,Bool.or_false,Bool.and_self,Bool.or_self,w0,w1,m1,o1,o2,hi,Bg,List.nil_append,List.cons_append,List.append_nil,List.length_cons,List.length_nil,Nat.zero_add,Nat.reduceAdd,Nat.reduceLeDiff,decide_true,r1,r2,r3,r4,beq_self_eq_true,ite_true,ite_false,Bool.false_eq_true,if_true,if_false,cond_true,cond_false,b21,b22,d1,d2,sd,e1];exact Ae _
 |cons a t=>
  have a1:=H.reads a (by rw[hl];simp);have a2:=H.wf a a1;cases t with
  |nil=>
   cases hw with
   |false=>cases sa:DI (ixD p.at_ a) <;> (simp only[↓dec_sl,AP,AU,Be,AQ,AJ,AF,Bs,Bl,BF,BP,Cj,Cw,B0,B4,BG,L5,MK,NL,opA,opB,opD,L1,hO,hO',hl,hwr,h5,h10,Cz,M.chk_T,M.cnd_T,M.cnd_F,M.whn_T,M.whn_F,n00,n01,n10,n11,n20,n21,Ed,En,ixD_0,ixD_1,Bool.not_false,Bool.not_true,Bool.true_or,Bool.false_or,Bool.false_and,Bool.true_and,Bool.and_true,Bool.and_false,Bool.or_true,Bool.or_false,Bool.and_self,Bool.or_self,w0,w1,m1,o1,o2,hi,Bg,List.nil_append,List.cons_append,List.append_nil,List.length_cons,List.length_nil,Nat.zero_add,Nat.reduceAdd,Nat.reduceLeDiff,decide_true,r1,r2,r3,r4,beq_self_eq_true,ite_true,ite_false,Bool.false_eq_true,if_true,if_false,cond_true,cond_false,b21,b22,a1,a2,sa];exact Ae _)
   |true=>
    obtain⟨d1,d2⟩:=hdd rfl;cases sd:DI (ixD p.at_ x.d)with
    |false=>cases sa:DI (ixD p.at_ a) <;> (simp only[↓dec_sl,AP,AU,Be,AQ,AJ,AF,Bs,Bl,BF,BP,Cj,Cw,B0,B4,BG,L5,MK,NL,opA,opB,opD,L1,hO,hO',hl,hwr,h5,h10,Cz,M.chk_T,M.cnd_T,M.cnd_F,M.whn_T,M.whn_F,n00,n01,n10,n11,n20,n21,Ed,En,ixD_0,ixD_1,Bool.not_false,Bool.not_true,Bool.true_or,Bool.false_or,Bool.false_and,Bool.true_and,Bool.and_true,Bool.and_false,Bool.or_true,Bool.or_false,Bool.and_self,Bool.or_self,w0,w1,m1,o1,o2,hi,Bg,List.nil_append,List.cons_append,List.append_nil,List.length_cons,List.length_nil,Nat.zero_add,Nat.reduceAdd,Nat.reduceLeDiff,decide_true,r1,r2,r3,r4,beq_self_eq_true,ite_true,ite_false,Bool.false_eq_true,if_true,if_false,cond_true,cond_false,b21,b22,a1,a2,sa,d1,d2,sd];exact Ae _)
    |true=>
     have e1:((1:Int) ==ixD p.at_ x.d)=false:=by have:=of_decide_eq_true (show decide (ixD p.at_ x.d≥32)=true from sd);simp;omega
     cases sa:DI (ixD p.at_ a) <;> (simp only[↓dec_sl,AP,AU,Be,AQ,AJ,AF,Bs,Bl,BF,BP,Cj,Cw,B0,B4,BG,L5,MK,NL,opA,opB,opD,L1,hO,hO',hl,hwr,h5,h10,Cz,M.chk_T,M.cnd_T,M.cnd_F,M.whn_T,M.whn_F,n00,n01,n10,n11,n20,n21,Ed,En,ixD_0,ixD_1,Bool.not_false,Bool.not_true,Bool.true_or,Bool.false_or,Bool.false_and,Bool.true_and,Bool.and_true,Bool.and_false,Bool.or_true,Bool.or_false,Bool.and_self,Bool.or_self,w0,w1,m1,o1,o2,hi,Bg,List.nil_append,List.cons_append,List.append_nil,List.length_cons,List.length_nil,Nat.zero_add,Nat.reduceAdd,Nat.reduceLeDiff,decide_true,r1,r2,r3,r4,beq_self_eq_true,ite_true,ite_false,Bool.false_eq_true,if_true,if_false,cond_true,cond_false,b21,b22,a1,a2,sa,d1,d2,sd,e1];exact Ae _)
  |cons b t=>
   have c1:=H.reads b (by rw[hl];simp);have c2:=H.wf b c1;have hco:(ixD p.at_ b ==ixD p.at_ a)=(ixD p.at_ a ==ixD p.at_ b):=Bool.beq_comm;cases hw with
   |false=>cases sa:DI (ixD p.at_ a) <;> cases sb:DI (ixD p.at_ b) <;> cases ab:(ixD p.at_ a ==ixD p.at_ b) <;> (simp only[↓dec_sl,AP,AU,Be,AQ,AJ,AF,Bs,Bl,BF,BP,Cj,Cw,B0,B4,BG,L5,MK,NL,opA,opB,opD,L1,hO,hO',hl,hwr,h5,h10,Cz,M.chk_T,M.cnd_T,M.cnd_F,M.whn_T,M.whn_F,n00,n01,n10,n11,n20,n21,Ed,En,ixD_0,ixD_1,Bool.not_false,Bool.not_true,Bool.true_or,Bool.false_or,Bool.false_and,Bool.true_and,Bool.and_true,Bool.and_false,Bool.or_true,Bool.or_false,Bool.and_self,Bool.or_self,w0,w1,m1,o1,o2,hi,Bg,List.nil_append,List.cons_append,List.append_nil,List.length_cons,List.length_nil,Nat.zero_add,Nat.reduceAdd,Nat.reduceLeDiff,decide_true,r1,r2,r3,r4,beq_self_eq_true,ite_true,ite_false,Bool.false_eq_true,if_true,if_false,cond_true,cond_false,b21,b22,a1,a2,sa,c1,c2,sb,hco,ab];exact Ae _)
   |true=>
    obtain⟨d1,d2⟩:=hdd rfl;cases sd:DI (ixD p.at_ x.d)with
    |false=>cases sa:DI (ixD p.at_ a) <;> cases sb:DI (ixD p.at_ b) <;> cases ab:(ixD p.at_ a ==ixD p.at_ b) <;> (simp only[↓dec_sl,AP,AU,Be,AQ,AJ,AF,Bs,Bl,BF,BP,Cj,Cw,B0,B4,BG,L5,MK,NL,opA,opB,opD,L1,hO,hO',hl,hwr,h5,h10,Cz,M.chk_T,M.cnd_T,M.cnd_F,M.whn_T,M.whn_F,n00,n01,n10,n11,n20,n21,Ed,En,ixD_0,ixD_1,Bool.not_false,Bool.not_true,Bool.true_or,Bool.false_or,Bool.false_and,Bool.true_and,Bool.and_true,Bool.and_false,Bool.or_true,Bool.or_false,Bool.and_self,Bool.or_self,w0,w1,m1,o1,o2,hi,Bg,List.nil_append,List.cons_append,List.append_nil,List.length_cons,List.length_nil,Nat.zero_add,Nat.reduceAdd,Nat.reduceLeDiff,decide_true,r1,r2,r3,r4,beq_self_eq_true,ite_true,ite_false,Bool.false_eq_true,if_true,if_false,cond_true,cond_false,b21,b22,a1,a2,sa,c1,c2,sb,hco,ab,d1,d2,sd];exact Ae _)
    |true=>
     have e1:((1:Int) ==ixD p.at_ x.d)=false:=by have:=of_decide_eq_true (show decide (ixD p.at_ x.d≥32)=true from sd);simp;omega
     cases sa:DI (ixD p.at_ a) <;> cases sb:DI (ixD p.at_ b) <;> cases ab:(ixD p.at_ a ==ixD p.at_ b) <;> (simp only[↓dec_sl,AP,AU,Be,AQ,AJ,AF,Bs,Bl,BF,BP,Cj,Cw,B0,B4,BG,L5,MK,NL,opA,opB,opD,L1,hO,hO',hl,hwr,h5,h10,Cz,M.chk_T,M.cnd_T,M.cnd_F,M.whn_T,M.whn_F,n00,n01,n10,n11,n20,n21,Ed,En,ixD_0,ixD_1,Bool.not_false,Bool.not_true,Bool.true_or,Bool.false_or,Bool.false_and,Bool.true_and,Bool.and_true,Bool.and_false,Bool.or_true,Bool.or_false,Bool.and_self,Bool.or_self,w0,w1,m1,o1,o2,hi,Bg,List.nil_append,List.cons_append,List.append_nil,List.length_cons,List.length_nil,Nat.zero_add,Nat.reduceAdd,Nat.reduceLeDiff,decide_true,r1,r2,r3,r4,beq_self_eq_true,ite_true,ite_false,Bool.false_eq_true,if_true,if_false,cond_true,cond_false,b21,b22,a1,a2,sa,c1,c2,sb,hco,ab,d1,d2,sd,e1];exact Ae _)
theorem Ae2{p:Plan}{x:Ins}{i:Int}(H:At23 p x i)(h5:(x.op ==5)=false)(h10:(x.op ==10)=false):(Cj p x i).to (L5 p x i (readsC x)):=by
 have hO:decide (x.args.length≤2097152)=true:=decide_eq_true H.few;have hO':=CC.2 H.ok;have w0:wfB .u8 0=true:=by decide
 have w1:wfB .u8 1=true:=by decide
 have m1:wfB .i64 (-1)=true:=by decide
 have o1:wfB .i64 1=true:=by decide
 have o2:wfB .i64 2=true:=by decide
 have hi:=H.i;have hwd:∃hw:Bool,AY x=hw∧(hw=true→BN p.at_ x.d=true∧wfB .i64 (ixD p.at_ x.d)=true):=⟨_,rfl,fun h=>⟨H.writes h,H.wf _ (H.writes h)⟩⟩
 obtain⟨hw,hwr,hdd⟩:=hwd;cases hl:readsC x with
 |nil=>
  cases hw with
  |false=>simp only[↓dec_sl,AP,AU,Be,AQ,AJ,AF,Bs,Bl,BF,BP,Cj,Cw,B0,B4,BG,L5,MK,NL,opA,opB,opD,L1,hO,hO',hl,hwr,h5,h10,Cz,M.chk_T,M.cnd_T,M.cnd_F,M.whn_T,M.whn_F,n00,n01,n10,n11,n20,n21,Ed,En,ixD_0,ixD_1,Bool.not_false,Bool.not_true,Bool.true_or,Bool.false_or,Bool.false_and,Bool.true_and,Bool.and_true,Bool.and_false,Bool.or_true,Bool.or_false,Bool.and_self,Bool.or_self,w0,w1,m1,o1,o2,hi,Bg,List.nil_append,List.cons_append,List.append_nil,List.length_cons,List.length_nil,Nat.zero_add,Nat.reduceAdd,Nat.reduceLeDiff,decide_true,r1,r2,r3,r4,beq_self_eq_true,ite_true,ite_false,Bool.false_eq_true,if_true,if_false,cond_true,cond_false,b21,b22,if_true];exact Ae _
  |true=>
   obtain⟨d1,d2⟩:=hdd rfl;cases sd:DI (ixD p.at_ x.d)with
   |false=>simp only[↓dec_sl,AP,AU,Be,AQ,AJ,AF,Bs,Bl,BF,BP,Cj,Cw,B0,B4,BG,L5,MK,NL,opA,opB,opD,L1,hO,hO',hl,hwr,h5,h10,Cz,M.chk_T,M.cnd_T,M.cnd_F,M.whn_T,M.whn_F,n00,n01,n10,n11,n20,n21,Ed,En,ixD_0,ixD_1,Bool.not_false,Bool.not_true,Bool.true_or,Bool.false_or,Bool.false_and,Bool.true_and,Bool.and_true,Bool.and_false,Bool.or_true,Bool.or_false,Bool.and_self,Bool.or_self,w0,w1,m1,o1,o2,hi,Bg,List.nil_append,List.cons_append,List.append_nil,List.length_cons,List.length_nil,Nat.zero_add,Nat.reduceAdd,Nat.reduceLeDiff,decide_true,r1,r2,r3,r4,beq_self_eq_true,ite_true,ite_false,Bool.false_eq_true,if_true,if_false,cond_true,cond_false,b21,b22,d1,d2,sd];exact Ae _
   |true=>
    have e1:((1:Int) ==ixD p.at_ x.d)=false:=by have:=of_decide_eq_true (show decide (ixD p.at_ x.d≥32)=true from sd);simp;omega
    simp only[↓dec_sl,AP,AU,Be,AQ,AJ,AF,Bs,Bl,BF,BP,Cj,Cw,B0,B4,BG,L5,MK,NL,opA,opB,opD,L1,hO,hO',hl,hwr,h5,h10,Cz,M.chk_T,M.cnd_T,M.cnd_F,M.whn_T,M.whn_F,n00,n01,n10,n11,n20,n21,Ed,En,ixD_0,ixD_1,Bool.not_false,Bool.not_true,Bool.true_or,Bool.false_or,Bool.false_and,Bool.true_and,Bool.and_true,Bool.and_false,Bool.or_true,Bool.or_false,Bool.and_self,Bool.or_self,w0,w1,m1,o1,o2,hi,Bg,List.nil_append,List.cons_append,List.append_nil,List.length_cons,List.length_nil,Nat.zero_add,Nat.reduceAdd,Nat.reduceLeDiff,decide_true,r1,r2,r3,r4,beq_self_eq_true,ite_true,ite_false,Bool.false_eq_true,if_true,if_false,cond_true,cond_false,b21,b22,d1,d2,sd,e1];exact Ae _
 |cons a t=>
  have a1:=H.reads a (by rw[hl];simp);have a2:=H.wf a a1;cases t with
  |nil=>
   cases hw with
   |false=>cases sa:DI (ixD p.at_ a) <;> (simp only[↓dec_sl,AP,AU,Be,AQ,AJ,AF,Bs,Bl,BF,BP,Cj,Cw,B0,B4,BG,L5,MK,NL,opA,opB,opD,L1,hO,hO',hl,hwr,h5,h10,Cz,M.chk_T,M.cnd_T,M.cnd_F,M.whn_T,M.whn_F,n00,n01,n10,n11,n20,n21,Ed,En,ixD_0,ixD_1,Bool.not_false,Bool.not_true,Bool.true_or,Bool.false_or,Bool.false_and,Bool.true_and,Bool.and_true,Bool.and_false,Bool.or_true,Bool.or_false,Bool.and_self,Bool.or_self,w0,w1,m1,o1,o2,hi,Bg,List.nil_append,List.cons_append,List.append_nil,List.length_cons,List.length_nil,Nat.zero_add,Nat.reduceAdd,Nat.reduceLeDiff,decide_true,r1,r2,r3,r4,beq_self_eq_true,ite_true,ite_false,Bool.false_eq_true,if_true,if_false,cond_true,cond_false,b21,b22,a1,a2,sa];exact Ae _)
   |true=>
    obtain⟨d1,d2⟩:=hdd rfl;cases sd:DI (ixD p.at_ x.d)with
    |false=>cases sa:DI (ixD p.at_ a) <;> (simp only[↓dec_sl,AP,AU,Be,AQ,AJ,AF,Bs,Bl,BF,BP,Cj,Cw,B0,B4,BG,L5,MK,NL,opA,opB,opD,L1,hO,hO',hl,hwr,h5,h10,Cz,M.chk_T,M.cnd_T,M.cnd_F,M.whn_T,M.whn_F,n00,n01,n10,n11,n20,n21,Ed,En,ixD_0,ixD_1,Bool.not_false,Bool.not_true,Bool.true_or,Bool.false_or,Bool.false_and,Bool.true_and,Bool.and_true,Bool.and_false,Bool.or_true,Bool.or_false,Bool.and_self,Bool.or_self,w0,w1,m1,o1,o2,hi,Bg,List.nil_append,List.cons_append,List.append_nil,List.length_cons,List.length_nil,Nat.zero_add,Nat.reduceAdd,Nat.reduceLeDiff,decide_true,r1,r2,r3,r4,beq_self_eq_true,ite_true,ite_false,Bool.false_eq_true,if_true,if_false,cond_true,cond_false,b21,b22,a1,a2,sa,d1,d2,sd];exact Ae _)
    |true=>
     have e1:((1:Int) ==ixD p.at_ x.d)=false:=by have:=of_decide_eq_true (show decide (ixD p.at_ x.d≥32)=true from sd);simp;omega
     cases sa:DI (ixD p.at_ a) <;> (simp only[↓dec_sl,AP,AU,Be,AQ,AJ,AF,Bs,Bl,BF,BP,Cj,Cw,B0,B4,BG,L5,MK,NL,opA,opB,opD,L1,hO,hO',hl,hwr,h5,h10,Cz,M.chk_T,M.cnd_T,M.cnd_F,M.whn_T,M.whn_F,n00,n01,n10,n11,n20,n21,Ed,En,ixD_0,ixD_1,Bool.not_false,Bool.not_true,Bool.true_or,Bool.false_or,Bool.false_and,Bool.true_and,Bool.and_true,Bool.and_false,Bool.or_true,Bool.or_false,Bool.and_self,Bool.or_self,w0,w1,m1,o1,o2,hi,Bg,List.nil_append,List.cons_append,List.append_nil,List.length_cons,List.length_nil,Nat.zero_add,Nat.reduceAdd,Nat.reduceLeDiff,decide_true,r1,r2,r3,r4,beq_self_eq_true,ite_true,ite_false,Bool.false_eq_true,if_true,if_false,cond_true,cond_false,b21,b22,a1,a2,sa,d1,d2,sd,e1];exact Ae _)
  |cons b t=>
   have c1:=H.reads b (by rw[hl];simp);have c2:=H.wf b c1;have hco:(ixD p.at_ b ==ixD p.at_ a)=(ixD p.at_ a ==ixD p.at_ b):=Bool.beq_comm;cases hw with
   |false=>cases sa:DI (ixD p.at_ a) <;> cases sb:DI (ixD p.at_ b) <;> cases ab:(ixD p.at_ a ==ixD p.at_ b) <;> (simp only[↓dec_sl,AP,AU,Be,AQ,AJ,AF,Bs,Bl,BF,BP,Cj,Cw,B0,B4,BG,L5,MK,NL,opA,opB,opD,L1,hO,hO',hl,hwr,h5,h10,Cz,M.chk_T,M.cnd_T,M.cnd_F,M.whn_T,M.whn_F,n00,n01,n10,n11,n20,n21,Ed,En,ixD_0,ixD_1,Bool.not_false,Bool.not_true,Bool.true_or,Bool.false_or,Bool.false_and,Bool.true_and,Bool.and_true,Bool.and_false,Bool.or_true,Bool.or_false,Bool.and_self,Bool.or_self,w0,w1,m1,o1,o2,hi,Bg,List.nil_append,List.cons_append,List.append_nil,List.length_cons,List.length_nil,Nat.zero_add,Nat.reduceAdd,Nat.reduceLeDiff,decide_true,r1,r2,r3,r4,beq_self_eq_true,ite_true,ite_false,Bool.false_eq_true,if_true,if_false,cond_true,cond_false,b21,b22,a1,a2,sa,c1,c2,sb,hco,ab];exact Ae _)
   |true=>
    obtain⟨d1,d2⟩:=hdd rfl;cases sd:DI (ixD p.at_ x.d)with
    |false=>cases sa:DI (ixD p.at_ a) <;> cases sb:DI (ixD p.at_ b) <;> cases ab:(ixD p.at_ a ==ixD p.at_ b) <;> (simp only[↓dec_sl,AP,AU,Be,AQ,AJ,AF,Bs,Bl,BF,BP,Cj,Cw,B0,B4,BG,L5,MK,NL,opA,opB,opD,L1,hO,hO',hl,hwr,h5,h10,Cz,M.chk_T,M.cnd_T,M.cnd_F,M.whn_T,M.whn_F,n00,n01,n10,n11,n20,n21,Ed,En,ixD_0,ixD_1,Bool.not_false,Bool.not_true,Bool.true_or,Bool.false_or,Bool.false_and,Bool.true_and,Bool.and_true,Bool.and_false,Bool.or_true,Bool.or_false,Bool.and_self,Bool.or_self,w0,w1,m1,o1,o2,hi,Bg,List.nil_append,List.cons_append,List.append_nil,List.length_cons,List.length_nil,Nat.zero_add,Nat.reduceAdd,Nat.reduceLeDiff,decide_true,r1,r2,r3,r4,beq_self_eq_true,ite_true,ite_false,Bool.false_eq_true,if_true,if_false,cond_true,cond_false,b21,b22,a1,a2,sa,c1,c2,sb,hco,ab,d1,d2,sd];exact Ae _)
    |true=>
     have e1:((1:Int) ==ixD p.at_ x.d)=false:=by have:=of_decide_eq_true (show decide (ixD p.at_ x.d≥32)=true from sd);simp;omega
     cases sa:DI (ixD p.at_ a) <;> cases sb:DI (ixD p.at_ b) <;> cases ab:(ixD p.at_ a ==ixD p.at_ b) <;> (simp only[↓dec_sl,AP,AU,Be,AQ,AJ,AF,Bs,Bl,BF,BP,Cj,Cw,B0,B4,BG,L5,MK,NL,opA,opB,opD,L1,hO,hO',hl,hwr,h5,h10,Cz,M.chk_T,M.cnd_T,M.cnd_F,M.whn_T,M.whn_F,n00,n01,n10,n11,n20,n21,Ed,En,ixD_0,ixD_1,Bool.not_false,Bool.not_true,Bool.true_or,Bool.false_or,Bool.false_and,Bool.true_and,Bool.and_true,Bool.and_false,Bool.or_true,Bool.or_false,Bool.and_self,Bool.or_self,w0,w1,m1,o1,o2,hi,Bg,List.nil_append,List.cons_append,List.append_nil,List.length_cons,List.length_nil,Nat.zero_add,Nat.reduceAdd,Nat.reduceLeDiff,decide_true,r1,r2,r3,r4,beq_self_eq_true,ite_true,ite_false,Bool.false_eq_true,if_true,if_false,cond_true,cond_false,b21,b22,a1,a2,sa,c1,c2,sb,hco,ab,d1,d2,sd,e1];exact Ae _)
theorem Ad8{n:Nat}{left r:List Pair}(h:AtO n left r):(∀x∈left,okPair x)→∀x∈r,okPair x:=by
 induction h with
 |nil=>intro _ x hx;cases hx
 |@out n k left r x h1 h2 h3 ih=>
  intro hok y hy;rcases List.mem_cons.1 hy with rfl|hy
  ·exact hok _ (List.mem_of_getElem? h2)
  ·exact ih (fun z hz=>hok z ((List.eraseIdx_sublist left k).subset hz)) y hy
 |@via n y l r h1 h3 ih=>
  intro hok z hz;rcases List.mem_cons.1 hz with rfl|hz
  ·exact⟨(rfl:wfI .i64 3),(hok y (by simp)).a⟩
  ·exact ih (KA hok y.a) z hz
theorem wb0:wfB .u8 0=true:=by decide
theorem wb1:wfB .u8 1=true:=by decide
theorem wbm:wfB .i64 (-1)=true:=by decide
theorem wb8:wfB .i64 8=true:=by decide
def mvC(x:Pair):ACell:=⟨0,-1,x.a,x.b,-1,[]⟩
noncomputable def Wm(l:List Pair):List ACell:=(MV l).map mvC
theorem JX(l:List Pair):(Wm l).length≤2 * l.length:=by
 obtain⟨n,_,h2,h3⟩:=GD l;unfold Wm;rw[List.length_map];omega
theorem Adv{x:Pair}(h:okPair x):Bg (mvC x)=true:=by
 have h:=Tz h;unfold BA at h;rw[Bool.and_eq_true]at h;exact Acy (c:=mvC x) wb0 wbm h.1 h.2 wbm
theorem Ql{r:List Pair}{k:Nat}{x:Pair}(hx:r[k]? =some x):(r.take (k+1)).map mvC=(r.take k).map mvC++[mvC x]:=by
 rw[List.take_add_one,hx,List.map_append];rfl
theorem Pz{l:List Pair}(hl:l.length≤2100000)(hok:∀x∈l,okPair x):(Fg l).to (Wm l):=by
 obtain⟨n,hA,hn,hr⟩:=GD l;have hokr:=Ad8 hA (JK hok);have h1:(Dw l).to (MV l):=Af (by rw[Bool.and_eq_true];exact⟨decide_eq_true hl,List.all_eq_true.2 fun x hx=>Tz (hok x hx)⟩) (Ae _);refine Ag h1 (Ag ?_ (Ae _));refine Bz (fun k:Nat=>((k:Int),((MV l).take k).map mvC)) (MV l).length (fun k hk=>?_) ?_ (Nat.zero_le _)
 ·obtain⟨x,hx⟩:∃x,(MV l)[k]? =some x:=⟨_,List.getElem?_eq_getElem hk⟩
  simp only[E7,Ce hx];rw[w23 hk (by omega),Ql hx];exact Ax (decide_eq_true (by omega)) (Af (Dt hk) (Ag (Ae _) (Af (Adv (hokr x (List.mem_of_getElem? hx))) (Af (D6 (by simp;omega) (by omega)) (Ae _)))))
 ·simp only[E7];refine Aw (decide_eq_false (by omega)) ?_;rw[List.take_length];exact Ae _
theorem K0{l:List Pair}(hl:l.length≤2100000)(hok:∀x∈l,okPair x):(Gy l).to (Wm l):=by
 obtain⟨n,hA,hn,hr⟩:=GD l;have hokr:=Ad8 hA (JK hok);have h1:=Lp hl hok hA (by omega);refine Ag h1 (Ag ?_ (Ae _));refine Bz (fun k:Nat=>((k:Int),((MV l).take k).map mvC)) (MV l).length (fun k hk=>?_) ?_ (Nat.zero_le _)
 ·obtain⟨x,hx⟩:∃x,(MV l)[k]? =some x:=⟨_,List.getElem?_eq_getElem hk⟩
  simp only[FU,Ce hx];rw[w23 hk (by omega),Ql hx];exact Ax (decide_eq_true (by omega)) (Af (Dt hk) (Ag (Ae _) (Af (Adv (hokr x (List.mem_of_getElem? hx))) (Af (D6 (by simp;omega) (by omega)) (Ae _)))))
 ·simp only[FU];refine Aw (decide_eq_false (by omega)) ?_;rw[List.take_length];exact Ae _
def ownM(p:Plan):Int:=bif p.leaf then 8 else 24
theorem YF(p:Plan):(CJ p).to (ownM p):=by
 unfold CJ ownM;cases p.leaf
 ·exact Ae _
 ·exact Ae _
theorem UO(p:Plan):(KH p).to (ownM p):=by
 unfold KH ownM;cases p.leaf
 ·exact Ae _
 ·exact Ae _
theorem YG(p:Plan):wfB .i64 (ownM p)=true:=by unfold ownM;cases p.leaf <;> decide
noncomputable def Ajn(p:Plan)(x:Ins)(i:Int):List ACell:=Wm [⟨ownM p,ixD p.at_ x.a⟩]++[⟨1,i,-1,ownM p,-1,[]⟩]
theorem Aet{x:Ins}(h:x.op=10):readsC x= [x.a]:=by
 unfold readsC;rw[h];simp[DH]
theorem Aa6{x:Ins}(h:x.op=10):AY x=false:=by
 unfold AY;rw[h];simp[DH]
theorem Adr{x:Ins}(h:x.op=5):readsC x=x.args:=by
 unfold readsC;rw[h];simp[DH]
theorem Aec{x:Ins}(h:x.op=5):AY x=true:=by
 unfold AY;rw[h];simp[DH]
theorem Ae6{a b:Int}(ha:wfB .i64 a=true)(hb:wfB .i64 b=true):BA ⟨a,b⟩=true:=by
 unfold BA;rw[ha,hb];rfl
theorem VC{p:Plan}{x:Ins}{i:Int}(H:At23 p x i)(h:x.op=10):(AP p x i).to (Ajn p x i)∧(Cj p x i).to (Ajn p x i):=by
 have hO:decide (x.args.length≤2097152)=true:=decide_eq_true H.few;have hO':=CC.2 H.ok;have hl:=Aet h;have hwr:=Aa6 h;have h5:(x.op ==5)=false:=by rw[h];rfl
 have h10:(x.op ==10)=true:=by rw[h];rfl
 have ha:=H.reads x.a (by rw[hl];simp);have hwa:=H.wf _ ha;have hp:=Ae6 (YG p) hwa;have hmv:=Pz (l:=[⟨ownM p,ixD p.at_ x.a⟩]) (by simp) (fun y hy=>by rw[List.mem_singleton.1 hy];exact DC hp);have hce:=K0 (l:=[⟨ownM p,ixD p.at_ x.a⟩]) (by simp) (fun y hy=>by rw[List.mem_singleton.1 hy];exact DC hp);have hlen:=JX [⟨ownM p,ixD p.at_ x.a⟩];have hcell:Bg ⟨1,i,-1,ownM p,-1,[]⟩=true:=Acy (c:=⟨1,i,-1,ownM p,-1,[]⟩) wb1 H.i wbm (YG p) wbm;have hR:(Bs x).to [x.a]:=Af (by rw[hO,hO'];rfl) (by rw[hl];exact Ae _);have hW:(Bl x).to (0,false):=Af hO' (by rw[hwr];exact Ae _);constructor
 ·have h1:(AU p x).to (Wm [⟨ownM p,ixD p.at_ x.a⟩]):=Ag hR (Aw h5 (Ax h10 (Ag (YF p) (Af ha (Af hp (Ag hmv (Ae _)))))));have h2:(AJ p x).to (-1):=Ag hW (Ax rfl (Ae _));have h3:∃v,(M.bnd (BF (ixD p.at_ x.a)) fun r9=>M.cnd r9 (M.ok (1:Int)) (M.ok (ixD p.at_ x.a))).to v:=by
   cases hs:decide (ixD p.at_ x.a≥32)with
   |true=>exact⟨1,Ag (Ae _) (Ax hs (Ae _))⟩
   |false=>exact⟨_,Ag (Ae _) (Aw hs (Ae _))⟩
  obtain⟨v,h3⟩:=h3;have h4:(AF p x).to (ownM p,-1):=Ag hR (Aw h5 (Ag (Ax rfl (Af Ed (Af ha h3))) (Ag (Aw rfl (Ae _)) (Ag (Ax h10 (Ag (YF p) (Ae _))) (Ae _)))));have h6:(Be p x i).to ⟨1,i,-1,ownM p,-1,[]⟩:=Ag h2 (Ag h4 (Ag (Aw h5 (Ae _)) (Ae _)));have h7:(AQ p x).to []:=Ag hW (Ag (M.whn_f rfl) (Af rfl (Ax rfl (Ae _))));exact Ag h1 (Ag h6 (Af hcell (Ag h7 (Af (decide_eq_true (by simp at hlen⊢;omega)) (Ae _)))))
 ·exact Aw h5 (Ax h10 (Ag (UO p) (Af ha (Af hp (Ag hce (Af hcell (Af (D6 (by simp at hlen⊢;omega) (by omega)) (Ae _))))))))
def Qf(p:Plan)(args:List Int)(k:Nat):List Pair:=(List.range k).map fun(j:Nat)=>⟨8+(j:Int),ixD p.at_ (ixD args (j:Int))⟩
def argQ(k:Nat):List Int:=(List.range k).map fun(j:Nat)=>8+(j:Int)
theorem IC(p:Plan)(args:List Int)(k:Nat):(Qf p args k).length=k:=by simp[Qf]
theorem P1(k:Nat):(argQ k).length=k:=by simp[argQ]
theorem Sc(p:Plan)(args:List Int)(k:Nat):Qf p args (k+1)=Qf p args k++[⟨8+(k:Int),ixD p.at_ (ixD args (k:Int))⟩]:=by simp[Qf,List.range_succ]
theorem Sb(k:Nat):argQ (k+1)=argQ k++[8+(k:Int)]:=by simp[argQ,List.range_succ]
theorem w8{k:Nat}(hk:k≤10000000):IntKind.i64.wrap (8+(k:Int))=8+(k:Int):=IntWalk.i64_in _ (by omega)
theorem wf8{k:Nat}(hk:k≤10000000):wfB .i64 (8+(k:Int))=true:=by
 unfold wfB;simp[Lit.wf,IntKind.min,IntKind.max,IntKind.signed,IntKind.bits];omega
theorem Z4{p:Plan}{x:Ins}{i:Int}(H:At23 p x i)(h:x.op=5){k:Nat}(hk:k < x.args.length):BN p.at_ (ixD x.args (k:Int))=true:=by
 obtain⟨a,ha⟩:∃a,x.args[k]? =some a:=⟨_,List.getElem?_eq_getElem hk⟩
 rw[Ce ha];exact H.reads a (by rw[Adr h];exact List.mem_of_getElem? ha)
theorem Z5{p:Plan}{x:Ins}{i:Int}(H:At23 p x i)(h:x.op=5){k:Nat}(hk:k≤x.args.length):∀y∈Qf p x.args k,okPair y:=fun y hy=>by
 obtain⟨j,hj,rfl⟩:=List.mem_map.1 hy;have hj:=List.mem_range.1 hj;have:=H.few;exact DC (Ae6 (wf8 (by omega)) (H.wf _ (Z4 H h (by omega))))
theorem Af6{p:Plan}{x:Ins}{i:Int}(H:At23 p x i)(h:x.op=5):(Ei p x).to (Qf p x.args x.args.length):=by
 have hf:=H.few;refine Ag ?_ (Ae _);refine Bz (fun k:Nat=>((k:Int),Qf p x.args k)) x.args.length (fun k hk=>?_) ?_ (Nat.zero_le _)
 ·have hin:=Z4 H h hk;simp only[Di];rw[w23 hk (by omega),w8 (by omega),Sc];exact Ax (decide_eq_true (by omega)) (Af (Dt hk) (Af hin (Af (Ae6 (wf8 (by omega)) (H.wf _ hin)) (Af (D6 (by rw[IC];simp;omega) (by omega)) (Ae _)))))
 ·simp only[Di];exact Aw (decide_eq_false (by omega)) (Ae _)
theorem ZD{p:Plan}{x:Ins}{i:Int}(H:At23 p x i):(M.loop (C5 x) (0,([]:List Int))).to (argQ x.args.length):=by
 have hf:=H.few;refine Bz (fun k:Nat=>((k:Int),argQ k)) x.args.length (fun k hk=>?_) ?_ (Nat.zero_le _)
 ·simp only[C5];rw[w23 hk (by omega),w8 (by omega),Sb];exact Ax (decide_eq_true (by omega)) (Af (wf8 (by omega)) (Af (D6 (by rw[P1];simp;omega) (by omega)) (Ae _)))
 ·simp only[C5];exact Aw (decide_eq_false (by omega)) (Ae _)
theorem RW{p:Plan}{x:Ins}{i:Int}(H:At23 p x i)(h:x.op=5):(M.loop (Fr p x) (0,([]:List Pair),([]:List Int))).to (Qf p x.args x.args.length,argQ x.args.length):=by
 have hf:=H.few;refine Bz (fun k:Nat=>((k:Int),Qf p x.args k,argQ k)) x.args.length (fun k hk=>?_) ?_ (Nat.zero_le _)
 ·have hin:=Z4 H h hk;simp only[Fr];rw[w23 hk (by omega),w8 (by omega),Sc,Sb];exact Ax (decide_eq_true (by omega)) (Af (Dt hk) (Af hin (Af (Ae6 (wf8 (by omega)) (H.wf _ hin)) (Af (D6 (by rw[IC];simp;omega) (by omega)) (Af (wf8 (by omega)) (Af (D6 (by rw[P1];simp;omega) (by omega)) (Ae _)))))))
 ·simp only[Fr];exact Aw (decide_eq_false (by omega)) (Ae _)
def PZ(p:Plan)(d:Int):List ACell:=bif ixD p.at_ d !=8 then [⟨0,-1,ixD p.at_ d,8,-1,[]⟩]else []
noncomputable def WX(p:Plan)(x:Ins)(i:Int):List ACell:=Wm (Qf p x.args x.args.length)++⟨1,i,8,-1,-1,argQ x.args.length⟩::PZ p x.d
theorem XV{p:Plan}{x:Ins}{i:Int}(H:At23 p x i)(h:x.op=5):(AP p x i).to (WX p x i)∧(Cj p x i).to (WX p x i):=by
 have hO:decide (x.args.length≤2097152)=true:=decide_eq_true H.few;have hO':=CC.2 H.ok;have hf:=H.few;have hwr:=Aec h;have h5:(x.op ==5)=true:=by rw[h];rfl
 have hd:=H.writes hwr;have hwd:=H.wf _ hd;have hmv:=Pz (l:=Qf p x.args x.args.length) (by rw[IC];omega) (Z5 H h (Nat.le_refl _));have hce:=K0 (l:=Qf p x.args x.args.length) (by rw[IC];omega) (Z5 H h (Nat.le_refl _));have hlen:=JX (Qf p x.args x.args.length);rw[IC]at hlen;have hcell:Bg ⟨1,i,8,-1,-1,argQ x.args.length⟩=true:=Acy (c:=⟨1,i,8,-1,-1,argQ x.args.length⟩) wb1 H.i wb8 wbm wbm;have hmc:Bg ⟨0,-1,ixD p.at_ x.d,8,-1,[]⟩=true:=Acy (c:=⟨0,-1,ixD p.at_ x.d,8,-1,[]⟩) wb0 wbm hwd wb8 wbm;have hR:(Bs x).to x.args:=Af (by rw[hO,hO'];rfl) (by rw[Adr h];exact Ae _);have hW:(Bl x).to (x.d,true):=Af hO' (by rw[hwr];exact Ae _);constructor
 ·have h1:(AU p x).to (Wm (Qf p x.args x.args.length)):=Ag hR (Ax h5 (Ag (Af6 H h) (Ag hmv (Ae _))));have h2:(AJ p x).to 8:=Ag hW (Aw rfl (Ax h5 (Ae _)));have h4:(AF p x).to (-1,-1):=Ag hR (Ax h5 (Ae _));have h6:(Be p x i).to ⟨1,i,8,-1,-1,argQ x.args.length⟩:=Ag h2 (Ag h4 (Ag (Ax h5 (Ag (ZD H) (Ae _))) (Ae _)));have h7:(AQ p x).to (PZ p x.d):=by
   refine Ag hW (Ag (BC rfl h2) (Af (by rw[hd];rfl) ?_));unfold PZ;cases he:(ixD p.at_ x.d !=8)with
   |true=>
    have:((8:Int) ==ixD p.at_ x.d)=false:=by simp at he⊢;omega
    exact Aw (by rw[this];rfl) (Af hd (Ag h2 (Ag (Ae _) (Af hmc (Ae _)))))
   |false=>
    have:((8:Int) ==ixD p.at_ x.d)=true:=by simp at he⊢;omega
    exact Ax (by rw[this];rfl) (Ae _)
  have hb:(PZ p x.d).length≤1:=by unfold PZ;cases(ixD p.at_ x.d !=8) <;> simp
  exact Ag h1 (Ag h6 (Af hcell (Ag h7 (Af (decide_eq_true (by omega)) (Ae _)))))
 ·refine Ax h5 (Ag ?_ (Ae _));refine Ag (RW H h) (Ag hce (Af hcell (Af (D6 (by simp;omega) (by omega)) ?_)));refine Ag (a:=WX p x i) ?_ (Ae _);refine Af hd ?_;unfold WX PZ;cases he:(ixD p.at_ x.d !=8)with
  |true=>
   have e:Wm (Qf p x.args x.args.length)++⟨1,i,8,-1,-1,argQ x.args.length⟩::(bif true then [⟨0,-1,ixD p.at_ x.d,8,-1,[]⟩]else [])=(Wm (Qf p x.args x.args.length)++[⟨1,i,8,-1,-1,argQ x.args.length⟩])++[⟨0,-1,ixD p.at_ x.d,8,-1,[]⟩]:=by simp
   rw[e];exact Ax rfl (Af hd (Ag (Ae _) (Af hmc (Af (D6 (by simp;omega) (by omega)) (Ae _)))))
  |false=>exact Aw rfl (Ae _)
noncomputable def JG(p:Plan)(x:Ins)(i:Int):List ACell:=if x.op=5 then WX p x i else if x.op=10 then Ajn p x i else L5 p x i (readsC x)
theorem O4{p:Plan}{x:Ins}{i:Int}(H:At23 p x i):(AP p x i).to (JG p x i)∧(Cj p x i).to (JG p x i):=by
 unfold JG;by_cases h5:x.op=5
 ·rw[if_pos h5];exact XV H h5
 rw[if_neg h5];by_cases h10:x.op=10
 ·rw[if_pos h10];exact VC H h10
 rw[if_neg h10];exact⟨XU H (by simpa using h5) (by simpa using h10),Ae2 H (by simpa using h5) (by simpa using h10)⟩
def Xz(c:ACell):Prop:=c.args.length≤2097152
theorem Py(l:List Pair):∀c∈Wm l,Xz c:=fun c hc=>by
 obtain⟨x,_,rfl⟩:=List.mem_map.1 hc;show([]:List Int).length≤_;simp
theorem N6{p:Plan}{x:Ins}{i:Int}(hf:x.args.length≤2097152):(∀c∈JG p x i,Xz c)∧(JG p x i).length≤2 * x.args.length+4:=by
 have hnil:∀{k a b c d:Int},Xz ⟨k,a,b,c,d,[]⟩:=fun{k a b c d}=>by show([]:List Int).length≤_;simp
 unfold JG;split
 ·have hlen:=JX (Qf p x.args x.args.length);rw[IC]at hlen;have hb:(∀c∈PZ p x.d,Xz c)∧(PZ p x.d).length≤1:=by unfold PZ;cases(ixD p.at_ x.d !=8) <;> simp[hnil]
  unfold WX;refine⟨fun c hc=>?_,by simp;omega⟩;rcases List.mem_append.1 hc with hc|hc
  ·exact Py _ c hc
  ·rcases List.mem_cons.1 hc with rfl|hc
   ·show(argQ x.args.length).length≤_;rw[P1];exact hf
   ·exact hb.1 c hc
 split
 ·have hlen:=JX [⟨ownM p,ixD p.at_ x.a⟩];unfold Ajn;refine⟨fun c hc=>?_,by simp at hlen⊢;omega⟩;rcases List.mem_append.1 hc with hc|hc
  ·exact Py _ c hc
  ·rw[List.mem_singleton.1 hc];exact hnil
 ·have h1:∀a,(∀c∈MK p a,Xz c)∧(MK p a).length≤1:=fun a=>by unfold MK;cases DI (ixD p.at_ a) <;> simp[hnil]
  have h2:∀a b,(∀c∈NL p a b,Xz c)∧(NL p a b).length≤1:=fun a b=>by unfold NL;cases DI (ixD p.at_ b) <;> cases(ixD p.at_ a ==ixD p.at_ b) <;> simp[hnil]
  have h3:(∀c∈L1 p (AY x) x.d,Xz c)∧(L1 p (AY x) x.d).length≤1:=by unfold L1;cases AY x <;> cases DI (ixD p.at_ x.d) <;> simp[hnil]
  rcases readsC x with _|⟨a,_|⟨b,t⟩⟩
  ·unfold L5;refine⟨fun c hc=>?_,by simp;omega⟩;rcases List.mem_cons.1 hc with rfl|hc
   ·exact hnil
   ·exact h3.1 c hc
  ·unfold L5;have:=h1 a;refine⟨fun c hc=>?_,by simp;omega⟩;rcases List.mem_append.1 hc with hc|hc
   ·exact this.1 c hc
   ·rcases List.mem_cons.1 hc with rfl|hc
    ·exact hnil
    ·exact h3.1 c hc
  ·unfold L5;have:=h1 a;have h4:=h2 a b;refine⟨fun c hc=>?_,by simp;omega⟩;rcases List.mem_append.1 hc with hc|hc
   ·exact this.1 c hc
   ·rcases List.mem_append.1 hc with hc|hc
    ·exact h4.1 c hc
    ·rcases List.mem_cons.1 hc with rfl|hc
     ·exact hnil
     ·exact h3.1 c hc
theorem G5{α:Type}{l:List α}{k:Nat}(h:k < l.length):BN l (k:Int)=true:=Ee.2 ⟨by omega,by rw[Int.toNat_natCast];exact h⟩
theorem Aj8{k n:Nat}(hk:k < n)(hn:n≤4611686018427387904):IntKind.i64.wrap ((k:Int)+1)=((k+1:Nat):Int):=by rw[IntWalk.i64_in _ ⟨by omega,by omega⟩];omega
theorem Rg{f:Func}{q:Ins×List Int}:q∈stepsL f↔∃b i,b < f.blocks.length∧(Ch f b)[i]? =some q.1∧q.2=Dg f (Bw f) b (i+1):=by
 constructor
 ·intro h;unfold stepsL at h;obtain⟨b,hb,hq⟩:=List.mem_flatMap.1 h;obtain⟨i,hi⟩:=List.mem_iff_getElem?.1 hq;unfold Em at hi;obtain⟨h1,h2⟩:=List.getElem?_zip_eq_some.1 hi;rw[List.getElem?_drop,Nat.add_comm]at h2;unfold BX at h2;rw[List.getElem?_map]at h2;obtain⟨k,h3,h4⟩:=Option.map_eq_some_iff.1 h2;have h5:=(List.getElem?_eq_some_iff.1 h3).1;rw[List.length_range]at h5;rw[List.getElem?_range h5]at h3;cases h3;exact⟨b,i,List.mem_range.1 hb,h1,h4.symm⟩
 ·rintro⟨b,i,hb,hx,hl⟩;have hi:=(List.getElem?_eq_some_iff.1 hx).1;refine List.mem_of_getElem? (Qt hb hx (l:=q.2) ?_);unfold BX;rw[List.getElem?_map,List.getElem?_range (by omega),hl];rfl
theorem M1{q:Ins×List Int}{x:Pair}:x∈TR q↔∃r∈q.2,KX q r=true∧x∈DF q.1.d r:=by
 unfold TR;simp only[List.mem_flatMap,List.mem_filter,and_assoc]
theorem Tp(a:Int):DF a a= []:=if_pos rfl
theorem Tq(a b:Int):DF a b=DF b a:=by
 unfold DF;rw[Int.min_comm,Int.max_comm];by_cases h:a=b
 ·rw[if_pos h,if_pos h.symm]
 ·rw[if_neg h,if_neg (Ne.symm h)]
theorem Rh{l:List Int}{x:Pair}:x∈edgeF l↔∃a∈l,∃b∈l,x∈DF a b:=by
 have key:∀(i j:Nat) (a b:Int),j < i→l[i]? =some a→l[j]? =some b→x∈DF a b→x∈edgeF l:=fun i j a b hji ha hb hx=>by
  unfold edgeF;refine List.mem_flatMap.2 ⟨i,List.mem_range.2 (List.getElem?_eq_some_iff.1 ha).1,List.mem_flatMap.2 ⟨b,?_,by rw[ha];exact hx⟩⟩;exact List.mem_of_getElem? (i:=j) (by rw[List.getElem?_take,if_pos hji];exact hb)
 constructor
 ·intro h;unfold edgeF at h;obtain⟨i,hi,h⟩:=List.mem_flatMap.1 h;obtain⟨b,hb,h⟩:=List.mem_flatMap.1 h;have hi:=List.mem_range.1 hi;rw[List.getElem?_eq_getElem hi]at h;exact⟨_,List.getElem_mem hi,b,List.mem_of_mem_take hb,h⟩
 ·rintro⟨a,ha,b,hb,hx⟩;obtain⟨i,hi⟩:=List.mem_iff_getElem?.1 ha;obtain⟨j,hj⟩:=List.mem_iff_getElem?.1 hb;rcases Nat.lt_trichotomy i j with h|h|h
  ·exact key j i b a h hj hi (by rw[Tq];exact hx)
  ·subst h;rw[hi]at hj;cases hj;rw[Tp]at hx;cases hx
  ·exact key i j a b h hi hj hx
theorem WC{f:Func}{x:Pair}:Ib f x=true↔(∃q∈stepsL f,x∈TR q)∨x∈edgeF (BE f):=by
 unfold Ib GI;rw[Nt,Nt,List.take_length,List.mem_flatMap];simp
theorem Zp{f:Func}(h:f.blocks.length≠0):BE f=inL f 0:=by
 unfold BE;rw[if_neg h,D4];rfl
section
variable{f:Func}{b:Nat}{bl:Block}{x:Ins}(hb:f.blocks[b]? =some bl)(hne:bl.ins≠[])(hw:AY x=false)
include hb hne hw
end
section
variable{P:Program}{C:Ctx}{t:List AV}{h:List ABlk}{o:Oper}
end
theorem Ai3{f:Func}{k:Nat}(h:k < f.blocks.length):(inF f)[k]? =some (inL f k):=by unfold inF;rw[List.getElem?_map,List.getElem?_range h];rfl
theorem Afg(f:Func):(inF f).length=f.blocks.length:=by simp[inF]
theorem Abn(l:List Ins):(l.flatMap BW).length≤DV Ep.bulk l:=by
 induction l with
 |nil=>simp[DV]
 |cons x l ih=>
  have h1:=Jd x;have h2:=PS x;have h3:=D3 Tu x.args;have h4:(BW x).length≤(readsC x).length+1:=by
   unfold BW;rw[List.length_append];split <;> simp
  simp only[List.flatMap_cons,List.length_append,DV];omega
theorem Ta(l:List Block):(l.flatMap fun b=>b.ins.flatMap BW).length≤DV B3.bulk l:=by
 induction l with
 |nil=>simp[DV]
 |cons b l ih=>
  have h1:=Abn b.ins;have h2:=GK b;simp only[List.flatMap_cons,List.length_append,DV];omega
theorem Z8{f:Func}(h:CX.bulk f≤2097152):(NY f).length≤2097152:=by
 have h1:=Ta f.blocks;have h2:=Kf f;have e:(NY f).length=(f.blocks.flatMap fun b=>b.ins.flatMap BW).length:=rfl;omega
theorem Zq{f:Func}(ho:okFunc f)(h:CX.bulk f≤2097152):FineF f:=⟨ho,VI h,VS h,Z8 h,Y5 h⟩
theorem Z9{f:Func}{b:Nat}(hb:b < f.blocks.length):ixD (Jq f) (b:Int)=BX f b:=Ce (by unfold Jq;rw[List.getElem?_map,List.getElem?_range hb];rfl)
theorem ZU{f:Func}{b i:Nat}(hi:i < (Ch f b).length):(BX f b)[i+1]? =some (Dg f (Bw f) b (i+1)):=by
 unfold BX;rw[List.getElem?_map,List.getElem?_range (by omega)];rfl
theorem PG{ρ:Type}{step:Int→M (Int⊕(Unit⊕ρ))}{p:Nat→Bool}{v:ρ}{n:Nat}
 (h:∀k,k < n→(step (k:Int)).to (if p k then .inr (.inr v)else .inl ((k+1:Nat):Int))) (ho:(step (n:Int)).to (.inr (.inl ()))):(M.loop step 0).to (if(List.range n).any p then .inr v else .inl ()):=by
 have key:∀(d k:Nat),k+d=n→(M.loop step (k:Int)).to (if(List.range' k d).any p then .inr v else .inl ()):=by
  intro d;induction d with
  |zero=>
   intro k hk;have:k=n:=by omega
   subst this;exact M.loop_out ho
  |succ d ih=>
   intro k hk;have hs:=h k (by omega);rw[List.range'_succ,List.any_cons];by_cases hp:p k=true
   ·rw[hp]at hs⊢;exact M.loop_out hs
   ·have hp:p k=false:=by simpa using hp
    rw[hp]at hs⊢;rw[Bool.false_or];exact M.loop_in hs (ih (k+1) (by omega))
 have:=key n 0 (by omega);rwa [←List.range_eq_range']at this
theorem TQ{ρ:Type}{x:M (Unit⊕ρ)}{c:Bool}{v d:ρ}(h:x.to (if c then .inr v else .inl ())):(M.els x fun _=>M.ok d).to (if c then v else d):=by
 cases c
 ·exact M.els_l h (Ae _)
 ·exact M.els_r h
theorem Af7{α:Type}{l:List α}{p:Nat→Bool}{q:α→Bool}(h:∀k x,l[k]? =some x→p k=q x):(List.range l.length).any p=l.any q:=by
 rw[Bool.eq_iff_iff,List.any_eq_true,List.any_eq_true];constructor
 ·rintro⟨k,hk,hp⟩;have hk:=List.mem_range.1 hk;exact⟨l[k],List.getElem_mem hk,by rw[←h k _ (List.getElem?_eq_getElem hk)];exact hp⟩
 ·rintro⟨x,hx,hq⟩;obtain⟨k,hk⟩:=List.mem_iff_getElem?.1 hx;exact⟨k,List.mem_range.2 (List.getElem?_eq_some_iff.1 hk).1,by rw[h k x hk];exact hq⟩
theorem Ym{l:List Int}{n:Int}(hn:l.length≤4611686018427387904):(MI l n).to (l.contains n):=by
 have h:=PG (step:=HE l n) (p:=fun k=>l.getD k 0 ==n) (v:=true) (n:=l.length) (fun k hk=>?_) ?_
 ·unfold MI;have h2:=TQ (d:=false) h;rw[Af7 (q:=fun x=>x ==n) fun k x hx=>by rw[List.getD,hx];rfl]at h2;have e:(if(l.any fun x=>x ==n)=true then true else false)=l.contains n:=by
   rw[show l.contains n=l.any fun x=>x ==n by rw[List.contains_eq_any_beq];congr 1;funext x;exact Bool.beq_comm ..];cases l.any fun x=>x ==n <;> rfl
  rwa [e]at h2
 ·obtain⟨x,hx⟩:∃x,l[k]? =some x:=⟨_,List.getElem?_eq_getElem hk⟩
  have hd:l.getD k 0=x:=by rw[List.getD,hx];rfl
  unfold HE;rw[Ce hx,hd,Aj8 hk hn];refine Ax (decide_eq_true (by omega)) (Af (G5 hk) ?_);by_cases h:(x ==n)=true
  ·rw[h];exact Ax rfl (Ae _)
  ·have h:(x ==n)=false:=by simpa using h
   rw[h];exact Aw rfl (Ae _)
 ·unfold HE;exact Aw (decide_eq_false (by omega)) (Ae _)
def Adu(a b:Int)(q:Ins×List Int):Bool:=AY q.1&&(q.1.d ==a)&&q.2.contains b&&!((q.1.op ==2)&&(q.1.a ==b))
def NM(f:Func)(a b:Int):Bool:=(stepsL f).any (Adu a b)
theorem Ae1{f:Func}{a b:Int}:((List.range f.blocks.length).any fun k=>(List.range (Ch f k).length).any fun i=>Adu a b ((Ch f k).getD i default,Dg f (Bw f) k (i+1)))=NM f a b:=by
 unfold NM;rw[Bool.eq_iff_iff,List.any_eq_true,List.any_eq_true];constructor
 ·rintro⟨k,hk,h⟩;obtain⟨i,hi,h⟩:=List.any_eq_true.1 h;have hi:=List.mem_range.1 hi;refine⟨_,Rg.2 ⟨k,i,List.mem_range.1 hk,?_,rfl⟩,h⟩;try dsimp only
  rw[List.getD,List.getElem?_eq_getElem hi];rfl
 ·rintro⟨q,hq,h⟩;obtain⟨k,i,hk,hx,hl⟩:=Rg.1 hq;refine⟨k,List.mem_range.2 hk,List.any_eq_true.2 ⟨i,List.mem_range.2 (List.getElem?_eq_some_iff.1 hx).1,?_⟩⟩;rw[List.getD,hx,←hl];exact h
theorem Tn{f:Func}(c:FineF f)(b i:Nat):(Dg f (Bw f) b i).length≤2097152:=Nat.le_trans (List.length_filter_le _ _) (Nat.le_trans (Dl _) c.reads)
theorem XD{x:Ins}(ho:okIns x):(BG x).to (if AY x then x.d else 0,AY x):=Af (CC.2 ho) (Ae _)
theorem UR{f:Func}(c:FineF f)(a b:Int):(KI f (Jq f) a b).to (NM f a b):=by
 have hbl:=c.small.blocks;have h:=PG (step:=GB f (Jq f) a b) (p:=fun k=>(List.range (Ch f k).length).any fun i=>Adu a b ((Ch f k).getD i default,Dg f (Bw f) k (i+1))) (v:=true) (n:=f.blocks.length) (fun k hk=>?_) ?_
 ·unfold KI;have h2:=TQ (d:=false) h;rw[Ae1]at h2;have e:(if NM f a b=true then true else false)=NM f a b:=by cases NM f a b <;> rfl
  rwa [e]at h2
 ·obtain⟨bl,hb⟩:∃bl,f.blocks[k]? =some bl:=⟨_,List.getElem?_eq_getElem hk⟩
  have hI:Ch f k=bl.ins:=by unfold Ch;rw[hb]
  have hin:=c.ins bl (List.mem_of_getElem? hb);have h3:ixD f.blocks (k:Int)=bl:=Ce hb;have b3:BN f.blocks (k:Int)=true:=G5 hk;have hi:=PG (step:=Fx f (Jq f) a b (k:Int)) (p:=fun i=>Adu a b ((Ch f k).getD i default,Dg f (Bw f) k (i+1))) (v:=(Sum.inr (Sum.inr true):Int⊕(Unit⊕Bool))) (n:=bl.ins.length) (fun i hi=>?_) ?_
  ·unfold GB;rw[Aj8 hk (by omega)];refine Ax (decide_eq_true (by omega)) ?_;rw[hI];rw[hI]at hi;have h9:=TQ (d:=(Sum.inl ((k+1:Nat):Int):Int⊕(Unit⊕Bool))) hi;exact h9
  ·obtain⟨x,hx⟩:∃x,bl.ins[i]? =some x:=⟨_,List.getElem?_eq_getElem hi⟩
   have hd:(Ch f k).getD i default=x:=by rw[hI,List.getD,hx];rfl
   have h4:ixD bl.ins (i:Int)=x:=Ce hx;have b4:BN bl.ins (i:Int)=true:=G5 hi;have hox:=(c.ok.blocks bl (List.mem_of_getElem? hb)).ins x (List.mem_of_getElem? hx);have h1:=Z9 hk;have hbi:=ZU (f:=f) (b:=k) (i:=i) (by rw[hI];exact hi);have h2:ixD (BX f k) ((i+1:Nat):Int)=Dg f (Bw f) k (i+1):=Ce hbi;have b1:BN (Jq f) (k:Int)=true:=G5 (by unfold Jq;simpa using hk);have b2:BN (BX f k) ((i+1:Nat):Int)=true:=G5 (List.getElem?_eq_some_iff.1 hbi).1;have hr:=Ym (l:=Dg f (Bw f) k (i+1)) (n:=b) (by have:=Tn c k (i+1);omega);rw[hd];unfold Fx;rw[h3,h4,Aj8 hi (by omega),h1,h2];refine Af b3 (Ax (decide_eq_true (by omega)) (Af b3 (Af b4 (Ag (XD hox) ?_))));try dsimp only
   generalize hg:(AY x&&((if AY x=true then x.d else 0) ==a))=g;have hg2:(AY x&&(x.d ==a))=g:=by
    rw[←hg];cases AY x <;> rfl
   refine Af (by rw[b1,Bool.or_true]) (Af (by rw[b2,Bool.or_true]) (Ag (a:=g&&(Dg f (Bw f) k (i+1)).contains b) ?_ ?_))
   ·cases g
    ·exact M.whn_f rfl
    ·exact BC rfl hr
   ·have e:Adu a b (x,Dg f (Bw f) k (i+1))=((g&&(g&&(Dg f (Bw f) k (i+1)).contains b))&&(!((x.op ==2)&&(x.a ==b)))):=by
     unfold Adu;try dsimp only
     rw[hg2];cases g <;> simp
    rw[e];generalize ((g&&(g&&(Dg f (Bw f) k (i+1)).contains b))&&(!((x.op ==2)&&(x.a ==b))))=z;cases z
    ·exact Aw rfl (Ae _)
    ·exact Ax rfl (Ae _)
  ·unfold Fx;rw[h3];exact Af b3 (Aw (decide_eq_false (by omega)) (Ae _))
 ·unfold GB;exact Aw (decide_eq_false (by omega)) (Ae _)
def GC(f:Func)(a b:Int):Bool:=!(a ==b)&&(NM f a b||NM f b a||(decide (0 < f.blocks.length)&&(BE f).contains a&&(BE f).contains b))
theorem Ng{f:Func}(h:0 < f.blocks.length):(BX f 0)[0]? =some (BE f):=by
 unfold BE;rw[if_neg (by omega),D4];rfl
theorem OC{f:Func}(c:FineF f):(BE f).length≤2097152:=by
 unfold BE;split
 ·simp
 ·rw[D4];exact Nat.le_trans (List.length_filter_le _ _) (Nat.le_trans (Dl _) c.reads)
theorem YD{f:Func}(c:FineF f)(a b:Int):(JQ f (Jq f) a b).to (GC f a b):=by
 unfold JQ GC;by_cases hab:(a ==b)=true
 ·rw[hab];exact Ax rfl (Ae _)
 ·have hab:(a ==b)=false:=by simpa using hab
  rw[hab];refine Aw rfl (Ag (UR c a b) (Ag (a:=!NM f a b&&NM f b a) ?_ ?_))
  ·cases NM f a b
   ·exact BC rfl (UR c b a)
   ·exact M.whn_f rfl
  ·by_cases h1:(NM f a b||NM f b a)=true
   ·rw[h1];refine Ax ?_ (Ae _);revert h1;cases NM f a b <;> cases NM f b a <;> simp
   ·have h1:(NM f a b||NM f b a)=false:=by simpa using h1
    rw[h1];refine Aw ?_ ?_
    ·revert h1;cases NM f a b <;> cases NM f b a <;> simp
    have hal:(Jq f).length=f.blocks.length:=by simp[Jq]
    by_cases h0:0 < f.blocks.length
    ·have e:decide (((Jq f).length:Int) > 0)=true:=decide_eq_true (by omega);have e2:decide (0 < f.blocks.length)=true:=decide_eq_true h0;have x1:ixD (Jq f) 0=BX f 0:=Z9 h0;have x2:ixD (BX f 0) 0=BE f:=Ce (k:=0) (Ng h0);have b1:BN (Jq f) 0=true:=G5 (k:=0) (by omega);have b2:BN (BX f 0) 0=true:=G5 (k:=0) (List.getElem?_eq_some_iff.1 (Ng h0)).1;have hl:=OC c;rw[e,e2,x1,x2,b1,b2];refine Af rfl (Af rfl (Ag (BC rfl (Ym (by omega))) (Af (Bool.or_true _) (Af (Bool.or_true _) (Ag (a:=(BE f).contains a&&(BE f).contains b) ?_ ?_)))))
     ·cases(BE f).contains a
      ·exact M.whn_f rfl
      ·exact BC rfl (Ym (by omega))
     ·refine Ac.2 ?_;cases(BE f).contains a <;> rfl
    ·have e:decide (((Jq f).length:Int) > 0)=false:=decide_eq_false (by omega);have e2:decide (0 < f.blocks.length)=false:=decide_eq_false h0;rw[e,e2];exact Af rfl (Af rfl (Ag (M.whn_f rfl) (Af rfl (Af rfl (Ag (M.whn_f rfl) (Ae _))))))
theorem Abv{f:Func}{a b:Int}:NM f a b=true↔∃q∈stepsL f,AY q.1=true∧q.1.d=a∧b∈q.2∧KX q b=true:=by
 unfold NM;rw[List.any_eq_true];constructor
 ·rintro⟨q,hq,h⟩;unfold Adu at h;simp only[Bool.and_eq_true,beq_iff_eq,List.contains_iff_mem,Bool.not_eq_true',Bool.and_eq_false_iff,beq_eq_false_iff_ne]at h;obtain⟨⟨⟨h1,h2⟩,h3⟩,h4⟩:=h;refine⟨q,hq,h1,h2,h3,?_⟩;unfold KX;simp only[h1,Bool.true_and,Bool.or_eq_true,bne_iff_ne,ne_eq];rcases h4 with h4|h4
  ·exact .inl h4
  ·exact .inr fun e=>h4 e.symm
 ·rintro⟨q,hq,h1,h2,h3,h4⟩;refine⟨q,hq,?_⟩;unfold Adu;simp only[Bool.and_eq_true,beq_iff_eq,List.contains_iff_mem,Bool.not_eq_true',Bool.and_eq_false_iff,beq_eq_false_iff_ne];refine⟨⟨⟨h1,h2⟩,h3⟩,?_⟩;unfold KX at h4;simp only[h1,Bool.true_and,Bool.or_eq_true,bne_iff_ne,ne_eq]at h4;rcases h4 with h4|h4
  ·exact .inl h4
  ·exact .inr fun e=>h4 e.symm
theorem GE{a b:Int}{x:Pair}(hx:x.a < x.b):x∈DF a b↔(x.a=a∧x.b=b)∨(x.a=b∧x.b=a):=by
 unfold DF;obtain⟨u,v⟩:=x
 (try dsimp only at hx);(try dsimp only)
 by_cases h:a=b
 ·rw[if_pos h];simp only[List.not_mem_nil,false_iff];omega
 ·rw[if_neg h];simp only[List.mem_cons,List.not_mem_nil,or_false,Pair.mk.injEq];rw[Int.min_def,Int.max_def];split <;> omega
theorem Q6{f:Func}{x:Pair}(hx:x.a < x.b):GC f x.a x.b=Ib f x:=by
 have hne:x.a≠x.b:=by omega
 rw[Bool.eq_iff_iff,WC];unfold GC;have e:(x.a ==x.b)=false:=by simpa using hne
 rw[e];simp only[Bool.not_false,Bool.true_and,Bool.or_eq_true,Bool.and_eq_true,decide_eq_true_eq,List.contains_iff_mem,Abv];constructor
 ·rintro((⟨q,hq,h1,h2,h3,h4⟩|⟨q,hq,h1,h2,h3,h4⟩)|⟨⟨_,h1⟩,h2⟩)
  ·exact .inl ⟨q,hq,M1.2 ⟨x.b,h3,h4,(GE hx).2 (.inl ⟨h2.symm,rfl⟩)⟩⟩
  ·exact .inl ⟨q,hq,M1.2 ⟨x.a,h3,h4,(GE hx).2 (.inr ⟨rfl,h2.symm⟩)⟩⟩
  ·exact .inr (Rh.2 ⟨x.a,h1,x.b,h2,(GE hx).2 (.inl ⟨rfl,rfl⟩)⟩)
 ·rintro(⟨q,hq,h⟩|h)
  ·obtain⟨r,hr,he,hp⟩:=M1.1 h;have hw:AY q.1=true:=by unfold KX at he;rw[Bool.and_eq_true]at he;exact he.1
   rcases(GE hx).1 hp with⟨e1,e2⟩|⟨e1,e2⟩
   ·exact .inl (.inl ⟨q,hq,hw,e1.symm,by rw[e2];exact hr,by rw[e2];exact he⟩)
   ·exact .inl (.inr ⟨q,hq,hw,e2.symm,by rw[e1];exact hr,by rw[e1];exact he⟩)
  ·obtain⟨a,ha,b,hb,hp⟩:=Rh.1 h;have h0:0 < f.blocks.length:=by
    rcases Nat.eq_zero_or_pos f.blocks.length with h0|h0
    ·unfold BE at ha;rw[if_pos h0]at ha;cases ha
    ·exact h0
   rcases(GE hx).1 hp with⟨e1,e2⟩|⟨e1,e2⟩
   ·exact .inr ⟨⟨h0,by rw[e1];exact ha⟩,by rw[e2];exact hb⟩
   ·exact .inr ⟨⟨h0,by rw[e1];exact hb⟩,by rw[e2];exact ha⟩
theorem WD(f:Func):((EV (AT f)).filter fun x=>GC f x.a x.b)=GH f:=by
 unfold GH G9;refine List.filter_congr fun x hx=>?_
 exact Q6 ((Er (Fb f).1).1 hx).2.2
theorem MQ{f:Func}{a b:Int}:GC f a b=GC f b a:=by
 unfold GC;rw[show(a ==b)=(b ==a)from Bool.beq_comm ..];cases(b ==a) <;> cases NM f a b <;> cases NM f b a <;> cases decide (0 < f.blocks.length) <;> cases(BE f).contains a <;> cases(BE f).contains b <;> rfl
theorem Se{l:List Int}{q:Int→Bool}:((List.range l.length).any fun i=>q (l.getD i default))=l.any q:=by
 rw[Bool.eq_iff_iff,List.any_eq_true,List.any_eq_true];constructor
 ·rintro⟨k,hk,hp⟩;have hk:=List.mem_range.1 hk;refine⟨l[k],List.getElem_mem hk,?_⟩;rw[List.getD,List.getElem?_eq_getElem hk]at hp;exact hp
 ·rintro⟨x,hx,hq⟩;obtain⟨k,hk⟩:=List.mem_iff_getElem?.1 hx;refine⟨k,List.mem_range.2 (List.getElem?_eq_some_iff.1 hk).1,?_⟩;rw[List.getD,hk];exact hq
theorem TG{l:List Int}(hl:l.length≤10000000){n:Int}:(MG l n).to (l.contains n):=by
 have h:=JZ (step:=HC l n) (p:=fun i=>(l.getD i default) ==n) (v:=true) (n:=l.length) (fun i hi=>?_) ?_
 ·have h2:=WB (d:=false) h;rw[Afi,Se (q:=fun y=>y ==n)]at h2;have e:(l.any fun y=>y ==n)=l.contains n:=by
   rw[Bool.eq_iff_iff,List.any_eq_true,List.contains_iff_mem];constructor
   ·rintro⟨x,hx,hq⟩;rw[←eq_of_beq hq];exact hx
   ·intro hx;exact⟨n,hx,beq_self_eq_true n⟩
  rw[e]at h2;exact h2
 ·obtain⟨x,hx⟩:∃x,l[i]? =some x:=⟨_,List.getElem?_eq_getElem hi⟩
  have hd:l.getD i default=x:=by rw[List.getD,hx];rfl
  unfold HC;rw[Ce hx,w23 hi hl];simp only[hd];refine Ax (decide_eq_true (by omega)) (Af (Dt hi) ?_);cases hc:(x ==n)with
  |true=>exact Ax rfl (Ae _)
  |false=>exact Aw rfl (Ae _)
 ·unfold HC;exact Aw (decide_eq_false (by omega)) (Ae _)
def Wg(f:Func)(r:Int):Bool:=decide (r < 0)||decide (r≥f.regs)
theorem Ab1{f:Func}(c:FineF f)(hl:(Bp f).length≤10000000):(Jf f).to (TC f):=by
 have hR:(It f).to (Bp f):=Af (Cn.2 c) (Ae _);have hoff:(((((decide (f.regs < 0))||(decide (f.regs > 4096)))||(decide (f.args < 0)))||(decide (f.args > 6)))||(decide (f.args > f.regs)))=Agn f:=by
  unfold Agn;rw[Bool.or_assoc _ (decide (f.args > 6))];congr 1;rw[Bool.eq_iff_iff];simp only[Bool.or_eq_true,decide_eq_true_eq];split <;> omega
 unfold Jf TC;rw[hoff];cases h:Agn f with
 |true=>exact Ax rfl (Ae _)
 |false=>
  refine Aw rfl (Ag hR ?_);have h:=JZ (step:=Fw f (Bp f)) (p:=fun i=>Wg f ((Bp f).getD i default)) (v:=false) (n:=(Bp f).length) (fun i hi=>?_) ?_
  ·have h2:=WB (d:=true) h;rw[Se (q:=Wg f)]at h2;have e:(!false&&!((Bp f).any fun r=>decide (r < 0)||decide (r≥f.regs)))=if(Bp f).any (Wg f)then false else true:=by
    show(true&&!((Bp f).any (Wg f)))=_;cases(Bp f).any (Wg f) <;> rfl
   rw[e];exact h2
  ·obtain⟨x,hx⟩:∃x,(Bp f)[i]? =some x:=⟨_,List.getElem?_eq_getElem hi⟩
   have hd:(Bp f).getD i default=x:=by rw[List.getD,hx];rfl
   unfold Fw;rw[Ce hx,w23 hi hl];simp only[hd];refine Ax (decide_eq_true (by omega)) (Af (Dt hi) (Af (by rw[Dt hi,Bool.or_true]) ?_));unfold Wg;cases hc:(decide (x < 0)||decide (x≥f.regs))with
   |true=>exact Ax rfl (Ae _)
   |false=>exact Aw rfl (Ae _)
  ·unfold Fw;exact Aw (decide_eq_false (by omega)) (Ae _)
theorem MO(cross:List Int)(r:Int)(leaf:Bool):(CP cross r leaf).length≤100:=by
 rw[Jh];split
 ·decide
 split
 ·decide
 ·decide
theorem V3{cross:List Int}{r:Int}{leaf:Bool}{z:Int}(h:z∈CP cross r leaf):z < 32∧z≠-1:=by
 have hall:∀y∈Xy++KM,y < 32∧y≠-1:=by decide
 rw[Jh]at h;refine hall z ?_;split at h
 ·exact List.mem_append_left _ h
 split at h
 ·exact List.mem_append_right _ h
 ·exact h
def UK(f:Func)(p:Plan)(r:Int):Bool:=if decide (ixD p.at_ r≥32)then(!p.leaf)&&(decide ((IntKind.i64.wrap ((ixD p.at_ r) - 32)) < p.slots))else(CP (CU f) r p.leaf).contains (ixD p.at_ r)
theorem V6{f:Func}(c:FineF f){p:Plan}{r:Int}(hr:BN p.at_ r=true):(Hz f p r).to (UK f p r):=by
 unfold Hz UK;refine Af hr ?_;cases h:decide (ixD p.at_ r≥32)with
 |true=>
  rw[if_pos rfl];exact Ax rfl (Ae _)
 |false=>
  rw[if_neg (by simp)];exact Aw rfl (Ag (Af (Cn.2 c) (Ae _)) (Ag (TG (by have:=MO (CU f) r p.leaf;omega)) (Ae _)))
def Ah3(f:Func)(p:Plan)(k:Nat):Bool:=(!(Bp f).contains (k:Int)&&(ixD p.at_ (k:Int) != -1))||((Bp f).contains (k:Int)&&!UK f p (k:Int))
theorem Yp{f:Func}(c:FineF f){p:Plan}(hl:(Bp f).length≤10000000)(hr:(p.at_.length:Int)=f.regs)(hp:p.at_.length≤10000000):(M.loop (Eb f p (Bp f)) 0).to (if(List.range p.at_.length).any (Ah3 f p)then .inr false else .inl ()):=by
 refine JZ (fun k hk=>?_) ?_
 ·have hin:=Dt (l:=p.at_) hk;have hc:=TG hl (n:=(k:Int));unfold Eb;rw[w23 hk hp];refine Ax (decide_eq_true (by omega)) (Ag hc (Af (by rw[hin,Bool.or_true]) ?_));unfold Ah3;cases h1:(Bp f).contains (k:Int)with
  |true=>
   rw[h1]at hc;refine Ag (BC rfl hc) (Ag (BC rfl (V6 c hin)) ?_);cases h2:UK f p (k:Int)with
   |true=>exact Aw rfl (Ae _)
   |false=>exact Ax rfl (Ae _)
  |false=>
   rw[h1]at hc;cases h3:(ixD p.at_ (k:Int) != -1)with
   |true=>exact Ag (M.whn_f rfl) (Ag (M.whn_f rfl) (Ax rfl (Ae _)))
   |false=>exact Ag (BC rfl hc) (Ag (M.whn_f rfl) (Aw rfl (Ae _)))
 ·unfold Eb;exact Aw (decide_eq_false (by omega)) (Ae _)
theorem VJ{p:Plan}(hp:p.at_.length≤10000000)(h0:0≤p.slots)(hs:p.slots≤10000000):(M.loop (Ea p) 0).to (if(List.range p.slots.toNat).any (fun s=>!p.at_.contains (32+(s:Int)))then .inr false else .inl ()):=by
 refine JZ (fun k hk=>?_) ?_
 ·have hc:=TG hp (n:=32+(k:Int));have hw:IntKind.i64.wrap (32+(k:Int))=32+(k:Int):=IntWalk.i64_in _ (by omega);unfold Ea;rw[w23 hk (by omega),hw];refine Ax (decide_eq_true (by omega)) (Ag hc ?_);cases p.at_.contains (32+(k:Int))with
  |true=>exact Aw rfl (Ae _)
  |false=>exact Ax rfl (Ae _)
 ·unfold Ea;exact Aw (decide_eq_false (by omega)) (Ae _)
def Ke(f:Func)(p:Plan)(i k:Nat):Bool:=(ixD p.at_ ((Bp f).getD i 0) ==ixD p.at_ ((Bp f).getD k 0))&&GC f ((Bp f).getD i 0) ((Bp f).getD k 0)
theorem Ae9{ρ σ:Type}{step:Int→M (Int⊕(Unit⊕(σ⊕(Unit⊕ρ))))}{p:Nat→Bool}{v:Unit⊕(σ⊕(Unit⊕ρ))}{n:Nat}
 (h:∀k,k < n→(step (k:Int)).to (if p k then .inr v else .inl ((k+1:Nat):Int))) (ho:(step (n:Int)).to (.inr (.inl ()))):(M.loop step 0).to (if(List.range n).any p then v else .inl ()):=by
 have key:∀(d k:Nat),k+d=n→(M.loop step (k:Int)).to (if(List.range' k d).any p then v else .inl ()):=by
  intro d;induction d with
  |zero=>
   intro k hk;have:k=n:=by omega
   subst this;exact M.loop_out ho
  |succ d ih=>
   intro k hk;have hs:=h k (by omega);rw[List.range'_succ,List.any_cons];by_cases hp:p k=true
   ·rw[hp]at hs⊢;exact M.loop_out hs
   ·have hp:p k=false:=by simpa using hp
    rw[hp]at hs⊢;rw[Bool.false_or];exact M.loop_in hs (ih (k+1) (by omega))
 have:=key n 0 (by omega);rwa [←List.range_eq_range']at this
theorem WQ{f:Func}(c:FineF f){p:Plan}(hl:(Bp f).length≤10000000)(hin:∀r∈Bp f,BN p.at_ r=true):(M.loop (D9 f p (Bp f) (Jq f)) 0).to (if(List.range (Bp f).length).any (fun i=>(List.range i).any (Ke f p i))then .inr false else .inl ()):=by
 refine JZ (fun i hi=>?_) ?_
 ·obtain⟨x,hx⟩:∃x,(Bp f)[i]? =some x:=⟨_,List.getElem?_eq_getElem hi⟩
  have hdx:(Bp f).getD i 0=x:=by rw[List.getD_eq_getElem?_getD,hx];rfl
  have hix:=hin x (List.mem_of_getElem? hx);have hinner:(M.loop (D8 f p (Bp f) (Jq f) (i:Int)) 0).to (if(List.range i).any (Ke f p i)then .inr (.inr (.inr false))else .inl ()):=by
   refine Ae9 (fun k hk=>?_) ?_
   ·obtain⟨y,hy⟩:∃y,(Bp f)[k]? =some y:=⟨_,List.getElem?_eq_getElem (by omega)⟩
    have hdy:(Bp f).getD k 0=y:=by rw[List.getD_eq_getElem?_getD,hy];rfl
    have hiy:=hin y (List.mem_of_getElem? hy);unfold D8 Ke;rw[Ce hx,Ce hy,w23 hk (by omega),hdx,hdy];refine Ax (decide_eq_true (by omega)) (Af (Dt hi) (Af hix (Af (Dt (by omega)) (Af hiy (Af (by rw[Dt hi,Bool.or_true]) (Af (by rw[Dt (l:=Bp f) (k:=k) (by omega),Bool.or_true]) ?_))))));cases h1:(ixD p.at_ x ==ixD p.at_ y)with
    |true=>
     refine Ag (BC rfl (YD c x y)) ?_;cases GC f x y with
     |true=>exact Ax rfl (Ae _)
     |false=>exact Aw rfl (Ae _)
    |false=>exact Ag (M.whn_f rfl) (Aw rfl (Ae _))
   ·unfold D8;exact Aw (decide_eq_false (by omega)) (Ae _)
  unfold D9;rw[w23 hi hl];refine Ax (decide_eq_true (by omega)) ?_;cases h:(List.range i).any (Ke f p i)with
  |true=>
   rw[h]at hinner;exact M.els_r hinner
  |false=>
   rw[h]at hinner;exact M.els_l hinner (Ae _)
 ·unfold D9;exact Aw (decide_eq_false (by omega)) (Ae _)
def Rd(f:Func)(p:Plan):Bool:=((((!TC f)||((p.at_.length:Int) !=f.regs))||decide (p.slots < 0))||decide (p.slots > f.regs))
theorem XI{p:Plan}{z:Int}:F9 p p.at_.length z=true↔z∈p.at_∧I6 p z=true:=by
 unfold F9;rw[List.take_length,List.contains_iff_mem,List.mem_filter]
theorem Ms{p:Plan}{z:Int}(hz:Ht z):I6 p z=true↔32≤z∧z < 32+p.slots:=by
 have hw:wfI .i64 z:=hz;simp[wfI,Lit.wf,IntKind.min,IntKind.max,IntKind.signed,IntKind.bits]at hw;unfold I6;simp only[Bool.and_eq_true,decide_eq_true_eq];constructor
 ·rintro⟨h1,h2⟩;rw[IntWalk.i64_in _ (by omega)]at h2;omega
 ·rintro⟨h1,h2⟩;refine⟨h1,?_⟩;rw[IntWalk.i64_in _ (by omega)];omega
def O5(p:Plan):List Int:=(List.range p.slots.toNat).map fun(s:Nat)=>32+(s:Int)
theorem Mr{p:Plan}{z:Int}(h0:0≤p.slots):z∈O5 p↔32≤z∧z < 32+p.slots:=by
 unfold O5;rw[List.mem_map];constructor
 ·rintro⟨s,hs,rfl⟩;have:=List.mem_range.1 hs;omega
 ·rintro⟨h1,h2⟩;exact⟨(z - 32).toNat,List.mem_range.2 (by omega),by omega⟩
theorem SY(p:Plan):(O5 p).Nodup:=by
 unfold O5;exact List.pairwise_map.2 (List.Pairwise.imp (fun h e=>h (by omega)) List.nodup_range)
theorem Mk{p:Plan}(hw:∀x∈p.at_,Ht x){z:Int}:z∈(Cv p.at_).filter (F9 p p.at_.length)↔z∈p.at_∧32≤z∧z < 32+p.slots:=by
 rw[List.mem_filter,XI,(Eq _).2 z];constructor
 ·rintro⟨h1,_,h3⟩;exact⟨h1,(Ms (hw z h1)).1 h3⟩
 ·rintro⟨h1,h2⟩;exact⟨h1,h1,(Ms (hw z h1)).2 h2⟩
theorem Mj(p:Plan):((Cv p.at_).filter (F9 p p.at_.length)).Nodup:=(List.Pairwise.imp (fun h=>by omega) (Eq p.at_).1:(Cv p.at_).Nodup).filter _
theorem Akr:∀(A B:List Int),A.Nodup→(∀a∈A,a∈B)→B.length≤A.length→∀b∈B,b∈A
 | [],B,_,_,hl,b,hb=>by
  have:B= []:=List.eq_nil_of_length_eq_zero (by simpa using hl);subst this;cases hb
 |a::A,B,hn,hs,hl,b,hb=>by
  rw[List.nodup_cons]at hn;have haB:=hs a (by simp);have hle:=List.length_erase_of_mem haB;have hpos:0 < B.length:=List.length_pos_of_mem haB;by_cases hba:b=a
  ·simp[hba]
  ·have:=Akr A (B.erase a) hn.2 (fun x hx=>(List.mem_erase_of_ne (fun e=>hn.1 (by rw[←e];exact hx))).2 (hs x (by simp[hx]))) (by rw[hle];simp only[List.length_cons]at hl;omega) b ((List.mem_erase_of_ne hba).2 hb);simp[this]
theorem Acz{p:Plan}(hw:∀x∈p.at_,Ht x)(h0:0≤p.slots):((cardC p:Int) ==p.slots)= !((List.range p.slots.toNat).any fun s=>!p.at_.contains (32+(s:Int))):=by
 have hl:(O5 p).length=p.slots.toNat:=by simp[O5]
 have hsub:∀z∈(Cv p.at_).filter (F9 p p.at_.length),z∈O5 p:=fun z hz=>(Mr h0).2 ((Mk hw).1 hz).2
 rw[Bool.eq_iff_iff];simp only[beq_iff_eq,Bool.not_eq_true',List.any_eq_false,List.mem_range,Bool.not_eq_true,Bool.not_eq_false',List.contains_iff_mem];constructor
 ·intro h s hs;have hc:(O5 p).length≤((Cv p.at_).filter (F9 p p.at_.length)).length:=by
   show _≤cardC p;omega
  have:=Akr _ _ (Mj p) hsub hc (32+(s:Int)) ((Mr h0).2 (by omega));simpa using((Mk hw).1 this).1
 ·intro h;have h1:=L6 (Mj p) hsub;have h2:=L6 (SY p) (m:=(Cv p.at_).filter (F9 p p.at_.length)) fun z hz=>by
   have hz:=(Mr h0).1 hz;refine(Mk hw).2 ⟨?_,hz⟩;have:=h (z - 32).toNat (by omega);have e:32+(((z - 32).toNat:Nat):Int)=z:=by omega
   rw[e]at this;simpa using this
  have:cardC p=(O5 p).length:=Nat.le_antisymm h1 h2;omega
theorem Ad7{f:Func}{p:Plan}(hw:∀x∈p.at_,Ht x)(hleaf:p.leaf=true→p.slots=0){k:Nat}(hk:k < p.at_.length):atC f p k (p.at_.getD k 0)= !Ah3 f p k:=by
 obtain⟨x,hx⟩:∃x,p.at_[k]? =some x:=⟨_,List.getElem?_eq_getElem hk⟩
 have hd:p.at_.getD k 0=x:=by rw[List.getD_eq_getElem?_getD,hx];rfl
 have hwx:=hw x (List.mem_of_getElem? hx);unfold atC Ah3;rw[hd,Ce hx];cases hc:(Bp f).contains (k:Int)with
 |false=>
  rw[if_neg (by simp)];cases hb:(x == -1) <;> simp[bne,hb]
 |true=>
  rw[if_pos rfl];have hmem:=List.contains_iff_mem.1 hc;have hcnt:=R8 (Hx f) hmem;have hcl:(DM f p.leaf (Bp f)).getD ((Bp f).countP (· < (k:Int))) []=CP (CU f) k p.leaf:=by
   rw[List.getD_eq_getElem?_getD];unfold DM;rw[List.getElem?_map,hcnt];rfl
  rw[hcl];unfold UK;rw[Ce hx];by_cases h32:x≥32
  ·rw[if_pos (decide_eq_true h32)];have hn:(CP (CU f) k p.leaf).contains x=false:=by
    cases h:(CP (CU f) k p.leaf).contains x with
    |false=>rfl
    |true=>have:=(V3 (List.contains_iff_mem.1 h)).1;omega
   rw[hn];unfold I6;rw[decide_eq_true h32];cases hlf:p.leaf with
   |false=>simp
   |true=>
    have hs:=hleaf hlf;have:I6 p x=false:=by
     cases h:I6 p x with
     |false=>rfl
     |true=>have:=(Ms hwx).1 h;omega
    unfold I6 at this;rw[decide_eq_true h32]at this;simpa using this
  ·rw[if_neg (by rw[decide_eq_false h32];simp)];unfold I6;rw[decide_eq_false h32];simp
theorem Fa{f:Func}{r:Int}(h:r∈AT f):r∈Bp f:=MA.2 (List.mem_append_right _ (((Fb f).2 r).1 h))
theorem Ka{f:Func}{x:Pair}:x∈GH f↔x.a∈AT f∧x.b∈AT f∧x.a < x.b∧GC f x.a x.b=true:=by
 rw[←WD,List.mem_filter,Er (Fb f).1];constructor
 ·rintro⟨⟨h1,h2,h3⟩,h4⟩;exact⟨h1,h2,h3,h4⟩
 ·rintro⟨h1,h2,h3,h4⟩;exact⟨⟨h1,h2,h3⟩,h4⟩
theorem ZP{f:Func}(c:FineF f){p:Plan}:((GH f).any (Od p))=(List.range (Bp f).length).any fun i=>(List.range i).any (Ke f p i):=by
 have hasc:=Hx f;unfold Asc at hasc;rw[List.pairwise_iff_getElem]at hasc;rw[Bool.eq_iff_iff,List.any_eq_true,List.any_eq_true];constructor
 ·rintro⟨x,hx,hs⟩;obtain⟨h1,h2,h3,h4⟩:=Ka.1 hx;obtain⟨k,hk⟩:=List.mem_iff_getElem?.1 (Fa h1);obtain⟨i,hi⟩:=List.mem_iff_getElem?.1 (Fa h2);obtain⟨hkl,ek⟩:=List.getElem?_eq_some_iff.1 hk;obtain⟨hil,ei⟩:=List.getElem?_eq_some_iff.1 hi;have hki:k < i:=by
   rcases Nat.lt_or_ge k i with h|h
   ·exact h
   ·rcases Nat.eq_or_lt_of_le h with h|h
    ·subst h;omega
    ·have:=hasc i k hil hkl h;omega
  refine⟨i,List.mem_range.2 hil,List.any_eq_true.2 ⟨k,List.mem_range.2 hki,?_⟩⟩;unfold Ke;rw[List.getD_eq_getElem?_getD,List.getD_eq_getElem?_getD,hk,hi];show((ixD p.at_ x.b ==ixD p.at_ x.a)&&GC f x.b x.a)=true;rw[MQ,h4,Bool.and_true];unfold Od at hs;rw[eq_of_beq hs];exact beq_self_eq_true _
 ·rintro⟨i,hi,h⟩;obtain⟨k,hk,h⟩:=List.any_eq_true.1 h;have hil:=List.mem_range.1 hi;have hki:=List.mem_range.1 hk;have hkl:k < (Bp f).length:=by omega
  have hlt:=hasc k i hkl hil hki;unfold Ke at h;rw[List.getD_eq_getElem?_getD,List.getD_eq_getElem?_getD,List.getElem?_eq_getElem hil,List.getElem?_eq_getElem hkl,Bool.and_eq_true]at h;obtain⟨h1,h2⟩:=h;have h2:GC f (Bp f)[k] (Bp f)[i]=true:=by rw[MQ];exact h2
  have he:Ib f ⟨(Bp f)[k],(Bp f)[i]⟩=true:=by rw[←Q6 hlt];exact h2
  have hm:=(RL c.all).mem ⟨(Bp f)[k],(Bp f)[i]⟩ he;refine⟨⟨(Bp f)[k],(Bp f)[i]⟩,Ka.2 ⟨hm.1,hm.2.1,hlt,h2⟩,?_⟩;unfold Od;have h1:(ixD p.at_ (Bp f)[i] ==ixD p.at_ (Bp f)[k])=true:=h1;rw[eq_of_beq h1];exact beq_self_eq_true _
theorem Ri{f:Func}(h:TC f=true){r:Int}(hr:r∈Bp f):0≤r∧r < f.regs:=by
 unfold TC at h;rw[Bool.and_eq_true,Bool.not_eq_true',Bool.not_eq_true',List.any_eq_false]at h;have:=h.2 r hr;simp at this;omega
theorem Oi{f:Func}{p:Plan}(c:FineF f)(hbk:CX.bulk f≤2097152)(hw:∀x∈p.at_,Ht x)(hp:p.at_.length≤10000000)(hl:(Bp f).length≤10000000):(CE f p).to (Df f p):=by
 have hf:=Cn.2 c;have hM:=Ab1 c hl;have hLf:(Pp f).to (leaf f.blocks):=Af (by rw[hf,decide_eq_true hbk];rfl) (Ae _);have hcard:cardC p≤p.at_.length:=Nat.le_trans (List.length_filter_le _ _) (Dl _);unfold CE;refine Ag hM ?_;cases ho:Rd f p with
 |true=>
  have e:Df f p=false:=by
   unfold Rd at ho;rw[Bool.or_eq_true]at ho;rcases ho with ho|ho
   ·have:Rc f p=true:=by unfold Rc;rw[ho];rfl
    unfold Df;rw[this];rfl
   ·have hs:=of_decide_eq_true ho;cases h0:Rc f p with
    |true=>unfold Df;rw[h0];rfl
    |false=>
     have h1:=h0;unfold Rc at h1;simp only[Bool.or_eq_false_iff]at h1;have hlen:(p.at_.length:Int)=f.regs:=by simpa using h1.1.1.2
     have:((cardC p:Int) ==p.slots)=false:=by
      cases h:((cardC p:Int) ==p.slots)with
      |false=>rfl
      |true=>have:=eq_of_beq h;omega
     unfold Df;rw[this];simp
  rw[e];unfold Rd at ho;exact Ag (M.whn_f (by rw[ho];rfl)) (Ax (by rw[ho];rfl) (Ae _))
 |false=>
  have ho':=ho;unfold Rd at ho';simp only[Bool.or_eq_false_iff,decide_eq_false_iff_not]at ho';obtain⟨⟨⟨g1,g2⟩,g3⟩,g4⟩:=ho';have hmay:TC f=true:=by simpa using g1
  have hlen:(p.at_.length:Int)=f.regs:=by simpa using g2
  have hin:∀r∈Bp f,BN p.at_ r=true:=fun r hr=>by
   have:=Ri hmay hr;exact Ee.2 ⟨this.1,by omega⟩
  unfold Rd at ho;refine Ag (a:=bif p.leaf then leaf f.blocks else false) ?_ ?_
  ·rw[ho];cases p.leaf
   ·exact M.whn_f rfl
   ·exact BC rfl hLf
  rw[ho,Bool.false_or];cases hq:(p.leaf&&((!bif p.leaf then leaf f.blocks else false)||(p.slots !=0)))with
  |true=>
   have e:Df f p=false:=by
    have:Rc f p=true:=by
     rw[Bool.and_eq_true]at hq;obtain⟨q1,q2⟩:=hq;rw[q1,cond_true,Bool.or_eq_true]at q2;unfold Rc;rw[q1,Bool.true_and];rcases q2 with q2|q2
     ·rw[q2];simp
     ·have:decide (p.slots > 0)=true:=decide_eq_true (by simp at q2;omega);rw[this];simp
    unfold Df;rw[this];rfl
   rw[e];exact Ax rfl (Ae _)
  |false=>
   have h0:Rc f p=false:=by
    unfold Rc;rw[hmay];have e1:((p.at_.length:Int) !=f.regs)=false:=g2;rw[e1,decide_eq_false g3];cases hlf:p.leaf with
    |false=>rfl
    |true=>
     rw[hlf,Bool.true_and,Bool.or_eq_false_iff,cond_true]at hq;rw[hq.1];have:p.slots=0:=by simpa using hq.2
     rw[this];rfl
   have hleaf:p.leaf=true→p.slots=0:=fun hlf=>by
    rw[hlf,Bool.true_and,Bool.or_eq_false_iff]at hq;simpa using hq.2
   refine Aw rfl (Ag (Af hf (Ae _)) (Ag (Af hf (Ae _)) ?_));have e:Df f p=(!((List.range p.at_.length).any (Ah3 f p))&&(!((List.range p.slots.toNat).any fun s=>!p.at_.contains (32+(s:Int)))&&!((List.range (Bp f).length).any fun i=>(List.range i).any (Ke f p i)))):=by
    unfold Df;rw[h0,Acz hw (by omega),ZP c];have:((List.range p.at_.length).all fun j=>atC f p j (p.at_.getD j 0))= !((List.range p.at_.length).any (Ah3 f p)):=by
     rw[List.not_any_eq_all_not];rw[Bool.eq_iff_iff,List.all_eq_true,List.all_eq_true];constructor
     ·intro h j hj;rw[←Ad7 hw hleaf (List.mem_range.1 hj)];exact h j hj
     ·intro h j hj;rw[Ad7 hw hleaf (List.mem_range.1 hj)];exact h j hj
    rw[this];rfl
   rw[e];have l1:=Yp c hl hlen hp;have l2:=VJ hp (p:=p) (by omega) (by omega);have l3:=WQ c (p:=p) hl hin;cases b1:(List.range p.at_.length).any (Ah3 f p)with
   |true=>rw[b1]at l1;exact M.els_r l1
   |false=>
    rw[b1]at l1;refine M.els_l l1 ?_;cases b2:(List.range p.slots.toNat).any fun s=>!p.at_.contains (32+(s:Int))with
    |true=>rw[b2]at l2;exact M.els_r l2
    |false=>
     rw[b2]at l2;refine M.els_l l2 ?_;cases b3:(List.range (Bp f).length).any fun i=>(List.range i).any (Ke f p i)with
     |true=>rw[b3]at l3;exact M.els_r l3
     |false=>
      rw[b3]at l3;exact M.els_l l3 (Ae _)
theorem Adq{n b:Nat}(hn:n≤2000000000)(hb:b≤1000):Gn n b=true:=by
 unfold Gn;simp only[Bool.and_eq_true,decide_eq_true_eq];unfold maxLen;have:n * b≤2000000000 * 1000:=Nat.mul_le_mul hn hb;omega
theorem XR:∀{l:List Nat} {n:Nat},n∈l→n≤l.sum
 | [],_,h=>by cases h
 |m::l,n,h=>by
  rw[List.sum_cons];rcases List.mem_cons.1 h with rfl|h
  ·omega
  ·have:=XR h;omega
theorem M9{f:Func}(h:Ef f=false){b:Block}(hb:b∈f.blocks):b.ins.length≤250:=by
 unfold Ef at h;rw[Bool.or_eq_false_iff]at h;have h1:=h.1;unfold H9 at h1;rw[Bool.or_eq_false_iff,decide_eq_false_iff_not,decide_eq_false_iff_not]at h1;have ht:f.blocks.take 60=f.blocks:=List.take_of_length_le (by omega);have h2:=h1.2;unfold sumB at h2;rw[ht]at h2;have:=XR (List.mem_map.2 ⟨b,hb,rfl⟩:b.ins.length+Qr b.ins 200∈f.blocks.map fun bl=>bl.ins.length+Qr bl.ins 200);omega
theorem LA{f:Func}(h:Ef f=false):f.blocks.length≤40:=by
 unfold Ef at h;rw[Bool.or_eq_false_iff]at h;have h1:=h.1;unfold H9 at h1;rw[Bool.or_eq_false_iff,decide_eq_false_iff_not,decide_eq_false_iff_not]at h1;omega
structure Go23(f:Func)(p:Plan):Prop where
 c:FineF f
 g:Ef f=false
 wf:∀x∈p.at_,Ht x
 may:TC f=true
 len:(p.at_.length:Int)=f.regs
theorem Go23.pt{f:Func}{p:Plan}(H:Go23 f p){r:Int}(h:BN p.at_ r=true):wfB .i64 (ixD p.at_ r)=true:=H.wf _ (List.mem_of_getElem? (Jl h))
theorem Go23.reg{f:Func}{p:Plan}(H:Go23 f p){r:Int}(h:r∈Bp f):BN p.at_ r=true:=by
 have:=Ri H.may h;have:=H.len;exact Ee.2 ⟨by omega,by omega⟩
theorem Go23.at{f:Func}{p:Plan}(H:Go23 f p){b:Block}(hb:b∈f.blocks){k:Nat}{x:Ins}(hx:b.ins[k]? =some x):At23 p x (k:Int):=by
 have hm:=List.mem_of_getElem? hx;have hkl:=(List.getElem?_eq_some_iff.1 hx).1;have hlen:=M9 H.g hb;have hall:∀r∈BW x,r∈Bp f:=fun r hr=>MA.2 (List.mem_append_right _ (List.mem_flatMap.2 ⟨b,hb,List.mem_flatMap.2 ⟨x,hm,hr⟩⟩))
 refine⟨(H.c.ok.blocks b hb).ins x hm,by have:=(H.c.small.all b hb).all x hm;omega,?_,fun r hr=>H.reg (hall r (List.mem_append_left _ hr)),fun hw=>H.reg (hall _ (List.mem_append_right _ (by rw[hw];simp))),fun r hr=>H.pt hr⟩;unfold wfB;simp[Lit.wf,IntKind.min,IntKind.max,IntKind.signed,IntKind.bits];omega
noncomputable def F3(p:Plan)(l:List Ins)(k:Nat):List ACell:=((List.range k).map fun(i:Nat)=>JG p (ixD l (i:Int)) (i:Int)).flatten
theorem FE(p:Plan){l:List Ins}{k:Nat}{x:Ins}(hx:l[k]? =some x):F3 p l (k+1)=F3 p l k++JG p x (k:Int):=by
 unfold F3;rw[List.range_succ,List.map_append,List.flatten_append];simp[Ce hx]
theorem GJ{f:Func}{p:Plan}(H:Go23 f p){b:Block}(hb:b∈f.blocks):∀k,k≤b.ins.length→(F3 p b.ins k).length≤4200000 * k∧∀c∈F3 p b.ins k,Xz c
 |0,_=>by simp[F3]
 |k+1,hk=>by
  obtain⟨x,hx⟩:∃x,b.ins[k]? =some x:=⟨_,List.getElem?_eq_getElem (by omega)⟩
  have ih:=GJ H hb k (by omega);have hf:=(H.at hb hx).few;have hs:=N6 (p:=p) (i:=(k:Int)) hf;rw[FE p hx];refine⟨by rw[List.length_append];omega,fun c hc=>?_⟩;rcases List.mem_append.1 hc with hc|hc
  ·exact ih.2 c hc
  ·exact hs.1 c hc
theorem Vf{f:Func}{p:Plan}(H:Go23 f p){j:Nat}{b:Block}(hj:f.blocks[j]? =some b):(M.loop (C6 f p (j:Int)) (0,([]:List ACell))).to (F3 p b.ins b.ins.length)∧(M.loop (Dm f p (j:Int)) (0,([]:List ACell))).to (F3 p b.ins b.ins.length):=by
 have hb:=List.mem_of_getElem? hj;have hjl:=(List.getElem?_eq_some_iff.1 hj).1;have hlen:=M9 H.g hb;constructor
 ·refine Bz (fun k:Nat=>((k:Int),F3 p b.ins k)) b.ins.length (fun k hk=>?_) ?_ (Nat.zero_le _)
  ·obtain⟨x,hx⟩:∃x,b.ins[k]? =some x:=⟨_,List.getElem?_eq_getElem hk⟩
   have hs:=(O4 (H.at hb hx)).1;have hn:=GJ H hb (k+1) (by omega);rw[FE p hx,List.length_append]at hn;simp only[C6,Ce hj,Ce hx];rw[w23 hk (by omega),FE p hx];exact Ax (decide_eq_true (by omega)) (Af (Dt hk) (Ag hs (Af (Adq (by omega) (by omega)) (Ae _))))
  ·simp only[C6,Ce hj];exact Aw (decide_eq_false (by omega)) (Ae _)
 ·refine Bz (fun k:Nat=>((k:Int),F3 p b.ins k)) b.ins.length (fun k hk=>?_) ?_ (Nat.zero_le _)
  ·obtain⟨x,hx⟩:∃x,b.ins[k]? =some x:=⟨_,List.getElem?_eq_getElem hk⟩
   have hs:=(O4 (H.at hb hx)).2;have hn:=GJ H hb (k+1) (by omega);rw[FE p hx,List.length_append]at hn;simp only[Dm,Ce hj,Ce hx];rw[w23 hk (by omega),FE p hx];exact Af (Dt hjl) (Ax (decide_eq_true (by omega)) (Af (Dt hjl) (Af (Dt hk) (Ag hs (Af (Adq (by omega) (by omega)) (Ae _))))))
  ·simp only[Dm,Ce hj];exact Af (Dt hjl) (Aw (decide_eq_false (by omega)) (Ae _))
noncomputable def FG(f:Func)(p:Plan)(k:Nat):List ABlock:=(f.blocks.take k).map fun b=>⟨F3 p b.ins b.ins.length⟩
theorem LE(p:Plan){f:Func}{k:Nat}{b:Block}(hb:f.blocks[k]? =some b):FG f p (k+1)=FG f p k++[⟨F3 p b.ins b.ins.length⟩]:=by
 unfold FG;rw[List.take_add_one,hb,List.map_append];rfl
theorem Jo(f:Func)(p:Plan)(k:Nat):(FG f p k).length≤f.blocks.length:=by
 unfold FG;rw[List.length_map,List.length_take];omega
theorem ZT{f:Func}{p:Plan}(H:Go23 f p):(M.loop (C7 f p) (0,([]:List ABlock))).to (FG f p f.blocks.length)∧(M.loop (Dn f p) (0,([]:List ABlock))).to (FG f p f.blocks.length):=by
 have hg:=LA H.g;constructor
 ·refine Bz (fun k:Nat=>((k:Int),FG f p k)) f.blocks.length (fun k hk=>?_) ?_ (Nat.zero_le _)
  ·obtain⟨b,hb⟩:∃b,f.blocks[k]? =some b:=⟨_,List.getElem?_eq_getElem hk⟩
   have hl:=Jo f p k;simp only[C7];rw[w23 hk (by omega),LE p hb];exact Ax (decide_eq_true (by omega)) (Af (Dt hk) (Ag (Vf H hb).1 (Af rfl (Af (D6 (by simp;omega) (by omega)) (Ae _)))))
  ·simp only[C7];exact Aw (decide_eq_false (by omega)) (Ae _)
 ·refine Bz (fun k:Nat=>((k:Int),FG f p k)) f.blocks.length (fun k hk=>?_) ?_ (Nat.zero_le _)
  ·obtain⟨b,hb⟩:∃b,f.blocks[k]? =some b:=⟨_,List.getElem?_eq_getElem hk⟩
   have hl:=Jo f p k;simp only[Dn];rw[w23 hk (by omega),LE p hb];exact Ax (decide_eq_true (by omega)) (Ag (Vf H hb).2 (Af rfl (Af (D6 (by simp;omega) (by omega)) (Ae _))))
  ·simp only[Dn];exact Aw (decide_eq_false (by omega)) (Ae _)
def Ad5(p:Plan)(r:Int):Pair:=⟨ixD p.at_ r,ownM p+r⟩
theorem Wz(f:Func):Asc (BE f):=by
 unfold BE;split
 ·exact List.Pairwise.nil
 ·unfold BX;rw[List.getElem?_map,List.getElem?_range (by omega)];exact(Mz f).filter _
theorem Go23.first{f:Func}{p:Plan}(H:Go23 f p){r:Int}(hr:r∈BE f):0≤r∧BN p.at_ r=true:=⟨(Ri H.may (Fa (J9 f r hr))).1,H.reg (Fa (J9 f r hr))⟩
theorem Go23.args{f:Func}{p:Plan}(H:Go23 f p):0≤f.args∧f.args≤6:=by
 have h:=H.may;unfold TC Agn at h;simp only[Bool.and_eq_true,Bool.not_eq_true',Bool.or_eq_false_iff,decide_eq_false_iff_not]at h;have h1:=h.1.1.2;have h2:=h.1.2;split at h2 <;> omega
theorem Pt(p:Plan){r:Int}(h0:0≤r)(h1:r < 6):IntKind.i64.wrap (ownM p+r)=ownM p+r∧wfB .i64 (ownM p+r)=true:=by
 have:ownM p=8∨ownM p=24:=by unfold ownM;cases p.leaf <;> simp
 refine⟨IntWalk.i64_in _ (by omega),?_⟩;unfold wfB;simp[Lit.wf,IntKind.min,IntKind.max,IntKind.signed,IntKind.bits];omega
theorem Z1{l:List Int}(h:Asc l)(r:Int):l.filter (fun y=>decide (y < r+1))=l.filter (fun y=>decide (y < r))++l.filter (fun y=>y ==r):=by
 induction l with
 |nil=>rfl
 |cons y l ih=>
  unfold Asc at h;rw[List.pairwise_cons]at h;have ih:=ih h.2;by_cases h1:y < r
  ·rw[List.filter_cons_of_pos (by simp;omega),List.filter_cons_of_pos (by simpa using h1),List.filter_cons_of_neg (by simp;omega),ih];rfl
  ·have hz:l.filter (fun z=>decide (z < r))= []:=by
    rw[List.filter_eq_nil_iff];intro z hz;have:=h.1 z hz;simp;omega
   by_cases h2:y=r
   ·subst h2;rw[List.filter_cons_of_pos (by simp;omega),List.filter_cons_of_neg (by simp),List.filter_cons_of_pos (by simp),ih,hz];rfl
   ·rw[List.filter_cons_of_neg (by simp;omega),List.filter_cons_of_neg (by simpa using h1),List.filter_cons_of_neg (by simpa using h2),ih]
def KW(f:Func)(p:Plan)(r:Int):List Pair:=((BE f).filter fun y=>decide (y < r)).map (Ad5 p)
theorem PP(f:Func)(p:Plan)(r:Int):(KW f p r).length≤(BE f).length:=by
 unfold KW;rw[List.length_map];exact List.length_filter_le _ _
theorem Ml{l:List Int}{k:Nat}{x:Int}(hx:l[k]? =some x)(q:Int→Bool)(g:Int→Pair):((l.take (k+1)).filter q).map g=((l.take k).filter q).map g++(if q x then [g x]else []):=by
 rw[List.take_add_one,hx,List.filter_append,List.map_append];cases h:q x <;> simp[h]
theorem J8{f:Func}{p:Plan}(H:Go23 f p):(BE f).length≤2097152:=OC H.c
theorem Aco{f:Func}{p:Plan}(H:Go23 f p)(h0:0 < f.blocks.length):(M.loop (C8 f p (inF f)) (0,([]:List Pair))).to (KW f p f.args):=by
 have hat:(inF f)[0]? =some (BE f):=by rw[Zp (by omega)];exact Ai3 h0
 have hix:ixD (inF f) 0=BE f:=Ce (k:=0) hat;have hfew:=J8 H;have hend:KW f p f.args=(((BE f).take (BE f).length).filter fun y=>decide (y < f.args)).map (Ad5 p):=by rw[List.take_length];rfl
 rw[hend];refine Bz (fun k:Nat=>((k:Int),(((BE f).take k).filter fun y=>decide (y < f.args)).map (Ad5 p))) (BE f).length (fun k hk=>?_) ?_ (Nat.zero_le _)
 ·obtain⟨x,hx⟩:∃x,(BE f)[k]? =some x:=⟨_,List.getElem?_eq_getElem hk⟩
  have hin:=H.first (List.mem_of_getElem? hx);have hl:((((BE f).take k).filter fun y=>decide (y < f.args)).map (Ad5 p)).length≤(BE f).length:=by
   rw[List.length_map];refine Nat.le_trans (List.length_filter_le _ _) ?_;rw[List.length_take];omega
  simp only[C8];rw[hix,Ce hx,w23 hk (by omega),Ml hx];refine Ax (decide_eq_true (by omega)) (Ag ?_ (Ae _));refine Af (Dt hk) ?_;cases hq:decide (x < f.args)with
  |true=>
   have hxa:=of_decide_eq_true hq;have hw:=Pt p hin.1 (by have:=H.args;omega);rw[if_pos rfl];refine Ax rfl (Af hin.2 (Ag (YF p) ?_));rw[hw.1];exact Af (Ae6 (H.pt hin.2) hw.2) (Af (D6 (by simp only[List.length_cons,List.length_nil];omega) (by omega)) (Ae _))
  |false=>
   rw[if_neg (by simp),List.append_nil];exact Aw rfl (Ae _)
 ·simp only[C8];rw[hix];exact Aw (decide_eq_false (by omega)) (Ae _)
theorem Acc{f:Func}{p:Plan}(H:Go23 f p)(h0:0 < f.blocks.length){r:Nat}(hr:(r:Int) < f.args):(M.loop (Do p (Jq f) (r:Int)) (0,KW f p (r:Int))).to (KW f p ((r+1:Nat):Int)):=by
 have ha:(Jq f)[0]? =some (BX f 0):=by unfold Jq;rw[List.getElem?_map,List.getElem?_range h0];rfl
 have hb:=Ng h0;have i1:BN (Jq f) 0=true:=Dt (k:=0) (List.getElem?_eq_some_iff.1 ha).1;have e1:ixD (Jq f) 0=BX f 0:=Ce (k:=0) ha;have i2:BN (BX f 0) 0=true:=Dt (k:=0) (List.getElem?_eq_some_iff.1 hb).1;have e2:ixD (BX f 0) 0=BE f:=Ce (k:=0) hb;have hfew:=J8 H;have hargs:=H.args;have hel:=PP f p (r:Int);have hst:((0:Int),KW f p (r:Int))=(((0:Nat):Int),KW f p (r:Int)++(((BE f).take 0).filter fun y=>y ==(r:Int)).map (Ad5 p)):=by simp
 have hend:KW f p ((r+1:Nat):Int)=KW f p (r:Int)++(((BE f).take (BE f).length).filter fun y=>y ==(r:Int)).map (Ad5 p):=by
  rw[List.take_length];unfold KW;rw[show((r+1:Nat):Int)=(r:Int)+1 by omega,Z1 (Wz f),List.map_append]
 rw[hst,hend];refine Bz (fun k:Nat=>((k:Int),KW f p (r:Int)++(((BE f).take k).filter fun y=>y ==(r:Int)).map (Ad5 p))) (BE f).length (fun k hk=>?_) ?_ (Nat.zero_le _)
 ·obtain⟨x,hx⟩:∃x,(BE f)[k]? =some x:=⟨_,List.getElem?_eq_getElem hk⟩
  have hin:=H.first (List.mem_of_getElem? hx);have hl:((((BE f).take k).filter fun y=>y ==(r:Int)).map (Ad5 p)).length≤(BE f).length:=by
   rw[List.length_map];refine Nat.le_trans (List.length_filter_le _ _) ?_;rw[List.length_take];omega
  simp only[Do];rw[e1,e2,Ce hx,w23 hk (by omega),Ml hx,←List.append_assoc];refine Af i1 (Af i2 (Ax (decide_eq_true (by omega)) (Ag ?_ (Ae _))));refine Af i1 (Af i2 (Af (Dt hk) ?_));cases hq:(x ==(r:Int))with
  |true=>
   have hxr:=eq_of_beq hq;subst hxr;have hw:=Pt p hin.1 (by omega);rw[if_pos rfl];refine Ax rfl (Af hin.2 (Ag (UO p) ?_));rw[hw.1];exact Af (Ae6 (H.pt hin.2) hw.2) (Af (D6 (by simp only[List.length_append,List.length_cons,List.length_nil];omega) (by omega)) (Ae _))
  |false=>
   rw[if_neg (by simp),List.append_nil];exact Aw rfl (Ae _)
 ·simp only[Do];rw[e1,e2];exact Af i1 (Af i2 (Aw (decide_eq_false (by omega)) (Ae _)))
theorem Ai8{f:Func}{p:Plan}(H:Go23 f p):KW f p 0= []:=by
 unfold KW;rw[List.map_eq_nil_iff,List.filter_eq_nil_iff];intro y hy;have:=(H.first hy).1;simp;omega
theorem RI{f:Func}{p:Plan}(h0:f.blocks.length=0)(r:Int):KW f p r= []:=by
 unfold KW BE;rw[if_pos h0];rfl
theorem WA{f:Func}{p:Plan}(H:Go23 f p):(M.loop (CO f p (Jq f)) (0,([]:List Pair))).to (KW f p f.args):=by
 have hargs:=H.args;have hal:(Jq f).length=f.blocks.length:=by simp[Jq]
 rcases Nat.eq_zero_or_pos f.blocks.length with h0|h0
 ·rw[RI h0];refine M.loop_out ?_;simp only[CO];refine Aw ?_ (Ae _);rw[hal,h0];simp
 ·have hst:((0:Int),([]:List Pair))=(((0:Nat):Int),KW f p ((0:Nat):Int)):=by rw[show((0:Nat):Int)=0 from rfl,Ai8 H]
  have hend:KW f p f.args=KW f p ((f.args.toNat:Nat):Int):=by rw[Int.toNat_of_nonneg hargs.1]
  rw[hst,hend];refine Bz (fun k:Nat=>((k:Int),KW f p (k:Int))) f.args.toNat (fun k hk=>?_) ?_ (Nat.zero_le _)
  ·simp only[CO];rw[w23 hk (by omega)];refine Ax ?_ (Ag (Acc H h0 (by omega)) (Ae _));rw[hal,Bool.and_eq_true];exact⟨decide_eq_true (by omega),decide_eq_true (by omega)⟩
  ·simp only[CO];refine Aw ?_ (Ae _);rw[decide_eq_false (by omega)];rfl
theorem Zt{f:Func}{p:Plan}(H:Go23 f p):∀y∈KW f p f.args,okPair y:=fun y hy=>by
 obtain⟨r,hr,rfl⟩:=List.mem_map.1 hy;obtain⟨hr,hl⟩:=List.mem_filter.1 hr;have hl:=of_decide_eq_true hl;have hin:=H.first hr;have:=H.args;exact DC (Ae6 (H.pt hin.2) (Pt p hin.1 (by omega)).2)
noncomputable def Ah8(f:Func)(p:Plan):AFunc:=⟨p.leaf,p.slots,Wm (KW f p f.args),FG f p f.blocks.length⟩
theorem KF{f:Func}(h:Ef f=false):(Bp f).length≤126:=by
 have h1:(AT f).length≤60:=by
  unfold Ef at h;rw[Bool.or_eq_false_iff]at h;have:=of_decide_eq_false h.2;omega
 rw[←MC];unfold Jc;have h2:=(List.takeWhile_sublist (fun r:Int=>decide (r < 0)) (l:=AT f)).length_le;have h3:=UV f 6;have h4:=List.length_filter_le (fun r:Int=>decide (r > 5)) (AT f);simp only[List.length_append];omega
theorem UE{f:Func}{p:Plan}(c:FineF f)(hbk:CX.bulk f≤2097152)(g:Ef f=false)(hp:okPlan p)(hw:∀x∈p.at_,Ht x)(hl:p.at_.length≤10000000):(Dv f p).to (Df f p):=by
 have hr:=KF g;have he:(GH f).length≤2147483648:=by
  have h1:(AT f).length≤60:=by
   have h:=g;unfold Ef at h;rw[Bool.or_eq_false_iff,decide_eq_false_iff_not]at h;omega
  refine Nat.le_trans (List.length_filter_le _ _) (Nat.le_trans (Ji _) ?_);have:(AT f).length *(AT f).length≤60 * 60:=Nat.mul_le_mul h1 h1;omega
 refine Af ?_ (Ae _);simp only[Bool.and_eq_true,Bool.or_eq_true,Bool.not_eq_true',List.all_eq_true,decide_eq_true_eq];refine⟨⟨⟨⟨⟨⟨⟨⟨Cn.2 c,hbk⟩,?_⟩,fun x hx=>hw x hx⟩,by omega⟩,by omega⟩,fun q hq=>?_⟩,he⟩,?_⟩
 ·exact hp.slots
 ·obtain⟨r,_,rfl⟩:=List.mem_map.1 hq;have:=MO (CU f) r p.leaf;omega
 ·cases hm:TC f with
  |false=>exact .inl rfl
  |true=>exact .inr fun x hx=>⟨Ri hm (Fa (Ka.1 hx).1),Ri hm (Fa (Ka.1 hx).2.1)⟩
theorem Oj{f:Func}{p:Plan}(H:Go23 f p)(h1:(Dv f p).to true)(h2:(CE f p).to true):(CV f p).to (Ah8 f p,0)∧(Fv f p).to (Ah8 f p,0):=by
 have hfew:=J8 H;have hel:=PP f p f.args;have hmv:=Pz (l:=KW f p f.args) (by omega) (Zt H);have hce:=K0 (l:=KW f p f.args) (by omega) (Zt H);have hb:=ZT H;have hf:=Cn.2 H.c;constructor
 ·refine Ag h1 (Aw rfl (Ag (a:=KW f p f.args) ?_ (Ag hmv (Ag hb.1 (Ae _)))));rcases Nat.eq_zero_or_pos f.blocks.length with h0|h0
  ·rw[RI h0];exact Aw (by rw[h0];rfl) (Ae _)
  ·exact Ax (decide_eq_true (by omega)) (Ag (Af hf (Ae _)) (Af (Dt (k:=0) (by rw[Afg];exact h0)) (Ag (Aco H h0) (Ae _))))
 ·exact Ag h2 (Aw rfl (Ag (Af hf (Ae _)) (Ag (WA H) (Ag hce (Ag hb.2 (Ae _))))))
theorem SU{f:Func}{p:Plan}(H:Go23 f p)(h1:(Dv f p).to true)(h2:(CE f p).to true)(b i:Int):∃l e,(GL f p b i).to (l,e)∧(Hy f p b i).to (l,e)∧(∀c∈l,Xz c)∧l.length≤5000000:=by
 unfold GL Hy;cases hc:(((decide (b < 0))||(decide (b≥(f.blocks.length:Int))))||(decide (i < 0)))with
 |true=>
  refine⟨[],7,?_,?_,by simp,by simp⟩
  ·exact Ag h1 (Aw rfl (Af rfl (Ax rfl (Ae _))))
  ·exact Ag h2 (Aw rfl (Af rfl (Ax rfl (Ae _))))
 |false=>
  simp only[Bool.or_eq_false_iff,decide_eq_false_iff_not]at hc;obtain⟨⟨g1,g2⟩,g3⟩:=hc;have hbl:b.toNat < f.blocks.length:=by omega
  obtain⟨bl,hb⟩:∃bl,f.blocks[b.toNat]? =some bl:=⟨_,List.getElem?_eq_getElem hbl⟩
  have eb:b=((b.toNat:Nat):Int):=by omega
  have hix:ixD f.blocks b=bl:=by rw[eb];exact Ce hb
  have hin:BN f.blocks b=true:=Ee.2 ⟨by omega,hbl⟩;cases hd:decide (i≥(bl.ins.length:Int))with
  |true=>
   refine⟨[],7,?_,?_,by simp,by simp⟩
   ·exact Ag h1 (Aw rfl (Af (by rw[hin];rfl) (Ax (by rw[hix,hd];rfl) (Ae _))))
   ·exact Ag h2 (Aw rfl (Af (by rw[hin];rfl) (Ax (by rw[hix,hd];rfl) (Ae _))))
  |false=>
   have hi:=of_decide_eq_false hd;have hil:i.toNat < bl.ins.length:=by omega
   obtain⟨x,hx⟩:∃x,bl.ins[i.toNat]? =some x:=⟨_,List.getElem?_eq_getElem hil⟩
   have ei:i=((i.toNat:Nat):Int):=by omega
   have hxi:ixD bl.ins i=x:=by rw[ei];exact Ce hx
   have hini:BN bl.ins i=true:=Ee.2 ⟨by omega,hil⟩;have hA:=H.at (List.mem_of_getElem? hb) hx;rw[←ei]at hA;have hs:=O4 hA;have hfw:=N6 (p:=p) (i:=i) hA.few;have hff:=hA.few;refine⟨JG p x i,0,?_,?_,hfw.1,by omega⟩
   ·refine Ag h1 (Aw rfl (Af (by rw[hin];rfl) (Aw (by rw[hix,hd];rfl) (Af hin ?_))));rw[hix,hxi];exact Af hini (Ag hs.1 (Ae _))
   ·refine Ag h2 (Aw rfl (Af (by rw[hin];rfl) (Aw (by rw[hix,hd];rfl) (Af hin ?_))));rw[hix,hxi];exact Af hini (Ag hs.2 (Ae _))
theorem Akw{k n:Nat}(hk:k < n)(hn:n≤2000000000):IntKind.i64.wrap ((k:Int)+1)=((k+1:Nat):Int):=by
 rw[IntWalk.i64_in _ (by omega)];omega
theorem FR{l:List ACell}(hf:∀c∈l,Xz c)(hl:l.length≤2000000000):(CD l l).to true:=by
 unfold CD;refine Aw (by simp) ?_;have h:=JZ (step:=C4 l l) (p:=fun _=>false) (v:=false) (n:=l.length) (fun k hk=>?_) ?_
 ·have h2:=WB (d:=true) h;rw[show((List.range l.length).any fun _=>false)=false by simp]at h2;exact h2
 ·obtain⟨c,hc⟩:∃c,l[k]? =some c:=⟨_,List.getElem?_eq_getElem hk⟩
  have hfc:c.args.length≤2097152:=hf c (List.mem_of_getElem? hc);have hs:(FT c.args c.args).to true:=Ag (a:=true) (Af (decide_eq_true hfc) (Ac.2 (by simp))) (Ae _);unfold C4;rw[Ce hc,Akw hk hl];refine Ax (decide_eq_true (by omega)) (Af (Dt hk) (Af (Dt hk) (Ag (BC (by simp) hs) (Aw (by simp) (Ae _)))))
 ·unfold C4;exact Aw (decide_eq_false (by omega)) (Ae _)
theorem QE{a:AFunc}(hE:(∀c∈a.entry,Xz c)∧a.entry.length≤2000000000)(hB:∀b∈a.blocks,(∀c∈b.cells,Xz c)∧b.cells.length≤2000000000)(hl:a.blocks.length≤1000):(E3 a a).to true:=by
 unfold E3;refine Ag (BC (by simp) (FR hE.1 hE.2)) (Aw (by simp) ?_);have h:=JZ (step:=Fs a a) (p:=fun _=>false) (v:=false) (n:=a.blocks.length) (fun k hk=>?_) ?_
 ·have h2:=WB (d:=true) h;rw[show((List.range a.blocks.length).any fun _=>false)=false by simp]at h2;exact h2
 ·obtain⟨b,hb⟩:∃b,a.blocks[k]? =some b:=⟨_,List.getElem?_eq_getElem hk⟩
  have hbb:=hB b (List.mem_of_getElem? hb);unfold Fs;rw[Ce hb,w23 hk (by omega)];exact Ax (decide_eq_true (by omega)) (Af (Dt hk) (Af (Dt hk) (Ag (FR hbb.1 hbb.2) (Aw rfl (Ae _)))))
 ·unfold Fs;exact Aw (decide_eq_false (by omega)) (Ae _)
def f23:Func:=⟨⟨#[]⟩,2,3,[⟨⟨#[]⟩,[⟨1,2,0,1,0,0,[],0,0⟩,⟨10,0,2,0,0,0,[],0,0⟩]⟩]⟩
def p23(n:Int):Plan:=⟨false,n,[32,25,24]⟩
theorem YN{l r:List Pair}(hl:l.length≤60)(hok:l.all BA=true)(h:(Gz l).to r):(Dw l).to r:=by
 obtain⟨n,h1,h2,h3⟩:=GD l;have e:=Js (Lp (by omega) (fun x hx=>DC (List.all_eq_true.1 hok x hx)) h1 (by omega)) h;subst e;exact Af (by rw[hok,Bool.and_true];exact decide_eq_true (by omega)) (Ae _)
theorem PM:FineF f23:=Cn.1 (by decide+kernel)
theorem Ve:CX.bulk f23≤2097152:=by decide+kernel
theorem Na:Ef f23=false:=by decide+kernel
theorem XH(n:Int):∀x∈(p23 n).at_,Ht x:=fun x hx=>by
 simp only[p23,List.mem_cons,List.not_mem_nil,or_false]at hx;rcases hx with rfl|rfl|rfl <;> rfl
theorem Og(n:Int)(b:Bool)(h:(CE f23 (p23 n)).to b):Df f23 (p23 n)=b:=Js (Oi PM Ve (XH n) (Nat.le_of_ble_eq_true rfl) (by have:=KF Na;omega)) h
theorem QM{n:Int}{b:Bool}(hn:okPlan (p23 n))(h:(CE f23 (p23 n)).to b):(Dv f23 (p23 n)).to b:=by
 have:=UE PM Ve Na hn (XH n) (Nat.le_of_ble_eq_true rfl);rwa [Og n b h]at this
theorem UF:It f23=M.ok [0,1,2]:=by
 unfold It;rw[←MC,show Nh f23=true by decide+kernel,show Jc f23= [0,1,2]by decide+kernel];rfl
theorem Aeo:(CE f23 (p23 1)).to true:=by
 refine⟨60,?_⟩;unfold CE Jf;rw[UF]
 kernel_rfl
theorem Aep:(CE f23 (p23 0)).to false:=by
 refine⟨60,?_⟩;unfold CE Jf;rw[UF]
 kernel_rfl
theorem Ah7:(CV f23 (p23 1)).to (⟨false,1,[⟨0,(-1),32,24,(-1),[]⟩],[⟨[⟨0,(-1),1,32,(-1),[]⟩,⟨1,0,24,1,25,[]⟩,⟨1,1,(-1),24,(-1),[]⟩]⟩]⟩,0):=by
 have h2:=Aeo;have h1:=QM (n:=1) (KK (by decide+kernel)) h2;have hC:=Og 1 true h2;have h0:Rc f23 (p23 1)=false:=by
  unfold Df at hC;simp only[Bool.and_eq_true,Bool.not_eq_true']at hC;exact hC.1.1
 unfold Rc at h0;simp only[Bool.or_eq_false_iff]at h0;have H:Go23 f23 (p23 1):=⟨PM,Na,XH 1,by simpa using h0.1.1.1,by simpa using h0.1.1.2⟩
 have hw:=Oj H h1 h2;have hr:(Fv f23 (p23 1)).to (⟨false,1,[⟨0,(-1),32,24,(-1),[]⟩],[⟨[⟨0,(-1),1,32,(-1),[]⟩,⟨1,0,24,1,25,[]⟩,⟨1,1,(-1),24,(-1),[]⟩]⟩]⟩,0):=Ag h2 ⟨60,by kernel_rfl⟩;rw[←Js hw.2 hr];exact hw.1
theorem Aif:(CV f23 (p23 0)).to (⟨false,0,[],[]⟩,2):=Ag (QM (b:=false) (KK (by decide+kernel)) Aep) (Ax rfl (Ae _))
theorem M7:Fd.to true:=by
 have o1:=YN (l:=[⟨8,9⟩,⟨9,8⟩]) (r:=[⟨3,8⟩,⟨8,9⟩,⟨9,3⟩]) (by decide) (by decide+kernel) ⟨60,by kernel_rfl⟩;have o2:=YN (l:=[⟨8,16⟩,⟨9,8⟩,⟨10,10⟩]) (r:=[⟨9,8⟩,⟨8,16⟩]) (by decide) (by decide+kernel) ⟨60,by kernel_rfl⟩;have o3:=YN (l:=[⟨24,25⟩,⟨25,26⟩,⟨26,24⟩,⟨27,24⟩]) (r:=[⟨27,24⟩,⟨3,24⟩,⟨24,25⟩,⟨25,26⟩,⟨26,3⟩]) (by decide) (by decide+kernel) ⟨60,by kernel_rfl⟩;have s1:(D1 [⟨3,8⟩,⟨8,9⟩,⟨9,3⟩] [⟨3,8⟩,⟨8,9⟩,⟨9,3⟩]).to true:=⟨60,by kernel_rfl⟩
 have s2:(D1 [⟨9,8⟩,⟨8,16⟩] [⟨9,8⟩,⟨8,16⟩]).to true:=⟨60,by kernel_rfl⟩
 have s3:(D1 [⟨27,24⟩,⟨3,24⟩,⟨24,25⟩,⟨25,26⟩,⟨26,3⟩] [⟨27,24⟩,⟨3,24⟩,⟨24,25⟩,⟨25,26⟩,⟨26,3⟩]).to true:=⟨60,by kernel_rfl⟩
 have s4:(E3 ⟨false,1,[⟨0,(-1),32,24,(-1),[]⟩],[⟨[⟨0,(-1),1,32,(-1),[]⟩,⟨1,0,24,1,25,[]⟩,⟨1,1,(-1),24,(-1),[]⟩]⟩]⟩ ⟨false,1,[⟨0,(-1),32,24,(-1),[]⟩],[⟨[⟨0,(-1),1,32,(-1),[]⟩,⟨1,0,24,1,25,[]⟩,⟨1,1,(-1),24,(-1),[]⟩]⟩]⟩).to true:=⟨60,by kernel_rfl⟩
 unfold Fd;repeat(refine Af (by decide+kernel) ?_)
 refine Ag Ah7 ?_;repeat(refine Af (by decide+kernel) ?_)
 refine Ag Aif ?_;repeat(refine Af (by decide+kernel) ?_)
 refine Ag o1 ?_;repeat(refine Af (by decide+kernel) ?_)
 refine Ag s1 ?_;repeat(refine Af (by decide+kernel) ?_)
 refine Ag (BC rfl o2) ?_;repeat(refine Af (by decide+kernel) ?_)
 refine Ag (BC rfl s2) ?_;repeat(refine Af (by decide+kernel) ?_)
 refine Ag (BC rfl o3) ?_;repeat(refine Af (by decide+kernel) ?_)
 refine Ag (BC rfl s3) ?_;refine Ag (BC rfl s4) ?_;exact Ae _
theorem Nn{f:Func}{p:Plan}(c:FineF f)(hbk:CX.bulk f≤2097152)(hp:okPlan p)(hw:∀x∈p.at_,Ht x)(t:Int×Int):(Dh f p t).to true:=by
 unfold Dh;refine Ag (Af (Cn.2 c) (Ae (Ef f))) ?_;cases hg:(Ef f||decide ((p.at_.length:Int) > 300))with
 |true=>exact Ax rfl (Ag M7 (Ae _))
 |false=>
  rw[Bool.or_eq_false_iff,decide_eq_false_iff_not]at hg;obtain⟨g,hl⟩:=hg;have hr:=KF g;have h1:=UE c hbk g hp hw (by omega);have h2:=Oi c hbk hw (by omega) (by omega);refine Aw rfl ?_;cases hR:Df f p with
  |false=>
   rw[hR]at h1 h2;have s1:(E3 ⟨false,0,[],[]⟩ ⟨false,0,[],[]⟩).to true:=QE (a:=⟨false,0,[],[]⟩) (by simp) (by simp) (by simp);have s2:(CD [] []).to true:=FR (by simp) (by simp);refine Ag (Ag h1 (Ax rfl (Ae _))) (Ag (Ag h2 (Ax rfl (Ae _))) (Ag (Ag h1 (Ax rfl (Ae _))) (Ag (Ag h2 (Ax rfl (Ae _))) (Ag s1 (Ag (BC rfl s2) (Ag (BC rfl M7) ?_))))));exact Ae _
  |true=>
   rw[hR]at h1 h2;have h0:Rc f p=false:=by
    unfold Df at hR;simp only[Bool.and_eq_true,Bool.not_eq_true']at hR;exact hR.1.1
   unfold Rc at h0;simp only[Bool.or_eq_false_iff]at h0;have H:Go23 f p:=⟨c,g,hw,by simpa using h0.1.1.1,by simpa using h0.1.1.2⟩
   have hrw:=Oj H h1 h2;obtain⟨l,e,k1,k2,k3,k4⟩:=SU H h1 h2 t.1 t.2;have hfew:=J8 H;have hel:=PP f p f.args;have hml:=JX (KW f p f.args);have hbl:=Jo f p f.blocks.length;have hgb:=LA g;have s1:(E3 (Ah8 f p) (Ah8 f p)).to true:=QE (a:=Ah8 f p) ⟨Py _,by show(Wm _).length≤_;omega⟩ (fun b hb=>by
    obtain⟨b0,hb0,rfl⟩:=List.mem_map.1 (show b∈(f.blocks.take f.blocks.length).map fun b=>(⟨F3 p b.ins b.ins.length⟩:ABlock)from hb);rw[List.take_length]at hb0;have:=GJ H hb0 b0.ins.length (Nat.le_refl _);have:=M9 g hb0;exact⟨(GJ H hb0 b0.ins.length (Nat.le_refl _)).2,by show(F3 p b0.ins b0.ins.length).length≤_;omega⟩) (by show(FG _ _ _).length≤_;omega)
   have s2:=FR k3 (by omega);refine Ag hrw.1 (Ag hrw.2 (Ag k1 (Ag k2 (Ag s1 (Ag (BC rfl s2) (Ag (a:=true) (BC (by simp) M7) ?_))))));simp only[Bool.true_and,beq_self_eq_true,Bool.and_self];exact Ae _
theorem No(f:Func)(p:Plan)(t:Int×Int)(ho:okFunc f)(hbk:CX.bulk f≤2097152)(hp:okPlan p)(hw:∀x∈p.at_,Ht x):Fn Tryz.prog 3 [.agg (Aq f),.agg (AM p),.agg [.lit (.int .i64 t.1),.lit (.int .i64 t.2)]] (.lit (.bool true)):=IG (Nn (Zq ho hbk) hbk hp hw t)
end Mu
end
section
namespace Mu
open Go Go.RowKit Go.ChangeShapes Go.WideShapes Go.Proofs
theorem Ab7:laidOutB Tryz.prog=true:=by kernel_rfl
mutual
theorem ZR{H:Type}:∀d:DataW H,EN d≤YtebigcfcmpogpaaGreat.Rows.uptoBulk d
 | .lit (.string _)=>Nat.le_refl _
 | .lit (.bool _)=>Nat.le_refl _
 | .lit (.int _ _)=>Nat.le_refl _
 | .lit (.float _ _)=>Nat.le_refl _
 | .lit .nil=>Nat.le_refl _
 | .nil=>Nat.le_refl _
 | .ptr d=>by show 1≤YtebigcfcmpogpaaGreat.Rows.uptoBulk d+1;omega
 | .slice e s=>by
  have h1:=Mb e;have h2:=Mb s;show EN.go e+EN.go s+1≤YtebigcfcmpogpaaGreat.Rows.uptoBulkAll e+YtebigcfcmpogpaaGreat.Rows.uptoBulkAll s+1;omega
 | .agg p=>by
  have h1:=Mb p;show EN.go p+1≤YtebigcfcmpogpaaGreat.Rows.uptoBulkAll p+1;omega
 | .iface _ d=>by show 1≤YtebigcfcmpogpaaGreat.Rows.uptoBulk d+1;omega
 | .map m=>by show 1≤YtebigcfcmpogpaaGreat.Rows.uptoBulkEntries m+1;omega
 | .held _=>Nat.le_refl _
theorem Mb{H:Type}:∀l:List (DataW H),EN.go l≤YtebigcfcmpogpaaGreat.Rows.uptoBulkAll l
 | []=>Nat.le_refl _
 |d::r=>by
  have h1:=ZR d;have h2:=Mb r;show EN d+EN.go r≤YtebigcfcmpogpaaGreat.Rows.uptoBulk d+YtebigcfcmpogpaaGreat.Rows.uptoBulkAll r;omega
end
theorem MU{α:Type}{t:TypeId}{T:Ty α}{H:Type}{enc:TypeId×Value→H}{W:World}{v:Value}{d:DataW H}{p:List MemPlace}(ho:Opens Tryz.prog t T)(hs:1 < T.size)
 (h:DataW.Trod enc Tryz.prog W 0 (fun _=>true) true t v d p) (hp:∀x∈p,x.block < W.heap.size):
 ∃cs x,v= .agg cs.toArray∧T.R W W.heap.size cs x∧T.bulk x≤YtebigcfcmpogpaaGreat.Rows.uptoBulk d:=by
 obtain⟨fuel,hf⟩:=h;obtain⟨x,hR,hb⟩:=ho.go H enc W 0 _ true fuel _ (d,p) W.heap.size hf hp;have hl:=T.len hR;refine⟨v.cells.toList,x,?_,hR,Nat.le_trans hb (ZR d)⟩;cases v <;> first
  |(simp[Value.cells]at hl;omega)
  |simp[Value.cells]
theorem Aeh{t:TypeId}{H:Type}{enc:TypeId×Value→H}{W W':World}{v:Value}{d:DataW H}{p:List MemPlace}(hr:Tryz.prog.readableRec t=true)(ht:t < Tryz.prog.types.size)
 (h:DataW.Trod enc Tryz.prog W 0 (fun _=>true) true t v d p) (hb:Below W.heap.size W W') (hp:∀x∈p,x.block < W.heap.size):
 DataW.Trod enc Tryz.prog W' 0 (fun b=>decide (b < W.heap.size)) true t v d p:=Below.trod Ab7 hr ht h hb hp
end Mu
end
section
namespace Mu
open Go Go.RowKit Go.Proofs
theorem Abk{W:World}{S:Nat→Prop}{h:List ABlk}{ψ:Nat→Value}{cs:List Value}{p:Plan}(hR:KB.RS W S cs p):AV.rel W S h ψ (.agg (AM p)) (.agg cs.toArray):=by
 unfold AV.rel;exact⟨cs,rfl,EncOf.ok (T:=KB) W S h ψ cs p hR⟩
theorem Aey{W:World}{S:Nat→Prop}{cs:List Value}{p:Plan}(hR:KB.RS W S cs p):∀x∈p.at_,Ht x:=fun x hx=>by
 obtain⟨j,hj⟩:=List.mem_iff_getElem?.1 hx;obtain⟨s,rfl,_,hs⟩:=O2.1 hR;obtain⟨A,c,_,_,_,hi⟩:=hs;obtain⟨b,off,_,hat⟩:=hi j x hj;obtain⟨_,cs,hcs,_⟩:=hat;exact hcs.2
def Aj3:Ty (Int×Int):=((tInt.cons (tInt.cons C0)).via (fun d=>(d.1,d.2.1)) (fun d=>(d.1,d.2,())))
theorem V8:Opens Tryz.prog 28 Aj3:=by
 refine⟨fun H enc=>?_⟩;intro w base spare held n cs x B h hB;have hc:Tryz.prog.cellsOf 3=1:=by kernel_rfl
 have hc2:Tryz.prog.cellsOf 28=2:=by kernel_rfl
 obtain⟨ys,m,_,rfl,hlen,hyl,hf⟩:=DataW.trod_array Tryz.underlying28 h;rw[hc2]at hlen;obtain⟨a,b,rfl⟩:∃a b,cs= [a,b]:=by
  match cs,hlen with
  | [a,b],_=>exact⟨a,b,rfl⟩
 obtain⟨y0,y1,rfl⟩:∃y0 y1,ys= [y0,y1]:=by
  match ys,hyl with
  | [y0,y1],_=>exact⟨y0,y1,rfl⟩
 have f0:=hf 0 (by omega);have f1:=hf 1 (by omega);rw[hc]at f0 f1;obtain⟨d0,hd0,hb0⟩:=(Fz (P:=Tryz.prog) Tryz.underlying3).go H enc w base spare held m _ y0 B f0 (fun p hp=>hB p (by simp;exact .inl hp));obtain⟨d1,hd1,hb1⟩:=(Fz (P:=Tryz.prog) Tryz.underlying3).go H enc w base spare held m _ y1 B f1 (fun p hp=>hB p (by simp;exact .inr hp));refine⟨(d0,d1),⟨⟨[a],[b],rfl,hd0,[b],[],rfl,hd1,rfl⟩,rfl⟩,?_⟩;simp only[Aj3,Ty.via,Ty.cons,C0,EN,EN.go,List.map_cons,List.map_nil];have:tInt=Ty.int .i64:=rfl;rw[this];omega
theorem Aeq{W:World}{S:Nat→Prop}{h:List ABlk}{ψ:Nat→Value}{cs:List Value}{t:Int×Int}(hR:Aj3.RS W S cs t):AV.rel W S h ψ (.agg [.lit (.int .i64 t.1),.lit (.int .i64 t.2)]) (.agg cs.toArray):=by
 obtain⟨⟨c1,c2,rfl,⟨rfl,h1⟩,c3,c4,rfl,⟨rfl,h2⟩,rfl⟩,_⟩:=hR;unfold AV.rel;refine⟨_,rfl,?_⟩;simp[Ah,AV.rel]
end Mu
end
