/-
  Own texts laid together, part 4: MuBare, MuAnyF, MuBareL, MuShIns, MuShGr, MuShHead, MuShBlk, MuShTop, MuCheck, MuWordL, MuWord, MuWordO, MuWordD, MuRel, MuCloneF, MuCopied, MuNewA, MuNewB, MuNewC, MuStatP, MuGreatP, MuChkS, MuStartP, MuNew, MuBndP, MuRunP, MuCallsA, MuCallsB, MuGraphOf, MuBits, MuHas, MuRefCalls, MuReach, MuReachTop, MuReaches, MuRefReach, MuRefDepth, MuDepth, MuDepthTop, MuStandP, MuGreat, MuExample, MuDepthAny, MuLeaf, MuLeaf2, MuHead1, MuHead, MuStandL, MuPin, MuStackR, MuRegsR, MuMvP.
  Conditions: as each part says.
-/
import Derived.Test.YtlamjpneghjbgaaGreatSm3
import Derived.BigQuiet
import Derived.WalkSpells
import Derived.Deep.RegionLaw
import Derived.Deep.RegionHeld3
import Derived.Laws.AppendOwnNone
import Derived.BigRegion
import Derived.Maps.OwnSet
import Derived.StillTailTactics
set_option maxRecDepth 100000
set_option maxHeartbeats 4000000
set_option linter.unusedSimpArgs false
set_option linter.unusedVariables false
section
namespace Mu
open Go Go.RowKit Go.Proofs
section
variable{P:Program}{C:Ctx}{t t':List AV}{h h':List ABlk}{d:Option Nat}{sty ty:TypeId}{ps:String}{af:Array Go.Edge}{K:St→Prop}
theorem oW{x z:Operand}{i off n:Nat}{cells new r:List AV}{v:AV}[SZ P sty n][GA t x (.ptr i off)][HB h i (.box cells)][GA t z v][PT h v new][WR cells off new r][HS h i (.box r) h'][PA t d (.lit undef) t'](hk:K ⟨t',h'⟩)(hs:n=new.length:=by exact rfl):AOp P C ⟨d,.store sty x z,ty,ps,af,none⟩ ⟨t,h⟩ K:=
 Dt rfl GA.e HB.e (by rw[GA.e (t:=t) (x:=z) (r:=v)];exact PT.e) hs (WR.e (cells:=cells) (off:=off) (new:=new) (r:=r)).2 (by rw[(WR.e (cells:=cells) (off:=off) (new:=new) (r:=r)).1,HS.e (h:=h) (i:=i) (b:=.box r) (h':=h'),PA.e (t:=t) (d:=d) (r:=.lit undef) (t':=t')];exact hk)
end
theorem Akq:Cf Tryz.prog 40=some [(0,1),(1,1),(2,1),(3,1),(4,1),(5,1),(6,1),(7,1),(8,1)]:=by kernel_rfl
def Ta(op:Int)(l:List Int)(z:Int):Int:=bif l.contains op then z else 0
def Aqv(x:Ins):List AV:=[.lit (.int .u8 x.op),.lit (.int .i64 (Ta x.op [0,1,2,3,5] x.d)),.lit (.int .i64 (Ta x.op [1,2,3,4,6,9,10] x.a)),.lit (.int .i64 (Ta x.op [1,4] x.b)),.lit (.int .u32 (Ta x.op [0,1] x.n)),.lit (.int .i64 (Ta x.op [5] x.f)),.lit (.slice none 0 0),.lit (.int .i64 (Ta x.op [8,9] x.l1)),.lit (.int .i64 (Ta x.op [9] x.l2))]
theorem Af7{x:Ins}(h0:0≤x.op)(h1:x.op≤10):Fn Tryz.prog 198 [.agg (AL x)] (.agg (Aqv x)):=by
 obtain⟨op,d,a,b,n,f,args,l1,l2⟩:=x;have h0:0≤op:=h0;have h1:op≤10:=h1;have hop:op=0∨op=1∨op=2∨op=3∨op=4∨op=5∨op=6∨op=7∨op=8∨op=9∨op=10:=by omega
 refine FL Tryz.func198 rfl (by kernel_rfl) rfl (by kernel_rfl:OO Tryz.prog 40=some (true,9)) Tryz.ntmps198 fun C hC=>?_
 simp only[List.length_cons,List.length_nil,Nat.reduceAdd,Nat.reduceSub,List.replicate_succ,List.replicate_zero,List.cons_append,List.nil_append];refine wS (sB (sA0 (wN ?_)));refine wS (sT (sT (sH (B9 (rs:=[.lit (.int .u8 op),.lit (.int .i64 0),.lit (.int .i64 0),.lit (.int .i64 0),.lit (.int .u32 0),.lit (.int .i64 0),.lit (.slice none 0 0),.lit (.int .i64 0),.lit (.int .i64 0)]) rfl Akq rfl rfl) (sA0 (sW (wN ?_))))));refine Ac fun K3 h3=>?_
 refine wR ?_;refine Af ?_;refine Ac fun K5 h5=>?_
 refine Af ?_;refine Ac fun K6 h6=>?_
 refine Af ?_;refine Ac fun K7 h7=>?_
 refine Af ?_;refine Ac fun K8 h8=>?_
 refine Af ?_;refine Ac fun K9 h9=>?_
 refine Af ?_;refine Ac fun K10 h10=>?_
 refine Af ?_;refine Ac fun K11 h11=>?_
 refine Af ?_;refine Ac fun K12 h12=>?_
 refine Af ?_;refine Ac fun K13 h13=>?_
 refine Ac fun K14 h14=>?_
 refine wR ?_;refine Ae rfl (fun hb16=>?_) (fun hb16=>?_)
 ·refine Aq ?_;refine h12 _ ?_;refine nT ?_;refine wS (sT (sT (sT (sW (wN ?_)))));refine wSE (sT (sT (sT (sW (wN ?_)))));refine h11 _ ?_;refine nT ?_;refine wSE (sT (sT (sT (sW (wN ?_)))));refine h10 _ ?_;refine nT ?_;refine wS (sT (sT (sT (sW (wN ?_)))));refine Aq ?_;refine h3 _ ?_;refine nT ?_;refine wS (sT (sW (wN ?_)));rcases hop with rfl|rfl|rfl|rfl|rfl|rfl|rfl|rfl|rfl|rfl|rfl <;> first|(cases hb16;done)|(cases hb20;done)|(cases hb22;done)|(cases hb26;done)|(cases hb28;done)|(cases hb31;done)|(cases hb34;done)|(cases hb37;done)|(cases hb40;done)|(cases hb42;done)|(cases hb16b;done)|(cases hb20b;done)|(cases hb22b;done)|(cases hb26b;done)|(cases hb28b;done)|(cases hb31b;done)|(cases hb34b;done)|(cases hb37b;done)|(cases hb40b;done)|(cases hb42b;done)|(cases hb16c;done)|(cases hb20c;done)|(cases hb22c;done)|(cases hb26c;done)|(cases hb28c;done)|(cases hb31c;done)|(cases hb34c;done)|(cases hb37c;done)|(cases hb40c;done)|(cases hb42c;done)|(cases hb16d;done)|(cases hb20d;done)|(cases hb22d;done)|(cases hb26d;done)|(cases hb28d;done)|(cases hb31d;done)|(cases hb34d;done)|(cases hb37d;done)|(cases hb40d;done)|(cases hb42d;done)|(cases hb16e;done)|(cases hb20e;done)|(cases hb22e;done)|(cases hb26e;done)|(cases hb28e;done)|(cases hb31e;done)|(cases hb34e;done)|(cases hb37e;done)|(cases hb40e;done)|(cases hb42e;done)|(cases hb16f;done)|(cases hb20f;done)|(cases hb22f;done)|(cases hb26f;done)|(cases hb28f;done)|(cases hb31f;done)|(cases hb34f;done)|(cases hb37f;done)|(cases hb40f;done)|(cases hb42f;done)|(cases hb16g;done)|(cases hb20g;done)|(cases hb22g;done)|(cases hb26g;done)|(cases hb28g;done)|(cases hb31g;done)|(cases hb34g;done)|(cases hb37g;done)|(cases hb40g;done)|(cases hb42g;done)|(cases hb16h;done)|(cases hb20h;done)|(cases hb22h;done)|(cases hb26h;done)|(cases hb28h;done)|(cases hb31h;done)|(cases hb34h;done)|(cases hb37h;done)|(cases hb40h;done)|(cases hb42h;done)|exact Aj ⟨⟨.inr rfl,1,_,rfl,rfl,Fin.cl rfl⟩,fun i cells e1 e2=>by cases e1;cases e2;rfl⟩
 ·refine Ag ?_;refine h14 _ ?_;refine nT ?_;refine Ac fun K17 h17=>?_
  refine Ac fun K18 h18=>?_
  refine wR ?_;refine Ae rfl (fun hb20=>?_) (fun hb20=>?_)
  ·refine Ag ?_;refine h18 _ ?_;refine nT ?_;refine Ae rfl (fun hb22=>?_) (fun hb22=>?_)
   ·refine Aq ?_;refine h11 _ ?_;refine nT ?_;refine wSE (sT (sT (sT (sW (wN ?_)))));refine h10 _ ?_;refine nT ?_;refine wS (sT (sT (sT (sW (wN ?_)))));refine Aq ?_;refine h3 _ ?_;refine nT ?_;refine wS (sT (sW (wN ?_)));rcases hop with rfl|rfl|rfl|rfl|rfl|rfl|rfl|rfl|rfl|rfl|rfl <;> first|(cases hb16;done)|(cases hb20;done)|(cases hb22;done)|(cases hb26;done)|(cases hb28;done)|(cases hb31;done)|(cases hb34;done)|(cases hb37;done)|(cases hb40;done)|(cases hb42;done)|(cases hb16b;done)|(cases hb20b;done)|(cases hb22b;done)|(cases hb26b;done)|(cases hb28b;done)|(cases hb31b;done)|(cases hb34b;done)|(cases hb37b;done)|(cases hb40b;done)|(cases hb42b;done)|(cases hb16c;done)|(cases hb20c;done)|(cases hb22c;done)|(cases hb26c;done)|(cases hb28c;done)|(cases hb31c;done)|(cases hb34c;done)|(cases hb37c;done)|(cases hb40c;done)|(cases hb42c;done)|(cases hb16d;done)|(cases hb20d;done)|(cases hb22d;done)|(cases hb26d;done)|(cases hb28d;done)|(cases hb31d;done)|(cases hb34d;done)|(cases hb37d;done)|(cases hb40d;done)|(cases hb42d;done)|(cases hb16e;done)|(cases hb20e;done)|(cases hb22e;done)|(cases hb26e;done)|(cases hb28e;done)|(cases hb31e;done)|(cases hb34e;done)|(cases hb37e;done)|(cases hb40e;done)|(cases hb42e;done)|(cases hb16f;done)|(cases hb20f;done)|(cases hb22f;done)|(cases hb26f;done)|(cases hb28f;done)|(cases hb31f;done)|(cases hb34f;done)|(cases hb37f;done)|(cases hb40f;done)|(cases hb42f;done)|(cases hb16g;done)|(cases hb20g;done)|(cases hb22g;done)|(cases hb26g;done)|(cases hb28g;done)|(cases hb31g;done)|(cases hb34g;done)|(cases hb37g;done)|(cases hb40g;done)|(cases hb42g;done)|(cases hb16h;done)|(cases hb20h;done)|(cases hb22h;done)|(cases hb26h;done)|(cases hb28h;done)|(cases hb31h;done)|(cases hb34h;done)|(cases hb37h;done)|(cases hb40h;done)|(cases hb42h;done)|exact Aj ⟨⟨.inr rfl,1,_,rfl,rfl,Fin.cl rfl⟩,fun i cells e1 e2=>by cases e1;cases e2;rfl⟩
   ·exact absurd (hb20.symm.trans hb22) (by decide)
  ·refine wRE ?_;refine h18 _ ?_;refine nT ?_;refine Ae rfl (fun hb22b=>?_) (fun hb22b=>?_)
   ·refine Aq ?_;refine h11 _ ?_;refine nT ?_;refine wSE (sT (sT (sT (sW (wN ?_)))));refine h10 _ ?_;refine nT ?_;refine wS (sT (sT (sT (sW (wN ?_)))));refine Aq ?_;refine h3 _ ?_;refine nT ?_;refine wS (sT (sW (wN ?_)));rcases hop with rfl|rfl|rfl|rfl|rfl|rfl|rfl|rfl|rfl|rfl|rfl <;> first|(cases hb16;done)|(cases hb20;done)|(cases hb22;done)|(cases hb26;done)|(cases hb28;done)|(cases hb31;done)|(cases hb34;done)|(cases hb37;done)|(cases hb40;done)|(cases hb42;done)|(cases hb16b;done)|(cases hb20b;done)|(cases hb22b;done)|(cases hb26b;done)|(cases hb28b;done)|(cases hb31b;done)|(cases hb34b;done)|(cases hb37b;done)|(cases hb40b;done)|(cases hb42b;done)|(cases hb16c;done)|(cases hb20c;done)|(cases hb22c;done)|(cases hb26c;done)|(cases hb28c;done)|(cases hb31c;done)|(cases hb34c;done)|(cases hb37c;done)|(cases hb40c;done)|(cases hb42c;done)|(cases hb16d;done)|(cases hb20d;done)|(cases hb22d;done)|(cases hb26d;done)|(cases hb28d;done)|(cases hb31d;done)|(cases hb34d;done)|(cases hb37d;done)|(cases hb40d;done)|(cases hb42d;done)|(cases hb16e;done)|(cases hb20e;done)|(cases hb22e;done)|(cases hb26e;done)|(cases hb28e;done)|(cases hb31e;done)|(cases hb34e;done)|(cases hb37e;done)|(cases hb40e;done)|(cases hb42e;done)|(cases hb16f;done)|(cases hb20f;done)|(cases hb22f;done)|(cases hb26f;done)|(cases hb28f;done)|(cases hb31f;done)|(cases hb34f;done)|(cases hb37f;done)|(cases hb40f;done)|(cases hb42f;done)|(cases hb16g;done)|(cases hb20g;done)|(cases hb22g;done)|(cases hb26g;done)|(cases hb28g;done)|(cases hb31g;done)|(cases hb34g;done)|(cases hb37g;done)|(cases hb40g;done)|(cases hb42g;done)|(cases hb16h;done)|(cases hb20h;done)|(cases hb22h;done)|(cases hb26h;done)|(cases hb28h;done)|(cases hb31h;done)|(cases hb34h;done)|(cases hb37h;done)|(cases hb40h;done)|(cases hb42h;done)|exact Aj ⟨⟨.inr rfl,1,_,rfl,rfl,Fin.cl rfl⟩,fun i cells e1 e2=>by cases e1;cases e2;rfl⟩
   ·refine Ag ?_;refine h17 _ ?_;refine nT ?_;refine Ac fun K23 h23=>?_
    refine Ac fun K24 h24=>?_
    refine wR ?_;refine Ae rfl (fun hb26=>?_) (fun hb26=>?_)
    ·refine Ag ?_;refine h24 _ ?_;refine nT ?_;refine Ae rfl (fun hb28=>?_) (fun hb28=>?_)
     ·refine Aq ?_;refine h10 _ ?_;refine nT ?_;refine wS (sT (sT (sT (sW (wN ?_)))));refine Aq ?_;refine h3 _ ?_;refine nT ?_;refine wS (sT (sW (wN ?_)));rcases hop with rfl|rfl|rfl|rfl|rfl|rfl|rfl|rfl|rfl|rfl|rfl <;> first|(cases hb16;done)|(cases hb20;done)|(cases hb22;done)|(cases hb26;done)|(cases hb28;done)|(cases hb31;done)|(cases hb34;done)|(cases hb37;done)|(cases hb40;done)|(cases hb42;done)|(cases hb16b;done)|(cases hb20b;done)|(cases hb22b;done)|(cases hb26b;done)|(cases hb28b;done)|(cases hb31b;done)|(cases hb34b;done)|(cases hb37b;done)|(cases hb40b;done)|(cases hb42b;done)|(cases hb16c;done)|(cases hb20c;done)|(cases hb22c;done)|(cases hb26c;done)|(cases hb28c;done)|(cases hb31c;done)|(cases hb34c;done)|(cases hb37c;done)|(cases hb40c;done)|(cases hb42c;done)|(cases hb16d;done)|(cases hb20d;done)|(cases hb22d;done)|(cases hb26d;done)|(cases hb28d;done)|(cases hb31d;done)|(cases hb34d;done)|(cases hb37d;done)|(cases hb40d;done)|(cases hb42d;done)|(cases hb16e;done)|(cases hb20e;done)|(cases hb22e;done)|(cases hb26e;done)|(cases hb28e;done)|(cases hb31e;done)|(cases hb34e;done)|(cases hb37e;done)|(cases hb40e;done)|(cases hb42e;done)|(cases hb16f;done)|(cases hb20f;done)|(cases hb22f;done)|(cases hb26f;done)|(cases hb28f;done)|(cases hb31f;done)|(cases hb34f;done)|(cases hb37f;done)|(cases hb40f;done)|(cases hb42f;done)|(cases hb16g;done)|(cases hb20g;done)|(cases hb22g;done)|(cases hb26g;done)|(cases hb28g;done)|(cases hb31g;done)|(cases hb34g;done)|(cases hb37g;done)|(cases hb40g;done)|(cases hb42g;done)|(cases hb16h;done)|(cases hb20h;done)|(cases hb22h;done)|(cases hb26h;done)|(cases hb28h;done)|(cases hb31h;done)|(cases hb34h;done)|(cases hb37h;done)|(cases hb40h;done)|(cases hb42h;done)|exact Aj ⟨⟨.inr rfl,1,_,rfl,rfl,Fin.cl rfl⟩,fun i cells e1 e2=>by cases e1;cases e2;rfl⟩
     ·exact absurd (hb26.symm.trans hb28) (by decide)
    ·refine wRE ?_;refine h24 _ ?_;refine nT ?_;refine Ae rfl (fun hb28b=>?_) (fun hb28b=>?_)
     ·refine Aq ?_;refine h10 _ ?_;refine nT ?_;refine wS (sT (sT (sT (sW (wN ?_)))));refine Aq ?_;refine h3 _ ?_;refine nT ?_;refine wS (sT (sW (wN ?_)));rcases hop with rfl|rfl|rfl|rfl|rfl|rfl|rfl|rfl|rfl|rfl|rfl <;> first|(cases hb16;done)|(cases hb20;done)|(cases hb22;done)|(cases hb26;done)|(cases hb28;done)|(cases hb31;done)|(cases hb34;done)|(cases hb37;done)|(cases hb40;done)|(cases hb42;done)|(cases hb16b;done)|(cases hb20b;done)|(cases hb22b;done)|(cases hb26b;done)|(cases hb28b;done)|(cases hb31b;done)|(cases hb34b;done)|(cases hb37b;done)|(cases hb40b;done)|(cases hb42b;done)|(cases hb16c;done)|(cases hb20c;done)|(cases hb22c;done)|(cases hb26c;done)|(cases hb28c;done)|(cases hb31c;done)|(cases hb34c;done)|(cases hb37c;done)|(cases hb40c;done)|(cases hb42c;done)|(cases hb16d;done)|(cases hb20d;done)|(cases hb22d;done)|(cases hb26d;done)|(cases hb28d;done)|(cases hb31d;done)|(cases hb34d;done)|(cases hb37d;done)|(cases hb40d;done)|(cases hb42d;done)|(cases hb16e;done)|(cases hb20e;done)|(cases hb22e;done)|(cases hb26e;done)|(cases hb28e;done)|(cases hb31e;done)|(cases hb34e;done)|(cases hb37e;done)|(cases hb40e;done)|(cases hb42e;done)|(cases hb16f;done)|(cases hb20f;done)|(cases hb22f;done)|(cases hb26f;done)|(cases hb28f;done)|(cases hb31f;done)|(cases hb34f;done)|(cases hb37f;done)|(cases hb40f;done)|(cases hb42f;done)|(cases hb16g;done)|(cases hb20g;done)|(cases hb22g;done)|(cases hb26g;done)|(cases hb28g;done)|(cases hb31g;done)|(cases hb34g;done)|(cases hb37g;done)|(cases hb40g;done)|(cases hb42g;done)|(cases hb16h;done)|(cases hb20h;done)|(cases hb22h;done)|(cases hb26h;done)|(cases hb28h;done)|(cases hb31h;done)|(cases hb34h;done)|(cases hb37h;done)|(cases hb40h;done)|(cases hb42h;done)|exact Aj ⟨⟨.inr rfl,1,_,rfl,rfl,Fin.cl rfl⟩,fun i cells e1 e2=>by cases e1;cases e2;rfl⟩
     ·refine Ag ?_;refine h23 _ ?_;refine nT ?_;refine Ac fun K29 h29=>?_
      refine wR ?_;refine Ae rfl (fun hb31=>?_) (fun hb31=>?_)
      ·refine Aq ?_;refine h9 _ ?_;refine nT ?_;refine As ⟨(.any::.ptr 0 0::.ptr 1 0::.ptr 2 0::A40 (A20 (A3 []))),[.box (AL ⟨op,d,a,b,n,f,args,l1,l2⟩),.box [.lit (.int .u8 0),.lit (.int .i64 0),.lit (.int .i64 0),.lit (.int .i64 0),.lit (.int .u32 0),.lit (.int .i64 0),.lit (.slice none 0 0),.lit (.int .i64 0),.lit (.int .i64 0)],.box [.lit (.int .u8 op),.lit (.int .i64 0),.lit (.int .i64 0),.lit (.int .i64 0),.lit (.int .u32 0),.lit (.int .i64 0),.lit (.slice none 0 0),.lit (.int .i64 0),.lit (.int .i64 0)]]⟩ (Fb (hc:=.cons (.cons (.cons (.nil _))))) ?_;refine dH 0 [] [] uN fun K47 hK47=>vN ?_
       refine KW (BV [0,1,2,3,4,5] (Array.replicate 8 false)) 2 (fun _:Unit=>⟨(.any::.ptr 0 0::.ptr 1 0::.ptr 2 0::A20 (A10 (A5 (.ptr 0 1::.lit (.int .i64 d)::.ptr 0 4::.lit (.int .u32 n)::.ptr 2 1::A20 (A3 []))))),[.box (AL ⟨op,d,a,b,n,f,args,l1,l2⟩),.box [.lit (.int .u8 0),.lit (.int .i64 0),.lit (.int .i64 0),.lit (.int .i64 0),.lit (.int .u32 0),.lit (.int .i64 0),.lit (.slice none 0 0),.lit (.int .i64 0),.lit (.int .i64 0)],.box [.lit (.int .u8 op),.lit (.int .i64 d),.lit (.int .i64 0),.lit (.int .i64 0),.lit (.int .u32 0),.lit (.int .i64 0),.lit (.slice none 0 0),.lit (.int .i64 0),.lit (.int .i64 0)]]⟩) (fun _=>?_) (fun hB=>?_)
       rotate_left
       ·refine Aw [0,2] (tC (oT ?_) (tC (oT ?_) Ah))
        ·refine Aw [1,2] (tC (oT ?_) (tC (oT ?_) Ah))
         ·refine Aw [2,4] (tC (oT ?_) (tC (oT ?_) Ah))
          ·refine Aw [3,4] (tC (oT ?_) (tC (oT ?_) Ah))
           ·refine tT 4 ?_;refine tA 5 ?_;refine oW ?_;exact tE (hB ())
           ·refine Aw [3,5] (tC (oT ?_) (tC ?_ Ah))
            ·refine tA 5 ?_;refine oW ?_;exact tE (hB ())
            ·refine oW ?_;refine tT 3 ?_;exact tE (hB ())
          ·refine Aw [2,5] (tC (oT ?_) (tC ?_ Ah))
           ·refine Aw [3,5] (tC (oT ?_) (tC ?_ Ah))
            ·refine tA 5 ?_;refine oW ?_;exact tE (hB ())
            ·refine oW ?_;refine tT 3 ?_;exact tE (hB ())
           ·refine oW ?_;refine tT 2 ?_;refine tT 3 ?_;exact tE (hB ())
         ·refine Aw [1,3] (tC (oT ?_) (tC (oT ?_) Ah))
          ·refine Aw [3,4] (tC (oT ?_) (tC (oT ?_) Ah))
           ·refine tT 4 ?_;refine tA 5 ?_;refine oW ?_;exact tE (hB ())
           ·refine Aw [3,5] (tC (oT ?_) (tC ?_ Ah))
            ·refine tA 5 ?_;refine oW ?_;exact tE (hB ())
            ·refine oW ?_;refine tT 3 ?_;exact tE (hB ())
          ·refine tT 1 ?_;refine tT 4 ?_;refine tA 5 ?_;refine oW ?_;exact tE (hB ())
        ·refine Aw [0,3] (tC (oT ?_) (tC (oT ?_) Ah))
         ·refine Aw [1,3] (tC (oT ?_) (tC (oT ?_) Ah))
          ·refine Aw [3,4] (tC (oT ?_) (tC (oT ?_) Ah))
           ·refine tT 4 ?_;refine tA 5 ?_;refine oW ?_;exact tE (hB ())
           ·refine Aw [3,5] (tC (oT ?_) (tC ?_ Ah))
            ·refine tA 5 ?_;refine oW ?_;exact tE (hB ())
            ·refine oW ?_;refine tT 3 ?_;exact tE (hB ())
          ·refine tT 1 ?_;refine tT 4 ?_;refine tA 5 ?_;refine oW ?_;exact tE (hB ())
         ·refine tT 0 ?_;refine tT 1 ?_;refine tT 4 ?_;refine tA 5 ?_;refine oW ?_;exact tE (hB ())
       refine tT 6 ?_;refine tA 7 ?_;refine oW ?_;refine DJ (hK47 _ ?_);refine Aq ?_;refine h3 _ ?_;refine nT ?_;refine wS (sT (sW (wN ?_)));rcases hop with rfl|rfl|rfl|rfl|rfl|rfl|rfl|rfl|rfl|rfl|rfl <;> first|(cases hb16;done)|(cases hb20;done)|(cases hb22;done)|(cases hb26;done)|(cases hb28;done)|(cases hb31;done)|(cases hb34;done)|(cases hb37;done)|(cases hb40;done)|(cases hb42;done)|(cases hb16b;done)|(cases hb20b;done)|(cases hb22b;done)|(cases hb26b;done)|(cases hb28b;done)|(cases hb31b;done)|(cases hb34b;done)|(cases hb37b;done)|(cases hb40b;done)|(cases hb42b;done)|(cases hb16c;done)|(cases hb20c;done)|(cases hb22c;done)|(cases hb26c;done)|(cases hb28c;done)|(cases hb31c;done)|(cases hb34c;done)|(cases hb37c;done)|(cases hb40c;done)|(cases hb42c;done)|(cases hb16d;done)|(cases hb20d;done)|(cases hb22d;done)|(cases hb26d;done)|(cases hb28d;done)|(cases hb31d;done)|(cases hb34d;done)|(cases hb37d;done)|(cases hb40d;done)|(cases hb42d;done)|(cases hb16e;done)|(cases hb20e;done)|(cases hb22e;done)|(cases hb26e;done)|(cases hb28e;done)|(cases hb31e;done)|(cases hb34e;done)|(cases hb37e;done)|(cases hb40e;done)|(cases hb42e;done)|(cases hb16f;done)|(cases hb20f;done)|(cases hb22f;done)|(cases hb26f;done)|(cases hb28f;done)|(cases hb31f;done)|(cases hb34f;done)|(cases hb37f;done)|(cases hb40f;done)|(cases hb42f;done)|(cases hb16g;done)|(cases hb20g;done)|(cases hb22g;done)|(cases hb26g;done)|(cases hb28g;done)|(cases hb31g;done)|(cases hb34g;done)|(cases hb37g;done)|(cases hb40g;done)|(cases hb42g;done)|(cases hb16h;done)|(cases hb20h;done)|(cases hb22h;done)|(cases hb26h;done)|(cases hb28h;done)|(cases hb31h;done)|(cases hb34h;done)|(cases hb37h;done)|(cases hb40h;done)|(cases hb42h;done)|exact Aj ⟨⟨.inr rfl,1,_,rfl,rfl,Fin.cl rfl⟩,fun i cells e1 e2=>by cases e1;cases e2;rfl⟩
      ·refine Ag ?_;refine h29 _ ?_;refine nT ?_;refine Ac fun K32 h32=>?_
       refine wR ?_;refine Ae rfl (fun hb34=>?_) (fun hb34=>?_)
       ·refine Aq ?_;refine h8 _ ?_;refine nT ?_;refine As ⟨(.any::.ptr 0 0::.ptr 1 0::.ptr 2 0::A40 (A20 (A3 []))),[.box (AL ⟨op,d,a,b,n,f,args,l1,l2⟩),.box [.lit (.int .u8 0),.lit (.int .i64 0),.lit (.int .i64 0),.lit (.int .i64 0),.lit (.int .u32 0),.lit (.int .i64 0),.lit (.slice none 0 0),.lit (.int .i64 0),.lit (.int .i64 0)],.box [.lit (.int .u8 op),.lit (.int .i64 0),.lit (.int .i64 0),.lit (.int .i64 0),.lit (.int .u32 0),.lit (.int .i64 0),.lit (.slice none 0 0),.lit (.int .i64 0),.lit (.int .i64 0)]]⟩ (Fb (hc:=.cons (.cons (.cons (.nil _))))) ?_;refine dH 0 [] [] uN fun K48 hK48=>vN ?_
        refine KW (BV [0,1,2,3,4,5] (Array.replicate 8 false)) 2 (fun _:Unit=>⟨(.any::.ptr 0 0::.ptr 1 0::.ptr 2 0::A40 (.any::.ptr 0 2::.lit (.int .i64 a)::.ptr 0 3::.lit (.int .i64 b)::.ptr 2 2::A10 (A7 []))),[.box (AL ⟨op,d,a,b,n,f,args,l1,l2⟩),.box [.lit (.int .u8 0),.lit (.int .i64 0),.lit (.int .i64 0),.lit (.int .i64 0),.lit (.int .u32 0),.lit (.int .i64 0),.lit (.slice none 0 0),.lit (.int .i64 0),.lit (.int .i64 0)],.box [.lit (.int .u8 op),.lit (.int .i64 0),.lit (.int .i64 a),.lit (.int .i64 0),.lit (.int .u32 0),.lit (.int .i64 0),.lit (.slice none 0 0),.lit (.int .i64 0),.lit (.int .i64 0)]]⟩) (fun _=>?_) (fun hB=>?_)
        rotate_left
        ·refine Aw [0,2] (tC (oT ?_) (tC (oT ?_) Ah))
         ·refine Aw [1,2] (tC (oT ?_) (tC (oT ?_) Ah))
          ·refine Aw [2,4] (tC (oT ?_) (tC (oT ?_) Ah))
           ·refine Aw [3,4] (tC (oT ?_) (tC (oT ?_) Ah))
            ·refine tT 4 ?_;refine tA 5 ?_;refine oW ?_;exact tE (hB ())
            ·refine Aw [3,5] (tC (oT ?_) (tC ?_ Ah))
             ·refine tA 5 ?_;refine oW ?_;exact tE (hB ())
             ·refine oW ?_;refine tT 3 ?_;exact tE (hB ())
           ·refine Aw [2,5] (tC (oT ?_) (tC ?_ Ah))
            ·refine Aw [3,5] (tC (oT ?_) (tC ?_ Ah))
             ·refine tA 5 ?_;refine oW ?_;exact tE (hB ())
             ·refine oW ?_;refine tT 3 ?_;exact tE (hB ())
            ·refine oW ?_;refine tT 2 ?_;refine tT 3 ?_;exact tE (hB ())
          ·refine Aw [1,3] (tC (oT ?_) (tC (oT ?_) Ah))
           ·refine Aw [3,4] (tC (oT ?_) (tC (oT ?_) Ah))
            ·refine tT 4 ?_;refine tA 5 ?_;refine oW ?_;exact tE (hB ())
            ·refine Aw [3,5] (tC (oT ?_) (tC ?_ Ah))
             ·refine tA 5 ?_;refine oW ?_;exact tE (hB ())
             ·refine oW ?_;refine tT 3 ?_;exact tE (hB ())
           ·refine tT 1 ?_;refine tT 4 ?_;refine tA 5 ?_;refine oW ?_;exact tE (hB ())
         ·refine Aw [0,3] (tC (oT ?_) (tC (oT ?_) Ah))
          ·refine Aw [1,3] (tC (oT ?_) (tC (oT ?_) Ah))
           ·refine Aw [3,4] (tC (oT ?_) (tC (oT ?_) Ah))
            ·refine tT 4 ?_;refine tA 5 ?_;refine oW ?_;exact tE (hB ())
            ·refine Aw [3,5] (tC (oT ?_) (tC ?_ Ah))
             ·refine tA 5 ?_;refine oW ?_;exact tE (hB ())
             ·refine oW ?_;refine tT 3 ?_;exact tE (hB ())
           ·refine tT 1 ?_;refine tT 4 ?_;refine tA 5 ?_;refine oW ?_;exact tE (hB ())
          ·refine tT 0 ?_;refine tT 1 ?_;refine tT 4 ?_;refine tA 5 ?_;refine oW ?_;exact tE (hB ())
        refine tT 6 ?_;refine tA 7 ?_;refine oW ?_;refine DJ (hK48 _ ?_);refine Aq ?_;refine h3 _ ?_;refine nT ?_;refine wS (sT (sW (wN ?_)));rcases hop with rfl|rfl|rfl|rfl|rfl|rfl|rfl|rfl|rfl|rfl|rfl <;> first|(cases hb16;done)|(cases hb20;done)|(cases hb22;done)|(cases hb26;done)|(cases hb28;done)|(cases hb31;done)|(cases hb34;done)|(cases hb37;done)|(cases hb40;done)|(cases hb42;done)|(cases hb16b;done)|(cases hb20b;done)|(cases hb22b;done)|(cases hb26b;done)|(cases hb28b;done)|(cases hb31b;done)|(cases hb34b;done)|(cases hb37b;done)|(cases hb40b;done)|(cases hb42b;done)|(cases hb16c;done)|(cases hb20c;done)|(cases hb22c;done)|(cases hb26c;done)|(cases hb28c;done)|(cases hb31c;done)|(cases hb34c;done)|(cases hb37c;done)|(cases hb40c;done)|(cases hb42c;done)|(cases hb16d;done)|(cases hb20d;done)|(cases hb22d;done)|(cases hb26d;done)|(cases hb28d;done)|(cases hb31d;done)|(cases hb34d;done)|(cases hb37d;done)|(cases hb40d;done)|(cases hb42d;done)|(cases hb16e;done)|(cases hb20e;done)|(cases hb22e;done)|(cases hb26e;done)|(cases hb28e;done)|(cases hb31e;done)|(cases hb34e;done)|(cases hb37e;done)|(cases hb40e;done)|(cases hb42e;done)|(cases hb16f;done)|(cases hb20f;done)|(cases hb22f;done)|(cases hb26f;done)|(cases hb28f;done)|(cases hb31f;done)|(cases hb34f;done)|(cases hb37f;done)|(cases hb40f;done)|(cases hb42f;done)|(cases hb16g;done)|(cases hb20g;done)|(cases hb22g;done)|(cases hb26g;done)|(cases hb28g;done)|(cases hb31g;done)|(cases hb34g;done)|(cases hb37g;done)|(cases hb40g;done)|(cases hb42g;done)|(cases hb16h;done)|(cases hb20h;done)|(cases hb22h;done)|(cases hb26h;done)|(cases hb28h;done)|(cases hb31h;done)|(cases hb34h;done)|(cases hb37h;done)|(cases hb40h;done)|(cases hb42h;done)|exact Aj ⟨⟨.inr rfl,1,_,rfl,rfl,Fin.cl rfl⟩,fun i cells e1 e2=>by cases e1;cases e2;rfl⟩
       ·refine Ag ?_;refine h32 _ ?_;refine nT ?_;refine Ac fun K35 h35=>?_
        refine wR ?_;refine Ae rfl (fun hb37=>?_) (fun hb37=>?_)
        ·refine Aq ?_;refine h7 _ ?_;refine nT ?_;refine As ⟨(.any::.ptr 0 0::.ptr 1 0::.ptr 2 0::A40 (A20 (A3 []))),[.box (AL ⟨op,d,a,b,n,f,args,l1,l2⟩),.box [.lit (.int .u8 0),.lit (.int .i64 0),.lit (.int .i64 0),.lit (.int .i64 0),.lit (.int .u32 0),.lit (.int .i64 0),.lit (.slice none 0 0),.lit (.int .i64 0),.lit (.int .i64 0)],.box [.lit (.int .u8 op),.lit (.int .i64 0),.lit (.int .i64 0),.lit (.int .i64 0),.lit (.int .u32 0),.lit (.int .i64 0),.lit (.slice none 0 0),.lit (.int .i64 0),.lit (.int .i64 0)]]⟩ (Fb (hc:=.cons (.cons (.cons (.nil _))))) ?_;refine dH 0 [] [] uN fun K49 hK49=>vN ?_
         refine KW (BV [0,1,2,3,4,5] (Array.replicate 8 false)) 2 (fun _:Unit=>⟨(.any::.ptr 0 0::.ptr 1 0::.ptr 2 0::A40 (A7 (.ptr 0 1::.lit (.int .i64 d)::.ptr 0 5::.lit (.int .i64 f)::.ptr 2 1::A10 [.any]))),[.box (AL ⟨op,d,a,b,n,f,args,l1,l2⟩),.box [.lit (.int .u8 0),.lit (.int .i64 0),.lit (.int .i64 0),.lit (.int .i64 0),.lit (.int .u32 0),.lit (.int .i64 0),.lit (.slice none 0 0),.lit (.int .i64 0),.lit (.int .i64 0)],.box [.lit (.int .u8 op),.lit (.int .i64 d),.lit (.int .i64 0),.lit (.int .i64 0),.lit (.int .u32 0),.lit (.int .i64 0),.lit (.slice none 0 0),.lit (.int .i64 0),.lit (.int .i64 0)]]⟩) (fun _=>?_) (fun hB=>?_)
         rotate_left
         ·refine Aw [0,2] (tC (oT ?_) (tC (oT ?_) Ah))
          ·refine Aw [1,2] (tC (oT ?_) (tC (oT ?_) Ah))
           ·refine Aw [2,4] (tC (oT ?_) (tC (oT ?_) Ah))
            ·refine Aw [3,4] (tC (oT ?_) (tC (oT ?_) Ah))
             ·refine tT 4 ?_;refine tA 5 ?_;refine oW ?_;exact tE (hB ())
             ·refine Aw [3,5] (tC (oT ?_) (tC ?_ Ah))
              ·refine tA 5 ?_;refine oW ?_;exact tE (hB ())
              ·refine oW ?_;refine tT 3 ?_;exact tE (hB ())
            ·refine Aw [2,5] (tC (oT ?_) (tC ?_ Ah))
             ·refine Aw [3,5] (tC (oT ?_) (tC ?_ Ah))
              ·refine tA 5 ?_;refine oW ?_;exact tE (hB ())
              ·refine oW ?_;refine tT 3 ?_;exact tE (hB ())
             ·refine oW ?_;refine tT 2 ?_;refine tT 3 ?_;exact tE (hB ())
           ·refine Aw [1,3] (tC (oT ?_) (tC (oT ?_) Ah))
            ·refine Aw [3,4] (tC (oT ?_) (tC (oT ?_) Ah))
             ·refine tT 4 ?_;refine tA 5 ?_;refine oW ?_;exact tE (hB ())
             ·refine Aw [3,5] (tC (oT ?_) (tC ?_ Ah))
              ·refine tA 5 ?_;refine oW ?_;exact tE (hB ())
              ·refine oW ?_;refine tT 3 ?_;exact tE (hB ())
            ·refine tT 1 ?_;refine tT 4 ?_;refine tA 5 ?_;refine oW ?_;exact tE (hB ())
          ·refine Aw [0,3] (tC (oT ?_) (tC (oT ?_) Ah))
           ·refine Aw [1,3] (tC (oT ?_) (tC (oT ?_) Ah))
            ·refine Aw [3,4] (tC (oT ?_) (tC (oT ?_) Ah))
             ·refine tT 4 ?_;refine tA 5 ?_;refine oW ?_;exact tE (hB ())
             ·refine Aw [3,5] (tC (oT ?_) (tC ?_ Ah))
              ·refine tA 5 ?_;refine oW ?_;exact tE (hB ())
              ·refine oW ?_;refine tT 3 ?_;exact tE (hB ())
            ·refine tT 1 ?_;refine tT 4 ?_;refine tA 5 ?_;refine oW ?_;exact tE (hB ())
           ·refine tT 0 ?_;refine tT 1 ?_;refine tT 4 ?_;refine tA 5 ?_;refine oW ?_;exact tE (hB ())
         refine tT 6 ?_;refine tA 7 ?_;refine oW ?_;refine DJ (hK49 _ ?_);refine Aq ?_;refine h3 _ ?_;refine nT ?_;refine wS (sT (sW (wN ?_)));rcases hop with rfl|rfl|rfl|rfl|rfl|rfl|rfl|rfl|rfl|rfl|rfl <;> first|(cases hb16;done)|(cases hb20;done)|(cases hb22;done)|(cases hb26;done)|(cases hb28;done)|(cases hb31;done)|(cases hb34;done)|(cases hb37;done)|(cases hb40;done)|(cases hb42;done)|(cases hb16b;done)|(cases hb20b;done)|(cases hb22b;done)|(cases hb26b;done)|(cases hb28b;done)|(cases hb31b;done)|(cases hb34b;done)|(cases hb37b;done)|(cases hb40b;done)|(cases hb42b;done)|(cases hb16c;done)|(cases hb20c;done)|(cases hb22c;done)|(cases hb26c;done)|(cases hb28c;done)|(cases hb31c;done)|(cases hb34c;done)|(cases hb37c;done)|(cases hb40c;done)|(cases hb42c;done)|(cases hb16d;done)|(cases hb20d;done)|(cases hb22d;done)|(cases hb26d;done)|(cases hb28d;done)|(cases hb31d;done)|(cases hb34d;done)|(cases hb37d;done)|(cases hb40d;done)|(cases hb42d;done)|(cases hb16e;done)|(cases hb20e;done)|(cases hb22e;done)|(cases hb26e;done)|(cases hb28e;done)|(cases hb31e;done)|(cases hb34e;done)|(cases hb37e;done)|(cases hb40e;done)|(cases hb42e;done)|(cases hb16f;done)|(cases hb20f;done)|(cases hb22f;done)|(cases hb26f;done)|(cases hb28f;done)|(cases hb31f;done)|(cases hb34f;done)|(cases hb37f;done)|(cases hb40f;done)|(cases hb42f;done)|(cases hb16g;done)|(cases hb20g;done)|(cases hb22g;done)|(cases hb26g;done)|(cases hb28g;done)|(cases hb31g;done)|(cases hb34g;done)|(cases hb37g;done)|(cases hb40g;done)|(cases hb42g;done)|(cases hb16h;done)|(cases hb20h;done)|(cases hb22h;done)|(cases hb26h;done)|(cases hb28h;done)|(cases hb31h;done)|(cases hb34h;done)|(cases hb37h;done)|(cases hb40h;done)|(cases hb42h;done)|exact Aj ⟨⟨.inr rfl,1,_,rfl,rfl,Fin.cl rfl⟩,fun i cells e1 e2=>by cases e1;cases e2;rfl⟩
        ·refine Ag ?_;refine h35 _ ?_;refine nT ?_;refine Ac fun K38 h38=>?_
         refine wR ?_;refine Ae rfl (fun hb40=>?_) (fun hb40=>?_)
         ·refine Aq ?_;refine h6 _ ?_;refine nT ?_;refine As ⟨(.any::.ptr 0 0::.ptr 1 0::.ptr 2 0::A40 (A20 (A3 []))),[.box (AL ⟨op,d,a,b,n,f,args,l1,l2⟩),.box [.lit (.int .u8 0),.lit (.int .i64 0),.lit (.int .i64 0),.lit (.int .i64 0),.lit (.int .u32 0),.lit (.int .i64 0),.lit (.slice none 0 0),.lit (.int .i64 0),.lit (.int .i64 0)],.box [.lit (.int .u8 op),.lit (.int .i64 0),.lit (.int .i64 0),.lit (.int .i64 0),.lit (.int .u32 0),.lit (.int .i64 0),.lit (.slice none 0 0),.lit (.int .i64 0),.lit (.int .i64 0)]]⟩ (Fb (hc:=.cons (.cons (.cons (.nil _))))) ?_;refine dHE 0 [] [] uN (vN ?_);refine KW (BV [0,1,2,3,4,5] (Array.replicate 8 false)) 2 (fun _:Unit=>⟨(.any::.ptr 0 0::.ptr 1 0::.ptr 2 0::A40 (A10 (A3 (.ptr 0 2::.lit (.int .i64 a)::.ptr 0 8::.lit (.int .i64 l2)::.ptr 2 2::A5 [])))),[.box (AL ⟨op,d,a,b,n,f,args,l1,l2⟩),.box [.lit (.int .u8 0),.lit (.int .i64 0),.lit (.int .i64 0),.lit (.int .i64 0),.lit (.int .u32 0),.lit (.int .i64 0),.lit (.slice none 0 0),.lit (.int .i64 0),.lit (.int .i64 0)],.box [.lit (.int .u8 op),.lit (.int .i64 0),.lit (.int .i64 a),.lit (.int .i64 0),.lit (.int .u32 0),.lit (.int .i64 0),.lit (.slice none 0 0),.lit (.int .i64 0),.lit (.int .i64 0)]]⟩) (fun _=>?_) (fun hB=>?_)
          rotate_left
          ·refine Aw [0,2] (tC (oT ?_) (tC (oT ?_) Ah))
           ·refine Aw [1,2] (tC (oT ?_) (tC (oT ?_) Ah))
            ·refine Aw [2,4] (tC (oT ?_) (tC (oT ?_) Ah))
             ·refine Aw [3,4] (tC (oT ?_) (tC (oT ?_) Ah))
              ·refine tT 4 ?_;refine tA 5 ?_;refine oW ?_;exact tE (hB ())
              ·refine Aw [3,5] (tC (oT ?_) (tC ?_ Ah))
               ·refine tA 5 ?_;refine oW ?_;exact tE (hB ())
               ·refine oW ?_;refine tT 3 ?_;exact tE (hB ())
             ·refine Aw [2,5] (tC (oT ?_) (tC ?_ Ah))
              ·refine Aw [3,5] (tC (oT ?_) (tC ?_ Ah))
               ·refine tA 5 ?_;refine oW ?_;exact tE (hB ())
               ·refine oW ?_;refine tT 3 ?_;exact tE (hB ())
              ·refine oW ?_;refine tT 2 ?_;refine tT 3 ?_;exact tE (hB ())
            ·refine Aw [1,3] (tC (oT ?_) (tC (oT ?_) Ah))
             ·refine Aw [3,4] (tC (oT ?_) (tC (oT ?_) Ah))
              ·refine tT 4 ?_;refine tA 5 ?_;refine oW ?_;exact tE (hB ())
              ·refine Aw [3,5] (tC (oT ?_) (tC ?_ Ah))
               ·refine tA 5 ?_;refine oW ?_;exact tE (hB ())
               ·refine oW ?_;refine tT 3 ?_;exact tE (hB ())
             ·refine tT 1 ?_;refine tT 4 ?_;refine tA 5 ?_;refine oW ?_;exact tE (hB ())
           ·refine Aw [0,3] (tC (oT ?_) (tC (oT ?_) Ah))
            ·refine Aw [1,3] (tC (oT ?_) (tC (oT ?_) Ah))
             ·refine Aw [3,4] (tC (oT ?_) (tC (oT ?_) Ah))
              ·refine tT 4 ?_;refine tA 5 ?_;refine oW ?_;exact tE (hB ())
              ·refine Aw [3,5] (tC (oT ?_) (tC ?_ Ah))
               ·refine tA 5 ?_;refine oW ?_;exact tE (hB ())
               ·refine oW ?_;refine tT 3 ?_;exact tE (hB ())
             ·refine tT 1 ?_;refine tT 4 ?_;refine tA 5 ?_;refine oW ?_;exact tE (hB ())
            ·refine tT 0 ?_;refine tT 1 ?_;refine tT 4 ?_;refine tA 5 ?_;refine oW ?_;exact tE (hB ())
          refine tT 6 ?_;refine tA 7 ?_;refine oW ?_;refine DJ ?_;refine h5 _ ?_;refine nT ?_;refine wS (sT (sT (sT (sW (wN ?_)))));refine Aq ?_;refine h3 _ ?_;refine nT ?_;refine wS (sT (sW (wN ?_)));rcases hop with rfl|rfl|rfl|rfl|rfl|rfl|rfl|rfl|rfl|rfl|rfl <;> first|(cases hb16;done)|(cases hb20;done)|(cases hb22;done)|(cases hb26;done)|(cases hb28;done)|(cases hb31;done)|(cases hb34;done)|(cases hb37;done)|(cases hb40;done)|(cases hb42;done)|(cases hb16b;done)|(cases hb20b;done)|(cases hb22b;done)|(cases hb26b;done)|(cases hb28b;done)|(cases hb31b;done)|(cases hb34b;done)|(cases hb37b;done)|(cases hb40b;done)|(cases hb42b;done)|(cases hb16c;done)|(cases hb20c;done)|(cases hb22c;done)|(cases hb26c;done)|(cases hb28c;done)|(cases hb31c;done)|(cases hb34c;done)|(cases hb37c;done)|(cases hb40c;done)|(cases hb42c;done)|(cases hb16d;done)|(cases hb20d;done)|(cases hb22d;done)|(cases hb26d;done)|(cases hb28d;done)|(cases hb31d;done)|(cases hb34d;done)|(cases hb37d;done)|(cases hb40d;done)|(cases hb42d;done)|(cases hb16e;done)|(cases hb20e;done)|(cases hb22e;done)|(cases hb26e;done)|(cases hb28e;done)|(cases hb31e;done)|(cases hb34e;done)|(cases hb37e;done)|(cases hb40e;done)|(cases hb42e;done)|(cases hb16f;done)|(cases hb20f;done)|(cases hb22f;done)|(cases hb26f;done)|(cases hb28f;done)|(cases hb31f;done)|(cases hb34f;done)|(cases hb37f;done)|(cases hb40f;done)|(cases hb42f;done)|(cases hb16g;done)|(cases hb20g;done)|(cases hb22g;done)|(cases hb26g;done)|(cases hb28g;done)|(cases hb31g;done)|(cases hb34g;done)|(cases hb37g;done)|(cases hb40g;done)|(cases hb42g;done)|(cases hb16h;done)|(cases hb20h;done)|(cases hb22h;done)|(cases hb26h;done)|(cases hb28h;done)|(cases hb31h;done)|(cases hb34h;done)|(cases hb37h;done)|(cases hb40h;done)|(cases hb42h;done)|exact Aj ⟨⟨.inr rfl,1,_,rfl,rfl,Fin.cl rfl⟩,fun i cells e1 e2=>by cases e1;cases e2;rfl⟩
         ·refine Ag ?_;refine h38 _ ?_;refine nT ?_;refine wR ?_;refine Ae rfl (fun hb42=>?_) (fun hb42=>?_)
          ·refine Aq ?_;refine h5 _ ?_;refine nT ?_;refine wS (sT (sT (sT (sW (wN ?_)))));refine Aq ?_;refine h3 _ ?_;refine nT ?_;refine wS (sT (sW (wN ?_)));rcases hop with rfl|rfl|rfl|rfl|rfl|rfl|rfl|rfl|rfl|rfl|rfl <;> first|(cases hb16;done)|(cases hb20;done)|(cases hb22;done)|(cases hb26;done)|(cases hb28;done)|(cases hb31;done)|(cases hb34;done)|(cases hb37;done)|(cases hb40;done)|(cases hb42;done)|(cases hb16b;done)|(cases hb20b;done)|(cases hb22b;done)|(cases hb26b;done)|(cases hb28b;done)|(cases hb31b;done)|(cases hb34b;done)|(cases hb37b;done)|(cases hb40b;done)|(cases hb42b;done)|(cases hb16c;done)|(cases hb20c;done)|(cases hb22c;done)|(cases hb26c;done)|(cases hb28c;done)|(cases hb31c;done)|(cases hb34c;done)|(cases hb37c;done)|(cases hb40c;done)|(cases hb42c;done)|(cases hb16d;done)|(cases hb20d;done)|(cases hb22d;done)|(cases hb26d;done)|(cases hb28d;done)|(cases hb31d;done)|(cases hb34d;done)|(cases hb37d;done)|(cases hb40d;done)|(cases hb42d;done)|(cases hb16e;done)|(cases hb20e;done)|(cases hb22e;done)|(cases hb26e;done)|(cases hb28e;done)|(cases hb31e;done)|(cases hb34e;done)|(cases hb37e;done)|(cases hb40e;done)|(cases hb42e;done)|(cases hb16f;done)|(cases hb20f;done)|(cases hb22f;done)|(cases hb26f;done)|(cases hb28f;done)|(cases hb31f;done)|(cases hb34f;done)|(cases hb37f;done)|(cases hb40f;done)|(cases hb42f;done)|(cases hb16g;done)|(cases hb20g;done)|(cases hb22g;done)|(cases hb26g;done)|(cases hb28g;done)|(cases hb31g;done)|(cases hb34g;done)|(cases hb37g;done)|(cases hb40g;done)|(cases hb42g;done)|(cases hb16h;done)|(cases hb20h;done)|(cases hb22h;done)|(cases hb26h;done)|(cases hb28h;done)|(cases hb31h;done)|(cases hb34h;done)|(cases hb37h;done)|(cases hb40h;done)|(cases hb42h;done)|exact Aj ⟨⟨.inr rfl,1,_,rfl,rfl,Fin.cl rfl⟩,fun i cells e1 e2=>by cases e1;cases e2;rfl⟩
          ·refine Ag ?_;refine h13 _ ?_;refine nT ?_;refine Aq ?_;refine h3 _ ?_;refine nT ?_;refine wS (sT (sW (wN ?_)));rcases hop with rfl|rfl|rfl|rfl|rfl|rfl|rfl|rfl|rfl|rfl|rfl <;> first|(cases hb16;done)|(cases hb20;done)|(cases hb22;done)|(cases hb26;done)|(cases hb28;done)|(cases hb31;done)|(cases hb34;done)|(cases hb37;done)|(cases hb40;done)|(cases hb42;done)|(cases hb16b;done)|(cases hb20b;done)|(cases hb22b;done)|(cases hb26b;done)|(cases hb28b;done)|(cases hb31b;done)|(cases hb34b;done)|(cases hb37b;done)|(cases hb40b;done)|(cases hb42b;done)|(cases hb16c;done)|(cases hb20c;done)|(cases hb22c;done)|(cases hb26c;done)|(cases hb28c;done)|(cases hb31c;done)|(cases hb34c;done)|(cases hb37c;done)|(cases hb40c;done)|(cases hb42c;done)|(cases hb16d;done)|(cases hb20d;done)|(cases hb22d;done)|(cases hb26d;done)|(cases hb28d;done)|(cases hb31d;done)|(cases hb34d;done)|(cases hb37d;done)|(cases hb40d;done)|(cases hb42d;done)|(cases hb16e;done)|(cases hb20e;done)|(cases hb22e;done)|(cases hb26e;done)|(cases hb28e;done)|(cases hb31e;done)|(cases hb34e;done)|(cases hb37e;done)|(cases hb40e;done)|(cases hb42e;done)|(cases hb16f;done)|(cases hb20f;done)|(cases hb22f;done)|(cases hb26f;done)|(cases hb28f;done)|(cases hb31f;done)|(cases hb34f;done)|(cases hb37f;done)|(cases hb40f;done)|(cases hb42f;done)|(cases hb16g;done)|(cases hb20g;done)|(cases hb22g;done)|(cases hb26g;done)|(cases hb28g;done)|(cases hb31g;done)|(cases hb34g;done)|(cases hb37g;done)|(cases hb40g;done)|(cases hb42g;done)|(cases hb16h;done)|(cases hb20h;done)|(cases hb22h;done)|(cases hb26h;done)|(cases hb28h;done)|(cases hb31h;done)|(cases hb34h;done)|(cases hb37h;done)|(cases hb40h;done)|(cases hb42h;done)|exact Aj ⟨⟨.inr rfl,1,_,rfl,rfl,Fin.cl rfl⟩,fun i cells e1 e2=>by cases e1;cases e2;rfl⟩
def Ab3(b:Int→Bool)(l:List Int):Int:=if l.findIdx b < l.length then(l.findIdx b:Int)else -1
theorem PW{b:Int→Bool}{l:List Int}{k:Nat}{z:Int}(hk:l[k]? =some z)(hz:b z=true)(h:∀(i:Nat) (y:Int),i < k→l[i]? =some y→b y=false):Ab3 b l=(k:Int):=by
 have hkl:=(List.getElem?_eq_some_iff.1 hk).1;have e:l.findIdx b=k:=by
  rw[List.findIdx_eq hkl];refine⟨?_,fun j hj=>?_⟩
  ·rw[←Option.some.inj ((List.getElem?_eq_getElem hkl).symm.trans hk)]at hz;exact hz
  ·exact h j _ hj (List.getElem?_eq_getElem (by omega))
 unfold Ab3;rw[e,if_pos hkl]
theorem LH{b:Int→Bool}{l:List Int}(h:∀z∈l,b z=false):Ab3 b l= -1:=by
 unfold Ab3;rw[if_neg];intro hlt;have:=List.findIdx_getElem (w:=hlt);rw[h _ (List.getElem_mem hlt)]at this;cases this
theorem S9{b:Int→Bool}{l:List Int}:decide (Ab3 b l≥0)=l.any b:=by
 cases h:l.any b with
 |true=>
  obtain⟨z,hz,hb⟩:=List.any_eq_true.1 h;have:=List.findIdx_lt_length_of_exists ⟨z,hz,hb⟩;unfold Ab3;rw[if_pos this];exact decide_eq_true (by omega)
 |false=>
  rw[LH fun z hz=>by
   have:=List.any_eq_false.1 h z hz;simpa using this]
  rfl
theorem W9{f:FuncId}{b:Int→Bool}{l:List Int}(hl:l.length≤1073741824)(hF:∀z∈l,Fn Tryz.prog f [.lit (.int .i64 z)] (.lit (.bool (b z)))):Fn Tryz.prog 196 [.bs tInt l,.lit (.func (.func f) #[] #[])] (.lit (.int .i64 (Ab3 b l))):=by
 refine Ax Tryz.func196 rfl (by kernel_rfl) rfl Tryz.ntmps196 fun C hC=>?_
 simp only[List.length_cons,List.length_nil,Nat.reduceAdd,Nat.reduceSub,List.replicate_succ,List.replicate_zero,List.cons_append,List.nil_append];refine wR ?_;refine Ac fun K2 h2=>?_
 refine wS (sT (sT (sT (wN ?_))));refine Af ?_;refine Au (fun k:Nat=>⟨(.bs tInt l::.lit (.func (.func f) #[] #[])::A5 (.lit (.int .i64 (l.length:Int))::.lit (.int .i64 (k:Int))::A10 [])),[]⟩) (fun k=>k≤l.length∧∀(i:Nat) (y:Int),i < k→l[i]? =some y→b y=false) (fun k=>l.length - k) 0 ⟨Nat.zero_le _,fun i y hi=>absurd hi (Nat.not_lt_zero _)⟩ (BD rfl (by(try simp only[AJ,List.set_cons_zero,List.set_cons_succ]);repeat(first|exact Fgt.nil|refine Fgt.keep rfl ?_|refine Fgt.any ?_))) ?_;rintro k ⟨hk,hall⟩;refine wS (sT (wN ?_));refine Ac fun K6 h6=>?_
 refine Ae rfl (fun hb7=>?_) (fun hb7=>?_)
 ·have hlt:k < l.length:=by
   have:=of_decide_eq_true hb7;omega
  have hz:=BJ (Ed hlt);rw[Int.toNat_natCast]at hz;refine Ag ?_;refine h6 _ ?_;refine nT ?_;refine Ac fun K8 h8=>?_
  refine Af ?_;refine wR ?_;refine wS (sT (sT (sT (sX (Ed hlt) (sT ?_)))));refine sH (Bu rfl rfl rfl (hF _ (List.mem_of_getElem? hz)) rfl rfl) (wN ?_);refine Ae rfl (fun hb11=>?_) (fun hb11=>?_)
  ·refine wR ?_;rw[PW hz hb11 hall];exact Aj ⟨.inr rfl,Fin.cl rfl⟩
  ·refine Ag ?_;refine h8 _ ?_;refine nT ?_;refine wRE ?_;refine athen_n ⟨k+1,⟨hlt,fun i y hi hy=>by
    by_cases e:i=k
    ·subst e;rw[hz]at hy;cases hy;exact hb11
    ·exact hall i y (by omega) hy⟩,by omega,?_⟩
   exact BD rfl (by(try simp only[AJ,List.set_cons_zero,List.set_cons_succ]);repeat(first|exact Fgt.nil|refine Fgt.keep rfl ?_|refine Fgt.any ?_))
 ·refine Aq ?_;refine h2 _ ?_;refine nT ?_;refine wR ?_;rw[LH fun z hz=>by
   obtain⟨i,hi⟩:=List.getElem?_of_mem hz;have:=(List.getElem?_eq_some_iff.1 hi).1;have h7:=of_decide_eq_false hb7;exact hall i z (by omega) hi]
  exact Aj ⟨.inr rfl,Fin.cl rfl⟩
theorem Aga{f:FuncId}{b:Int→Bool}{l:List Int}(hl:l.length≤1073741824)(hF:∀z∈l,Fn Tryz.prog f [.lit (.int .i64 z)] (.lit (.bool (b z)))):Fn Tryz.prog 149 [.bs tInt l,.lit (.func (.func f) #[] #[])] (.lit (.bool (l.any b))):=by
 rw[←S9];refine Ax Tryz.func149 rfl (by kernel_rfl) rfl Tryz.ntmps149 fun C hC=>?_
 simp only[List.length_cons,List.length_nil,Nat.reduceAdd,Nat.reduceSub,List.replicate_succ,List.replicate_zero,List.cons_append,List.nil_append];refine wR ?_;refine wS (sT (sT (sC (W9 hl hF) (sT (sT (wN ?_))))));exact Aj ⟨.inr rfl,Fin.cl rfl⟩
theorem Xa{f:FuncId}{α:Type}{T:Ty α}{d:α}{b:Int→Bool}{l:List Int}(hl:l.length≤1073741824)(hF:∀z∈l,Fn Tryz.prog f [.lit (.int .i64 z),.bp T d 0] (.lit (.bool (b z)))):Fn Tryz.prog 196 [.bs tInt l,.fn f [.bp T d 0]] (.lit (.int .i64 (Ab3 b l))):=by
 refine Ax Tryz.func196 rfl (by kernel_rfl) rfl Tryz.ntmps196 fun C hC=>?_
 simp only[List.length_cons,List.length_nil,Nat.reduceAdd,Nat.reduceSub,List.replicate_succ,List.replicate_zero,List.cons_append,List.nil_append];refine wR ?_;refine Ac fun K2 h2=>?_
 refine wS (sT (sT (sT (wN ?_))));refine Af ?_;refine Au (fun k:Nat=>⟨(.bs tInt l::.fn f [.bp T d 0]::A5 (.lit (.int .i64 (l.length:Int))::.lit (.int .i64 (k:Int))::A10 [])),[]⟩) (fun k=>k≤l.length∧∀(i:Nat) (y:Int),i < k→l[i]? =some y→b y=false) (fun k=>l.length - k) 0 ⟨Nat.zero_le _,fun i y hi=>absurd hi (Nat.not_lt_zero _)⟩ (BD rfl (by(try simp only[AJ,List.set_cons_zero,List.set_cons_succ]);repeat(first|exact Fgt.nil|refine Fgt.keep rfl ?_|refine Fgt.any ?_))) ?_;rintro k ⟨hk,hall⟩;refine wS (sT (wN ?_));refine Ac fun K6 h6=>?_
 refine Ae rfl (fun hb7=>?_) (fun hb7=>?_)
 ·have hlt:k < l.length:=by
   have:=of_decide_eq_true hb7;omega
  have hz:=BJ (Ed hlt);rw[Int.toNat_natCast]at hz;refine Ag ?_;refine h6 _ ?_;refine nT ?_;refine Ac fun K8 h8=>?_
  refine Af ?_;refine wR ?_;refine wS (sT (sT (sT (sX (Ed hlt) (sT ?_)))));refine sH (Dg rfl rfl rfl (hF _ (List.mem_of_getElem? hz)) rfl rfl) (wN ?_);refine Ae rfl (fun hb11=>?_) (fun hb11=>?_)
  ·refine wR ?_;rw[PW hz hb11 hall];exact Aj ⟨.inr rfl,Fin.cl rfl⟩
  ·refine Ag ?_;refine h8 _ ?_;refine nT ?_;refine wRE ?_;refine athen_n ⟨k+1,⟨hlt,fun i y hi hy=>by
    by_cases e:i=k
    ·subst e;rw[hz]at hy;cases hy;exact hb11
    ·exact hall i y (by omega) hy⟩,by omega,?_⟩
   exact BD rfl (by(try simp only[AJ,List.set_cons_zero,List.set_cons_succ]);repeat(first|exact Fgt.nil|refine Fgt.keep rfl ?_|refine Fgt.any ?_))
 ·refine Aq ?_;refine h2 _ ?_;refine nT ?_;refine wR ?_;rw[LH fun z hz=>by
   obtain⟨i,hi⟩:=List.getElem?_of_mem hz;have:=(List.getElem?_eq_some_iff.1 hi).1;have h7:=of_decide_eq_false hb7;exact hall i z (by omega) hi]
  exact Aj ⟨.inr rfl,Fin.cl rfl⟩
theorem Agb{f:FuncId}{α:Type}{T:Ty α}{d:α}{b:Int→Bool}{l:List Int}(hl:l.length≤1073741824)(hF:∀z∈l,Fn Tryz.prog f [.lit (.int .i64 z),.bp T d 0] (.lit (.bool (b z)))):Fn Tryz.prog 149 [.bs tInt l,.fn f [.bp T d 0]] (.lit (.bool (l.any b))):=by
 rw[←S9];refine Ax Tryz.func149 rfl (by kernel_rfl) rfl Tryz.ntmps149 fun C hC=>?_
 simp only[List.length_cons,List.length_nil,Nat.reduceAdd,Nat.reduceSub,List.replicate_succ,List.replicate_zero,List.cons_append,List.nil_append];refine wR ?_;refine wS (sT (sT (sC (Xa hl hF) (sT (sT (wN ?_))))));exact Aj ⟨.inr rfl,Fin.cl rfl⟩
theorem Fn.up{P:Program}{f:FuncId}{xs:List AV}{r r':AV}(hu:Up r r')(h:Fn P f xs r):Fn P f xs r':=⟨h.1,fun w S vs a b=>(h.2 w S vs a b).mono fun e w' ⟨v,he,hb,S',k1,k2,k3,k4⟩=>⟨v,he,hb,S',k1,k2,k3,hu.rel k4⟩⟩
def Ao7(x:Ins):Ins:=⟨x.op,Ta x.op [0,1,2,3,5] x.d,Ta x.op [1,2,3,4,6,9,10] x.a,Ta x.op [1,4] x.b,Ta x.op [0,1] x.n,Ta x.op [5] x.f,[],Ta x.op [8,9] x.l1,Ta x.op [9] x.l2⟩
def Jo(x:Ins):M Ins:=M.chk (decide (0≤x.op)&&decide (x.op≤10)) (M.ok (Ao7 x))
theorem Pc{x r:Ins}(H:(Jo x).to r):Fn Tryz.prog 198 [.agg (AL x)] (.agg (AL r)):=by
 obtain⟨c,H⟩:=AM.1 H;obtain rfl:=Am.1 H;rw[Bool.and_eq_true,decide_eq_true_eq,decide_eq_true_eq]at c;exact(Af7 c.1 c.2).up (Aqz (.cons (.refl _) (.cons (.refl _) (.cons (.refl _) (.cons (.refl _) (.cons (.refl _) (.cons (.refl _) (.cons (.nil _) (.cons (.refl _) (.cons (.refl _) .nil))))))))))
section
variable{P:Program}{C:Ctx}{t:List AV}{h:List ABlk}{o:Oper}
def Yz(a b c:Int):Int:=if c < (if b < a then b else a)then c else(if b < a then b else a)
theorem Vf{tys:Array TypeId}{x y z:Operand}{k:IntKind}{a b c:Int}(ho:o.op= .call {callee:=.builtin .min,args:=#[x,y,z],argTypes:=tys})(hx:evA t x= .lit (.int k a))(hy:evA t y= .lit (.int k b))(hz:evA t z= .lit (.int k c)):Av P C t h o (.lit (.int k (Mu.Yz a b c))):=
 Ap fun S ψ w ρ H hρ=>by
  have h1:=hρ x (by simp[ho,Op.operands,Call.operands]);have h2:=hρ y (by simp[ho,Op.operands,Call.operands]);have h3:=hρ z (by simp[ho,Op.operands,Call.operands]);rw[hx]at h1;rw[hy]at h2;rw[hz]at h3;unfold AV.rel at h1 h2 h3;refine⟨.int k (Mu.Yz a b c),?_,by unfold AV.rel;rfl⟩;simp[execOp,ho,resolve,invoke,builtin,h1,h2,h3,Builtin.min_,Builtin.min2,Mu.Yz]
end
def La(rP0:Int):M Bool:=M.ok (decide (rP0 < 0))
theorem NM{rP0:Int}{r:Bool}(H:(La rP0).to r):Fn Tryz.prog 199 [.lit (.int .i64 rP0)] (.lit (.bool r)):=by
 delta La at H;try dsimp only at H
 refine Ax Tryz.func199 rfl (by kernel_rfl) rfl Tryz.ntmps199 fun C hC=>?_
 simp only[List.length_cons,List.length_nil,Nat.reduceAdd,Nat.reduceSub,List.replicate_succ,List.replicate_zero,List.cons_append,List.nil_append];refine wS (sT (wN ?_));refine wS (sT (sT (sT (wN ?_))));obtain rfl:=Am.1 H;exact Aj ⟨.inr rfl,Fin.cl rfl⟩
theorem Adu(z:Int):Fn Tryz.prog 199 [.lit (.int .i64 z)] (.lit (.bool (decide (z < 0)))):=NM (An _)
def Fv(p:Prog)(f:Func)(x:Ins):M Bool:=M.cnd (decide (x.op > 10)) (M.ok false) (M.bnd (Jo x) fun r3=>M.chk (!(!((!(((((((r3.d ==x.d)&&(r3.a ==x.a))&&(r3.b ==x.b))&&(r3.n ==x.n))&&(r3.f ==x.f))&&(r3.l1 ==x.l1))&&(r3.l2 ==x.l2)))||(decide ((Yz x.d x.a x.b) < 0))))||(decide (x.args.length≤1073741824))) (M.cnd (((!(((((((r3.d ==x.d)&&(r3.a ==x.a))&&(r3.b ==x.b))&&(r3.n ==x.n))&&(r3.f ==x.f))&&(r3.l1 ==x.l1))&&(r3.l2 ==x.l2)))||(decide ((Yz x.d x.a x.b) < 0)))||(x.args.any (fun z=>decide (z < 0)))) (M.ok false) (M.cnd (x.op ==5) (M.bnd (Gt x.f (p.funcs.length:Int)) fun r10=>M.chk (!r10||(EJ p.funcs x.f)) (M.ok (r10&&((x.args.length:Int) ==((ixD p.funcs x.f).args))))) (M.bnd (M.whn ((((x.args.length:Int) ==0)&&((x.op !=1)||(decide (x.n≤13))))&&(!((x.op !=8)&&(x.op !=9)))) false (Gt x.l1 (f.blocks.length:Int))) fun r12=>M.bnd (M.whn (((((x.args.length:Int) ==0)&&((x.op !=1)||(decide (x.n≤13))))&&(!((x.op !=8)&&(x.op !=9))))&&r12) false (Gt x.l2 (f.blocks.length:Int))) fun r13=>M.ok ((((x.args.length:Int) ==0)&&((x.op !=1)||(decide (x.n≤13))))&&(((x.op !=8)&&(x.op !=9))||(r12&&r13)))))))
theorem Re{p:Prog}{f:Func}{x:Ins}{r:Bool}(H:(Fv p f x).to r):Fn Tryz.prog 157 [.agg (AU p),.agg (Ak f),.agg (AL x)] (.lit (.bool r)):=by
 delta Fv at H;try dsimp only at H
 refine Ax Tryz.func157 rfl (by kernel_rfl) rfl Tryz.ntmps157 fun C hC=>?_
 simp only[List.length_cons,List.length_nil,Nat.reduceAdd,Nat.reduceSub,List.replicate_succ,List.replicate_zero,List.cons_append,List.nil_append];refine wS (sB (sB (sB (sT (wN ?_)))));refine Ac fun Khs1 hs1=>?_
 refine wS (sT (sT (sT (wN ?_))));refine Ae rfl (fun hb2=>?_) (fun hb2=>?_)
 ·have H:=BN hb2 H;refine wS (sT (wN ?_));obtain rfl:=Am.1 H;exact Aj ⟨.inr rfl,Fin.cl rfl⟩
 ·have H:=BO hb2 H;refine Ag ?_;refine hs1 _ ?_;refine nT ?_;obtain⟨r3,k3,H⟩:=AX.1 H;have k3:=Pc k3;refine As ⟨.agg (AU p)::.agg (Ak f)::.agg (AL x)::.ptr 0 0::.ptr 1 0::.ptr 2 0::.lit (.bool false)::A3 (.ptr 2 0::.lit (.int .u8 x.op)::.lit (.bool (decide (x.op > 10)))::A80 (A40 (A8 []))),[.box (AU p),.box (Ak f),.box (AL x),.dead]⟩ (St.le.trans Ew (Se 1 rfl)) ?_;refine Ac fun Kg4 hg4=>?_
  refine Yq (n:=7) (fun b=>⟨.agg (AU p)::.agg (Ak f)::.agg (AL x)::.ptr 0 0::.ptr 1 0::.ptr 2 0::.lit (.bool false)::(bif b 4 then .ptr 3 0 else .any)::(bif b 6 then .bs tInt x.args else .any)::.any::.ptr 2 0::.lit (.int .u8 x.op)::.lit (.bool (decide (x.op > 10)))::(bif b 0 then .agg (AL x)else .any)::(bif b 1 then .agg (AL r3)else .any)::(bif b 2 then .ptr 2 6 else .any)::(bif b 3 then .bs tInt x.args else .any)::A80 (A40 (A4 [])),[.box (AU p),.box (Ak f),.box (AL x),(bif b 5 then .box (AL r3)else(bif b 4 then .box [.lit (.int .u8 0),.lit (.int .i64 0),.lit (.int .i64 0),.lit (.int .i64 0),.lit (.int .u32 0),.lit (.int .i64 0),.lit (.slice none 0 0),.lit (.int .i64 0),.lit (.int .i64 0)]else .dead))]⟩) rfl (by kernel_rfl) (by kernel_rfl) ?_ (hg4 _ ?_)
  ·refine Ib (fun b hb ha hc=>?_) ?_
   ·try dsimp only
    refine BG (Bt rfl Oh rfl rfl) ?_;exact St.le.refl
   refine Ib (fun b hb ha hc=>?_) ?_
   ·have h0:b 0=true:=ha 0 _ rfl rfl;try dsimp only
    refine BG (Cn rfl (Arr ((AT Oh).trans (Fc h0 _ _)) rfl) k3 rfl rfl) ?_;exact St.le.refl
   refine Ib (fun b hb ha hc=>?_) ?_
   ·try dsimp only
    refine BG (Bz rfl Oh rfl) ?_;exact St.le.refl
   refine Ib (fun b hb ha hc=>?_) ?_
   ·have h2:b 2=true:=ha 0 _ rfl rfl;try dsimp only
    refine BG (Bh rfl ((AT QU).trans (Fc h2 _ _)) rfl rfl) ?_;exact St.le.refl
   refine Ib (fun b hb ha hc=>?_) ?_
   ·have h5:b 5=false:=G2 hc (i:=4) (j:=5) (k:=0) rfl rfl rfl rfl hb;have u5:upd b 4 5=false:=h5;try dsimp only
    refine Aa3 3 rfl (congrArg some ((Ol h5 _ _).trans (Ol hb _ _))) (by repeat(first|exact Adj|refine KI rfl ?_|refine KI (Ui rfl rfl) ?_|refine KI (Ui rfl (Ui rfl rfl)) ?_|refine KI (Ui rfl (Ui rfl (Ui rfl rfl))) ?_)) (by repeat(first|exact Adi|refine N6 rfl ?_|refine N6 (Arp hb rfl) ?_|refine N6 (Arq rfl rfl) ?_)) ?_;simp only[Ol u5];exact St.le.refl
   refine Ib (fun b hb ha hc=>?_) ?_
   ·have h1:b 1=true:=ha 1 _ rfl rfl;have h4:b 4=true:=ha 0 _ rfl rfl;try dsimp only
    refine Vr rfl (QU.trans (Fc h4 _ _)) (congrArg some ((Ol hb _ _).trans (Ao4 h4 _ _))) ((AT OM).trans (Fc h1 _ _)) (Eh rfl) rfl (Nat.le_of_ble_eq_true rfl) ?_;exact St.le.refl
   refine Ib (fun b hb ha hc=>?_) ?_
   ·have h3:b 3=true:=ha 0 _ rfl rfl;try dsimp only
    refine BG (Av.assign rfl ((AT (AT Tb)).trans (Fc h3 _ _))) ?_;exact St.le.refl
   exact Aoq
  ·refine As ⟨.agg (AU p)::.agg (Ak f)::.agg (AL x)::.ptr 0 0::.ptr 1 0::.ptr 2 0::.lit (.bool false)::.ptr 3 0::.bs tInt x.args::.any::.ptr 2 0::.lit (.int .u8 x.op)::.lit (.bool (decide (x.op > 10)))::.agg (AL x)::.agg (AL r3)::.ptr 2 6::.bs tInt x.args::A80 (A40 (A4 [])),[.box (AU p),.box (Ak f),.box (AL x),.box (AL r3)]⟩ St.le.refl ?_;refine wS (sT (sW (wN ?_)));refine wS (sT (sT (sT (sT (sT (sT ?_))))));refine sGt rfl ?_;refine sGt rfl ?_;refine sGt rfl ?_;refine sGt rfl ?_;refine sGt rfl (sT (sT ?_));refine sGt rfl ?_;refine sGt rfl ?_;refine sGt rfl ?_;refine sGt rfl ?_;refine sGt rfl (sT (sT ?_));refine sGt rfl ?_;refine sGt rfl ?_;refine sGt rfl ?_;refine sGt rfl ?_;refine sGt rfl (sT (sT ?_));refine sGt rfl ?_;refine sGt rfl ?_;refine sGt rfl ?_;refine sGt rfl ?_;refine sGt rfl (sT (sT ?_));refine sGt rfl ?_;refine sGt rfl ?_;refine sGt rfl ?_;refine sGt rfl ?_;refine sGt rfl (sT (sT ?_));refine sGt rfl ?_;refine sGt rfl ?_;refine sGt rfl ?_;refine sGt rfl ?_;refine sGt rfl (sT (sT (wN ?_)));refine Ac fun Khs5 hs5=>?_
   obtain⟨c6,H⟩:=AM.1 H;refine wS (sT (sT (sT ?_)));refine sGf rfl ?_;refine sGf rfl ?_;refine sGf rfl ?_;refine sGf rfl ?_;refine sGf rfl ?_;refine sGf rfl ?_;refine sG (g:=(!(!(((((((r3.d ==x.d)&&(r3.a ==x.a))&&(r3.b ==x.b))&&(r3.n ==x.n))&&(r3.f ==x.f))&&(r3.l1 ==x.l1))&&(r3.l2 ==x.l2))))) (hg:=ZJ rfl) (hq:=fun hg=>Vf rfl ((AK (AK Oh)).trans (Fc hg _ _)) ((AK (AK QU)).trans (Fc hg _ _)) ((AK (AK (AT Afu))).trans (Fc hg _ _))) (ht:=(AC (AC (Bf Akm)))) (hk:=?_);refine sGf rfl (sT (sT ?_));refine sGf rfl ?_;refine sG (g:=(!((!(((((((r3.d ==x.d)&&(r3.a ==x.a))&&(r3.b ==x.b))&&(r3.n ==x.n))&&(r3.f ==x.f))&&(r3.l1 ==x.l1))&&(r3.l2 ==x.l2)))||(decide ((Yz x.d x.a x.b) < 0))))) (hg:=ZJ rfl) (hq:=fun hg=>EE rfl ((AK (AK (AT OM))).trans (Fc hg _ _)) rfl (Aga (of_decide_eq_true (S8 c6 hg)) fun z _=>Adu z) rfl rfl) (ht:=(AC (AC (Bf Vw)))) (hk:=?_);refine sT (wN ?_);refine Ae rfl (fun hb7=>?_) (fun hb7=>?_)
   ·have H:=BN hb7 H;refine wS (sT (wN ?_));obtain rfl:=Am.1 H;exact Aj ⟨.inr rfl,Fin.cl rfl⟩
   ·have H:=BO hb7 H;refine Ag ?_;refine hs5 _ ?_;refine nT ?_;refine Ac fun Khs8 hs8=>?_
    refine wS (sT (sT (sT (wN ?_))));refine Ae rfl (fun hb9=>?_) (fun hb9=>?_)
    ·have H:=BN hb9 H;obtain⟨r10,k10,H⟩:=AX.1 H;have k10:=FU k10;obtain⟨c11,H⟩:=AM.1 H;refine wS (sT (sT (sT (sT (sT (sC k10 (sT ?_)))))));refine sGt rfl ?_;refine sGt rfl ?_;refine sGt rfl ?_;refine sGt rfl ?_;refine sGt rfl ?_;refine sGt rfl ?_;refine Aq7 rfl c11 ?_;refine sGt rfl ?_;refine sGt rfl ?_;refine sGt rfl (sT (sT (wN ?_)));obtain rfl:=Am.1 H;exact Aj ⟨.inr rfl,Fin.cl rfl⟩
    ·have H:=BO hb9 H;refine Ag ?_;refine hs8 _ ?_;refine nT ?_;obtain⟨r12,k12,H⟩:=AX.1 H;obtain⟨r13,k13,H⟩:=AX.1 H;refine wS (sT (sT (sT (sT ?_))));refine sGt rfl ?_;refine sGt rfl ?_;refine sGt rfl ?_;refine sGt rfl ?_;refine sG (g:=(((x.args.length:Int) ==0)&&(!(x.op !=1)))) (hg:=LL rfl rfl) (hq:=fun hg=>by(have hg':=Du hg;exact Bz rfl Oh rfl)) (ht:=(AC (AC (AC (Bf Apj))))) ?_;refine sG (g:=(((x.args.length:Int) ==0)&&(!(x.op !=1)))) (hg:=LL rfl rfl) (hq:=fun hg=>by(have hg':=Du hg;exact Bh rfl ((AK (AK (AK (AT OM)))).trans (Fc hg _ _)) rfl rfl)) (ht:=(AC (AC (AC (Bf Vw))))) (hk:=?_);refine sG (g:=(((x.args.length:Int) ==0)&&(!(x.op !=1)))) (hg:=LL rfl rfl) (hq:=fun hg=>by(have hg':=Du hg;exact B7 rfl ((AK (AK (AK (AT QU)))).trans (Fc hg _ _)) Vx rfl)) (ht:=(AC (AC (AC (Bf (Bf V3)))))) (hk:=?_);refine sG (g:=((x.args.length:Int) ==0)) (hg:=YC rfl) (hq:=fun hg=>D7 rfl ((AK (AK (AK (AT Oh)))).trans (Fc hg _ _)) Vx ((AK (AK (AK (AT (AT Tb))))).trans (XO hg _ _))) (ht:=(AC (AC (AC (Bf (Bf T3)))))) (hk:=?_);refine sT (sT ?_);refine sGt rfl ?_;refine sGt rfl ?_;refine sGt rfl ?_;refine sGt rfl ?_;refine sG (g:=((((x.args.length:Int) ==0)&&((x.op !=1)||(decide (x.n≤13))))&&(x.op !=8))) (hg:=LK rfl rfl) (hq:=fun hg=>by(have hg':=Du hg;exact Bz rfl Oh rfl)) (ht:=(AC (AC (AC (Bf (Bf (Bf V3))))))) (hk:=?_);refine sG (g:=((((x.args.length:Int) ==0)&&((x.op !=1)||(decide (x.n≤13))))&&(x.op !=8))) (hg:=LK rfl rfl) (hq:=fun hg=>by(have hg':=Du hg;exact Bh rfl ((AK (AK (AK (AT (AT (AT Tb)))))).trans (Fc hg _ _)) rfl rfl)) (ht:=(AC (AC (AC (Bf (Bf (Bf T3))))))) (hk:=?_);refine sG (g:=((((x.args.length:Int) ==0)&&((x.op !=1)||(decide (x.n≤13))))&&(x.op !=8))) (hg:=LK rfl rfl) (hq:=fun hg=>by(have hg':=Du hg;exact B7 rfl ((AK (AK (AK (AT (AT (AT Afu)))))).trans (Fc hg _ _)) Vx rfl)) (ht:=(AC (AC (AC (Bf (Bf (Bf Akm))))))) (hk:=?_);refine sG (g:=(((x.args.length:Int) ==0)&&((x.op !=1)||(decide (x.n≤13))))) (hg:=YC rfl) (hq:=fun hg=>C4 rfl ((AK (AK (AK (AT (AT QU))))).trans (Fc hg _ _)) ((AK (AK (AK (AT (AT (AT Aft)))))).trans (XO hg _ _)) Vx) (ht:=(AC (AC (AC (Bf (Bf (Bf Ag0))))))) (hk:=?_);refine sGt rfl ?_;refine sG (g:=((((x.args.length:Int) ==0)&&((x.op !=1)||(decide (x.n≤13))))&&(!((x.op !=8)&&(x.op !=9))))) (hg:=LL rfl rfl) (hq:=fun hg=>by(have hg':=Du hg;exact Bz rfl Oh rfl)) (ht:=(AC (AC (AC (Bf (Bf (Bf Agz))))))) (hk:=?_);refine sG (g:=((((x.args.length:Int) ==0)&&((x.op !=1)||(decide (x.n≤13))))&&(!((x.op !=8)&&(x.op !=9))))) (hg:=LL rfl rfl) (hq:=fun hg=>by(have hg':=Du hg;exact Bh rfl ((AK (AK (AK (AT (AT (AT Oh)))))).trans (Fc hg _ _)) rfl rfl)) (ht:=(AC (AC (AC (Bf (Bf (Bf Apj))))))) (hk:=?_);refine sG (g:=((((x.args.length:Int) ==0)&&((x.op !=1)||(decide (x.n≤13))))&&(!((x.op !=8)&&(x.op !=9))))) (hg:=LL rfl rfl) (hq:=fun hg=>by(have hg':=Du hg;exact Bz rfl ZI rfl)) (ht:=(AC (AC (AC (Bf (Bf (Bf Vw))))))) (hk:=?_);refine sG (g:=((((x.args.length:Int) ==0)&&((x.op !=1)||(decide (x.n≤13))))&&(!((x.op !=8)&&(x.op !=9))))) (hg:=LL rfl rfl) (hq:=fun hg=>by(have hg':=Du hg;exact Bh rfl ((AK (AK (AK (AT (AT (AT QU)))))).trans (Fc hg _ _)) rfl rfl)) (ht:=(AC (AC (AC (AC V3))))) (hk:=?_);refine sG (g:=((((x.args.length:Int) ==0)&&((x.op !=1)||(decide (x.n≤13))))&&(!((x.op !=8)&&(x.op !=9))))) (hg:=LL rfl rfl) (hq:=fun hg=>by(have hg':=Du hg;exact Av.ln rfl ((AK (AK (AK (AK Tb)))).trans (Fc hg _ _)))) (ht:=(AC (AC (AC (AC T3))))) (hk:=?_);refine sG (g:=((((x.args.length:Int) ==0)&&((x.op !=1)||(decide (x.n≤13))))&&(!((x.op !=8)&&(x.op !=9))))) (hg:=LL rfl rfl) (hq:=fun hg=>by(have hg':=Du hg;(try simp only[Fc hg,Fc hg']);(try simp only[XO hg,XO hg']);exact Cn rfl rfl (FU (M.to_whn k12 hg)) rfl rfl)) (ht:=(AC (AC (AC (AC Akm))))) (hk:=?_);refine sG (g:=((((x.args.length:Int) ==0)&&((x.op !=1)||(decide (x.n≤13))))&&(!((x.op !=8)&&(x.op !=9))))) (hg:=LL rfl rfl) (hq:=fun hg=>by(have hg':=Du hg;exact Av.move rfl ((AK (AK (AK (AK Aft)))).trans (Fc hg _ _)))) (ht:=(AC (AC (AC (AC Ag0))))) (hk:=?_);refine sG (g:=(((((x.args.length:Int) ==0)&&((x.op !=1)||(decide (x.n≤13))))&&(!((x.op !=8)&&(x.op !=9))))&&r12)) (hg:=LK rfl rfl) (hq:=fun hg=>by(have hg':=Du hg;have hg'':=Du hg';exact Bz rfl Oh rfl)) (ht:=(AC (AC (AC (AC Ac0))))) (hk:=?_);refine sG (g:=(((((x.args.length:Int) ==0)&&((x.op !=1)||(decide (x.n≤13))))&&(!((x.op !=8)&&(x.op !=9))))&&r12)) (hg:=LK rfl rfl) (hq:=fun hg=>by(have hg':=Du hg;have hg'':=Du hg';exact Bh rfl ((AK (AK (AK (AK ZI)))).trans (Fc hg _ _)) rfl rfl)) (ht:=(AC (AC (AC (AC Agz))))) (hk:=?_);refine sG (g:=(((((x.args.length:Int) ==0)&&((x.op !=1)||(decide (x.n≤13))))&&(!((x.op !=8)&&(x.op !=9))))&&r12)) (hg:=LK rfl rfl) (hq:=fun hg=>by(have hg':=Du hg;have hg'':=Du hg';exact Bz rfl ZI rfl)) (ht:=(AC (AC (AC (AC Apj))))) (hk:=?_);refine sG (g:=(((((x.args.length:Int) ==0)&&((x.op !=1)||(decide (x.n≤13))))&&(!((x.op !=8)&&(x.op !=9))))&&r12)) (hg:=LK rfl rfl) (hq:=fun hg=>by(have hg':=Du hg;have hg'':=Du hg';exact Bh rfl ((AK (AK (AK (AK OM)))).trans (Fc hg _ _)) rfl rfl)) (ht:=(AC (AC (AC (AC Vw))))) (hk:=?_);refine sG (g:=(((((x.args.length:Int) ==0)&&((x.op !=1)||(decide (x.n≤13))))&&(!((x.op !=8)&&(x.op !=9))))&&r12)) (hg:=LK rfl rfl) (hq:=fun hg=>by(have hg':=Du hg;have hg'':=Du hg';exact Av.ln rfl ((AK (AK (AK (AK QU)))).trans (Fc hg _ _)))) (ht:=(AC (AC (AC (AC (Bf V3)))))) (hk:=?_);refine sG (g:=(((((x.args.length:Int) ==0)&&((x.op !=1)||(decide (x.n≤13))))&&(!((x.op !=8)&&(x.op !=9))))&&r12)) (hg:=LK rfl rfl) (hq:=fun hg=>by(have hg':=Du hg;have hg'':=Du hg';(try simp only[Fc hg,Fc hg',Fc hg'']);(try simp only[XO hg,XO hg',XO hg'']);exact Cn rfl rfl (FU (M.to_whn k13 hg)) rfl rfl)) (ht:=(AC (AC (AC (AC (Bf T3)))))) (hk:=?_);refine sG (g:=((((x.args.length:Int) ==0)&&((x.op !=1)||(decide (x.n≤13))))&&(!((x.op !=8)&&(x.op !=9))))) (hg:=LL rfl rfl) (hq:=fun hg=>by(have hg':=Du hg;exact C4 rfl ((AK (AK (AK (AK Ab6)))).trans (Fc hg _ _)) ((AK (AK (AK (AK (AT Afu))))).trans (XO hg _ _)) Vx)) (ht:=(AC (AC (AC (AC (Bf Akm)))))) (hk:=?_);refine sG (g:=(((x.args.length:Int) ==0)&&((x.op !=1)||(decide (x.n≤13))))) (hg:=YC rfl) (hq:=fun hg=>D7 rfl ((AK (AK (AK (AT (AT (AT ZI)))))).trans (Fc hg _ _)) Vx ((AK (AK (AK (AK (AT Aft))))).trans (XO hg _ _))) (ht:=(AC (AC (AC (AC (Bf Ag0)))))) (hk:=?_);refine sT (sT (wN ?_));obtain rfl:=Am.1 H;exact Aj ⟨.inr rfl,Fin.cl rfl⟩
def Zl(x:Ins):Bool:=wfB .u8 x.op&&wfB .i64 x.d&&wfB .i64 x.a&&wfB .i64 x.b&&wfB .u32 x.n&&wfB .i64 x.f&&wfB .i64 x.l1&&wfB .i64 x.l2&&x.args.all (wfB .i64)
theorem IH{x:Ins}:Zl x=true↔okIns x:=by
 unfold Zl;simp only[Bool.and_eq_true,List.all_eq_true];exact⟨fun⟨⟨⟨⟨⟨⟨⟨⟨a,b⟩,c⟩,d⟩,e⟩,f⟩,g⟩,i⟩,j⟩=>⟨a,b,c,d,e,f,g,i,j⟩,fun h=>⟨⟨⟨⟨⟨⟨⟨⟨h.op,h.d⟩,h.a⟩,h.b⟩,h.n⟩,h.f⟩,h.l1⟩,h.l2⟩,h.args⟩⟩
theorem WZ:∀(w:World) (S S':Nat→Prop) (cs:List Value) (d:Int),tInt.RS w S cs d→tInt.RS w S' cs d:=fun _ _ _ _ _ h=>JX.2 (JX.1 h)
def Kz(x:Ins):M (List Int):=M.chk (Zl x&&decide (x.args.length≤2097152)) (M.ok (readsC x))
theorem Pe{x:Ins}{r:List Int}(H:(Kz x).to r):Agq Tryz.prog 161 [.agg (AL x)] 3 tInt r:=by
 obtain⟨c,H⟩:=AM.1 H;obtain rfl:=Am.1 H;rw[Bool.and_eq_true]at c;have ho:=IH.1 c.1;have hl:=of_decide_eq_true c.2;exact⟨by kernel_rfl,fun w S vs hS hr=>by
  have hr':=Al (Ext.grow [] ψ0 (fun _ _=>rfl) hS) _ _ hr;obtain⟨v,rfl,hv⟩:=Aaa hr';obtain⟨cs,rfl,hc⟩:=H7 hv;refine(FT x w cs (F1 ho hc) hl).mono ?_;rintro e w' ⟨v,rfl,hO,hb⟩;refine⟨v,_,rfl,hb,hO,fun i d hd=>?_⟩;show tInt.RS w' S ((((readsC x).map (Value.int .i64)).drop (i * 1)).take 1) d;have hi:((readsC x).map (Value.int .i64))[i]? =some (.int .i64 d):=by rw[List.getElem?_map,hd];rfl
  rw[Nat.mul_one,List.take_one,List.head?_drop,hi];exact JX.2 ⟨rfl,Ep ho d (List.mem_of_getElem? hd)⟩⟩
def Iv(x:Ins):M (Int×Bool):=M.chk (Zl x) (M.ok (if Az x then x.d else 0,Az x))
theorem Rf{x:Ins}{r:Int×Bool}(H:(Iv x).to r):Fn Tryz.prog 120 [.agg (AL x)] (.tup [.lit (.int .i64 r.1),.lit (.bool r.2)]):=by
 obtain⟨c,H⟩:=AM.1 H;obtain rfl:=Am.1 H;exact Aba x (IH.1 c)
noncomputable section
def CH(l18:List Int):(Int×Int)→M ((Int×Int)⊕Int):=fun(n24,x25)=>M.cnd (decide (x25 < (l18.length:Int))) (M.chk (EJ l18 x25) (M.ok (.inl ((if(IntKind.i64.wrap ((if 4096 < (ixD l18 x25)then 4096 else(ixD l18 x25))+1)) > n24 then(IntKind.i64.wrap ((if 4096 < (ixD l18 x25)then 4096 else(ixD l18 x25))+1))else n24),IntKind.i64.wrap (x25+1))))) (M.ok (.inr n24))
def CI(f:Func)(x2:Int):(Int×Int)→M ((Int×Int)⊕Int):=fun(n8,x9)=>M.cnd (decide (x9 < (((ixD f.blocks x2).ins).length:Int))) (M.chk (EJ ((ixD f.blocks x2).ins) x9) (M.bnd (Kz (ixD ((ixD f.blocks x2).ins) x9)) fun r16=>M.bnd (M.bnd (Iv (ixD ((ixD f.blocks x2).ins) x9)) fun r20=>M.cnd r20.2 (M.chk (wfB .i64 r20.1) (M.chk (H5 (r16.length+ [r20.1].length) 8) (M.ok (r16++[r20.1])))) (M.ok r16)) fun l18=>M.bnd (M.loop (CH l18) (n8,0)) fun n28=>M.ok (.inl (n28,IntKind.i64.wrap (x9+1))))) (M.ok (.inr n8))
def CT(f:Func):(Int×Int)→M ((Int×Int)⊕Int):=fun(n1,x2)=>M.cnd (decide (x2 < (f.blocks.length:Int))) (M.chk (EJ f.blocks x2) (M.bnd (M.loop (CI f x2) (n1,0)) fun n11=>M.ok (.inl (n11,IntKind.i64.wrap (x2+1))))) (M.ok (.inr n1))
def CX(f:Func):M Int:=M.bnd (M.loop (CT f) (0,0)) fun n4=>M.ok n4
theorem Kk{f:Func}{r:Int}(H:(CX f).to r):Fn Tryz.prog 154 [.agg (Ak f)] (.lit (.int .i64 r)):=by
 delta CX at H;try dsimp only at H
 refine Ax Tryz.func154 rfl (by kernel_rfl) rfl Tryz.ntmps154 fun C hC=>?_
 simp only[List.length_cons,List.length_nil,Nat.reduceAdd,Nat.reduceSub,List.replicate_succ,List.replicate_zero,List.cons_append,List.nil_append];refine wS (sB (sT (wN ?_)));refine wS (sT (wN ?_));obtain⟨z3,HX3,Hl3⟩:=AX.1 H;refine D8 (β:=(Int)×(Unit)) (fun q3=>z3=q3.1) (fun q3=>⟨A3 (.lit (.int .i64 q3.1)::A40 (A10 [])),[.dead]⟩) ?_ ?_
 ·refine wS (sT (sT (sT (sT (wN ?_)))));refine Af ?_;refine GS HX3 (fun s3 b3=>⟨A3 (.lit (.int .i64 s3.1)::A10 (.bs Bs f.blocks::.lit (.int .i64 (f.blocks.length:Int))::.lit (.int .i64 s3.2)::A20 (A10 (A7 [])))),[.dead]⟩) () (?_) ?_
  ·try dsimp only
   exact leC (Cut.dead (Cut.nil _))
  ·rintro⟨n1,x2⟩ _ x3 H Hr3;try dsimp only
   dsimp only[CT]at H;refine wS (sT (wN ?_));refine Ac fun Khs5 hs5=>?_
   refine Ae rfl (fun hb6=>?_) (fun hb6=>?_)
   ·have H:=BN hb6 H;refine Ag ?_;refine hs5 _ ?_;refine nT ?_;obtain⟨c7,H⟩:=AM.1 H;obtain⟨z10,HX10,Hl10⟩:=AX.1 H;refine D8 (β:=(Int)×(Unit)) (fun q10=>z10=q10.1) (fun q10=>⟨A3 (.lit (.int .i64 q10.1)::A10 (.bs Bs f.blocks::.lit (.int .i64 (f.blocks.length:Int))::.lit (.int .i64 x2)::A20 (A10 (A7 [])))),[.dead,.dead]⟩) ?_ ?_
    ·refine Af ?_;refine wS (sX c7 (sT (sA0 (sW (wN ?_)))));refine wS (sT (sT (sT (sT (wN ?_)))));refine Af ?_;refine GS HX10 (fun s10 b10=>⟨A3 (.lit (.int .i64 s10.1)::A10 (.bs Bs f.blocks::.lit (.int .i64 (f.blocks.length:Int))::.lit (.int .i64 x2)::A4 (.bs Dj ((ixD f.blocks x2).ins)::.lit (.int .i64 (((ixD f.blocks x2).ins).length:Int))::.lit (.int .i64 s10.2)::A20 (A10 [])))),[.dead,.dead]⟩) () (?_) ?_
     ·try dsimp only
      exact leC (Cut.cons (Cut.dead (Cut.nil _)))
     ·rintro⟨n8,x9⟩ _ x10 H Hr10;try dsimp only
      dsimp only[CI]at H;refine wS (sT (wN ?_));refine Ac fun Khs12 hs12=>?_
      refine Ae rfl (fun hb13=>?_) (fun hb13=>?_)
      ·have H:=BN hb13 H;refine Ag ?_;refine hs12 _ ?_;refine nT ?_;refine Ac fun Khs14 hs14=>?_
       refine Af ?_;obtain⟨c15,H⟩:=AM.1 H;refine wS (sX c15 (sT (sA0 (sW (wN ?_)))));obtain⟨r16,k16,H⟩:=AX.1 H;have k16:=Pe k16;refine wS (sT ?_);(refine Ao rfl (QR 3 rfl rfl k16 (by decide) WZ (.cons (.cl rfl) .nil) ?_);refine Apk ?_ (Bf (Bf (Bf Ac0))));refine sT (wN ?_);obtain⟨z19,HX19,Hl19⟩:=AX.1 H;refine D8 (β:=((List Int))×(Nat)) (fun q19=>z19=q19.1) (fun q19=>⟨A3 (.lit (.int .i64 n8)::A4 (.own 3 q19.2::A5 (.bs Bs f.blocks::.lit (.int .i64 (f.blocks.length:Int))::.lit (.int .i64 x2)::A4 (.bs Dj ((ixD f.blocks x2).ins)::.lit (.int .i64 (((ixD f.blocks x2).ins).length:Int))::.lit (.int .i64 x9)::A20 (A10 []))))),[.dead,.dead,.dead,.row q19.2 3 tInt q19.1]⟩) ?_ ?_
       ·have H:=HX19;obtain⟨r20,k20,H⟩:=AX.1 H;have k20:=Rf k20;refine wS (sT (sC k20 (sT (sT (sT (sT (sT (wN ?_))))))));refine wS (sT (wN ?_));refine Ae rfl (fun hb21=>?_) (fun hb21=>?_)
        ·have H:=BN hb21 H;obtain⟨c22,H⟩:=AM.1 H;obtain⟨c23,H⟩:=AM.1 H;refine wSE (sT (sT ?_));refine sA ?_ (Av.lt (xs:=[.tmp 36]) (T:=tInt) (ds:=[r20.1]) rfl rfl rfl (by rfl) (by decide) (.cons (Fit.int c22) .nil)) (AC Agz);refine sP c23 (sT (wN ?_));have e19:=Am.1 H;repeat(first|refine abN ?_|refine asN ?_)
         refine athen_n ⟨(_,0+1),e19.symm,?_⟩;try dsimp only
         exact leC (Cut.cons (Cut.cons (Cut.dead (Cut.cons (Cut.nil _)))))
        ·have H:=BO hb21 H;refine Ag ?_;have e19:=Am.1 H;repeat(first|refine abN ?_|refine asN ?_)
         refine athen_n ⟨(_,0),e19.symm,?_⟩;try dsimp only
         exact leC (Cut.cons (Cut.cons (Cut.dead (Cut.cons (Cut.nil _)))))
       ·rintro⟨l18,v17⟩ hz19;try dsimp only at hz19
        have H:=Hl19;rw[hz19]at H;try dsimp only
        refine wS (sT (sT (sT (wN ?_))));obtain⟨z27,HX27,Hl27⟩:=AX.1 H;refine Yl (β:=(Int)×(Unit)) (fun q27=>z27=q27.1) (fun q27=>⟨A3 (.lit (.int .i64 q27.1)::A10 (.bs Bs f.blocks::.lit (.int .i64 (f.blocks.length:Int))::.lit (.int .i64 x2)::A4 (.bs Dj ((ixD f.blocks x2).ins)::.lit (.int .i64 (((ixD f.blocks x2).ins).length:Int))::.lit (.int .i64 x9)::A20 (A10 [])))),[.dead,.dead,.dead,.dead]⟩) ?_ ?_
        ·refine Af ?_;refine GS HX27 (fun s27 b27=>⟨A3 (.lit (.int .i64 s27.1)::A10 (.bs Bs f.blocks::.lit (.int .i64 (f.blocks.length:Int))::.lit (.int .i64 x2)::A4 (.bs Dj ((ixD f.blocks x2).ins)::.lit (.int .i64 (((ixD f.blocks x2).ins).length:Int))::.lit (.int .i64 x9)::A10 (A5 (.own 3 b27::.lit (.int .i64 (l18.length:Int))::.lit (.int .i64 s27.2)::A10 (A2 [])))))),[.dead,.dead,.dead,.row b27 3 tInt l18]⟩) v17 (?_) ?_
         ·try dsimp only
          exact Ew
         ·rintro⟨n24,x25⟩ v26 x27 H Hr27;try dsimp only
          dsimp only[CH]at H;refine wS (sT (wN ?_));refine Ac fun Khs29 hs29=>?_
          refine Ae rfl (fun hb30=>?_) (fun hb30=>?_)
          ·have H:=BN hb30 H;refine Ag ?_;refine hs29 _ ?_;refine nT ?_;refine Ac fun Khs31 hs31=>?_
           refine Af ?_;obtain⟨c32,H⟩:=AM.1 H;refine wS ?_;refine sA ?_ (Vi rfl (AK QU) rfl (AK (AT Afu)) rfl c32) (AC (Bf Ag0));refine sA ?_ (Cw rfl (AK (AT Ab6)) rfl (BJ c32) rfl) (AC (Bf Ac0));refine sT (wN ?_);refine wSE (sT (sT ?_));refine sA ?_ (Av.min2 rfl (AK (AT OM)) Vx) (AC (Bf Vw));refine sT ?_;refine sA ?_ (Av.max2 rfl (AK (AT Oh)) (AK (AT (AT Tb)))) (AC (Bf (Bf T3)));refine sT (wN ?_);refine hs31 _ ?_;refine nT ?_;refine wSE (sT (sT (wN ?_)));have e27:=Am.1 H;repeat(first|refine abN ?_|refine asN ?_)
           refine athen_n ⟨_,v26,e27.symm,?_⟩;try dsimp only
           exact Ew
          ·have H:=BO hb30 H;refine Aq ?_;repeat(first|refine Ga ?_|refine exO (by decide) ?_|refine asE ?_)
           refine exN ?_;have e27:=Hr27 _ (Am.1 H).symm;repeat(first|refine abN ?_|refine asN ?_)
           refine athen_n ⟨(_,()),e27.symm,?_⟩;try dsimp only
           exact leC (Cut.cons (Cut.cons (Cut.cons (Cut.dead (Cut.nil _)))))
        ·rintro⟨n28,_⟩ s27 hz27 hle27;try dsimp only at hz27
         try dsimp only at hle27
         have H:=Hl27;rw[hz27]at H;repeat(first|refine abN ?_|refine asN ?_)
         refine hs14 _ (As _ hle27 ?_);refine wSE (sT (sT (wN ?_)));have e10:=Am.1 H;repeat(first|refine abN ?_|refine asN ?_)
         refine athen_n ⟨_,(),e10.symm,?_⟩;try dsimp only
         exact leC (Cut.cons (Cut.cons (Cut.nil _)))
      ·have H:=BO hb13 H;refine Aq ?_;repeat(first|refine Ga ?_|refine exO (by decide) ?_|refine asE ?_)
       refine exN ?_;have e10:=Hr10 _ (Am.1 H).symm;repeat(first|refine abN ?_|refine asN ?_)
       refine athen_n ⟨(_,()),e10.symm,?_⟩;try dsimp only
       exact Ew
    ·rintro⟨n11,_⟩ hz10;try dsimp only at hz10
     have H:=Hl10;rw[hz10]at H;try dsimp only
     refine wSE (sT (sT (wN ?_)));have e3:=Am.1 H;repeat(first|refine abN ?_|refine asN ?_)
     refine athen_n ⟨_,(),e3.symm,?_⟩;try dsimp only
     exact leC (Cut.cons (Cut.nil _))
   ·have H:=BO hb6 H;refine Aq ?_;repeat(first|refine Ga ?_|refine exO (by decide) ?_|refine asE ?_)
    refine exN ?_;have e3:=Hr3 _ (Am.1 H).symm;repeat(first|refine abN ?_|refine asN ?_)
    refine athen_n ⟨(_,()),e3.symm,?_⟩;try dsimp only
    exact Ew
 ·rintro⟨n4,_⟩ hz3;try dsimp only at hz3
  have H:=Hl3;rw[hz3]at H;try dsimp only
  refine wS (sT (sT (wN ?_)));obtain rfl:=Am.1 H;exact Aj ⟨.inr rfl,Fin.cl rfl⟩
end
section
variable{P:Program}{C:Ctx}{t t':List AV}{h:List ABlk}{ops:Array Oper}{rest:List Oper}{d:Option Nat}{ty:TypeId}{ps:String}{af:Array Go.Edge}{j:Nat}{L:List AV→Prop}
theorem qGq{op:Op}{r:AV}{g:Bool}(hq:g=true→Av P C t h ⟨d,op,ty,ps,af,some (j,true)⟩ r)[PA t d (cond g r (.lit undef)) t'](hk:aQ P C ops h L rest t')(hg:gA ops t ⟨d,op,ty,ps,af,some (j,true)⟩=some (g ==true):=by rfl):aQ P C ops h L (⟨d,op,ty,ps,af,some (j,true)⟩::rest) t:=qG (hg:=YC hg) (hq:=hq) (ht:=PA.e) (hk:=hk)
theorem Apn{op:Op}{r:AV}{g:Bool}(hq:(!g)=true→Av P C t h ⟨d,op,ty,ps,af,some (j,false)⟩ r)[PA t d (cond (!g) r (.lit undef)) t'](hk:aQ P C ops h L rest t')(hg:gA ops t ⟨d,op,ty,ps,af,some (j,false)⟩=some (g ==false):=by rfl):aQ P C ops h L (⟨d,op,ty,ps,af,some (j,false)⟩::rest) t:=qG (hg:=ZJ hg) (hq:=hq) (ht:=PA.e) (hk:=hk)
end
def nmF(p:Prog)(i:Nat):ByteArray:=(ixD p.funcs (i:Int)).name
theorem ZD{p:Prog}{i:Nat}(hi:i < p.funcs.length):Fn Tryz.prog 153 [.lit (.int .i64 (i:Int)),.bp Dl p 0] (.lit (.string (nmF p i))):=by
 refine Ax Tryz.func153 rfl (by kernel_rfl) rfl Tryz.ntmps153 fun C hC=>?_
 simp only[List.length_cons,List.length_nil,Nat.reduceAdd,Nat.reduceSub,List.replicate_succ,List.replicate_zero,List.cons_append,List.nil_append];refine wR ?_;refine wS (sT (sT (sT (sX (Ed hi) (sT (sT (sT (wN ?_))))))));exact Aj ⟨.inr rfl,Fin.cl rfl⟩
def Apo(a b:Int):Int:=if b > a then b else a
def ZB(p:Prog)(n:Nat)(nb:Bool)(g:Int):Bool:=!twB (nmF p) n nb&&decide ((ixD p.funcs (n:Int)).args≥0)&&decide ((ixD p.funcs (n:Int)).args≤6)&&((ixD p.funcs (n:Int)).regs ==Apo (ixD p.funcs (n:Int)).args g)&&decide ((ixD p.funcs (n:Int)).regs≤4096)&&decide (((ixD p.funcs (n:Int)).blocks.length:Int) > 0)
theorem Afo{p:Prog}{n:Nat}{nb:Bool}{g:Int}(hp:wfI .i64 p.heap)(hn:n < p.funcs.length)(hl:p.funcs.length≤1073741824)(hnb:Fn Tryz.prog 197 [.lit (.string (nmF p n))] (.lit (.bool nb)))(hg:Fn Tryz.prog 154 [.agg (Ak (ixD p.funcs (n:Int)))] (.lit (.int .i64 g))):Fn Tryz.prog 91 [.agg (AU p),.lit (.int .i64 (n:Int))] (.lit (.bool (ZB p n nb g))):=by
 have htw:=SC (f:=153) (T:=Dl) (d:=p) (nm:=nmF p) (n:=n) (nb:=nb) (by omega) (fun i hi=>ZD (by omega)) hnb;refine Ax Tryz.func91 rfl (by kernel_rfl) rfl Tryz.ntmps91 fun C hC=>?_
 simp only[List.length_cons,List.length_nil,Nat.reduceAdd,Nat.reduceSub,List.replicate_succ,List.replicate_zero,List.cons_append,List.nil_append];refine wS (sB (sT (wN ?_)));refine wS (sT (sT (sT (sX (Ed hn) (sT (sA0 (sW (wN ?_))))))));refine As _ (E0 hC 0 2 (T:=Dl) (d:=p) rfl rfl rfl fun w S cs H=>NV (h:=[]) hp H) ?_;refine nT ?_;refine dS 36 (hq:=qT ?_);refine qH (r:=.fn 153 [.bp Dl p 0]) (FE (cap:=#[.tmp 2]) rfl) ?_;refine qH (EE rfl rfl rfl htw rfl rfl) (qT (qT ?_));refine qGt rfl ?_;refine qGt rfl ?_;refine qGt rfl (qT (qT ?_));refine qGt rfl ?_;refine qGt rfl ?_;refine qGt rfl (qT (qT ?_));refine qGt rfl ?_;refine qGt rfl ?_;refine qGt rfl ?_;refine qGt rfl ?_;refine qGq (fun hg=>Bt rfl rfl rfl rfl) ?_;refine qGq (fun hge=>AB rfl (GX.e hge) hg rfl rfl) ?_;refine qGq (fun hge=>(Av.max2 rfl (GX.e hge) (GX.e hge):Av _ _ _ _ _ (.lit (.int .i64 (Apo (ixD p.funcs (n:Int)).args g))))) ?_;refine qGt rfl (qT (qT ?_));refine qGt rfl ?_;refine qGt rfl ?_;refine qGt rfl (qT (qT ?_));refine qGt rfl ?_;refine qGt rfl ?_;refine qGt rfl ?_;refine qGt rfl (qT (qT (qN (wN ?_))));exact Aj ⟨.inr rfl,Fin.cl rfl⟩
theorem Sl{P:Program}{C:Ctx}{t:List AV}{h:List ABlk}{o:Oper}{f:FuncId}{x y z:Operand}{tys:Array TypeId}{a b c r:AV}(ho:o.op= .call {callee:=.value (.func f),args:=#[x,y,z],argTypes:=tys})(hx:evA t x=a)(hy:evA t y=b)(hz:evA t z=c)(hF:Fn P f [a,b,c] r)(hc:AZ [a,b,c]=true)(hr:AV.cl r=true):Av P C t h o r:=Cn ho (by show [evA t x,evA t y,evA t z]= [a,b,c];rw[hx,hy,hz]) hF hc hr
def nmB(f:Func)(i:Nat):ByteArray:=(ixD f.blocks (i:Int)).name
theorem XW{f:Func}{i:Nat}(hi:i < f.blocks.length):Fn Tryz.prog 155 [.lit (.int .i64 (i:Int)),.bp B4 f 0] (.lit (.string (nmB f i))):=by
 refine Ax Tryz.func155 rfl (by kernel_rfl) rfl Tryz.ntmps155 fun C hC=>?_
 simp only[List.length_cons,List.length_nil,Nat.reduceAdd,Nat.reduceSub,List.replicate_succ,List.replicate_zero,List.cons_append,List.nil_append];refine wR ?_;refine wS (sT (sT (sT (sX (Ed hi) (sT (sT (sT (wN ?_))))))));exact Aj ⟨.inr rfl,Fin.cl rfl⟩
def LP(x:Ins):Bool:=decide (x.op≥8)&&decide (x.op≤10)
def okI(b:Block)(iv:Ins→Bool)(i:Nat):Bool:=!((LP (ixD b.ins (i:Int)) !=((i:Int) ==((b.ins.length - 1:Nat):Int)))||!iv (ixD b.ins (i:Int)))
def On(f:Func)(n:Nat)(nb:Bool)(iv:Ins→Bool):Bool:=!(twB (nmB f) n nb||((ixD f.blocks (n:Int)).ins.length:Int) ==0)&&(List.range (ixD f.blocks (n:Int)).ins.length).all (okI (ixD f.blocks (n:Int)) iv)
theorem Z6{p:Prog}{f:Func}{n:Nat}{nb:Bool}{iv:Ins→Bool}(ho:okFunc f)(hn:n < f.blocks.length)(hl:f.blocks.length≤1073741824)(hil:(ixD f.blocks (n:Int)).ins.length≤1073741824)(hnb:Fn Tryz.prog 197 [.lit (.string (nmB f n))] (.lit (.bool nb)))
 (hiv:∀x∈(ixD f.blocks (n:Int)).ins,Fn Tryz.prog 157 [.agg (AU p),.agg (Ak f),.agg (AL x)] (.lit (.bool (iv x)))):Fn Tryz.prog 92 [.agg (AU p),.agg (Ak f),.lit (.int .i64 (n:Int))] (.lit (.bool (On f n nb iv))):=by
 have htw:=SC (f:=155) (T:=B4) (d:=f) (nm:=nmB f) (n:=n) (nb:=nb) (by omega) (fun i hi=>XW (by omega)) hnb;obtain⟨b,hb⟩:∃b,b=ixD f.blocks (n:Int):=⟨_,rfl⟩
 have hB:On f n nb iv=(!(twB (nmB f) n nb||(b.ins.length:Int) ==0)&&(List.range b.ins.length).all (okI b iv)):=by rw[hb];rfl
 rw[←hb]at hil hiv;rw[hB];refine Ax Tryz.func92 rfl (by kernel_rfl) rfl Tryz.ntmps92 fun C hC=>?_
 simp only[List.length_cons,List.length_nil,Nat.reduceAdd,Nat.reduceSub,List.replicate_succ,List.replicate_zero,List.cons_append,List.nil_append];refine wS (sB (sB (sT (wN ?_))));refine wS (sT (sT (sT (sX (Ed hn) ?_))));rw[←hb];refine sT (sA0 (sW (wN ?_)));refine As _ (E0 hC 1 4 (T:=B4) (d:=f) rfl rfl rfl fun w S cs H=>SO (h:=[]) (ψ:=ψ0) ho H) ?_;refine nT ?_;refine Ac fun K3 h3=>?_
 refine wS (sT ?_);refine sH (r:=.fn 155 [.bp B4 f 0]) (FE (cap:=#[.tmp 4]) rfl) ?_;refine sH (EE rfl rfl rfl htw rfl rfl) (sT ?_);refine sGf rfl ?_;refine sGf rfl ?_;refine sGf rfl ?_;refine sGf rfl ?_;refine sT (wN ?_);refine Ae rfl (fun hb5=>?_) (fun hb5=>?_)
 ·refine wR ?_;rw[show(twB (nmB f) n nb||(b.ins.length:Int) ==0)=true from hb5];exact Aj ⟨.inr rfl,Fin.cl rfl⟩
 ·have hbe:(twB (nmB f) n nb||(b.ins.length:Int) ==0)=false:=hb5;have hpos:0 < b.ins.length:=by
   rw[Bool.or_eq_false_iff]at hb5;have:=hb5.2;simp at this;exact List.length_pos_iff.2 this
  refine Ag ?_;refine h3 _ ?_;refine nT ?_;refine Ac fun K8 h8=>?_
  refine wS (sT (sT (sT (sT (wN ?_)))));refine Af ?_;refine Au (fun k:Nat=>⟨(A3 (.ptr 0 0::.bp B4 f 0::A2 (.ptr 2 0::A10 (A7 (.bs Dj b.ins::.lit (.int .i64 (b.ins.length:Int))::.lit (.int .i64 (k:Int))::A20 [.any]))))),[.box (AU p),.dead,.box (BZ b)]⟩) (fun k=>k≤b.ins.length∧∀i,i < k→okI b iv i=true) (fun k=>b.ins.length - k) 0 ⟨Nat.zero_le _,fun i hi=>absurd hi (Nat.not_lt_zero _)⟩ (B5 (.cons (.cons (.cons (.nil _)))) rfl (by(try simp only[AJ,List.set_cons_zero,List.set_cons_succ]);repeat(first|exact Fgt.nil|refine Fgt.keep rfl ?_|refine Fgt.any ?_))) ?_;rintro k ⟨hk,hall⟩;refine wS (sT (wN ?_));refine Ac fun K12 h12=>?_
  refine Ae rfl (fun hb13=>?_) (fun hb13=>?_)
  ·have hlt:k < b.ins.length:=by
    have:=of_decide_eq_true hb13;omega
   obtain⟨x,hx⟩:∃x,x=ixD b.ins (k:Int):=⟨_,rfl⟩
   have hxm:x∈b.ins:=by rw[hx];exact List.mem_of_getElem? (BJ (Ed hlt))
   have hok:okI b iv k= !((LP x !=((k:Int) ==((b.ins.length - 1:Nat):Int)))||!iv x):=by rw[hx];rfl
   refine Ag ?_;refine h12 _ ?_;refine nT ?_;refine Ac fun K14 h14=>?_
   refine Af ?_;refine wS (sT (sX (Ed hlt) ?_));rw[←hx];refine sT (sA0 (sT (sW (wN ?_))));refine dS 16 (hq:=qT ?_);refine qC (Af1 x) ?_;refine qT (qT (qT (qT (qT ?_))));rw[show IntKind.i64.wrap ((b.ins.length:Int) - 1)=((b.ins.length - 1:Nat):Int)by rw[IntWalk.i64_in _ (by omega)];omega];refine qT ?_;refine qH (Me rfl rfl rfl rfl) (qT ?_);refine Apn (fun hg=>Bt rfl rfl rfl rfl) ?_;refine Apn (fun hg=>CD rfl rfl rfl) ?_;refine Apn (fun hg=>Bt rfl rfl rfl rfl) ?_;refine Apn (fun hg=>Sl rfl (GX.e hg) (GX.e hg) (GX.e hg) (hiv x hxm) rfl rfl) ?_;refine qGf rfl ?_;refine qT (qN (wN ?_));refine Ae rfl (fun hb17=>?_) (fun hb17=>?_)
   ·refine wR ?_;have hf:okI b iv k=false:=by
     rw[hok,show((LP x !=((k:Int) ==((b.ins.length - 1:Nat):Int)))||!iv x)=true from hb17];rfl
    have:(List.range b.ins.length).all (okI b iv)=false:=List.all_eq_false.2 ⟨k,List.mem_range.2 hlt,by rw[hf];simp⟩;rw[hbe,Bool.not_false,Bool.true_and,this];exact Aj ⟨.inr rfl,Fin.cl rfl⟩
   ·refine Ag ?_;refine h14 _ ?_;refine nT ?_;refine wRE ?_;have hf:okI b iv k=true:=by
     rw[hok,show((LP x !=((k:Int) ==((b.ins.length - 1:Nat):Int)))||!iv x)=false from hb17];rfl
    refine athen_n ⟨k+1,⟨hlt,fun i hi=>by
     by_cases e:i=k
     ·subst e;exact hf
     ·exact hall i (by omega)⟩,by omega,?_⟩
    exact B5 (.cons (.cons (.cons (.nil _)))) rfl (by(try simp only[AJ,List.set_cons_zero,List.set_cons_succ]);repeat(first|exact Fgt.nil|refine Fgt.keep rfl ?_|refine Fgt.any ?_))
  ·refine Aq ?_;refine h8 _ ?_;refine nT ?_;refine wR ?_;have:(List.range b.ins.length).all (okI b iv)=true:=List.all_eq_true.2 fun i hi=>hall i (by have:=List.mem_range.1 hi;have:=of_decide_eq_false hb13;omega)
   rw[hbe,Bool.not_false,Bool.true_and,this];exact Aj ⟨.inr rfl,Fin.cl rfl⟩
def OL(z n:Int):Bool:=decide (z≥0)&&decide (z < n)
theorem Aoo(z n:Int):Fn Tryz.prog 151 [.lit (.int .i64 z),.lit (.int .i64 n)] (.lit (.bool (OL z n))):=FU (An _)
theorem Xg{p:Prog}{z:Int}(h:OL z (p.funcs.length:Int)=true):EJ p.funcs z=true:=by
 unfold OL at h;rw[Bool.and_eq_true,decide_eq_true_eq,decide_eq_true_eq]at h;exact B8.2 ⟨h.1,by omega⟩
def Akh(p:Prog)(z:Int):Bool:=!OL z (p.funcs.length:Int)||(ixD p.funcs z).args !=0
theorem Acr{p:Prog}{z:Int}:Fn Tryz.prog 150 [.lit (.int .i64 z),.bp Dl p 0] (.lit (.bool (Akh p z))):=by
 refine Ax Tryz.func150 rfl (by kernel_rfl) rfl Tryz.ntmps150 fun C hC=>?_
 simp only[List.length_cons,List.length_nil,Nat.reduceAdd,Nat.reduceSub,List.replicate_succ,List.replicate_zero,List.cons_append,List.nil_append];refine wR ?_;refine wS (sT (sT (sT (sT ?_))));refine sC (Aoo z _) (sT (sT ?_));refine sGf rfl ?_;refine sGf rfl ?_;refine sGf rfl ?_;refine SJ (g:=!OL z (p.funcs.length:Int)) (fun hg=>FI (T:=B4) (l:=p.funcs) (z:=z) rfl (GX.e hg) (GX.e hg) rfl (Xg (by simpa using hg))) ?_;refine sGf rfl ?_;refine sGf rfl ?_;refine sGf rfl ?_;refine sT (sT (wN ?_));exact Aj ⟨.inr rfl,Fin.cl rfl⟩
def Vv(p:Prog):Bool:=!(decide (p.heap < 0)||decide (p.heap > 1024)||decide ((p.funcs.length:Int) < 1)||decide ((p.funcs.length:Int) > 64)||decide ((p.threads.length:Int) < 1)||decide ((p.threads.length:Int) > 4))&&!p.threads.any (Akh p)
theorem Acp{p:Prog}(hp:wfI .i64 p.heap)(ht:p.threads.length≤1073741824):Fn Tryz.prog 90 [.agg (AU p)] (.lit (.bool (Vv p))):=by
 have ha:=Agb (f:=150) (T:=Dl) (d:=p) (b:=Akh p) ht fun z _=>Acr
 refine Ax Tryz.func90 rfl (by kernel_rfl) rfl Tryz.ntmps90 fun C hC=>?_
 simp only[List.length_cons,List.length_nil,Nat.reduceAdd,Nat.reduceSub,List.replicate_succ,List.replicate_zero,List.cons_append,List.nil_append];refine wS (sB (sT (wN ?_)));refine As _ (E0 hC 0 1 (T:=Dl) (d:=p) rfl rfl rfl fun w S cs H=>NV (h:=[]) hp H) ?_;refine nT ?_;refine Ac fun K2 h2=>?_
 refine wS (sT (sT (sT (sT ?_))));refine sGf rfl ?_;refine sGf rfl ?_;refine sGf rfl (sT (sT ?_));refine sGf rfl ?_;refine sGf rfl ?_;refine sGf rfl ?_;refine sGf rfl (sT (sT ?_));refine sGf rfl ?_;refine sGf rfl ?_;refine sGf rfl ?_;refine sGf rfl (sT (sT ?_));refine sGf rfl ?_;refine sGf rfl ?_;refine sGf rfl ?_;refine sGf rfl (sT (sT ?_));refine sGf rfl ?_;refine sGf rfl ?_;refine sGf rfl ?_;refine sGf rfl (sT (wN ?_));refine Ae rfl (fun hb4=>?_) (fun hb4=>?_)
 ·refine wR ?_;have hbe:(decide (p.heap < 0)||decide (p.heap > 1024)||decide ((p.funcs.length:Int) < 1)||decide ((p.funcs.length:Int) > 64)||decide ((p.threads.length:Int) < 1)||decide ((p.threads.length:Int) > 4))=true:=hb4;unfold Vv;rw[hbe];exact Aj ⟨.inr rfl,Fin.cl rfl⟩
 ·have hbe:(decide (p.heap < 0)||decide (p.heap > 1024)||decide ((p.funcs.length:Int) < 1)||decide ((p.funcs.length:Int) > 64)||decide ((p.threads.length:Int) < 1)||decide ((p.threads.length:Int) > 4))=false:=hb4;refine Ag ?_;refine h2 _ ?_;refine nT ?_;refine wS (sT (sT ?_));refine sH (r:=.fn 150 [.bp Dl p 0]) (FE (cap:=#[.tmp 1]) rfl) ?_;refine sC ha (sT (sT (wN ?_)));unfold Vv;rw[hbe,Bool.not_false,Bool.true_and];exact Aj ⟨.inr rfl,Fin.cl rfl⟩
theorem Kt{P:Program}{f:FuncId}{fn:Go.Func}{c:Code}{args:List AV}{ι:Type}{R:Res}{Rs:ι→Res}{rs:ι→AV}{n m:Nat}{t u:Tmp}{ty:TypeId}(hf:P.funcs[f]? =some fn)(hb:fn.body=some c)(hE:Bw P f=true)(hres:fn.results= #[.cell t ty,.tmp u])(ha:OO P ty=some (true,m))(hn:fn.ntmps=n)(hm:R.mrk= [])
 (h:∀C:Ctx,Awp P C c (Hv R Rs rs fun s r=>∃i cells,evA s.t (.tmp t)= .ptr i 0∧s.h[i]? =some (.box cells)∧cells.length=m∧AZ cells=true∧AV.cl (evA s.t (.tmp u))=true∧.tup [.agg cells,evA s.t (.tmp u)]=r) ⟨args++List.replicate (n - args.length) (.lit undef),[.res R]⟩):AE P f R args Rs rs:=
 BP _ hf hb hE hn hm (fun C s a w r S ψ ⟨i,cells,hev,hi,hlen,hcl,hcu,hr⟩ H hl=>by
  have hv:=Ba hl (.tmp t);rw[hev]at hv;unfold AV.rel at hv;obtain⟨g,h1,h2⟩:=hv.2 (by rw[hi];rfl);obtain⟨g',cs,e',h3,_,_,h4,h5⟩:=H.blk i _ hi;rw[h1]at h3;cases h3;have hc:∀j u,cs[j]? =some u→w.cell? ⟨g,0+j,none⟩=some u:=fun j u hu=>by simp[World.cell?,h4,hu]
  have hload:=ET (P:=P) (ty:=ty) (b:=g) (off:=0) ha (by rw[AW h5];exact hlen) hc;refine⟨.tuple #[.agg cs.toArray,a.eval (.tmp u)],?_,?_⟩
  ·have e1:(a.tmps[t]?).getD undef= .pointer (some ⟨g,0,none⟩):=by rw[←Array.getD_eq_getD_getElem?];exact h2
   have e2:(a.tmps[u]?).getD undef=a.eval (.tmp u):=by rw[←Array.getD_eq_getD_getElem?];rfl
   unfold Instr.loadAt Instr.sureAddr at hload;simp only[Sem.run_bind,Sem.run_pure,Result.andThen_ok]at hload;simp[results,hres,e1,e2,asAddr,hload]
  ·subst hr;unfold AV.rel;refine⟨[.agg cs.toArray,a.eval (.tmp u)],rfl,?_⟩;unfold Ad;refine⟨_,_,rfl,(by unfold AV.rel;exact⟨cs,rfl,AQ _ _ hcl h5⟩),?_⟩;unfold Ad;refine⟨_,_,rfl,Br _ _ hcu (Ba hl (.tmp u)),?_⟩;unfold Ad;rfl) fun C _=>h C
theorem Py:Cf Tryz.prog 54=some [(0,1),(1,1)]:=by kernel_rfl
instance Aj8:ZC Tryz.prog 54 [.int .i64 0,.int .i64 0]:=⟨by kernel_rfl⟩
instance Aj7:SZ Tryz.prog 54 2:=⟨by kernel_rfl⟩
section
variable{p:Prog}{nb:ByteArray→Bool}{gr:Func→Int}{iv:Func→Ins→Bool}
def YB(p:Prog)(nb:ByteArray→Bool)(gr:Func→Int)(n:Nat):Bool:=ZB p n (nb (nmF p n)) (gr (ixD p.funcs (n:Int)))
def YE(nb:ByteArray→Bool)(iv:Func→Ins→Bool)(f:Func)(i:Nat):Bool:=On f i (nb (nmB f i)) (iv f)
structure ChkIn(p:Prog)(nb:ByteArray→Bool)(gr:Func→Int)(iv:Func→Ins→Bool):Prop where
 heap:wfI .i64 p.heap
 thr:p.threads.length≤1073741824
 fl:p.funcs.length≤1073741824
 ok:∀f∈p.funcs,okFunc f
 bl:∀f∈p.funcs,f.blocks.length≤1073741824
 il:∀f∈p.funcs,∀b∈f.blocks,b.ins.length≤1073741824
 nameF:∀f∈p.funcs,Fn Tryz.prog 197 [.lit (.string f.name)] (.lit (.bool (nb f.name)))
 nameB:∀f∈p.funcs,∀b∈f.blocks,Fn Tryz.prog 197 [.lit (.string b.name)] (.lit (.bool (nb b.name)))
 great:∀f∈p.funcs,Fn Tryz.prog 154 [.agg (Ak f)] (.lit (.int .i64 (gr f)))
 ins:∀f∈p.funcs,∀b∈f.blocks,∀x∈b.ins,Fn Tryz.prog 157 [.agg (AU p),.agg (Ak f),.agg (AL x)] (.lit (.bool (iv f x)))
 inF:Vv p=true→(∀n,n < p.funcs.length→YB p nb gr n=true)→(∀f∈p.funcs,∀i,i < f.blocks.length→YE nb iv f i=true)→∀f∈p.funcs,∃n,InF n f
structure Stat(p:Prog)(nb:ByteArray→Bool)(gr:Func→Int)(iv:Func→Ins→Bool):Prop where
 top:Vv p=true
 heads:∀n,n < p.funcs.length→YB p nb gr n=true
 blocks:∀f∈p.funcs,∀i,i < f.blocks.length→YE nb iv f i=true
abbrev Ar1(p:Prog)(nb:ByteArray→Bool)(gr:Func→Int)(iv:Func→Ins→Bool):Type:={q:(Int×Int)×Int // (q.2=0∧Stat p nb gr iv)∨q.2=140}
def Ard(q:(Int×Int)×Int):AV:=.tup [.agg [.lit (.int .i64 q.1.1),.lit (.int .i64 q.1.2)],.lit (.int .i64 q.2)]
theorem Z3(hI:ChkIn p nb gr iv):AE Tryz.prog 39 .emp [.agg (AU p)] (fun _:Ar1 p nb gr iv=>.emp) (fun q=>Ard q.1):=by
 have hfl:=hI.fl;refine Kt Tryz.func39 rfl (by kernel_rfl) rfl (by kernel_rfl:OO Tryz.prog 54=some (true,2)) Tryz.ntmps39 rfl fun C=>?_
 simp only[List.length_cons,List.length_nil,Nat.reduceAdd,Nat.reduceSub,List.replicate_succ,List.replicate_zero,List.cons_append,List.nil_append];refine wS (sB (sA0 (sT (wN ?_))));refine Ac fun K2 h2=>?_
 refine wS (sT (sC (Acp hI.heap hI.thr) (sT (wN ?_))));refine Ae rfl (fun hb4=>?_) (fun hb4=>?_)
 ·refine wS (sH (B9 (rs:=[.lit (.int .i64 (-1)),.lit (.int .i64 (-1))]) rfl Py rfl rfl) (sW (sT (wN ?_))));exact Aj ⟨.inr rfl,⟨((-1,-1),140),.inr rfl⟩,rfl,rfl,2,_,rfl,rfl,rfl,rfl,rfl,rfl⟩
 ·have htop:Vv p=true:=by simpa using hb4
  refine Ag ?_;refine h2 _ ?_;refine nT ?_;refine Ac fun K7 h7=>?_
  refine wS (sT (sT (sT (sT (wN ?_)))));refine Af ?_;refine Au (fun k:Nat=>⟨(.any::.ptr 1 0::.ptr 2 0::A10 (A7 (.lit (.int .i64 (p.funcs.length:Int))::.lit (.int .i64 (k:Int))::A40 (A20 (A9 []))))),[.res .emp,.box (AU p),.box [.lit (.int .i64 0),.lit (.int .i64 0)]]⟩) (fun k=>k≤p.funcs.length∧∀n,n < k→YB p nb gr n=true) (fun k=>p.funcs.length - k) 0 ⟨Nat.zero_le _,fun n hn=>absurd hn (Nat.not_lt_zero _)⟩ (BD rfl (by(try simp only[AJ,List.set_cons_zero,List.set_cons_succ]);repeat(first|exact Fgt.nil|refine Fgt.keep rfl ?_|refine Fgt.any ?_))) ?_;rintro k ⟨hk,hall⟩;refine wS (sT (wN ?_));refine Ac fun K11 h11=>?_
  refine Ae rfl (fun hb12=>?_) (fun hb12=>?_)
  ·have hlt:k < p.funcs.length:=by
    have:=of_decide_eq_true hb12;omega
   have hfm:ixD p.funcs (k:Int)∈p.funcs:=List.mem_of_getElem? (BJ (Ed hlt));refine Ag ?_;refine h11 _ ?_;refine nT ?_;refine Ac fun K13 h13=>?_
   refine Af ?_;refine wR ?_;refine wS (sT (sT ?_));refine sC (Afo hI.heap hlt hfl (hI.nameF _ hfm) (hI.great _ hfm)) (sT (wN ?_));refine Ae rfl (fun hb16=>?_) (fun hb16=>?_)
   ·refine wS (sT ?_);refine sH (B9 (rs:=[.lit (.int .i64 (k:Int)),.lit (.int .i64 (-1))]) rfl Py rfl rfl) (sW (sT (wN ?_)));exact Aj ⟨.inr rfl,⟨((k,-1),140),.inr rfl⟩,rfl,rfl,2,_,rfl,rfl,rfl,rfl,rfl,rfl⟩
   ·refine Ag ?_;refine h13 _ ?_;refine nT ?_;refine wRE ?_;have hhd:YB p nb gr k=true:=by
     cases e:YB p nb gr k with
     |true=>rfl
     |false=>exact absurd (show(!YB p nb gr k)=false from hb16) (by rw[e];decide)
    refine athen_n ⟨k+1,⟨hlt,fun i hi=>by
     by_cases e:i=k
     ·subst e;exact hhd
     ·exact hall i (by omega)⟩,by omega,?_⟩
    exact B5 (.cons (.cons (.cons (.nil _)))) rfl (by(try simp only[AJ,List.set_cons_zero,List.set_cons_succ]);repeat(first|exact Fgt.nil|refine Fgt.keep rfl ?_|refine Fgt.any ?_))
  ·have hheads:∀n,n < p.funcs.length→YB p nb gr n=true:=fun n hn=>hall n (by have:=of_decide_eq_false hb12;omega)
   refine Aq ?_;refine h7 _ ?_;refine nT ?_;refine Ac fun K20 h20=>?_
   refine wS (sT (sT (sT (sT (wN ?_)))));refine Af ?_;refine Au (fun k:Nat=>⟨(.any::.ptr 1 0::.ptr 2 0::A20 (A9 (.bs B4 p.funcs::.lit (.int .i64 (p.funcs.length:Int))::.lit (.int .i64 (k:Int))::A40 (A10 (A6 []))))),[.res .emp,.box (AU p),.box [.lit (.int .i64 0),.lit (.int .i64 0)]]⟩) (fun k=>k≤p.funcs.length∧∀n,n < k→∀i,i < (ixD p.funcs (n:Int)).blocks.length→YE nb iv (ixD p.funcs (n:Int)) i=true) (fun k=>p.funcs.length - k) 0 ⟨Nat.zero_le _,fun n hn=>absurd hn (Nat.not_lt_zero _)⟩ (BD rfl (by(try simp only[AJ,List.set_cons_zero,List.set_cons_succ]);repeat(first|exact Fgt.nil|refine Fgt.keep rfl ?_|refine Fgt.any ?_))) ?_;rintro k2 ⟨hk2,hall2⟩;refine wS (sT (wN ?_));refine Ac fun K24 h24=>?_
   refine Ae rfl (fun hb25=>?_) (fun hb25=>?_)
   ·have hlt2:k2 < p.funcs.length:=by
     have:=of_decide_eq_true hb25;omega
    obtain⟨f,hf⟩:∃f,f=ixD p.funcs (k2:Int):=⟨_,rfl⟩
    have hfm:f∈p.funcs:=by rw[hf];exact List.mem_of_getElem? (BJ (Ed hlt2))
    have hbl:=hI.bl f hfm;refine Ag ?_;refine h24 _ ?_;refine nT ?_;refine Ac fun K26 h26=>?_
    refine Af ?_;refine wS (sT (sX (Ed hlt2) ?_));rw[←hf];refine sT (sA0 (sT (sW (wN ?_))));refine wS (sT (sT (sT (sT (wN ?_)))));refine Af ?_;refine Au (fun k:Nat=>⟨(.any::.ptr 1 0::.ptr 2 0::A2 (.lit (.int .i64 (k2:Int))::.ptr 3 0::A20 (A5 (.bs B4 p.funcs::.lit (.int .i64 (p.funcs.length:Int))::.lit (.int .i64 (k2:Int))::A6 (.lit (.int .i64 (f.blocks.length:Int))::.lit (.int .i64 (k:Int))::A40 (A8 [])))))),[.res .emp,.box (AU p),.box [.lit (.int .i64 0),.lit (.int .i64 0)],.box (Ak f)]⟩) (fun k=>k≤f.blocks.length∧∀i,i < k→YE nb iv f i=true) (fun k=>f.blocks.length - k) 0 ⟨Nat.zero_le _,fun n hn=>absurd hn (Nat.not_lt_zero _)⟩ (BD rfl (by(try simp only[AJ,List.set_cons_zero,List.set_cons_succ]);repeat(first|exact Fgt.nil|refine Fgt.keep rfl ?_|refine Fgt.any ?_))) ?_;rintro i ⟨hi,hall3⟩;refine wS (sT (wN ?_));refine Ac fun K31 h31=>?_
    refine Ae rfl (fun hb32=>?_) (fun hb32=>?_)
    ·have hlt3:i < f.blocks.length:=by
      have:=of_decide_eq_true hb32;omega
     have hbm:ixD f.blocks (i:Int)∈f.blocks:=List.mem_of_getElem? (BJ (Ed hlt3));refine Ag ?_;refine h31 _ ?_;refine nT ?_;refine Ac fun K33 h33=>?_
     refine Af ?_;refine wR ?_;refine wS (sT (sT (sT ?_)));refine sC (Z6 (hI.ok f hfm) hlt3 hbl (hI.il f hfm _ hbm) (hI.nameB f hfm _ hbm) (hI.ins f hfm _ hbm)) (sT (wN ?_));refine Ae rfl (fun hb36=>?_) (fun hb36=>?_)
     ·refine wS (sT (sT ?_));refine sH (B9 (rs:=[.lit (.int .i64 (k2:Int)),.lit (.int .i64 (i:Int))]) rfl Py rfl rfl) (sW (sT (wN ?_)));exact Aj ⟨.inr rfl,⟨((k2,i),140),.inr rfl⟩,rfl,rfl,2,_,rfl,rfl,rfl,rfl,rfl,rfl⟩
     ·refine Ag ?_;refine h33 _ ?_;refine nT ?_;refine wRE ?_;have hbk:YE nb iv f i=true:=by
       cases e:YE nb iv f i with
       |true=>rfl
       |false=>exact absurd (show(!YE nb iv f i)=false from hb36) (by rw[e];decide)
      refine athen_n ⟨i+1,⟨hlt3,fun j hj=>by
       by_cases e:j=i
       ·subst e;exact hbk
       ·exact hall3 j (by omega)⟩,by omega,?_⟩
      exact B5 (.cons (.cons (.cons (.cons (.nil _))))) rfl (by(try simp only[AJ,List.set_cons_zero,List.set_cons_succ]);repeat(first|exact Fgt.nil|refine Fgt.keep rfl ?_|refine Fgt.any ?_))
    ·refine Aq ?_;refine h26 _ ?_;refine nT ?_;refine wRE ?_;refine athen_n ⟨k2+1,⟨hlt2,fun n hn j hj=>by
      by_cases e:n=k2
      ·subst e;rw[←hf]at hj⊢;exact hall3 j (by have:=of_decide_eq_false hb32;omega)
      ·exact hall2 n (by omega) j hj⟩,by omega,?_⟩
     exact B5 (.cons (.cons (.cons (.nil _)))) rfl (by(try simp only[AJ,List.set_cons_zero,List.set_cons_succ]);repeat(first|exact Fgt.nil|refine Fgt.keep rfl ?_|refine Fgt.any ?_))
   ·have hblocks:∀f∈p.funcs,∀i,i < f.blocks.length→YE nb iv f i=true:=fun f hf i hi=>by
     obtain⟨n,hn⟩:=List.getElem?_of_mem hf;have hnl:=(List.getElem?_eq_some_iff.1 hn).1;have e:ixD p.funcs (n:Int)=f:=by
      have:=BJ (Ed hnl);rw[Int.toNat_natCast,hn]at this;exact(Option.some.inj this).symm
     have:=hall2 n (by have:=of_decide_eq_false hb25;omega) i (by rw[e];exact hi);rwa [e]at this
    have hSt:Stat p nb gr iv:=⟨htop,hheads,hblocks⟩
    refine Aq ?_;refine h20 _ ?_;refine nT ?_;refine Ac fun K41 h41=>?_
    refine wS (sT (sT (sT (sT (wN ?_)))));refine Af ?_;refine Au (fun k:Nat=>⟨(A2 (.ptr 2 0::A40 (A10 (A3 (.bs B4 p.funcs::.lit (.int .i64 (p.funcs.length:Int))::.lit (.int .i64 (k:Int))::A20 (A10 (A2 []))))))),[.res .emp,.box (AU p),.box [.lit (.int .i64 0),.lit (.int .i64 0)]]⟩) (fun k=>k≤p.funcs.length) (fun k=>p.funcs.length - k) 0 (Nat.zero_le _) (BD rfl (by(try simp only[AJ,List.set_cons_zero,List.set_cons_succ]);repeat(first|exact Fgt.nil|refine Fgt.keep rfl ?_|refine Fgt.any ?_))) ?_;rintro k4 hk4;refine wS (sT (wN ?_));refine Ac fun K45 h45=>?_
    refine Ae rfl (fun hb46=>?_) (fun hb46=>?_)
    ·have hlt4:k4 < p.funcs.length:=by
      have:=of_decide_eq_true hb46;omega
     obtain⟨f,hf⟩:∃f,f=ixD p.funcs (k4:Int):=⟨_,rfl⟩
     have hfm:f∈p.funcs:=by rw[hf];exact List.mem_of_getElem? (BJ (Ed hlt4))
     obtain⟨n,hF⟩:=hI.inF htop hheads hblocks f hfm;have hbl:=hI.bl f hfm;refine Ag ?_;refine h45 _ ?_;refine nT ?_;refine Ac fun K47 h47=>?_
     refine Af ?_;refine wS (sT (sX (Ed hlt4) ?_));rw[←hf];refine sT (sA0 (sT (sW (wN ?_))));refine wS (sT ?_);refine Ao rfl (C6 rfl (Acu hF) (fun _=>rfl) rfl rfl (fun _=>rfl) fun q=>?_);obtain⟨⟨go,O⟩,hOl,hO⟩:=q;have hOl:O.length=f.blocks.length:=hOl;have hO:okO n O:=hO;refine sNt (hk:=sT (sT (wN ?_)));refine Af ?_;refine Au (fun k:Nat=>⟨(A2 (.ptr 2 0::A5 (.lit (.int .i64 (k4:Int))::.ptr 3 0::A40 (A6 (.bs B4 p.funcs::.lit (.int .i64 (p.funcs.length:Int))::.lit (.int .i64 (k4:Int))::A5 (.lit (slV go O.length O.length)::.lit (.int .i64 (O.length:Int))::.lit (.int .i64 (k:Int))::A20 (A4 []))))))),[.res .emp,.box (AU p),.box [.lit (.int .i64 0),.lit (.int .i64 0)],.box (Ak f),.res (outR go O)]⟩) (fun k=>k≤O.length) (fun k=>O.length - k) 0 (Nat.zero_le _) (BD rfl (by(try simp only[AJ,List.set_cons_zero,List.set_cons_succ]);repeat(first|exact Fgt.nil|refine Fgt.keep rfl ?_|refine Fgt.any ?_))) ?_;rintro j hj;refine wS (sT (wN ?_));refine Ac fun K52 h52=>?_
     refine Ae rfl (fun hb53=>?_) (fun hb53=>?_)
     ·have hlt5:j < O.length:=by
       have:=of_decide_eq_true hb53;omega
      obtain⟨x,hx⟩:∃x,O[j]? =some x:=⟨_,List.getElem?_eq_getElem hlt5⟩
      obtain⟨b,hb⟩:∃b,b=ixD f.blocks (j:Int):=⟨_,rfl⟩
      have hbm:b∈f.blocks:=by rw[hb];exact List.mem_of_getElem? (BJ (Ed (by omega)))
      obtain⟨hbi,hbl2,hbr,hbg⟩:=hF.ins b hbm;refine Ag ?_;refine h52 _ ?_;refine nT ?_;refine Ac fun K54 h54=>?_
      refine Af ?_;refine wS (sT ?_);refine sH (AY rfl rfl rfl hlt5) ?_;refine sH (DU (i:=4) rfl rfl rfl hx) (sT (sT (wN ?_)));refine Ac fun K56 h56=>?_
      refine wS (sT (sH (Kg rfl rfl rfl) (wN ?_)));refine Ae rfl (fun hb58=>?_) (fun hb58=>?_)
      ·refine Aq ?_;refine h54 _ ?_;refine nT ?_;refine wSE (sT (sT (wN ?_)));refine athen_n ⟨j+1,hlt5,by omega,?_⟩;rw[Cq (by omega)];exact B5 (.cons (.cons (.cons (.cons (.cons (.nil _)))))) rfl (by(try simp only[AJ,List.set_cons_zero,List.set_cons_succ]);repeat(first|exact Fgt.nil|refine Fgt.keep rfl ?_|refine Fgt.any ?_))
      ·obtain⟨s,rfl⟩:∃s,x=some s:=by
        cases x with
        |none=>cases hb58
        |some s=>exact⟨s,rfl⟩
       have hsl:s.l.length=n:=hO s (List.mem_of_getElem? hx);have hn4:=hF.nle;refine Ag ?_;refine h56 _ ?_;refine nT ?_;refine wS (sT (sT (sT (sX (Ed (show j < f.blocks.length by omega)) ?_))));rw[←hb];refine sT (sT ?_);refine Ao rfl (NC (i:=4) [.agg (BZ b)] rfl hx rfl (MJ (b:=b) (l:=s.l) (by omega) hbl2 (by rw[hsl];exact hbr)) (fun _=>rfl) (fun p w S S' h=>NR h) (fun _=>rfl) (fun p w S S' v h=>MI p.1 h) rfl rfl fun q=>?_);obtain⟨⟨s2,fine⟩,hs2⟩:=q;refine sNt ?_;dsimp only[VM];refine sT (sT (sT (sT (sT (wN ?_)))));refine wR ?_;refine Ae rfl (fun hb61=>?_) (fun hb61=>?_)
       ·refine wS (sT (sT ?_));refine sH (B9 (rs:=[.lit (.int .i64 (k4:Int)),.lit (.int .i64 (j:Int))]) rfl Py rfl rfl) (sW (sT (wN ?_)));exact Aj ⟨.inr rfl,⟨((k4,j),140),.inr rfl⟩,rfl,rfl,2,_,rfl,rfl,rfl,rfl,rfl,rfl⟩
       ·refine Ag ?_;refine h54 _ ?_;refine nT ?_;refine wSE (sT (sT (wN ?_)));refine athen_n ⟨j+1,hlt5,by omega,?_⟩;rw[Cq (by omega)];exact B5 (.cons (.cons (.cons (.cons (.cons (.nil _)))))) rfl (by(try simp only[AJ,List.set_cons_zero,List.set_cons_succ]);repeat(first|exact Fgt.nil|refine Fgt.keep rfl ?_|refine Fgt.any ?_))
     ·refine Aq ?_;refine h47 _ ?_;refine nT ?_;refine wSE (sT (sT (wN ?_)));refine athen_n ⟨k4+1,hlt4,by omega,?_⟩;rw[Cq (by omega)];exact B5 (.cons (.cons (.cons (.nil _)))) rfl (by(try simp only[AJ,List.set_cons_zero,List.set_cons_succ]);repeat(first|exact Fgt.nil|refine Fgt.keep rfl ?_|refine Fgt.any ?_))
    ·refine Aq ?_;refine h41 _ ?_;refine nT ?_;refine wS (sH (B9 (rs:=[.lit (.int .i64 0),.lit (.int .i64 0)]) rfl Py rfl rfl) (sW (sT (wN ?_))));exact Aj ⟨.inr rfl,⟨((0,0),0),.inl ⟨rfl,hSt⟩⟩,rfl,rfl,2,_,rfl,rfl,rfl,rfl,rfl,rfl⟩
end
def Fo(a:Int)(bP1:Int):M (Int×Bool):=M.ok (IntKind.u32.wrap (a+bP1),true)
theorem HU{a:Int}{bP1:Int}{r:Int×Bool}(H:(Fo a bP1).to r):Fn Tryz.prog 220 [.lit (.int .u32 a),.lit (.int .u32 bP1)] (.tup [.lit (.int .u32 r.1),.lit (.bool r.2)]):=by
 delta Fo at H;try dsimp only at H
 refine AP Tryz.func220 rfl (by kernel_rfl) rfl Tryz.ntmps220 fun C hC=>?_
 simp only[List.length_cons,List.length_nil,Nat.reduceAdd,Nat.reduceSub,List.replicate_succ,List.replicate_zero,List.cons_append,List.nil_append];refine wS (sT (sT (wN ?_)));refine wS (sT (sT (sT (sT (sT (wN ?_))))));obtain rfl:=Am.1 H;exact Aj ⟨.inr rfl,_,_,Fin.cl rfl,rfl,rfl⟩
def Fl(a:Int)(bP1:Int):M (Int×Bool):=M.ok (IntKind.u32.wrap (a - bP1),true)
theorem HT{a:Int}{bP1:Int}{r:Int×Bool}(H:(Fl a bP1).to r):Fn Tryz.prog 221 [.lit (.int .u32 a),.lit (.int .u32 bP1)] (.tup [.lit (.int .u32 r.1),.lit (.bool r.2)]):=by
 delta Fl at H;try dsimp only at H
 refine AP Tryz.func221 rfl (by kernel_rfl) rfl Tryz.ntmps221 fun C hC=>?_
 simp only[List.length_cons,List.length_nil,Nat.reduceAdd,Nat.reduceSub,List.replicate_succ,List.replicate_zero,List.cons_append,List.nil_append];refine wS (sT (sT (wN ?_)));refine wS (sT (sT (sT (sT (sT (wN ?_))))));obtain rfl:=Am.1 H;exact Aj ⟨.inr rfl,_,_,Fin.cl rfl,rfl,rfl⟩
def Fk(a:Int)(bP1:Int):M (Int×Bool):=M.ok (IntKind.u32.wrap (a * bP1),true)
theorem HN{a:Int}{bP1:Int}{r:Int×Bool}(H:(Fk a bP1).to r):Fn Tryz.prog 222 [.lit (.int .u32 a),.lit (.int .u32 bP1)] (.tup [.lit (.int .u32 r.1),.lit (.bool r.2)]):=by
 delta Fk at H;try dsimp only at H
 refine AP Tryz.func222 rfl (by kernel_rfl) rfl Tryz.ntmps222 fun C hC=>?_
 simp only[List.length_cons,List.length_nil,Nat.reduceAdd,Nat.reduceSub,List.replicate_succ,List.replicate_zero,List.cons_append,List.nil_append];refine wS (sT (sT (wN ?_)));refine wS (sT (sT (sT (sT (sT (wN ?_))))));obtain rfl:=Am.1 H;exact Aj ⟨.inr rfl,_,_,Fin.cl rfl,rfl,rfl⟩
def Fj(a:Int)(bP1:Int):M Int:=M.chk (bP1 !=0) (M.ok (IntKind.i64.wrap (Int.tdiv a bP1)))
theorem HJ{a:Int}{bP1:Int}{r:Int}(H:(Fj a bP1).to r):Fn Tryz.prog 224 [.lit (.int .i64 a),.lit (.int .i64 bP1)] (.lit (.int .i64 r)):=by
 delta Fj at H;try dsimp only at H
 refine Ax Tryz.func224 rfl (by kernel_rfl) rfl Tryz.ntmps224 fun C hC=>?_
 simp only[List.length_cons,List.length_nil,Nat.reduceAdd,Nat.reduceSub,List.replicate_succ,List.replicate_zero,List.cons_append,List.nil_append];refine wS (sT (wN ?_));obtain⟨c1,H⟩:=AM.1 H;refine wS (sT (sT ?_));refine sA ?_ (Vd rfl Oh OM c1) Vw;refine sT (wN ?_);obtain rfl:=Am.1 H;exact Aj ⟨.inr rfl,Fin.cl rfl⟩
def Fi(a:Int)(bP1:Int):M Int:=M.chk (bP1 !=0) (M.ok (Int.tmod a bP1))
theorem HI{a:Int}{bP1:Int}{r:Int}(H:(Fi a bP1).to r):Fn Tryz.prog 225 [.lit (.int .i64 a),.lit (.int .i64 bP1)] (.lit (.int .i64 r)):=by
 delta Fi at H;try dsimp only at H
 refine Ax Tryz.func225 rfl (by kernel_rfl) rfl Tryz.ntmps225 fun C hC=>?_
 simp only[List.length_cons,List.length_nil,Nat.reduceAdd,Nat.reduceSub,List.replicate_succ,List.replicate_zero,List.cons_append,List.nil_append];refine wS (sT (wN ?_));obtain⟨c1,H⟩:=AM.1 H;refine wS (sT (sT ?_));refine sA ?_ (Np rfl Oh OM c1) Vw;refine sT (wN ?_);obtain rfl:=Am.1 H;exact Aj ⟨.inr rfl,Fin.cl rfl⟩
def Fh(a:Int)(bP1:Int):M (Int×Bool):=M.ok (bits .and .u32 a bP1,true)
theorem HG{a:Int}{bP1:Int}{r:Int×Bool}(H:(Fh a bP1).to r):Fn Tryz.prog 226 [.lit (.int .u32 a),.lit (.int .u32 bP1)] (.tup [.lit (.int .u32 r.1),.lit (.bool r.2)]):=by
 delta Fh at H;try dsimp only at H
 refine AP Tryz.func226 rfl (by kernel_rfl) rfl Tryz.ntmps226 fun C hC=>?_
 simp only[List.length_cons,List.length_nil,Nat.reduceAdd,Nat.reduceSub,List.replicate_succ,List.replicate_zero,List.cons_append,List.nil_append];refine wS (sT (sT (wN ?_)));refine wS (sT (sT ?_));refine sA ?_ (DW rfl OM QU rfl rfl) (Bf V3);refine sT (sT (wN ?_));obtain rfl:=Am.1 H;exact Aj ⟨.inr rfl,_,_,Fin.cl rfl,rfl,rfl⟩
def Fg(a:Int)(bP1:Int):M (Int×Bool):=M.ok (bits .or .u32 a bP1,true)
theorem HE{a:Int}{bP1:Int}{r:Int×Bool}(H:(Fg a bP1).to r):Fn Tryz.prog 227 [.lit (.int .u32 a),.lit (.int .u32 bP1)] (.tup [.lit (.int .u32 r.1),.lit (.bool r.2)]):=by
 delta Fg at H;try dsimp only at H
 refine AP Tryz.func227 rfl (by kernel_rfl) rfl Tryz.ntmps227 fun C hC=>?_
 simp only[List.length_cons,List.length_nil,Nat.reduceAdd,Nat.reduceSub,List.replicate_succ,List.replicate_zero,List.cons_append,List.nil_append];refine wS (sT (sT (wN ?_)));refine wS (sT (sT ?_));refine sA ?_ (DW rfl OM QU rfl rfl) (Bf V3);refine sT (sT (wN ?_));obtain rfl:=Am.1 H;exact Aj ⟨.inr rfl,_,_,Fin.cl rfl,rfl,rfl⟩
def Ff(a:Int)(bP1:Int):M (Int×Bool):=M.ok (bits .xor .u32 a bP1,true)
theorem HC{a:Int}{bP1:Int}{r:Int×Bool}(H:(Ff a bP1).to r):Fn Tryz.prog 228 [.lit (.int .u32 a),.lit (.int .u32 bP1)] (.tup [.lit (.int .u32 r.1),.lit (.bool r.2)]):=by
 delta Ff at H;try dsimp only at H
 refine AP Tryz.func228 rfl (by kernel_rfl) rfl Tryz.ntmps228 fun C hC=>?_
 simp only[List.length_cons,List.length_nil,Nat.reduceAdd,Nat.reduceSub,List.replicate_succ,List.replicate_zero,List.cons_append,List.nil_append];refine wS (sT (sT (wN ?_)));refine wS (sT (sT ?_));refine sA ?_ (DW rfl OM QU rfl rfl) (Bf V3);refine sT (sT (wN ?_));obtain rfl:=Am.1 H;exact Aj ⟨.inr rfl,_,_,Fin.cl rfl,rfl,rfl⟩
def Fe(a:Int)(bP1:Int):M (Int×Bool):=M.chk (decide (0≤(bits .and .u32 bP1 31))) (M.ok (Aq6 .u32 a (bits .and .u32 bP1 31),true))
theorem Hz{a:Int}{bP1:Int}{r:Int×Bool}(H:(Fe a bP1).to r):Fn Tryz.prog 229 [.lit (.int .u32 a),.lit (.int .u32 bP1)] (.tup [.lit (.int .u32 r.1),.lit (.bool r.2)]):=by
 delta Fe at H;try dsimp only at H
 refine AP Tryz.func229 rfl (by kernel_rfl) rfl Tryz.ntmps229 fun C hC=>?_
 simp only[List.length_cons,List.length_nil,Nat.reduceAdd,Nat.reduceSub,List.replicate_succ,List.replicate_zero,List.cons_append,List.nil_append];refine wS (sT (sT (wN ?_)));obtain⟨c1,H⟩:=AM.1 H;refine wS (sT (sT ?_));refine sA ?_ (DW rfl QU Vx rfl rfl) (Bf V3);refine sA ?_ (Vc rfl OM (AT Tb) c1) (Bf T3);refine sT (sT (wN ?_));obtain rfl:=Am.1 H;exact Aj ⟨.inr rfl,_,_,Fin.cl rfl,rfl,rfl⟩
def EQ(a:Int)(bP1:Int):M (Int×Bool):=M.chk (decide (0≤(bits .and .u32 bP1 31))) (M.ok (Aqh .u32 a (bits .and .u32 bP1 31),true))
theorem Hl{a:Int}{bP1:Int}{r:Int×Bool}(H:(EQ a bP1).to r):Fn Tryz.prog 230 [.lit (.int .u32 a),.lit (.int .u32 bP1)] (.tup [.lit (.int .u32 r.1),.lit (.bool r.2)]):=by
 delta EQ at H;try dsimp only at H
 refine AP Tryz.func230 rfl (by kernel_rfl) rfl Tryz.ntmps230 fun C hC=>?_
 simp only[List.length_cons,List.length_nil,Nat.reduceAdd,Nat.reduceSub,List.replicate_succ,List.replicate_zero,List.cons_append,List.nil_append];refine wS (sT (sT (wN ?_)));obtain⟨c1,H⟩:=AM.1 H;refine wS (sT (sT ?_));refine sA ?_ (DW rfl QU Vx rfl rfl) (Bf V3);refine sA ?_ (No rfl OM (AT Tb) c1) (Bf T3);refine sT (sT (wN ?_));obtain rfl:=Am.1 H;exact Aj ⟨.inr rfl,_,_,Fin.cl rfl,rfl,rfl⟩
def EP(a:Int)(bP1:Int):M (Int×Bool):=M.chk (decide (0≤(bits .and .u32 bP1 31))) (M.ok (IntKind.u32.wrap (Aqh .i32 (IntKind.i32.wrap a) (bits .and .u32 bP1 31)),true))
theorem Hj{a:Int}{bP1:Int}{r:Int×Bool}(H:(EP a bP1).to r):Fn Tryz.prog 231 [.lit (.int .u32 a),.lit (.int .u32 bP1)] (.tup [.lit (.int .u32 r.1),.lit (.bool r.2)]):=by
 delta EP at H;try dsimp only at H
 refine AP Tryz.func231 rfl (by kernel_rfl) rfl Tryz.ntmps231 fun C hC=>?_
 simp only[List.length_cons,List.length_nil,Nat.reduceAdd,Nat.reduceSub,List.replicate_succ,List.replicate_zero,List.cons_append,List.nil_append];refine wS (sT (sT (wN ?_)));obtain⟨c1,H⟩:=AM.1 H;refine wS (sT ?_);refine sA ?_ (Av.cv rfl OM rfl) Vw;refine sT ?_;refine sA ?_ (DW rfl (AT Tb) Vx rfl rfl) (Bf T3);refine sA ?_ (No rfl QU (AT Afu) c1) (Bf Akm);refine sA ?_ (Av.cv rfl (AT Aft) rfl) (Bf Ag0);refine sT (sT (wN ?_));obtain rfl:=Am.1 H;exact Aj ⟨.inr rfl,_,_,Fin.cl rfl,rfl,rfl⟩
def EO(a:Int)(bP1:Int):M (Int×Bool):=M.bnd (Eb (decide ((IntKind.i32.wrap a) < (IntKind.i32.wrap bP1)))) fun r1=>M.ok (r1.1,r1.2)
theorem Hi{a:Int}{bP1:Int}{r:Int×Bool}(H:(EO a bP1).to r):Fn Tryz.prog 232 [.lit (.int .u32 a),.lit (.int .u32 bP1)] (.tup [.lit (.int .u32 r.1),.lit (.bool r.2)]):=by
 delta EO at H;try dsimp only at H
 refine AP Tryz.func232 rfl (by kernel_rfl) rfl Tryz.ntmps232 fun C hC=>?_
 simp only[List.length_cons,List.length_nil,Nat.reduceAdd,Nat.reduceSub,List.replicate_succ,List.replicate_zero,List.cons_append,List.nil_append];refine wS (sT (sT (wN ?_)));obtain⟨r1,k1,H⟩:=AX.1 H;have k1:=Gm k1;refine wS (sT ?_);refine sA ?_ (Av.cv rfl OM rfl) Vw;refine sT ?_;refine sA ?_ (Av.cv rfl (AT Tb) rfl) (Bf T3);refine sT (sC k1 (sT (sT (sT (sT (wN ?_))))));obtain rfl:=Am.1 H;exact Aj ⟨.inr rfl,_,_,Fin.cl rfl,rfl,rfl⟩
def EN(a:Int)(bP1:Int):M (Int×Bool):=M.bnd (Eb (decide (a < bP1))) fun r1=>M.ok (r1.1,r1.2)
theorem Hh{a:Int}{bP1:Int}{r:Int×Bool}(H:(EN a bP1).to r):Fn Tryz.prog 234 [.lit (.int .u32 a),.lit (.int .u32 bP1)] (.tup [.lit (.int .u32 r.1),.lit (.bool r.2)]):=by
 delta EN at H;try dsimp only at H
 refine AP Tryz.func234 rfl (by kernel_rfl) rfl Tryz.ntmps234 fun C hC=>?_
 simp only[List.length_cons,List.length_nil,Nat.reduceAdd,Nat.reduceSub,List.replicate_succ,List.replicate_zero,List.cons_append,List.nil_append];refine wS (sT (sT (wN ?_)));obtain⟨r1,k1,H⟩:=AX.1 H;have k1:=Gm k1;refine wS (sT (sT (sT (sC k1 (sT (sT (sT (sT (wN ?_)))))))));obtain rfl:=Am.1 H;exact Aj ⟨.inr rfl,_,_,Fin.cl rfl,rfl,rfl⟩
def EM(a:Int)(bP1:Int):M (Int×Bool):=M.bnd (Eb (a ==bP1)) fun r1=>M.ok (r1.1,r1.2)
theorem Hg{a:Int}{bP1:Int}{r:Int×Bool}(H:(EM a bP1).to r):Fn Tryz.prog 235 [.lit (.int .u32 a),.lit (.int .u32 bP1)] (.tup [.lit (.int .u32 r.1),.lit (.bool r.2)]):=by
 delta EM at H;try dsimp only at H
 refine AP Tryz.func235 rfl (by kernel_rfl) rfl Tryz.ntmps235 fun C hC=>?_
 simp only[List.length_cons,List.length_nil,Nat.reduceAdd,Nat.reduceSub,List.replicate_succ,List.replicate_zero,List.cons_append,List.nil_append];refine wS (sT (sT (wN ?_)));obtain⟨r1,k1,H⟩:=AX.1 H;have k1:=Gm k1;refine wS (sT (sT (sT (sC k1 (sT (sT (sT (sT (wN ?_)))))))));obtain rfl:=Am.1 H;exact Aj ⟨.inr rfl,_,_,Fin.cl rfl,rfl,rfl⟩
theorem KR(a:Int):wfI .u32 (IntKind.u32.wrap a):=by
 have e:IntKind.u32.wrap a=a % 4294967296:=by simp[IntKind.wrap,IntKind.signed,IntKind.bits]
 rw[e];simp[wfI,Lit.wf,IntKind.min,IntKind.max,IntKind.signed,IntKind.bits];omega
theorem Tr(op:BinOp)(a b:Int):wfI .u32 (bits op .u32 a b):=KR _
def tFV(v:Value):Ty Unit where
 size:=1
 bulk:=fun _=>1
 RS:=fun _ _ cs _=>cs= [v]∧v.oneCell'=true
 len:=by rintro _ _ _ _ ⟨rfl,_⟩;rfl
 keepS:=fun h _ _=>h
instance Ak7{v:Value}:EncOf (tFV v) fun _=>[.lit v]:=⟨fun w S h ψ cs d H=>by
 obtain⟨rfl,_⟩:=(show cs= [v]∧v.oneCell'=true from H)
 simp only[Ad,AV.rel];exact⟨_,_,rfl,rfl,rfl⟩,fun w S cs d H u hu=>by
 obtain⟨rfl,h1⟩:=(show cs= [v]∧v.oneCell'=true from H)
 rw[List.mem_singleton.1 hu];exact h1,by show 0 < 1;decide⟩
theorem Sn{h:List ABlk}{v:Value}{cells:List Value}(e:v.cells.toList=cells):Qz h (.lit v) (cells.map .lit):=fun C S ψ w u _ hv=>by
 unfold AV.rel at hv;subst hv;rw[e];exact DK cells
def WOk(f:FuncId)(l:List AV)(a b:Int):Prop:=∃w is,wfI .u32 w∧Fn Tryz.prog f ([.lit (.int .u32 a),.lit (.int .u32 b)]++l) (.tup [.lit (.int .u32 w),.lit (.bool is)])
section
variable{a b:Int}
theorem Rd(b:Int):decide (0≤bits .and .u32 b 31)=true:=decide_eq_true (KU (Tr _ _ _)).1
theorem NI(c:Bool):(Eb c).to (if c then 1 else 0,true):=by
 cases c
 ·exact Bc rfl (An _)
 ·exact BT rfl (An _)
theorem Q1(c:Bool):wfI .u32 (if c then 1 else 0):=by cases c <;> simp[wfI,Lit.wf,IntKind.min,IntKind.max,IntKind.signed,IntKind.bits]
theorem w1:WOk 220 [] a b:=⟨_,_,KR _,HU (An _)⟩
theorem w2:WOk 221 [] a b:=⟨_,_,KR _,HT (An _)⟩
theorem w3:WOk 222 [] a b:=⟨_,_,KR _,HN (An _)⟩
theorem w6:WOk 226 [] a b:=⟨bits .and .u32 a b,true,Tr .and a b,HG (An _)⟩
theorem w7:WOk 227 [] a b:=⟨bits .or .u32 a b,true,Tr .or a b,HE (An _)⟩
theorem w8:WOk 228 [] a b:=⟨bits .xor .u32 a b,true,Tr .xor a b,HC (An _)⟩
theorem w9:WOk 229 [] a b:=⟨_,_,KR _,Hz (AA (Rd b) (An _))⟩
theorem Aqg(ha:wfI .u32 a)(k:Nat):wfI .u32 (a / 2 ^ k):=by
 have h:=KU ha;have hp:(0:Int) < 2 ^ k:=Int.pow_pos (by decide);have h1:0≤a / 2 ^ k:=Int.ediv_nonneg h.1 (by omega);have h2:a / 2 ^ k≤a:=Int.ediv_le_self _ h.1;simp[wfI,Lit.wf,IntKind.min,IntKind.max,IntKind.signed,IntKind.bits];omega
theorem w10(ha:wfI .u32 a):WOk 230 [] a b:=⟨_,_,Aqg ha _,Hl (AA (Rd b) (An _))⟩
theorem w11:WOk 231 [] a b:=⟨_,_,KR _,Hj (AA (Rd b) (An _))⟩
theorem w12:WOk 232 [] a b:=⟨_,_,Q1 _,Hi (AF (NI _) (An _))⟩
theorem w13:WOk 234 [] a b:=⟨_,_,Q1 _,Hh (AF (NI _) (An _))⟩
theorem w14:WOk 235 [] a b:=⟨_,_,Q1 _,Hg (AF (NI _) (An _))⟩
theorem O8{v:Value}:Fn Tryz.prog 249 [.lit (.int .u32 a),.lit (.int .u32 0),.bp (tFV v) () 0] (.tup [.lit (.int .u32 0),.lit (.bool false)]):=by
 refine AP Tryz.func249 rfl (by kernel_rfl) rfl Tryz.ntmps249 fun C hC=>?_
 simp only[List.length_cons,List.length_nil,Nat.reduceAdd,Nat.reduceSub,List.replicate_succ,List.replicate_zero,List.cons_append,List.nil_append];refine wR ?_;refine Ac fun K2 h2=>?_
 refine wS (sT (sT (wN ?_)));refine Ae rfl (fun hb4=>?_) (fun hb4=>?_)
 ·refine wR ?_;exact Aj ⟨.inr rfl,_,_,Fin.cl rfl,rfl,rfl⟩
 ·cases hb4
theorem Aa8(a:Int):-9223372036854775808≤IntKind.i32.wrap a∧IntKind.i32.wrap a≤9223372036854775807:=by
 have e:IntKind.i32.wrap a=if a % 4294967296≥2147483648 then a % 4294967296 - 4294967296 else a % 4294967296:=by simp[IntKind.wrap,IntKind.signed,IntKind.bits]
 rw[e];split <;> omega
theorem Aqe(hb:wfI .u32 b)(h0:b≠0):IntKind.i32.wrap b≠0:=by
 have h:=KU hb;have e:IntKind.i32.wrap b=if b % 4294967296≥2147483648 then b % 4294967296 - 4294967296 else b % 4294967296:=by simp[IntKind.wrap,IntKind.signed,IntKind.bits]
 rw[e];split <;> omega
theorem O9{g:FuncId}{F:Int→Int→Int}(hF:∀x y:Int,y≠0→Fn Tryz.prog g [.lit (.int .i64 x),.lit (.int .i64 y)] (.lit (.int .i64 (F x y))))(hb:wfI .u32 b)(h0:b≠0):∃w,wfI .u32 w∧Fn Tryz.prog 249 [.lit (.int .u32 a),.lit (.int .u32 b),.bp (tFV (.func (.func g) #[] #[])) () 0] (.tup [.lit (.int .u32 w),.lit (.bool true)]):=by
 have hs:=Aqe hb h0;refine⟨IntKind.u32.wrap (F (IntKind.i32.wrap a) (IntKind.i32.wrap b)),KR _,?_⟩;refine AP Tryz.func249 rfl (by kernel_rfl) rfl Tryz.ntmps249 fun C hC=>?_
 simp only[List.length_cons,List.length_nil,Nat.reduceAdd,Nat.reduceSub,List.replicate_succ,List.replicate_zero,List.cons_append,List.nil_append];refine wR ?_;refine Ac fun K2 h2=>?_
 refine wS (sT (sT (wN ?_)));refine Ae rfl (fun hb4=>?_) (fun hb4=>?_)
 ·exact absurd (by simpa using hb4) h0
 ·refine Ag ?_;refine h2 _ ?_;refine nT ?_;refine wS ?_;refine sH (C9 (n:=1) (r:=.lit (.func (.func g) #[] #[])) rfl (by kernel_rfl) rfl (Ii.bp (T:=tFV (.func (.func g) #[] #[])) (d:=()) EncOf.ok) rfl) (sT ?_);refine sH (Av.cv rfl rfl rfl) ?_;refine sH (Av.cv rfl rfl (IntWalk.i64_in _ (Aa8 a))) (sT ?_);refine sH (Av.cv rfl rfl rfl) ?_;refine sH (Av.cv rfl rfl (IntWalk.i64_in _ (Aa8 b))) ?_;refine sH (Bu rfl rfl rfl (hF _ _ hs) rfl rfl) ?_;refine sH (Av.cv rfl rfl rfl) (sT (sT (wN ?_)));exact Aj ⟨.inr rfl,_,_,Fin.cl rfl,rfl,rfl⟩
theorem O7{g:FuncId}:Fn Tryz.prog 223 [.lit (.func (.func g) #[] #[])] (.fn 249 [.bp (tFV (.func (.func g) #[] #[])) () 0]):=by
 refine Ax Tryz.func223 rfl (by kernel_rfl) rfl Tryz.ntmps223 fun C hC=>?_
 simp only[List.length_cons,List.length_nil,Nat.reduceAdd,Nat.reduceSub,List.replicate_succ,List.replicate_zero,List.cons_append,List.nil_append];refine wS ?_;refine Ao rfl (OJ 0 rfl rfl (Sn (cells:=[.func (.func g) #[] #[]]) rfl) ?_);refine sNt (hk:=sT (wN ?_));refine As _ (E0 hC 0 1 (T:=tFV (.func (.func g) #[] #[])) (d:=()) rfl rfl rfl fun w S cs H=>?_) ?_
 ·unfold Ad at H;obtain⟨v,vs,rfl,h1,h2⟩:=H;unfold AV.rel at h1;unfold Ad at h2;subst h1 h2;exact⟨rfl,rfl⟩
 refine nT ?_;refine wS ?_;refine sH (r:=.fn 249 [.bp (tFV (.func (.func g) #[] #[])) () 0]) (FE (cap:=#[.tmp 1]) rfl) (sT (wN ?_));exact Aj ⟨.inr rfl,Fin.cl rfl⟩
end
theorem P5{w:World}{S:Nat→Prop}{h:List ABlk}{ψ:Nat→Value}:∀(ps:List (Nat×AV)) (cs rs:List AV) (vs:List (Nat×Value)) (us:List Value),Es cs ps=some rs→Ad w S h ψ cs us→
 vs.map (·.1)=ps.map (·.1)→(∀(j:Nat) (p:Nat×AV) (v:Nat×Value),ps[j]? =some p→vs[j]? =some v→∃u,v.2.cells= #[u]∧AV.rel w S h ψ p.2 u)→
 ∃us',Instr.fill (fun i=>some (i * 1,1)) us.toArray vs=some us'.toArray∧Ad w S h ψ rs us'
 | [],cs,rs,vs,us,hp,hr,hv,_=>by
  cases hp;have:vs= []:=by simpa using hv
  subst this;exact⟨us,rfl,hr⟩
 |(j,x)::ps,cs,rs,vs,us,hp,hr,hv,hrel=>by
  cases vs with
  |nil=>simp at hv
  |cons v vs=>
   simp only[List.map_cons,List.cons.injEq]at hv;obtain⟨hv1,hv2⟩:=hv;unfold Es at hp;split at hp <;> try(cases hp;done)
   rename_i hoff;obtain⟨u,h2,h1⟩:=hrel 0 _ _ rfl rfl;have hul:=AW hr;obtain⟨us',h3,h4⟩:=P5 ps (cs.set j x) rs vs (us.set j u) hp (DE hr j h1) hv2 fun j p v hp hv=>hrel (j+1) p v (by simpa using hp) (by simpa using hv)
   refine⟨us',?_,h4⟩;obtain⟨i,v⟩:=v;dsimp only at hv1 h1 h2 h3;subst hv1;unfold Instr.fill;simp only[Nat.mul_one,h2];have hc:¬((decide ((#[u]:Array Value).size≠1)||decide (i+(#[u]:Array Value).size > us.toArray.size))=true):=by
    simp;omega
   rw[if_neg hc];simpa using h3
section
variable{P:Program}{C:Ctx}{t:List AV}{h:List ABlk}{o:Oper}
theorem One.fn{f:FuncId}{l:List AV}:One h (.fn f l):=fun C S ψ w u H hu=>by
 unfold AV.rel at hu;obtain⟨cs,e,_⟩:=hu;rw[e];rfl
theorem Sm{ty:TypeId}{parts:Array (Nat×Operand)}{zs:List Value}{n:Nat}{rs:List AV}(xs:List (Nat×AV))(ho:o.op= .build ty parts)(hz:Bj P ty=some zs)(hs:Mx P ty=some (n,1))
 (hx:parts.toList.map (fun p=>(p.1,evA t p.2))=xs.map fun q=>(q.1,.agg [q.2])) (hr:Es (zs.map .lit) xs=some rs):Av P C t h o (.agg rs):=
 Ap fun S ψ w ρ H hρ=>by
  unfold Bj at hz;obtain⟨z,hz1,rfl⟩:=Option.map_eq_some_iff.1 hz;obtain⟨i,hi,hz2⟩:=Option.bind_eq_some_iff.1 hz1;unfold Mx at hs;split at hs <;> try(cases hs;done)
  rename_i n' e hu;cases h2:P.info? e with
  |none=>rw[h2]at hs;cases hs
  |some ie=>
   rw[h2]at hs;simp only[Option.map_some,Option.some.injEq,Prod.mk.injEq]at hs;obtain⟨rfl,he1⟩:=hs;have hmem:∀p∈parts.toList,AV.rel w S h ψ (evA t p.2) (ρ p.2):=fun p hp=>hρ p.2 (by rw[ho];exact List.mem_toArray.2 (List.mem_map.2 ⟨p,hp,rfl⟩))
   obtain⟨us',h3,h4⟩:=P5 (w:=w) (S:=S) (h:=h) (ψ:=ψ) _ _ rs (parts.toList.map fun p=>(p.1,ρ p.2)) z.cells.toList hr (DK _) (by
    have:=congrArg (List.map (·.1)) hx;rw[List.map_map,List.map_map]at this;rw[List.map_map];exact this) fun j p v hp hv=>by
    rw[List.getElem?_map]at hv;obtain⟨q,hq,rfl⟩:=Option.map_eq_some_iff.1 hv;have e1:(parts.toList.map fun p=>(p.1,evA t p.2))[j]? =(xs.map fun q=>(q.1,AV.agg [q.2]))[j]?:=by rw[hx]
    rw[List.getElem?_map,List.getElem?_map,hq,hp]at e1;have e2:=Option.some.inj e1;have hq2:=hmem q (List.mem_of_getElem? hq);rw[show evA t q.2= .agg [p.2]from(Prod.mk.inj e2).2]at hq2;unfold AV.rel at hq2;obtain⟨cs,e3,hl⟩:=hq2;unfold Ad at hl;obtain⟨u,us,rfl,h5,h6⟩:=hl;unfold Ad at h6;subst h6;exact⟨u,by rw[e3];rfl,h5⟩
   refine⟨.agg us'.toArray,?_,by unfold AV.rel;exact⟨us',rfl,h4⟩⟩;have hf:Instr.fill (fun i=>some (i * 1,1)) z.cells (parts.map fun p=>(p.1,ρ p.2)).toList=some us'.toArray:=by simpa using h3
   simp only[execOp,ho,Instr.build,zeroValue,typeInfo,underlying,Go.sizeOf,Sem.run_bind,run_program,Result.andThen_ok,hi,hz2,Sem.run_pure,hu,h2,he1,hf]
theorem BA{x:AV}{ty:TypeId}{y:Operand}{z:Value}(ho:o.op= .build ty #[(0,y)])(hz:Bj P ty=some [z])(hp:Cf P ty=some [(0,1)])(hy:evA t y=x)(h1:One h x):Av P C t h o (.agg [x]):=
 Av.build (rs:=[x]) ho hz hp (by show putCells [(0,1)] [.lit z] [(0,evA t y)]=some [x];rw[hy];rfl) fun p hp=>by
  have hp:p∈[(0,y)]:=hp;rw[List.mem_singleton.1 hp,hy];exact h1
end
@[reducible] def wSg(g:FuncId):AV:=.fn 249 [.bp (tFV (.func (.func g) #[] #[])) () 0]
@[reducible] def wLt(g:FuncId):AV:=.lit (.func (.func g) #[] #[])
@[reducible] def Aqc:List AV:=[wLt 220,wLt 221,wLt 222,wSg 224,wSg 225,wLt 226,wLt 227,wLt 228,wLt 229,wLt 230,wLt 231,wLt 232,wLt 234,wLt 235]
theorem IC:Cf Tryz.prog 241=some [(0,1)]:=by kernel_rfl
theorem Im:Bj Tryz.prog 241=some [.nilFunc]:=by kernel_rfl
instance Ag3:ZC Tryz.prog 242 [.nilFunc,.nilFunc,.nilFunc,.nilFunc,.nilFunc,.nilFunc,.nilFunc,.nilFunc,.nilFunc,.nilFunc,.nilFunc,.nilFunc,.nilFunc,.nilFunc]:=⟨by kernel_rfl⟩
instance Ag2:SZ Tryz.prog 242 14:=⟨by kernel_rfl⟩
instance Ag1{h:List ABlk}{f:FuncId}{l:List AV}:OneI h (.fn f l):=⟨One.fn⟩
theorem C7:Fn Tryz.prog 200 [] (.agg Aqc):=by
 refine FL Tryz.func200 rfl (by kernel_rfl) rfl (by kernel_rfl:OO Tryz.prog 242=some (true,14)) Tryz.ntmps200 fun C hC=>?_
 simp only[List.length_cons,List.length_nil,Nat.reduceAdd,Nat.reduceSub,List.replicate_succ,List.replicate_zero,List.cons_append,List.nil_append];refine wS (sA0 (wN ?_));refine wS ?_;refine sH (BA (x:=wLt 220) rfl Im IC rfl (One.lit rfl)) ?_;refine sH (BA (x:=wLt 221) rfl Im IC rfl (One.lit rfl)) ?_;refine sH (BA (x:=wLt 222) rfl Im IC rfl (One.lit rfl)) ?_;refine sC (O7 (g:=224)) ?_;refine sH (BA (x:=wSg 224) rfl Im IC rfl One.fn) ?_;refine sC (O7 (g:=225)) ?_;refine sH (BA (x:=wSg 225) rfl Im IC rfl One.fn) ?_;refine sH (BA (x:=wLt 226) rfl Im IC rfl (One.lit rfl)) ?_;refine sH (BA (x:=wLt 227) rfl Im IC rfl (One.lit rfl)) ?_;refine sH (BA (x:=wLt 228) rfl Im IC rfl (One.lit rfl)) ?_;refine sH (BA (x:=wLt 229) rfl Im IC rfl (One.lit rfl)) ?_;refine sH (BA (x:=wLt 230) rfl Im IC rfl (One.lit rfl)) ?_;refine sH (BA (x:=wLt 231) rfl Im IC rfl (One.lit rfl)) ?_;refine sH (BA (x:=wLt 232) rfl Im IC rfl (One.lit rfl)) ?_;refine sH (BA (x:=wLt 234) rfl Im IC rfl (One.lit rfl)) ?_;refine sH (BA (x:=wLt 235) rfl Im IC rfl (One.lit rfl)) ?_;refine sH (Sm (rs:=Aqc) (n:=14) (zs:=List.replicate 14 .nilFunc) [(0,wLt 220),(1,wLt 221),(2,wLt 222),(3,wSg 224),(4,wSg 225),(5,wLt 226),(6,wLt 227),(7,wLt 228),(8,wLt 229),(9,wLt 230),(10,wLt 231),(11,wLt 232),(12,wLt 234),(13,wLt 235)] rfl (by kernel_rfl) (by kernel_rfl) rfl rfl) ?_;refine sW (wN ?_);exact Aj ⟨⟨.inr rfl,0,Aqc,rfl,rfl,Fin.cl rfl⟩,fun i cells h1 h2=>by cases h1;cases h2;rfl⟩
instance Ag5:AG Tryz.prog 239 false 1:=⟨by kernel_rfl⟩
instance Ag4:FO Tryz.prog 241 0 0:=⟨by kernel_rfl⟩
section
variable{a b w:Int}{is:Bool}
theorem do0(hF:Fn Tryz.prog 220 ([.lit (.int .u32 a),.lit (.int .u32 b)]++[]) (.tup [.lit (.int .u32 w),.lit (.bool is)])):Fn Tryz.prog 162 [.lit (.int .u8 0),.lit (.int .u32 a),.lit (.int .u32 b)] (.tup [.lit (.int .u32 w),.lit (.bool is)]):=by
 refine AP Tryz.func162 rfl (by kernel_rfl) rfl Tryz.ntmps162 fun C hC=>?_
 simp only[List.length_cons,List.length_nil,Nat.reduceAdd,Nat.reduceSub,List.replicate_succ,List.replicate_zero,List.cons_append,List.nil_append];refine wR ?_;refine wS (sC C7 (sA0 ?_));refine sW (wN ?_);refine Ac fun K3 h3=>?_
 refine wS (sT (sH (Av.cv (m:=0) rfl rfl rfl) (sT (wN ?_))));refine Ae rfl (fun hb5=>?_) (fun hb5=>?_)
 ·exact absurd hb5 (by decide)
 ·refine Ag ?_;refine h3 _ ?_;refine nT ?_;refine wS (sT ?_);refine sH (r:=.ptr 0 0) (BE (k:=0) (n:=14) (by kernel_rfl) rfl rfl rfl rfl (by omega)) (sT (sT (sT (sT ?_))));refine sH (Bu rfl rfl rfl hF rfl rfl) (sT (sT (sT (sT (wN ?_)))));exact Aj ⟨.inr rfl,_,_,Fin.cl rfl,rfl,rfl⟩
theorem do1(hF:Fn Tryz.prog 221 ([.lit (.int .u32 a),.lit (.int .u32 b)]++[]) (.tup [.lit (.int .u32 w),.lit (.bool is)])):Fn Tryz.prog 162 [.lit (.int .u8 1),.lit (.int .u32 a),.lit (.int .u32 b)] (.tup [.lit (.int .u32 w),.lit (.bool is)]):=by
 refine AP Tryz.func162 rfl (by kernel_rfl) rfl Tryz.ntmps162 fun C hC=>?_
 simp only[List.length_cons,List.length_nil,Nat.reduceAdd,Nat.reduceSub,List.replicate_succ,List.replicate_zero,List.cons_append,List.nil_append];refine wR ?_;refine wS (sC C7 (sA0 ?_));refine sW (wN ?_);refine Ac fun K3 h3=>?_
 refine wS (sT (sH (Av.cv (m:=1) rfl rfl rfl) (sT (wN ?_))));refine Ae rfl (fun hb5=>?_) (fun hb5=>?_)
 ·exact absurd hb5 (by decide)
 ·refine Ag ?_;refine h3 _ ?_;refine nT ?_;refine wS (sT ?_);refine sH (r:=.ptr 0 1) (BE (k:=1) (n:=14) (by kernel_rfl) rfl rfl rfl rfl (by omega)) (sT (sT (sT (sT ?_))));refine sH (Bu rfl rfl rfl hF rfl rfl) (sT (sT (sT (sT (wN ?_)))));exact Aj ⟨.inr rfl,_,_,Fin.cl rfl,rfl,rfl⟩
theorem do2(hF:Fn Tryz.prog 222 ([.lit (.int .u32 a),.lit (.int .u32 b)]++[]) (.tup [.lit (.int .u32 w),.lit (.bool is)])):Fn Tryz.prog 162 [.lit (.int .u8 2),.lit (.int .u32 a),.lit (.int .u32 b)] (.tup [.lit (.int .u32 w),.lit (.bool is)]):=by
 refine AP Tryz.func162 rfl (by kernel_rfl) rfl Tryz.ntmps162 fun C hC=>?_
 simp only[List.length_cons,List.length_nil,Nat.reduceAdd,Nat.reduceSub,List.replicate_succ,List.replicate_zero,List.cons_append,List.nil_append];refine wR ?_;refine wS (sC C7 (sA0 ?_));refine sW (wN ?_);refine Ac fun K3 h3=>?_
 refine wS (sT (sH (Av.cv (m:=2) rfl rfl rfl) (sT (wN ?_))));refine Ae rfl (fun hb5=>?_) (fun hb5=>?_)
 ·exact absurd hb5 (by decide)
 ·refine Ag ?_;refine h3 _ ?_;refine nT ?_;refine wS (sT ?_);refine sH (r:=.ptr 0 2) (BE (k:=2) (n:=14) (by kernel_rfl) rfl rfl rfl rfl (by omega)) (sT (sT (sT (sT ?_))));refine sH (Bu rfl rfl rfl hF rfl rfl) (sT (sT (sT (sT (wN ?_)))));exact Aj ⟨.inr rfl,_,_,Fin.cl rfl,rfl,rfl⟩
theorem do3(hF:Fn Tryz.prog 249 ([.lit (.int .u32 a),.lit (.int .u32 b)]++[.bp (tFV (.func (.func 224) #[] #[])) () 0]) (.tup [.lit (.int .u32 w),.lit (.bool is)])):Fn Tryz.prog 162 [.lit (.int .u8 3),.lit (.int .u32 a),.lit (.int .u32 b)] (.tup [.lit (.int .u32 w),.lit (.bool is)]):=by
 refine AP Tryz.func162 rfl (by kernel_rfl) rfl Tryz.ntmps162 fun C hC=>?_
 simp only[List.length_cons,List.length_nil,Nat.reduceAdd,Nat.reduceSub,List.replicate_succ,List.replicate_zero,List.cons_append,List.nil_append];refine wR ?_;refine wS (sC C7 (sA0 ?_));refine sW (wN ?_);refine Ac fun K3 h3=>?_
 refine wS (sT (sH (Av.cv (m:=3) rfl rfl rfl) (sT (wN ?_))));refine Ae rfl (fun hb5=>?_) (fun hb5=>?_)
 ·exact absurd hb5 (by decide)
 ·refine Ag ?_;refine h3 _ ?_;refine nT ?_;refine wS (sT ?_);refine sH (r:=.ptr 0 3) (BE (k:=3) (n:=14) (by kernel_rfl) rfl rfl rfl rfl (by omega)) (sT (sT (sT (sT ?_))));refine sH (Dg rfl rfl rfl hF rfl rfl) (sT (sT (sT (sT (wN ?_)))));exact Aj ⟨.inr rfl,_,_,Fin.cl rfl,rfl,rfl⟩
theorem do4(hF:Fn Tryz.prog 249 ([.lit (.int .u32 a),.lit (.int .u32 b)]++[.bp (tFV (.func (.func 225) #[] #[])) () 0]) (.tup [.lit (.int .u32 w),.lit (.bool is)])):Fn Tryz.prog 162 [.lit (.int .u8 4),.lit (.int .u32 a),.lit (.int .u32 b)] (.tup [.lit (.int .u32 w),.lit (.bool is)]):=by
 refine AP Tryz.func162 rfl (by kernel_rfl) rfl Tryz.ntmps162 fun C hC=>?_
 simp only[List.length_cons,List.length_nil,Nat.reduceAdd,Nat.reduceSub,List.replicate_succ,List.replicate_zero,List.cons_append,List.nil_append];refine wR ?_;refine wS (sC C7 (sA0 ?_));refine sW (wN ?_);refine Ac fun K3 h3=>?_
 refine wS (sT (sH (Av.cv (m:=4) rfl rfl rfl) (sT (wN ?_))));refine Ae rfl (fun hb5=>?_) (fun hb5=>?_)
 ·exact absurd hb5 (by decide)
 ·refine Ag ?_;refine h3 _ ?_;refine nT ?_;refine wS (sT ?_);refine sH (r:=.ptr 0 4) (BE (k:=4) (n:=14) (by kernel_rfl) rfl rfl rfl rfl (by omega)) (sT (sT (sT (sT ?_))));refine sH (Dg rfl rfl rfl hF rfl rfl) (sT (sT (sT (sT (wN ?_)))));exact Aj ⟨.inr rfl,_,_,Fin.cl rfl,rfl,rfl⟩
theorem do5(hF:Fn Tryz.prog 226 ([.lit (.int .u32 a),.lit (.int .u32 b)]++[]) (.tup [.lit (.int .u32 w),.lit (.bool is)])):Fn Tryz.prog 162 [.lit (.int .u8 5),.lit (.int .u32 a),.lit (.int .u32 b)] (.tup [.lit (.int .u32 w),.lit (.bool is)]):=by
 refine AP Tryz.func162 rfl (by kernel_rfl) rfl Tryz.ntmps162 fun C hC=>?_
 simp only[List.length_cons,List.length_nil,Nat.reduceAdd,Nat.reduceSub,List.replicate_succ,List.replicate_zero,List.cons_append,List.nil_append];refine wR ?_;refine wS (sC C7 (sA0 ?_));refine sW (wN ?_);refine Ac fun K3 h3=>?_
 refine wS (sT (sH (Av.cv (m:=5) rfl rfl rfl) (sT (wN ?_))));refine Ae rfl (fun hb5=>?_) (fun hb5=>?_)
 ·exact absurd hb5 (by decide)
 ·refine Ag ?_;refine h3 _ ?_;refine nT ?_;refine wS (sT ?_);refine sH (r:=.ptr 0 5) (BE (k:=5) (n:=14) (by kernel_rfl) rfl rfl rfl rfl (by omega)) (sT (sT (sT (sT ?_))));refine sH (Bu rfl rfl rfl hF rfl rfl) (sT (sT (sT (sT (wN ?_)))));exact Aj ⟨.inr rfl,_,_,Fin.cl rfl,rfl,rfl⟩
theorem do6(hF:Fn Tryz.prog 227 ([.lit (.int .u32 a),.lit (.int .u32 b)]++[]) (.tup [.lit (.int .u32 w),.lit (.bool is)])):Fn Tryz.prog 162 [.lit (.int .u8 6),.lit (.int .u32 a),.lit (.int .u32 b)] (.tup [.lit (.int .u32 w),.lit (.bool is)]):=by
 refine AP Tryz.func162 rfl (by kernel_rfl) rfl Tryz.ntmps162 fun C hC=>?_
 simp only[List.length_cons,List.length_nil,Nat.reduceAdd,Nat.reduceSub,List.replicate_succ,List.replicate_zero,List.cons_append,List.nil_append];refine wR ?_;refine wS (sC C7 (sA0 ?_));refine sW (wN ?_);refine Ac fun K3 h3=>?_
 refine wS (sT (sH (Av.cv (m:=6) rfl rfl rfl) (sT (wN ?_))));refine Ae rfl (fun hb5=>?_) (fun hb5=>?_)
 ·exact absurd hb5 (by decide)
 ·refine Ag ?_;refine h3 _ ?_;refine nT ?_;refine wS (sT ?_);refine sH (r:=.ptr 0 6) (BE (k:=6) (n:=14) (by kernel_rfl) rfl rfl rfl rfl (by omega)) (sT (sT (sT (sT ?_))));refine sH (Bu rfl rfl rfl hF rfl rfl) (sT (sT (sT (sT (wN ?_)))));exact Aj ⟨.inr rfl,_,_,Fin.cl rfl,rfl,rfl⟩
theorem do7(hF:Fn Tryz.prog 228 ([.lit (.int .u32 a),.lit (.int .u32 b)]++[]) (.tup [.lit (.int .u32 w),.lit (.bool is)])):Fn Tryz.prog 162 [.lit (.int .u8 7),.lit (.int .u32 a),.lit (.int .u32 b)] (.tup [.lit (.int .u32 w),.lit (.bool is)]):=by
 refine AP Tryz.func162 rfl (by kernel_rfl) rfl Tryz.ntmps162 fun C hC=>?_
 simp only[List.length_cons,List.length_nil,Nat.reduceAdd,Nat.reduceSub,List.replicate_succ,List.replicate_zero,List.cons_append,List.nil_append];refine wR ?_;refine wS (sC C7 (sA0 ?_));refine sW (wN ?_);refine Ac fun K3 h3=>?_
 refine wS (sT (sH (Av.cv (m:=7) rfl rfl rfl) (sT (wN ?_))));refine Ae rfl (fun hb5=>?_) (fun hb5=>?_)
 ·exact absurd hb5 (by decide)
 ·refine Ag ?_;refine h3 _ ?_;refine nT ?_;refine wS (sT ?_);refine sH (r:=.ptr 0 7) (BE (k:=7) (n:=14) (by kernel_rfl) rfl rfl rfl rfl (by omega)) (sT (sT (sT (sT ?_))));refine sH (Bu rfl rfl rfl hF rfl rfl) (sT (sT (sT (sT (wN ?_)))));exact Aj ⟨.inr rfl,_,_,Fin.cl rfl,rfl,rfl⟩
theorem do8(hF:Fn Tryz.prog 229 ([.lit (.int .u32 a),.lit (.int .u32 b)]++[]) (.tup [.lit (.int .u32 w),.lit (.bool is)])):Fn Tryz.prog 162 [.lit (.int .u8 8),.lit (.int .u32 a),.lit (.int .u32 b)] (.tup [.lit (.int .u32 w),.lit (.bool is)]):=by
 refine AP Tryz.func162 rfl (by kernel_rfl) rfl Tryz.ntmps162 fun C hC=>?_
 simp only[List.length_cons,List.length_nil,Nat.reduceAdd,Nat.reduceSub,List.replicate_succ,List.replicate_zero,List.cons_append,List.nil_append];refine wR ?_;refine wS (sC C7 (sA0 ?_));refine sW (wN ?_);refine Ac fun K3 h3=>?_
 refine wS (sT (sH (Av.cv (m:=8) rfl rfl rfl) (sT (wN ?_))));refine Ae rfl (fun hb5=>?_) (fun hb5=>?_)
 ·exact absurd hb5 (by decide)
 ·refine Ag ?_;refine h3 _ ?_;refine nT ?_;refine wS (sT ?_);refine sH (r:=.ptr 0 8) (BE (k:=8) (n:=14) (by kernel_rfl) rfl rfl rfl rfl (by omega)) (sT (sT (sT (sT ?_))));refine sH (Bu rfl rfl rfl hF rfl rfl) (sT (sT (sT (sT (wN ?_)))));exact Aj ⟨.inr rfl,_,_,Fin.cl rfl,rfl,rfl⟩
theorem do9(hF:Fn Tryz.prog 230 ([.lit (.int .u32 a),.lit (.int .u32 b)]++[]) (.tup [.lit (.int .u32 w),.lit (.bool is)])):Fn Tryz.prog 162 [.lit (.int .u8 9),.lit (.int .u32 a),.lit (.int .u32 b)] (.tup [.lit (.int .u32 w),.lit (.bool is)]):=by
 refine AP Tryz.func162 rfl (by kernel_rfl) rfl Tryz.ntmps162 fun C hC=>?_
 simp only[List.length_cons,List.length_nil,Nat.reduceAdd,Nat.reduceSub,List.replicate_succ,List.replicate_zero,List.cons_append,List.nil_append];refine wR ?_;refine wS (sC C7 (sA0 ?_));refine sW (wN ?_);refine Ac fun K3 h3=>?_
 refine wS (sT (sH (Av.cv (m:=9) rfl rfl rfl) (sT (wN ?_))));refine Ae rfl (fun hb5=>?_) (fun hb5=>?_)
 ·exact absurd hb5 (by decide)
 ·refine Ag ?_;refine h3 _ ?_;refine nT ?_;refine wS (sT ?_);refine sH (r:=.ptr 0 9) (BE (k:=9) (n:=14) (by kernel_rfl) rfl rfl rfl rfl (by omega)) (sT (sT (sT (sT ?_))));refine sH (Bu rfl rfl rfl hF rfl rfl) (sT (sT (sT (sT (wN ?_)))));exact Aj ⟨.inr rfl,_,_,Fin.cl rfl,rfl,rfl⟩
theorem Arx(hF:Fn Tryz.prog 231 ([.lit (.int .u32 a),.lit (.int .u32 b)]++[]) (.tup [.lit (.int .u32 w),.lit (.bool is)])):Fn Tryz.prog 162 [.lit (.int .u8 10),.lit (.int .u32 a),.lit (.int .u32 b)] (.tup [.lit (.int .u32 w),.lit (.bool is)]):=by
 refine AP Tryz.func162 rfl (by kernel_rfl) rfl Tryz.ntmps162 fun C hC=>?_
 simp only[List.length_cons,List.length_nil,Nat.reduceAdd,Nat.reduceSub,List.replicate_succ,List.replicate_zero,List.cons_append,List.nil_append];refine wR ?_;refine wS (sC C7 (sA0 ?_));refine sW (wN ?_);refine Ac fun K3 h3=>?_
 refine wS (sT (sH (Av.cv (m:=10) rfl rfl rfl) (sT (wN ?_))));refine Ae rfl (fun hb5=>?_) (fun hb5=>?_)
 ·exact absurd hb5 (by decide)
 ·refine Ag ?_;refine h3 _ ?_;refine nT ?_;refine wS (sT ?_);refine sH (r:=.ptr 0 10) (BE (k:=10) (n:=14) (by kernel_rfl) rfl rfl rfl rfl (by omega)) (sT (sT (sT (sT ?_))));refine sH (Bu rfl rfl rfl hF rfl rfl) (sT (sT (sT (sT (wN ?_)))));exact Aj ⟨.inr rfl,_,_,Fin.cl rfl,rfl,rfl⟩
theorem Arw(hF:Fn Tryz.prog 232 ([.lit (.int .u32 a),.lit (.int .u32 b)]++[]) (.tup [.lit (.int .u32 w),.lit (.bool is)])):Fn Tryz.prog 162 [.lit (.int .u8 11),.lit (.int .u32 a),.lit (.int .u32 b)] (.tup [.lit (.int .u32 w),.lit (.bool is)]):=by
 refine AP Tryz.func162 rfl (by kernel_rfl) rfl Tryz.ntmps162 fun C hC=>?_
 simp only[List.length_cons,List.length_nil,Nat.reduceAdd,Nat.reduceSub,List.replicate_succ,List.replicate_zero,List.cons_append,List.nil_append];refine wR ?_;refine wS (sC C7 (sA0 ?_));refine sW (wN ?_);refine Ac fun K3 h3=>?_
 refine wS (sT (sH (Av.cv (m:=11) rfl rfl rfl) (sT (wN ?_))));refine Ae rfl (fun hb5=>?_) (fun hb5=>?_)
 ·exact absurd hb5 (by decide)
 ·refine Ag ?_;refine h3 _ ?_;refine nT ?_;refine wS (sT ?_);refine sH (r:=.ptr 0 11) (BE (k:=11) (n:=14) (by kernel_rfl) rfl rfl rfl rfl (by omega)) (sT (sT (sT (sT ?_))));refine sH (Bu rfl rfl rfl hF rfl rfl) (sT (sT (sT (sT (wN ?_)))));exact Aj ⟨.inr rfl,_,_,Fin.cl rfl,rfl,rfl⟩
theorem Arv(hF:Fn Tryz.prog 234 ([.lit (.int .u32 a),.lit (.int .u32 b)]++[]) (.tup [.lit (.int .u32 w),.lit (.bool is)])):Fn Tryz.prog 162 [.lit (.int .u8 12),.lit (.int .u32 a),.lit (.int .u32 b)] (.tup [.lit (.int .u32 w),.lit (.bool is)]):=by
 refine AP Tryz.func162 rfl (by kernel_rfl) rfl Tryz.ntmps162 fun C hC=>?_
 simp only[List.length_cons,List.length_nil,Nat.reduceAdd,Nat.reduceSub,List.replicate_succ,List.replicate_zero,List.cons_append,List.nil_append];refine wR ?_;refine wS (sC C7 (sA0 ?_));refine sW (wN ?_);refine Ac fun K3 h3=>?_
 refine wS (sT (sH (Av.cv (m:=12) rfl rfl rfl) (sT (wN ?_))));refine Ae rfl (fun hb5=>?_) (fun hb5=>?_)
 ·exact absurd hb5 (by decide)
 ·refine Ag ?_;refine h3 _ ?_;refine nT ?_;refine wS (sT ?_);refine sH (r:=.ptr 0 12) (BE (k:=12) (n:=14) (by kernel_rfl) rfl rfl rfl rfl (by omega)) (sT (sT (sT (sT ?_))));refine sH (Bu rfl rfl rfl hF rfl rfl) (sT (sT (sT (sT (wN ?_)))));exact Aj ⟨.inr rfl,_,_,Fin.cl rfl,rfl,rfl⟩
theorem Aru(hF:Fn Tryz.prog 235 ([.lit (.int .u32 a),.lit (.int .u32 b)]++[]) (.tup [.lit (.int .u32 w),.lit (.bool is)])):Fn Tryz.prog 162 [.lit (.int .u8 13),.lit (.int .u32 a),.lit (.int .u32 b)] (.tup [.lit (.int .u32 w),.lit (.bool is)]):=by
 refine AP Tryz.func162 rfl (by kernel_rfl) rfl Tryz.ntmps162 fun C hC=>?_
 simp only[List.length_cons,List.length_nil,Nat.reduceAdd,Nat.reduceSub,List.replicate_succ,List.replicate_zero,List.cons_append,List.nil_append];refine wR ?_;refine wS (sC C7 (sA0 ?_));refine sW (wN ?_);refine Ac fun K3 h3=>?_
 refine wS (sT (sH (Av.cv (m:=13) rfl rfl rfl) (sT (wN ?_))));refine Ae rfl (fun hb5=>?_) (fun hb5=>?_)
 ·exact absurd hb5 (by decide)
 ·refine Ag ?_;refine h3 _ ?_;refine nT ?_;refine wS (sT ?_);refine sH (r:=.ptr 0 13) (BE (k:=13) (n:=14) (by kernel_rfl) rfl rfl rfl rfl (by omega)) (sT (sT (sT (sT ?_))));refine sH (Bu rfl rfl rfl hF rfl rfl) (sT (sT (sT (sT (wN ?_)))));exact Aj ⟨.inr rfl,_,_,Fin.cl rfl,rfl,rfl⟩
theorem Aqr{n:Int}(hn:14≤n)(hn2:n≤255):Fn Tryz.prog 162 [.lit (.int .u8 n),.lit (.int .u32 a),.lit (.int .u32 b)] (.tup [.lit (.int .u32 0),.lit (.bool false)]):=by
 refine AP Tryz.func162 rfl (by kernel_rfl) rfl Tryz.ntmps162 fun C hC=>?_
 simp only[List.length_cons,List.length_nil,Nat.reduceAdd,Nat.reduceSub,List.replicate_succ,List.replicate_zero,List.cons_append,List.nil_append];refine wR ?_;refine wS (sC C7 (sA0 ?_));refine sW (wN ?_);refine Ac fun K3 h3=>?_
 refine wS (sT (sH (Av.cv (m:=n) rfl rfl (IntWalk.i64_in _ (by omega))) (sT (wN ?_))));refine Ae rfl (fun hb5=>?_) (fun hb5=>?_)
 ·refine wR ?_;exact Aj ⟨.inr rfl,_,_,Fin.cl rfl,rfl,rfl⟩
 ·exact absurd (of_decide_eq_false hb5) (by omega)
theorem Akj(x y:Int)(hy:y≠0):Fn Tryz.prog 224 [.lit (.int .i64 x),.lit (.int .i64 y)] (.lit (.int .i64 (IntKind.i64.wrap (Int.tdiv x y)))):=HJ (AA (by simpa using hy) (An _))
theorem Aki(x y:Int)(hy:y≠0):Fn Tryz.prog 225 [.lit (.int .i64 x),.lit (.int .i64 y)] (.lit (.int .i64 (Int.tmod x y))):=HI (AA (by simpa using hy) (An _))
theorem Aa4{g:FuncId}{F:Int→Int→Int}(hF:∀x y:Int,y≠0→Fn Tryz.prog g [.lit (.int .i64 x),.lit (.int .i64 y)] (.lit (.int .i64 (F x y))))(hb:wfI .u32 b):WOk 249 [.bp (tFV (.func (.func g) #[] #[])) () 0] a b:=by
 by_cases h0:b=0
 ·subst h0;exact⟨0,false,hb,O8⟩
 ·obtain⟨w,h1,h2⟩:=O9 (a:=a) hF hb h0;exact⟨w,true,h1,h2⟩
theorem XI(n:Int)(h0:0≤n)(h1:n≤255)(ha:wfI .u32 a)(hb:wfI .u32 b):∃w is,wfI .u32 w∧Fn Tryz.prog 162 [.lit (.int .u8 n),.lit (.int .u32 a),.lit (.int .u32 b)] (.tup [.lit (.int .u32 w),.lit (.bool is)]):=by
 have hc:n=0∨n=1∨n=2∨n=3∨n=4∨n=5∨n=6∨n=7∨n=8∨n=9∨n=10∨n=11∨n=12∨n=13∨14≤n:=by omega
 rcases hc with rfl|rfl|rfl|rfl|rfl|rfl|rfl|rfl|rfl|rfl|rfl|rfl|rfl|rfl|h
 ·obtain⟨w,is,hw,hF⟩:=w1 (a:=a) (b:=b);exact⟨w,is,hw,do0 hF⟩
 ·obtain⟨w,is,hw,hF⟩:=w2 (a:=a) (b:=b);exact⟨w,is,hw,do1 hF⟩
 ·obtain⟨w,is,hw,hF⟩:=w3 (a:=a) (b:=b);exact⟨w,is,hw,do2 hF⟩
 ·obtain⟨w,is,hw,hF⟩:=Aa4 (a:=a) Akj hb;exact⟨w,is,hw,do3 hF⟩
 ·obtain⟨w,is,hw,hF⟩:=Aa4 (a:=a) Aki hb;exact⟨w,is,hw,do4 hF⟩
 ·obtain⟨w,is,hw,hF⟩:=w6 (a:=a) (b:=b);exact⟨w,is,hw,do5 hF⟩
 ·obtain⟨w,is,hw,hF⟩:=w7 (a:=a) (b:=b);exact⟨w,is,hw,do6 hF⟩
 ·obtain⟨w,is,hw,hF⟩:=w8 (a:=a) (b:=b);exact⟨w,is,hw,do7 hF⟩
 ·obtain⟨w,is,hw,hF⟩:=w9 (a:=a) (b:=b);exact⟨w,is,hw,do8 hF⟩
 ·obtain⟨w,is,hw,hF⟩:=w10 (b:=b) ha;exact⟨w,is,hw,do9 hF⟩
 ·obtain⟨w,is,hw,hF⟩:=w11 (a:=a) (b:=b);exact⟨w,is,hw,Arx hF⟩
 ·obtain⟨w,is,hw,hF⟩:=w12 (a:=a) (b:=b);exact⟨w,is,hw,Arw hF⟩
 ·obtain⟨w,is,hw,hF⟩:=w13 (a:=a) (b:=b);exact⟨w,is,hw,Arv hF⟩
 ·obtain⟨w,is,hw,hF⟩:=w14 (a:=a) (b:=b);exact⟨w,is,hw,Aru hF⟩
 ·exact⟨0,false,by simp[wfI,Lit.wf,IntKind.min,IntKind.max,IntKind.signed,IntKind.bits],Aqr h h1⟩
open Classical in
noncomputable def dwF(n a b:Int):Option Int:=if h:0≤n∧n≤255∧wfI .u32 a∧wfI .u32 b then(if(Classical.choose_spec (XI (a:=a) (b:=b) n h.1 h.2.1 h.2.2.1 h.2.2.2)).choose then some (Classical.choose (XI (a:=a) (b:=b) n h.1 h.2.1 h.2.2.1 h.2.2.2))else none)else none
theorem Ao2(n a b:Int)(h0:0≤n)(h1:n≤255)(ha:wfI .u32 a)(hb:wfI .u32 b):∃w is,wfI .u32 w∧Fn Tryz.prog 162 [.lit (.int .u8 n),.lit (.int .u32 a),.lit (.int .u32 b)] (.tup [.lit (.int .u32 w),.lit (.bool is)])∧dwF n a b=if is then some w else none:=by
 have h:0≤n∧n≤255∧wfI .u32 a∧wfI .u32 b:=⟨h0,h1,ha,hb⟩
 have hs:=(Classical.choose_spec (XI (a:=a) (b:=b) n h.1 h.2.1 h.2.2.1 h.2.2.2)).choose_spec;refine⟨_,_,hs.1,hs.2,?_⟩;unfold dwF;rw[dif_pos h]
end
section
variable{P:Program}{C:Ctx}{t:List AV}{h:List ABlk}{α:Type}{T:Ty α}{l:List α}
theorem JN(hC:C.std)(i j:Nat){e:TypeId}{v:Value}(hi:h[i]? =some (.res (rowR v e T l)))(hj:t[j]? =some (.lit v)):St.le C ⟨t,h⟩ ⟨t.set j (.bs T l),h.set i .dead⟩:=
 EB i j hi rfl rfl hj (PY hC hi rfl) fun S ψ w u H hr=>by
  obtain⟨_,hR0⟩:=H.blk i _ hi;unfold AV.rel at hr⊢;rw[hr];obtain⟨cells,k1,k0,k2⟩:=hR0;exact Ch k1 (fun i d hd=>Ty.keepS _ (k2 i d hd) (fun _ _=>rfl) fun _ h=>.inl h) fun g hg=>.inr (AR hg)
theorem Ox(hC:C.std)(i:Nat){A A':Res}(hi:h[i]? =some (.res A))(hm:A.mrk= [])(hm':A'.mrk= [])(hF:∀g,A'.F g→A.F g)(hR:∀w S,A.R w S→A'.R w (fun k=>S k∨(A.F k∧¬A'.F k))):St.le C ⟨t,h⟩ ⟨t,h.set i (.res A')⟩:=fun a w ⟨hd,S,ψ,H,hl⟩=>by
 have hB:=H.blk i _ hi;have hil:=(List.getElem?_eq_some_iff.1 hi).1;have X1:Ext w S h ψ w S (h.set i (.res (Res.raw A'.F))) (Bk ψ i (ψ i)):=Ext.set (fun _ _=>rfl) hi (fun c' hc=>by simp[ABlk.ver]at hc) fun h=>by simp[AN]at h
 have H1:=H.set (b':=.res (Res.raw A'.F)) (v':=ψ i) hi rfl ⟨rfl,rfl,rfl,Nat.le_refl _,fun _ _ _=>rfl⟩ X1 ⟨fun g hg=>hB.1 g (hF g hg),trivial⟩ fun g hg=>.inl (hF g hg)
 rw[FP]at H1 X1;obtain⟨S',hS'⟩:∃S':Nat→Prop,S'=fun k=>S k∨(A.F k∧¬A'.F k):=⟨_,rfl⟩
 have hown:∀k,S' k→¬owns (h.set i (.res (Res.raw A'.F))) ψ k:=fun k hk ⟨j,hj1,hj2⟩=>by
  rw[hS']at hk;by_cases hji:j=i
  ·subst hji;rw[List.getElem?_set_self hil]at hj2;rcases hk with hk|hk
   ·exact(hB.1 k (hF k hj2)).2.1 hk
   ·exact hk.2 hj2
  ·rw[List.getElem?_set_ne (Ne.symm hji)]at hj1 hj2;rcases hk with hk|hk
   ·exact(H.own_lt ⟨j,hj1,hj2⟩).2.2 hk
   ·exact H.dis i j (Ne.symm hji) (by rw[hi];rfl) hj1 k (by rw[hi];exact hk.1) hj2
 have H2:HRel C (h.set i (.res (Res.raw A'.F))) S' ψ w:=H1.wide (fun k hk=>by rw[hS'];exact .inl hk) (fun k hk=>by
  rw[hS']at hk;rcases hk with hk|hk
  ·exact .inl hk
  ·exact .inr (Nat.le_of_not_lt fun hlt=>(hB.1 k hk.1).1 (hC k hlt))) fun k hk=>⟨by
  rw[hS']at hk;rcases hk with hk|hk
  ·exact H.lt k hk
  ·exact(hB.1 k hk.1).2.2,hown k hk⟩
 have X2:Ext w S (h.set i (.res (Res.raw A'.F))) ψ w S' (h.set i (.res (Res.raw A'.F))) ψ:=Ext.grow _ _ (fun _ _=>rfl) fun k hk=>by rw[hS'];exact .inl hk
 have hi2:(h.set i (.res (Res.raw A'.F)))[i]? =some (.res (Res.raw A'.F)):=List.getElem?_set_self hil;have X3:Ext w S' (h.set i (.res (Res.raw A'.F))) ψ w S' ((h.set i (.res (Res.raw A'.F))).set i (.res A')) (Bk ψ i (ψ i)):=Ext.set (fun _ _=>rfl) hi2 (fun c' hc=>by simp[ABlk.ver]at hc) fun h=>by simp[AN]at h
 have H3:=H2.set (b':=.res A') (v':=ψ i) hi2 rfl ⟨rfl,rfl,rfl,Nat.le_refl _,fun _ _ _=>rfl⟩ X3 ⟨fun g hg=>(H2.blk i _ hi2).1 g hg,by rw[hS'];exact hR w S hB.2⟩ fun g hg=>.inl hg
 rw[FP]at H3 X3;rw[List.set_set]at H3 X3;refine⟨by rw[hd];exact(Do hi (by show A'.mrk.map Hs=A.mrk.map Hs;rw[hm,hm'])).symm,S',ψ,H3,Al X3 _ _ (Al X2 _ _ (Al X1 _ _ hl))⟩
end
section
variable{P:Program}{C:Ctx}{t:List AV}{h:List ABlk}{α:Type}{T:Ty α}{l:List α}
theorem Kd(hC:C.std)(i j k c:Nat){m:Nat}{vo vi:Value}{eo ei:TypeId}{L:List (List Cl)}{row:List Cl}(hij:i≠j)(hi:h[i]? =some (.res (rowR vo eo (tCl m) L)))(hj:h[j]? =some (.res (rowR vi ei T l)))(hk:L[k]? =some row)(hc:row[c]? =some (.v vi))(y:Cl)(hy:y.av= .bs T l):St.le C ⟨t,h⟩ ⟨t,(h.set j .dead).set i (.res (rowR vo eo (tCl m) (L.set k (row.set c y))))⟩:=by
 have hil:=(List.getElem?_eq_some_iff.1 hi).1;have h2:=Ox (t:=t) (A':=rowR vo eo (tCl m) (L.set k (row.set c y))) hC i (List.getElem?_set_self (l:=h.set j .dead) (i:=i) (a:=.res (.all [rowR vo eo (tCl m) L,rowR vi ei T l])) (by rw[List.length_set];exact hil)) rfl rfl (fun g hg=>⟨_,List.mem_cons_self ..,hg⟩) fun w S ⟨hall,hdis⟩=>by
  obtain⟨cells,k1,k0,k2⟩:=hall _ (List.mem_cons_self ..);obtain⟨ci,i1,i0,i2⟩:=hall (rowR vi ei T l) (by simp);refine⟨cells,by rw[List.length_set];exact k1,k0,fun a d hd=>?_⟩;by_cases hak:k=a
  ·subst hak;rw[List.getElem?_set_self (List.getElem?_eq_some_iff.1 hk).1]at hd;cases hd;obtain⟨e1,e2,e3⟩:=k2 k row hk;refine⟨by rw[List.length_set];exact e1,?_,e3⟩;rw[List.map_set,hy];obtain⟨u,hu,hr⟩:=Bl e2 (by rw[List.getElem?_map,hc];rfl:(row.map Cl.av)[c]? =some (.lit vi));unfold AV.rel at hr;rw[hr]at hu;refine Li (Al (Ext.grow [] ψ0 (fun _ _=>rfl) fun _ h=>.inl h) _ _ e2) hu ?_;unfold AV.rel;exact Ch i1 (fun i d hd=>Ty.keepS _ (i2 i d hd) (fun _ _=>rfl) fun _ h=>.inl h) fun g hg=>.inr ⟨⟨rowR vi ei T l,by simp,AR hg⟩,fun hf=>hdis 0 1 _ _ (by decide) rfl rfl g hf (AR hg)⟩
  ·rw[List.getElem?_set_ne hak]at hd;exact(tCl m).keepS (k2 a d hd) (fun _ _=>rfl) fun _ h=>.inl h
 rw[List.set_set]at h2;exact St.le.trans (Hb i j hij hi hj rfl rfl) h2
theorem Ni(i:Nat){m:Nat}{v:Value}{e:TypeId}{enc:α→List AV}[EncOf T enc](cl:α→List Cl)(hsz:T.size=m+1)(hcl:∀d,(cl d).map Cl.av=enc d)(hlen:∀d,(cl d).length=m+1)(hi:h[i]? =some (.res (rowR v e T l))):St.le C ⟨t,h⟩ ⟨t,h.set i (.res (rowR v e (tCl m) (l.map cl)))⟩:=
 DS hi (fun g hg=>hg) (fun w S ⟨cells,k1,k0,k2⟩=>⟨cells,by rw[List.length_map];rw[hsz]at k1;exact k1,Nat.succ_pos m,fun a d hd=>by
  rw[List.getElem?_map]at hd;obtain⟨d0,hd0,rfl⟩:=Option.map_eq_some_iff.1 hd;have h1:=k2 a d0 hd0;rw[hsz]at h1;exact⟨hlen d0,by rw[hcl];exact EncOf.ok w S [] ψ0 _ d0 h1,EncOf.one w S _ d0 h1⟩⟩) rfl
theorem Nk(i:Nat){m:Nat}{v:Value}{e:TypeId}(cl:α→List Cl)(hsz:T.size=m+1)(hput:∀d∈l,∀(w:World) (S:Nat→Prop) (cs:List Value),Ad w S [] ψ0 ((cl d).map Cl.av) cs→T.RS w S cs d)(hi:h[i]? =some (.res (rowR v e (tCl m) (l.map cl)))):St.le C ⟨t,h⟩ ⟨t,h.set i (.res (rowR v e T l))⟩:=
 DS hi (fun g hg=>hg) (fun w S ⟨cells,k1,k0,k2⟩=>⟨cells,by rw[List.length_map]at k1;rw[hsz];exact k1,by rw[hsz];exact Nat.succ_pos m,fun a d hd=>by
  obtain⟨_,h2,_⟩:=k2 a (cl d) (by rw[List.getElem?_map,hd];rfl);rw[hsz];exact hput d (List.mem_of_getElem? hd) w S _ h2⟩) rfl
end
theorem Mb{C:Ctx}{t:List AV}{h:List ABlk}(j:Nat){α:Type}(T:Ty α)(hj:t[j]? =some (.lit (.slice none 0 0))):St.le C ⟨t,h⟩ ⟨t.set j (.bs T []),h⟩:=fun a w ⟨hd,S,ψ,H,hl⟩=>by
 obtain⟨v,hv,hr⟩:=Bl hl hj;refine⟨hd,S,ψ,H,Li hl hv ?_⟩;unfold AV.rel at hr⊢;subst hr;exact T.slice_nilS _ _
theorem TD{P:Program}{f:FuncId}{α:Type}{T:Ty α}{l:List α}{rest:List AV}{r:AV}(hE:Bw P f=true)(hN:l= []→Fn P f (.lit (.slice none 0 0)::rest) r)(hP:Fn P f (.tv T.sliceP l::rest) r):Fn P f (.bs T l::rest) r:=⟨hE,fun w S vs a hr=>by
 unfold Ad at hr;obtain⟨v,us,rfl,h1,h2⟩:=hr;have h1':=h1;unfold AV.rel at h1;obtain⟨A,cc,rfl⟩:=BB h1;cases A with
 |none=>
  obtain⟨e1,e2,e3⟩:=ER h1;refine(hN e1).2 w S _ a ?_;unfold Ad;exact⟨_,_,rfl,by unfold AV.rel;rw[e2,e3],h2⟩
 |some ad=>
  refine hP.2 w S _ a ?_;unfold Ad;exact⟨_,_,rfl,by unfold AV.rel;exact⟨h1,fun e=>by cases e⟩,h2⟩⟩
section
variable{l:List Int}
theorem RV:Fn Tryz.prog 95 [.lit (.slice none 0 0)] (.bs tInt []):=by
 refine Ax Tryz.func95 rfl (by kernel_rfl) rfl Tryz.ntmps95 fun C hC=>?_
 simp only[List.length_cons,List.length_nil,Nat.reduceAdd,Nat.reduceSub,List.replicate_succ,List.replicate_zero,List.cons_append,List.nil_append];refine wR ?_;refine Ac fun K2 h2=>?_
 refine wS (sT (sH (CP rfl rfl rfl) (wN ?_)));refine Ae rfl (fun hb4=>?_) (fun hb4=>?_)
 ·refine wR ?_;refine As _ (Mb 2 tInt rfl) ?_;refine nT ?_;exact Aj ⟨.inr rfl,Fin.cl rfl⟩
 ·cases hb4
theorem RU(hl:l.length≤1073741824):Fn Tryz.prog 95 [.tv (Ty.sliceP tInt) l] (.bs tInt l):=by
 refine Ax Tryz.func95 rfl (by kernel_rfl) rfl Tryz.ntmps95 fun C hC=>?_
 simp only[List.length_cons,List.length_nil,Nat.reduceAdd,Nat.reduceSub,List.replicate_succ,List.replicate_zero,List.cons_append,List.nil_append];refine wR ?_;refine Ac fun K2 h2=>?_
 refine wS (sT (sH (CO rfl rfl rfl) (wN ?_)));refine Ae rfl (fun hb4=>?_) (fun hb4=>?_)
 ·cases hb4
 ·refine Ag ?_;refine h2 _ ?_;refine nT ?_;refine As _ (DT 0 rfl) ?_;refine nT ?_;refine wS ?_;refine Ao rfl (Ge (T:=tInt) rfl (by decide) fun g=>?_);refine sNt (hk:=sT ?_);refine Ao rfl (Dc (i:=0) (l:=[]) (bytes:=8) (T:=tInt) rfl (by kernel_rfl) rfl rfl rfl EncOf.one (by unfold maxLen;simp;omega) (by simp;omega) fun g' c'=>?_);refine sNt (hk:=sT (wN ?_));refine As _ (JN hC 0 2 rfl rfl) ?_;refine nT ?_;exact Aj ⟨.inr rfl,Fin.cl rfl⟩
theorem Nc(hl:l.length≤1073741824):Fn Tryz.prog 95 [.bs tInt l] (.bs tInt l):=TD rfl (fun h=>by subst h;exact RV) (RU hl)
end
section
variable{l:List Int}
theorem Qh:Fn Tryz.prog 41 [.lit (.slice none 0 0)] (.bs (Ty.int .u32) []):=by
 refine Ax Tryz.func41 rfl (by kernel_rfl) rfl Tryz.ntmps41 fun C hC=>?_
 simp only[List.length_cons,List.length_nil,Nat.reduceAdd,Nat.reduceSub,List.replicate_succ,List.replicate_zero,List.cons_append,List.nil_append];refine wR ?_;refine Ac fun K2 h2=>?_
 refine wS (sT (sH (CP rfl rfl rfl) (wN ?_)));refine Ae rfl (fun hb4=>?_) (fun hb4=>?_)
 ·refine wR ?_;refine As _ (Mb 2 (Ty.int .u32) rfl) ?_;refine nT ?_;exact Aj ⟨.inr rfl,Fin.cl rfl⟩
 ·cases hb4
theorem Qg(hl:l.length≤1073741824):Fn Tryz.prog 41 [.tv (Ty.sliceP (Ty.int .u32)) l] (.bs (Ty.int .u32) l):=by
 refine Ax Tryz.func41 rfl (by kernel_rfl) rfl Tryz.ntmps41 fun C hC=>?_
 simp only[List.length_cons,List.length_nil,Nat.reduceAdd,Nat.reduceSub,List.replicate_succ,List.replicate_zero,List.cons_append,List.nil_append];refine wR ?_;refine Ac fun K2 h2=>?_
 refine wS (sT (sH (CO rfl rfl rfl) (wN ?_)));refine Ae rfl (fun hb4=>?_) (fun hb4=>?_)
 ·cases hb4
 ·refine Ag ?_;refine h2 _ ?_;refine nT ?_;refine As _ (DT 0 rfl) ?_;refine nT ?_;refine wS ?_;refine Ao rfl (Ge (T:=(Ty.int .u32)) rfl (by decide) fun g=>?_);refine sNt (hk:=sT ?_);refine Ao rfl (Dc (i:=0) (l:=[]) (bytes:=4) (T:=(Ty.int .u32)) rfl (by kernel_rfl) rfl rfl rfl EncOf.one (by unfold maxLen;simp;omega) (by simp;omega) fun g' c'=>?_);refine sNt (hk:=sT (wN ?_));refine As _ (JN hC 0 2 rfl rfl) ?_;refine nT ?_;exact Aj ⟨.inr rfl,Fin.cl rfl⟩
theorem Bd(hl:l.length≤1073741824):Fn Tryz.prog 41 [.bs (Ty.int .u32) l] (.bs (Ty.int .u32) l):=TD rfl (fun h=>by subst h;exact Qh) (Qg hl)
end
@[reducible] def IQ(og:Option Nat)(n c:Nat):Value:=.slice (og.map fun g=>⟨g,0,none⟩) n c
section
variable{P:Program}{C:Ctx}{t:List AV}{h:List ABlk}{o:Oper}{α:Type}{T:Ty α}{l:List α}{K:St→Prop}
theorem Jb{ty:TypeId}{x y:Operand}{ik:IntKind}{g n c k m:Nat}[ES P ty m](ho:o.op= .indexAddr ty x y)(hx:evA t x= .lit (slV g n c))(hy:evA t y= .lit (.int ik (k:Int)))(hk:k < n):Av P C t h o (.lit (ptV g (k * m))):=by
 have:=Ja (P:=P) (n:=m) (C:=C) (h:=h) (k:=k) ho hx hy hk;rwa [Nat.zero_add]at this
theorem Dz{ty:TypeId}{x:Operand}{n i g c m k j:Nat}{L:List (List Cl)}{row:List Cl}{y:Cl}{e:TypeId}{nl:Nat}[AG P ty false n](ho:o.op= .load ty x)(hx:evA t x= .lit (ptV g (k *(m+1)+j)))(hi:h[i]? =some (.res (rowR (slV g nl c) e (tCl m) L)))(hn:L.length=nl)(hk:L[k]? =some row)(hj:row[j]? =some y):Av P C t h o y.av:=
 BQ ho hx hi y.cl fun w S H=>by
  subst hn;exact Jq (T:=tCl m) (enc:=fun l=>l.map Cl.av) (k:=k) (j:=j) rfl H hk (by rw[List.getElem?_map,hj];rfl)
theorem TH{ty:TypeId}{x y:Operand}{i g n c m k j:Nat}{L:List (List Cl)}{row:List Cl}{u:Value}{e:TypeId}[SZ P ty 1](ho:o.op= .store ty x y)(hx:evA t x= .lit (ptV g (k *(m+1)+j)))(hy:evA t y= .lit u)(h1:One h (.lit u))(hi:h[i]? =some (.res (rowR (slV g n c) e (tCl m) L)))(hn:L.length=n)(hk:L[k]? =some row)(hj:j < m+1)
 (hK:K ⟨AJ t o.dst (.lit undef),h.set i (.res (rowR (slV g n c) e (tCl m) (L.set k (row.set j (.v u)))))⟩):AOp P C o ⟨t,h⟩ K:=by
 subst hn;refine D9 (T:=tCl m) (g:=g) (c:=c) (k:=k) (j:=j) (d:=row) (row.set j (.v u)) ho hx hi hk rfl (by rw[hy];exact Nn.cl (.v u) h1 hj) ?_;rw[show Ik g c e (tCl m) (L.set k (row.set j (.v u)))=rowR (slV g L.length c) e (tCl m) (L.set k (row.set j (.v u)))by unfold Ik;rw[List.length_set]];exact hK
end
theorem Vb{h:List ABlk}{α0 β:Type}{T:Ty α0}{enc:α0→List AV}[EncOf T enc]{d d':α0}{off:Nat}{T2:Ty β}{l2:List β}(ho:off+1≤T.size)(he:(enc d).take off++[.bs T2 l2]++(enc d).drop (off+1)=enc d')
 (hput:∀(w:World) (S:Nat→Prop) (cs:List Value),Ad w S [] ψ0 (enc d') cs→T.RS w S cs d'):Nn h T d off (.bs T2 l2) 1 d':=fun C S ψ w v cs H hv hcs=>by
 have h1:v.oneCell'=true:=One.bs (h:=h) (T:=T2) (l:=l2) C S ψ w v H hv;have hu:v.cells.toList= [v]:=by rw[CM h1]
 refine⟨by rw[hu];rfl,ho,fun x hx=>by rw[hu]at hx;rw[List.mem_singleton.1 hx];exact h1,hput w S _ ?_⟩;have he1:Ad w S [] ψ0 (enc d) cs:=EncOf.ok (T:=T) (enc:=enc) w S [] ψ0 cs d hcs;rw[←he,hu];refine BK (BK (Iw he1 off) ?_) (Ix he1 (off+1));unfold Ad;refine⟨v,[],rfl,by unfold AV.rel at hv⊢;exact hv,?_⟩;unfold Ad;rfl
theorem Sd{C:Ctx}(hC:C.std){t:List AV}{h:List ABlk}(i j:Nat){α:Type}{T:Ty α}{l:List α}{e:TypeId}{v:Value}{a b:AV}(hi:h[i]? =some (.res (rowR v e T l)))(hj:t[j]? =some (.agg [a,b,.lit v]))(ha:AV.cl a=true)(hb:AV.cl b=true):St.le C ⟨t,h⟩ ⟨t.set j (.agg [a,b,.bs T l]),h.set i .dead⟩:=
 EB i j hi rfl rfl hj (PY hC hi rfl) fun S ψ w u H hr=>by
  obtain⟨_,hR0⟩:=H.blk i _ hi;obtain⟨cells,k1,k0,k2⟩:=hR0;unfold AV.rel at hr⊢;obtain⟨cs,e1,hl⟩:=hr;refine⟨cs,e1,?_⟩;unfold Ad at hl⊢;obtain⟨u1,us1,e2,h1,hl⟩:=hl;unfold Ad at hl⊢;obtain⟨u2,us2,e3,h2,hl⟩:=hl;unfold Ad at hl⊢;obtain⟨u3,us3,e4,h3,hl⟩:=hl;unfold Ad at hl;unfold AV.rel at h3;have X:Ext w S ([]:List ABlk) ψ0 w (fun k=>S k∨ftp (some (.res (rowR v e T l))) (ψ i) k) [] ψ0:=Ext.grow _ _ (fun _ _=>rfl) fun _ h=>.inl h
  refine⟨u1,us1,e2,Br _ _ ha (Dh X _ _ (Br _ _ ha h1)),u2,us2,e3,Br _ _ hb (Dh X _ _ (Br _ _ hb h2)),u3,us3,e4,?_,by unfold Ad;exact hl⟩;unfold AV.rel;rw[h3];exact Ch k1 (fun i d hd=>Ty.keepS _ (k2 i d hd) (fun _ _=>rfl) fun _ h=>.inl h) fun g hg=>.inr (AR hg)
abbrev VOk{α:Type}(l:List α):Type:={q:Option Nat×Nat // l≠[]→∃g,q.1=some g}
theorem LV{l:List Func}(hl:l.length≤1073741824):AE Tryz.prog 96 .emp [.bs B4 l] (fun q:VOk l=>rowR (IQ q.1.1 l.length q.1.2) 45 B4 l) (fun q=>.lit (IQ q.1.1 l.length q.1.2)):=
 Gd rfl (fun h=>by subst h;exact RR.reidx (fun _=>⟨(none,0),fun h=>absurd rfl h⟩) (fun _=>rfl) fun _=>rfl) ((RQ hl).reidx (fun q:Nat×Nat=>⟨(some q.1,q.2),fun _=>⟨q.1,rfl⟩⟩) (fun _=>rfl) fun _=>rfl)
theorem Qd{l:List Block}(hl:l.length≤1073741824):AE Tryz.prog 97 .emp [.bs Bs l] (fun q:VOk l=>rowR (IQ q.1.1 l.length q.1.2) 48 Bs l) (fun q=>.lit (IQ q.1.1 l.length q.1.2)):=
 Gd rfl (fun h=>by subst h;exact Qf.reidx (fun _=>⟨(none,0),fun h=>absurd rfl h⟩) (fun _=>rfl) fun _=>rfl) ((Qe hl).reidx (fun q:Nat×Nat=>⟨(some q.1,q.2),fun _=>⟨q.1,rfl⟩⟩) (fun _=>rfl) fun _=>rfl)
theorem UQ{l:List Ins}(hl:l.length≤1073741824):AE Tryz.prog 98 .emp [.bs Dj l] (fun q:VOk l=>rowR (IQ q.1.1 l.length q.1.2) 40 Dj l) (fun q=>.lit (IQ q.1.1 l.length q.1.2)):=
 Gd rfl (fun h=>by subst h;exact US.reidx (fun _=>⟨(none,0),fun h=>absurd rfl h⟩) (fun _=>rfl) fun _=>rfl) ((UR hl).reidx (fun q:Nat×Nat=>⟨(some q.1,q.2),fun _=>⟨q.1,rfl⟩⟩) (fun _=>rfl) fun _=>rfl)
theorem Vg{P:Program}{C:Ctx}{t:List AV}{h:List ABlk}{o:Oper}{ty:TypeId}{y:Operand}{n i g c j:Nat}{l:List Ins}{x:Ins}{e:TypeId}[AG P ty false n](ho:o.op= .load ty y)(hy:evA t y= .lit (ptV g (j * 9+6)))(hi:h[i]? =some (.res (rowR (slV g l.length c) e Dj l)))(hx:l[j]? =some x):Av P C t h o (.bs tInt x.args):=
 BQ ho hy hi rfl fun w S H=>Jq (T:=Dj) (enc:=AL) (k:=j) (j:=6) rfl H hx rfl
theorem Aaw{P:Program}{C:Ctx}{t:List AV}{h:List ABlk}{o:Oper}{K:St→Prop}{ty:TypeId}{y z:Operand}{i g c j:Nat}{l:List Ins}{x:Ins}{e:TypeId}[SZ P ty 1](ho:o.op= .store ty y z)(hy:evA t y= .lit (ptV g (j * 9+6)))(hz:evA t z= .bs tInt x.args)(hi:h[i]? =some (.res (rowR (slV g l.length c) e Dj l)))(hx:l[j]? =some x)(hok:okIns x)
 (hK:K ⟨AJ t o.dst (.lit undef),h.set i (.res (rowR (slV g l.length c) e Dj l))⟩):AOp P C o ⟨t,h⟩ K:=by
 refine D9 (T:=Dj) (g:=g) (c:=c) (k:=j) (j:=6) (d:=x) x ho hy hi hx rfl (by rw[hz];exact Vb (enc:=AL) (T2:=tInt) (l2:=x.args) (by decide) rfl fun w S cs H=>F1 (h:=[]) (ψ:=ψ0) hok H) ?_;rw[En hx];exact hK
def Dp(f:Func):List Cl:=[.v (.string f.name),.v (.int .i64 f.args),.v (.int .i64 f.regs),.bs f.blocks]
def GM(b:Block):List Cl:=[.v (.string b.name),.xs b.ins]
instance Afi:ES Tryz.prog 23 4:=⟨by kernel_rfl⟩
theorem C0{p:Prog}(hth:p.threads.length≤1073741824)(hfl:p.funcs.length≤1073741824)(hok:∀f∈p.funcs,okFunc f∧f.blocks.length≤1073741824∧∀b∈f.blocks,b.ins.length≤1073741824∧∀x∈b.ins,x.args.length≤1073741824):Fn Tryz.prog 40 [.agg (AU p)] (.agg (AU p)):=by
 refine FL Tryz.func40 rfl (by kernel_rfl) rfl (by kernel_rfl:OO Tryz.prog 25=some (true,3)) Tryz.ntmps40 fun C hC=>?_
 simp only[List.length_cons,List.length_nil,Nat.reduceAdd,Nat.reduceSub,List.replicate_succ,List.replicate_zero,List.cons_append,List.nil_append];refine wS (sB (sA0 (wN ?_)));refine As ⟨(.agg (AU p)::.ptr 0 0::.ptr 1 0::A80 [.any]),[.box (AU p),.box [.lit (.int .i64 0),.lit (.slice none 0 0),.lit (.slice none 0 0)]]⟩ (Fb (hc:=.cons (.cons (.nil _)))) ?_;refine dH 5 [] [0,1,2,3,4] uN fun K2 hK2=>vT (vT (vH (AB rfl rfl (Nc hth) rfl rfl) (vT (vT (vN ?_)))))
 refine KW (BV [0,1,2,3,4,5,6] (Array.replicate 10 false)) 3 (fun q:VOk p.funcs=>⟨(.agg (AU p)::.ptr 0 0::.ptr 1 0::A5 (.ptr 0 1::.bs tInt p.threads::.bs tInt p.threads::.ptr 0 2::.bs B4 p.funcs::.lit (IQ q.1.1 p.funcs.length q.1.2)::.ptr 0 1::A40 (A20 (A9 [])))),[.box (AU p),.box [.lit (.int .i64 0),.lit (.slice none 0 0),.lit (.slice none 0 0)],.res (rowR (IQ q.1.1 p.funcs.length q.1.2) 45 B4 p.funcs)]⟩) (fun q=>?_) (fun hB=>?_)
 rotate_left
 ·refine Aw [5,6] (tC ?_ (tC (oT ?_) Ah))
  ·refine C6 rfl (LV hfl) (fun _=>rfl) rfl rfl (fun _=>rfl) fun q=>?_
   refine tNt ?_;exact tT 6 (tE (hB q))
  ·refine tA 5 ?_;refine C6 rfl (LV hfl) (fun _=>rfl) rfl rfl (fun _=>rfl) fun q=>?_
   refine tNt ?_;exact tE (hB q)
 refine tA 7 ?_;refine oW ?_;refine tT 8 ?_;refine tA 9 ?_;refine oW ?_;refine DJ (hK2 _ ?_);obtain⟨⟨og,cF⟩,hog⟩:=q;have hog:p.funcs≠[]→∃g,og=some g:=hog;dsimp only;refine As _ (Ni 2 (m:=3) Dp rfl (fun d=>rfl) (fun d=>rfl) rfl) ?_;refine nT ?_;have hLl:(p.funcs.map Dp).length=p.funcs.length:=List.length_map _;refine Ac fun K3 h3=>?_
 refine wS (sT (sT (sH (C5 rfl rfl) (sT (wN ?_)))));refine Af ?_;refine Au (fun i:Nat=>⟨(.any::.ptr 0 0::.ptr 1 0::A10 (A5 (.lit (.int .i64 (p.funcs.length:Int))::.lit (.int .i64 (i:Int))::A40 (A20 (A4 []))))),[.box [.lit (.int .i64 p.heap),.bs tInt p.threads,.lit (IQ og p.funcs.length cF)],.box [.lit (.int .i64 0),.lit (.slice none 0 0),.lit (.slice none 0 0)],.res (rowR (IQ og p.funcs.length cF) 45 (tCl 3) (p.funcs.map Dp))]⟩) (fun i=>i≤p.funcs.length) (fun i=>p.funcs.length - i) 0 (Nat.zero_le _) (BD rfl (by(try simp only[AJ,List.set_cons_zero,List.set_cons_succ]);repeat(first|exact Fgt.nil|refine Fgt.keep rfl ?_|refine Fgt.any ?_))) ?_;rintro i hi;refine wS (sT (wN ?_));refine Ac fun K7 h7=>?_
 refine Ae rfl (fun hb8=>?_) (fun hb8=>?_)
 ·have hlt:i < p.funcs.length:=by
   have:=of_decide_eq_true hb8;omega
  obtain⟨gF,rfl⟩:=hog (fun e=>by rw[e]at hlt;exact absurd hlt (Nat.not_lt_zero _));obtain⟨f,hf⟩:∃f,p.funcs[i]? =some f:=⟨_,List.getElem?_eq_getElem hlt⟩
  obtain⟨hokf,hbl,hblk⟩:=hok f (List.mem_of_getElem? hf);have hLF:(p.funcs.map Dp)[i]? =some (Dp f):=by rw[List.getElem?_map,hf];rfl
  simp only[IQ,Option.map_some];refine Ag ?_;refine h7 _ ?_;refine nT ?_;refine Ac fun K9 h9=>?_
  refine Af ?_;refine wS (sT (sT (wN ?_)));refine wS (sT (sT (sT ?_)));refine sH (Jb (m:=4) rfl rfl rfl hlt) (sT (wN ?_));refine wS (sT (sT (sT (sT ?_))));refine sH (Dz (i:=2) (m:=3) (k:=i) (j:=3) rfl rfl rfl hLl hLF rfl) ?_;refine Ao rfl (C6 rfl (Qd hbl) (fun _=>rfl) rfl rfl (fun _=>rfl) fun qB=>?_);refine sNt (hk:=sT (sT ?_));refine Ao rfl (TH (i:=2) (m:=3) (k:=i) (j:=3) (u:=IQ qB.1.1 f.blocks.length qB.1.2) rfl rfl rfl (One.lit rfl) rfl hLl hLF (by decide) ?_);refine sNt (hk:=wN ?_);obtain⟨⟨oB,cB⟩,hoB⟩:=qB;have hoB:f.blocks≠[]→∃g,oB=some g:=hoB;dsimp only;refine As _ (Ni 3 (m:=1) GM rfl (fun d=>rfl) (fun d=>rfl) rfl) ?_;refine nT ?_;have hLBl:(f.blocks.map GM).length=f.blocks.length:=List.length_map _;have hL1l:((p.funcs.map Dp).set i ((Dp f).set 3 (.v (IQ oB f.blocks.length cB)))).length=p.funcs.length:=by rw[List.length_set];exact hLl
  have hL1:((p.funcs.map Dp).set i ((Dp f).set 3 (.v (IQ oB f.blocks.length cB))))[i]? =some ((Dp f).set 3 (.v (IQ oB f.blocks.length cB))):=List.getElem?_set_self (by rw[hLl];exact hlt);refine wS (sT (sT (sT ?_)));refine sH (Dz (i:=2) (m:=3) (k:=i) (j:=3) (y:=.v (IQ oB f.blocks.length cB)) rfl rfl rfl hL1l hL1 rfl) ?_;refine sH (C5 rfl rfl) (sT (wN ?_));refine Af ?_;refine Au (fun k:Nat=>⟨(.any::.ptr 0 0::.ptr 1 0::.any::.lit (ptV gF (i * 4))::A10 (A3 (.lit (.int .i64 (p.funcs.length:Int))::.lit (.int .i64 (i:Int))::A10 (A8 (.lit (.int .i64 (f.blocks.length:Int))::.lit (.int .i64 (k:Int))::A40 (A4 [])))))),[.box [.lit (.int .i64 p.heap),.bs tInt p.threads,.lit (slV gF p.funcs.length cF)],.box [.lit (.int .i64 0),.lit (.slice none 0 0),.lit (.slice none 0 0)],.res (rowR (slV gF p.funcs.length cF) 45 (tCl 3) ((p.funcs.map Dp).set i ((Dp f).set 3 (.v (IQ oB f.blocks.length cB))))),.res (rowR (IQ oB f.blocks.length cB) 48 (tCl 1) (f.blocks.map GM))]⟩) (fun k=>k≤f.blocks.length) (fun k=>f.blocks.length - k) 0 (Nat.zero_le _) (BD rfl (by(try simp only[AJ,List.set_cons_zero,List.set_cons_succ]);repeat(first|exact Fgt.nil|refine Fgt.keep rfl ?_|refine Fgt.any ?_))) ?_;rintro k hk;refine wS (sT (wN ?_));refine Ac fun K16 h16=>?_
  refine Ae rfl (fun hb17=>?_) (fun hb17=>?_)
  ·have hlt2:k < f.blocks.length:=by
    have:=of_decide_eq_true hb17;omega
   obtain⟨gB,rfl⟩:=hoB (fun e=>by rw[e]at hlt2;exact absurd hlt2 (Nat.not_lt_zero _));obtain⟨b,hb⟩:∃b,f.blocks[k]? =some b:=⟨_,List.getElem?_eq_getElem hlt2⟩
   obtain⟨hil,hargs⟩:=hblk b (List.mem_of_getElem? hb);have hLB:(f.blocks.map GM)[k]? =some (GM b):=by rw[List.getElem?_map,hb];rfl
   refine Ag ?_;refine h16 _ ?_;refine nT ?_;refine Ac fun K18 h18=>?_
   refine Af ?_;refine wS (sT (sT (wN ?_)));refine wS (sT (sT (sT ?_)));refine sH (Dz (i:=2) (m:=3) (k:=i) (j:=3) (y:=.v (slV gB f.blocks.length cB)) rfl rfl rfl hL1l hL1 rfl) (sT ?_);refine sH (Jb (m:=2) rfl rfl rfl hlt2) (sT (wN ?_));refine wS (sT (sT (sT (sT ?_))));refine sH (Dz (i:=3) (m:=1) (k:=k) (j:=1) (g:=gB) (c:=cB) rfl rfl rfl hLBl hLB rfl) ?_;refine Ao rfl (C6 rfl (UQ hil) (fun _=>rfl) rfl rfl (fun _=>rfl) fun qI=>?_);refine sNt (hk:=sT (sT ?_));refine Ao rfl (TH (i:=3) (m:=1) (k:=k) (j:=1) (g:=gB) (c:=cB) (u:=IQ qI.1.1 b.ins.length qI.1.2) rfl rfl rfl (One.lit rfl) rfl hLBl hLB (by decide) ?_);refine sNt (hk:=wN ?_);obtain⟨⟨oI,cI⟩,hoI⟩:=qI;have hoI:b.ins≠[]→∃g,oI=some g:=hoI;dsimp only;have hL2l:((f.blocks.map GM).set k ((GM b).set 1 (.v (IQ oI b.ins.length cI)))).length=f.blocks.length:=by rw[List.length_set];exact hLBl
   have hL2:((f.blocks.map GM).set k ((GM b).set 1 (.v (IQ oI b.ins.length cI))))[k]? =some ((GM b).set 1 (.v (IQ oI b.ins.length cI))):=List.getElem?_set_self (by rw[hLBl];exact hlt2);refine wS (sT (sT (sT ?_)));refine sH (Dz (i:=3) (m:=1) (k:=k) (j:=1) (g:=gB) (c:=cB) (y:=.v (IQ oI b.ins.length cI)) rfl rfl rfl hL2l hL2 rfl) ?_;refine sH (C5 rfl rfl) (sT (wN ?_));refine Af ?_;refine Au (fun j:Nat=>⟨(.any::.ptr 0 0::.ptr 1 0::.any::.lit (ptV gF (i * 4))::.any::.lit (ptV gB (k * 2))::A10 (.any::.lit (.int .i64 (p.funcs.length:Int))::.lit (.int .i64 (i:Int))::A10 (A8 (.lit (.int .i64 (f.blocks.length:Int))::.lit (.int .i64 (k:Int))::A20 (.lit (.int .i64 (b.ins.length:Int))::.lit (.int .i64 (j:Int))::A20 (A2 [])))))),[.box [.lit (.int .i64 p.heap),.bs tInt p.threads,.lit (slV gF p.funcs.length cF)],.box [.lit (.int .i64 0),.lit (.slice none 0 0),.lit (.slice none 0 0)],.res (rowR (slV gF p.funcs.length cF) 45 (tCl 3) ((p.funcs.map Dp).set i ((Dp f).set 3 (.v (slV gB f.blocks.length cB))))),.res (rowR (slV gB f.blocks.length cB) 48 (tCl 1) ((f.blocks.map GM).set k ((GM b).set 1 (.v (IQ oI b.ins.length cI))))),.res (rowR (IQ oI b.ins.length cI) 40 Dj b.ins)]⟩) (fun j=>j≤b.ins.length) (fun j=>b.ins.length - j) 0 (Nat.zero_le _) (BD rfl (by(try simp only[AJ,List.set_cons_zero,List.set_cons_succ]);repeat(first|exact Fgt.nil|refine Fgt.keep rfl ?_|refine Fgt.any ?_))) ?_;rintro j hj;refine wS (sT (wN ?_));refine Ac fun K25 h25=>?_
   refine Ae rfl (fun hb26=>?_) (fun hb26=>?_)
   ·have hlt3:j < b.ins.length:=by
     have:=of_decide_eq_true hb26;omega
    obtain⟨gI,rfl⟩:=hoI (fun e=>by rw[e]at hlt3;exact absurd hlt3 (Nat.not_lt_zero _));obtain⟨x,hx⟩:∃x,b.ins[j]? =some x:=⟨_,List.getElem?_eq_getElem hlt3⟩
    have hax:=hargs x (List.mem_of_getElem? hx);have hokx:okIns x:=(hokf.blocks b (List.mem_of_getElem? hb)).ins x (List.mem_of_getElem? hx);refine Ag ?_;refine h25 _ ?_;refine nT ?_;refine Ac fun K27 h27=>?_
    refine Af ?_;refine wS (sT (sT (wN ?_)));refine dSE 16 (hq:=qT (qT (qT ?_)));refine qH (Dz (i:=3) (m:=1) (k:=k) (j:=1) (g:=gB) (c:=cB) (y:=.v (slV gI b.ins.length cI)) rfl rfl rfl hL2l hL2 rfl) (qT (qT (qT (qT ?_))));refine qH (Dz (i:=3) (m:=1) (k:=k) (j:=1) (g:=gB) (c:=cB) (y:=.v (slV gI b.ins.length cI)) rfl rfl rfl hL2l hL2 rfl) (qT ?_);refine qH (Jb (m:=9) rfl rfl rfl hlt3) (qT ?_);refine qH (Vg (i:=4) (g:=gI) (c:=cI) (j:=j) rfl rfl rfl hx) ?_;refine qH (AB rfl rfl (Nc hax) rfl rfl) ?_;refine qH (Jb (m:=9) rfl rfl rfl hlt3) (qT (qN ?_));refine Ao rfl (Aaw (i:=4) (g:=gI) (c:=cI) (j:=j) rfl rfl rfl rfl hx hokx ?_);refine sNt (hk:=wN ?_);refine h27 _ ?_;refine nT ?_;refine wSE (sT (sT (wN ?_)));refine athen_n ⟨j+1,hlt3,by omega,?_⟩;rw[Cq (by omega)];exact B5 (.cons (.cons (.cons (.cons (.cons (.nil _)))))) rfl (by(try simp only[AJ,List.set_cons_zero,List.set_cons_succ]);repeat(first|exact Fgt.nil|refine Fgt.keep rfl ?_|refine Fgt.any ?_))
   ·refine As _ (Kd hC 3 4 k 1 (by decide) rfl rfl hL2 rfl (.xs b.ins) rfl) ?_;refine nT ?_;rw[show(((f.blocks.map GM).set k ((GM b).set 1 (.v (IQ oI b.ins.length cI)))).set k (((GM b).set 1 (.v (IQ oI b.ins.length cI))).set 1 (.xs b.ins)))=f.blocks.map GM from by rw[List.set_set];exact En hLB];refine Aq ?_;refine h18 _ ?_;refine nT ?_;refine wSE (sT (sT (wN ?_)));refine athen_n ⟨k+1,hlt2,by omega,?_⟩;rw[Cq (by omega)];exact B5 (.cons (.cons (.cons (.cons (.nil _))))) rfl (by(try simp only[AJ,List.set_cons_zero,List.set_cons_succ]);repeat(first|exact Fgt.nil|refine Fgt.keep rfl ?_|refine Fgt.any ?_))
  ·refine As _ (Nk 3 (T:=Bs) (l:=f.blocks) GM rfl (fun d hd w S cs H=>Pt (h:=[]) (ψ:=ψ0) (hokf.blocks d hd).name H) rfl) ?_;refine nT ?_;refine As _ (Kd hC 2 3 i 3 (by decide) rfl rfl hL1 rfl (.bs f.blocks) rfl) ?_;refine nT ?_;rw[show(((p.funcs.map Dp).set i ((Dp f).set 3 (.v (IQ oB f.blocks.length cB)))).set i (((Dp f).set 3 (.v (IQ oB f.blocks.length cB))).set 3 (.bs f.blocks)))=p.funcs.map Dp from by rw[List.set_set];exact En hLF];refine Aq ?_;refine h9 _ ?_;refine nT ?_;refine wSE (sT (sT (wN ?_)));refine athen_n ⟨i+1,hlt,by omega,?_⟩;rw[Cq (by omega)];exact B5 (.cons (.cons (.cons (.nil _)))) rfl (by(try simp only[AJ,List.set_cons_zero,List.set_cons_succ]);repeat(first|exact Fgt.nil|refine Fgt.keep rfl ?_|refine Fgt.any ?_))
 ·refine Aq ?_;refine h3 _ ?_;refine nT ?_;refine wS (sT ?_);refine Tz rfl (Nk 2 (T:=B4) (l:=p.funcs) Dp rfl (fun d hd w S cs H=>SO (h:=[]) (ψ:=ψ0) (hok d hd).1 H) rfl) ?_;refine Tz rfl (Sd hC 2 83 rfl rfl rfl rfl) ?_;refine sNt ?_;refine sW (wN ?_);exact Aj ⟨⟨.inr rfl,1,_,rfl,rfl,Fin.cl rfl⟩,fun i cells e1 e2=>by cases e1;cases e2;rfl⟩
theorem Ac8:Cf Tryz.prog 89=some [(0,3),(3,1),(4,1),(5,1),(6,1),(7,1),(8,2)]:=by kernel_rfl
theorem Acm:Bj Tryz.prog 89=some [.int .i64 0,.slice none 0 0,.slice none 0 0,.slice none 0 0,.slice none 0 0,.slice none 0 0,.int .i64 0,.slice none 0 0,.int .u8 0,.int .u32 0]:=by kernel_rfl
theorem ZQ{z:Array Value}{c0 c1 c2 yv uv z0 z1 z2 z3 z4 z5 z6 z7 z8 z9:Value}(hz:z= #[z0,z1,z2,z3,z4,z5,z6,z7,z8,z9])(hy:yv.cells= #[yv])(hu:uv.cells= #[uv]):
 Instr.fill (fun i=>(#[(0,3),(3,1),(4,1),(5,1),(6,1),(7,1),(8,2)]:Array (Nat×Nat))[i]?) z [(0,.agg #[c0,c1,c2]),(1,yv),(5,uv)]=some #[c0,c1,c2,yv,z4,z5,z6,uv,z8,z9]:=by
 subst hz;simp[Instr.fill,hy,hu,show(Value.agg #[c0,c1,c2]).cells= #[c0,c1,c2]from rfl]
theorem Qy{P:Program}{C:Ctx}{t:List AV}{h:List ABlk}{o:Oper}{ty:TypeId}{x y u:Operand}{z0 z1 z2 z3 z4 z5 z6 z7 z8 z9:Value}{a b c d e:AV}(hz:Bj P ty=some [z0,z1,z2,z3,z4,z5,z6,z7,z8,z9])(ho:o.op= .build ty #[(0,x),(1,y),(5,u)])(hpl:Cf P ty=some [(0,3),(3,1),(4,1),(5,1),(6,1),(7,1),(8,2)])(hx:evA t x= .agg [a,b,c])(hy:evA t y=d)(hu:evA t u=e)(h1:One h d)(h2:One h e):Av P C t h o (.agg [a,b,c,d,.lit z4,.lit z5,.lit z6,e,.lit z8,.lit z9]):=
 Ap fun S ψ w ρ H hρ=>by
  unfold Bj at hz;obtain⟨z,hz1,hzc⟩:=Option.map_eq_some_iff.1 hz;obtain⟨i,hi,hz2⟩:=Option.bind_eq_some_iff.1 hz1;unfold Cf at hpl;split at hpl <;> try(cases hpl;done)
  rename_i fs hun;have hrp:=GW (P:=P) w fs.toList _ hpl;have hm:=hρ x (by rw[ho];simp[Op.operands]);have hmy:=hρ y (by rw[ho];simp[Op.operands]);have hmu:=hρ u (by rw[ho];simp[Op.operands]);rw[hx]at hm;rw[hy]at hmy;rw[hu]at hmu;have hy1:=CM (h1 C S ψ w _ H hmy);have hu1:=CM (h2 C S ψ w _ H hmu);unfold AV.rel at hm;obtain⟨cs,ec,hcs⟩:=hm;have hl:=AW hcs;obtain⟨c0,c1,c2,rfl⟩:∃c0 c1 c2,cs= [c0,c1,c2]:=by
   match cs,hl with
   | [c0,c1,c2],_=>exact⟨c0,c1,c2,rfl⟩
  have hzz:z.cells= #[z0,z1,z2,z3,z4,z5,z6,z7,z8,z9]:=by
   apply Array.ext';rw[hzc]
  have hlit:∀v:Value,AV.rel w S h ψ (.lit v) v:=fun v=>by unfold AV.rel;rfl
  refine⟨.agg #[c0,c1,c2,ρ y,z4,z5,z6,ρ u,z8,z9],?_,by
   unfold AV.rel;refine⟨[c0,c1,c2,ρ y,z4,z5,z6,ρ u,z8,z9],rfl,?_⟩;refine BK (l:=[a,b,c]) hcs ?_;simp only[Ad];exact⟨_,_,rfl,hmy,_,_,rfl,hlit _,_,_,rfl,hlit _,_,_,rfl,hlit _,_,_,rfl,hmu,_,_,rfl,hlit _,_,_,rfl,hlit _,rfl⟩⟩
  have hpa:(fs.mapM (m:=Sem) fun f=>do pure (f.offset,←Go.sizeOf f.type)).run P w= .ok #[(0,3),(3,1),(4,1),(5,1),(6,1),(7,1),(8,2)] w:=by
   rw[←Array.toArray_toList (xs:=fs),List.mapM_toArray,Sem.run_map,hrp];rfl
  have hf:=ZQ (c0:=c0) (c1:=c1) (c2:=c2) hzz hy1 hu1;have hf':Instr.fill (fun i=>(#[(0,3),(3,1),(4,1),(5,1),(6,1),(7,1),(8,2)]:Array (Nat×Nat))[i]?) z.cells ((#[(0,x),(1,y),(5,u)]:Array (Nat×Operand)).map fun p=>(p.1,ρ p.2)).toList=some #[c0,c1,c2,ρ y,z4,z5,z6,ρ u,z8,z9]:=by
   simpa[ec]using hf
  simp only[execOp,ho,Instr.build,zeroValue,typeInfo,underlying,Sem.run_bind,run_program,Result.andThen_ok,hi,hz2,Sem.run_pure,hun,hpa,hf']
theorem AE.nil3{P:Program}{f:FuncId}{ι:Type}{R:Res}{Rs:ι→Res}{rs:ι→AV}{a b:AV}{α:Type}{T:Ty α}(h:AE P f R [a,b,.bs T []] Rs rs):AE P f R [a,b,.lit (.slice none 0 0)] Rs rs:=⟨h.1,fun w S vs x y z hr=>h.2 w S vs x y z (by
 unfold Ad at hr⊢;obtain⟨v,us,e,h1,h2⟩:=hr;refine⟨v,us,e,h1,?_⟩;unfold Ad at h2⊢;obtain⟨v2,us2,e2,h3,h4⟩:=h2;refine⟨v2,us2,e2,h3,?_⟩;unfold Ad at h4⊢;obtain⟨v3,us3,e3,h5,h6⟩:=h4;refine⟨v3,us3,e3,?_,h6⟩;unfold AV.rel at h5⊢;subst h5;exact T.slice_nilS _ _)⟩
section
variable{P:Program}{C:Ctx}{t:List AV}{h:List ABlk}{o:Oper}{K:St→Prop}{α:Type}{T:Ty α}
theorem Ea{ty e:TypeId}{bytes m:Nat}{x:Operand}{cells:List AV}{d:α}[RT P ty e m bytes](ho:o.op= .buildSlice ty 1 #[(0,x)])(hx:evA t x= .agg cells)(hcl:AZ cells=true)(hm:T.size=m)(hlen:cells.length=m)(h0:0 < m)(hput:∀(w:World) (S:Nat→Prop) (cs:List Value),Ad w S [] ψ0 cells cs→T.RS w S cs d)(hbig:m≤16777216)
 (hK:∀g:Nat,K ⟨AJ t o.dst (.lit (slV g 1 1)),h++[.res (rowR (slV g 1 1) e T [d])]⟩):AOp P C o ⟨t,h⟩ K:=by
 refine Cj (ι:=Nat) (Rs:=fun g=>rowR (slV g 1 1) e T [d]) (val:=fun g=>slV g 1 1) (fun _=>rfl) (fun S ψ w ρ H hρ=>?_) hK;have ho':o.op= .buildSlice ty ([x]:List Operand).length (DF [x]):=ho;have hx':=hρ x (by rw[ho];simp[Op.operands]);rw[hx]at hx';unfold AV.rel at hx';obtain⟨cs,hv,hrel⟩:=hx';have hrel:=AQ (h':=[]) (ψ':=ψ0) _ _ hcl hrel;have hcl2:cs.length=m:=by rw[AW hrel,hlen]
 have hrun:=FW (P:=P) (ρ:=ρ) (w:=w) ho';rw[NN (RT.eq (P:=P) (ty:=ty) (e:=e) (n:=m) (bytes:=bytes)) (by simp;exact hbig) (fun v hv'=>by
  have hv':v∈[ρ x]:=hv';rw[List.mem_singleton.1 hv',hv];show cs.toArray.size=m;simpa using hcl2)]at hrun
 have hcells:([x].map ρ).flatMap (fun v=>v.cells.toList)=cs:=by
  show(ρ x).cells.toList++[]=cs;rw[hv];simp[Value.cells]
 rw[hcells]at hrun;have hb:Below w.heap.size w (w.alloc (.cells cs.toArray e)):=(Below.refl _ _).alloc (Nat.le_refl _) _;rw[hrun];refine⟨⟨hb.os,hb.tape,hb.output,hb.size,fun k hk _=>hb.block k hk⟩,w.heap.size,rfl,?_,fun k hk=>?_⟩
 ·have hR:=Lg (g:=w.heap.size) (c:=1) (e:=e) (T:=T) (l:=[d]) (S:=S) (heap_alloc_new w (.cells cs.toArray e)) (by simp) (by unfold maxLen;decide) (by rw[hm];simp[hcl2]) (by rw[hm];exact h0) fun j d' hj=>?_
  ·exact hR
  ·cases j with
   |succ j=>cases hj
   |zero=>
    cases hj;rw[Nat.zero_mul,List.drop_zero,List.take_of_length_le (by rw[hm];show cs.length≤m;omega)];exact T.keepS (hput w S cs hrel) (fun k hk=>hb.block k (H.lt k hk)) fun _ h=>h
 ·have hk:some w.heap.size=some k:=hk;cases hk;exact⟨.inr (Nat.le_refl _),by simp⟩
end
theorem Vp{C:Ctx}(h:C.turn .emp):C.std:=fun k hk=>h k hk fun hf=>hf.elim
theorem Ku{P:Program}{f:FuncId}{fn:Go.Func}{c:Code}{args:List AV}{ι:Type}{R:Res}{Rs:ι→Res}{rs:ι→AV}{n:Nat}{t u:Tmp}(hf:P.funcs[f]? =some fn)(hb:fn.body=some c)(hE:Bw P f=true)(hres:fn.results= #[.tmp t,.tmp u])(hn:fn.ntmps=n)(hm:R.mrk= [])
 (h:∀C:Ctx,C.turn R→Awp P C c (Hv R Rs rs fun s r=>.tup [evA s.t (.tmp t),evA s.t (.tmp u)]=r∧AV.cl r=true) ⟨args++List.replicate (n - args.length) (.lit undef),[.res R]⟩):AE P f R args Rs rs:=
 BP _ hf hb hE hn hm (fun C s a w r S ψ ⟨h1,h2⟩ H hl=>⟨.tuple #[a.eval (.tmp t),a.eval (.tmp u)],by
  have e1:(a.tmps[t]?).getD undef=a.eval (.tmp t):=by rw[←Array.getD_eq_getD_getElem?];rfl
  have e2:(a.tmps[u]?).getD undef=a.eval (.tmp u):=by rw[←Array.getD_eq_getD_getElem?];rfl
  simp[results,hres,e1,e2],by
  subst h1;refine Br (h:=s.h) (ψ:=ψ) _ _ h2 ?_;unfold AV.rel;refine⟨[a.eval (.tmp t),a.eval (.tmp u)],rfl,?_⟩;unfold Ad;refine⟨_,_,rfl,Ba hl (.tmp t),?_⟩;unfold Ad;refine⟨_,_,rfl,Ba hl (.tmp u),?_⟩;unfold Ad;rfl⟩) h
section
variable{P:Program}{C:Ctx}{t:List AV}{h:List ABlk}{o:Oper}{K:St→Prop}
theorem Vs{ty:TypeId}{x y:Operand}{i j:Nat}{p:Prog}{m:MdA}(q:ThA)(hij:i≠j)(ho:o.op= .call {callee:=.builtin .append,args:=#[x,y],argTypes:=#[ty,ty]})(hT:Hm P ty=some (97,(tCl 0).size,24))(hx:evA t x= .lit m.tv)(hy:evA t y= .bs (tCl 0) [[Cl.v q.cv]])(hi:h[i]? =some (.res (modR p m)))(hj:h[j]? =some (.res (thR q)))
 (hb:H5 (m.ths.length+1) 24=true) (hK:∀v',K ⟨AJ t o.dst (.lit v'),(h.set j .dead).set i (.res (modR p {m with tv:=v',ths:=m.ths++[q]}))++[.dead]⟩):AOp P C o ⟨t,h⟩ K:=by
 unfold H5 at hb;simp only[Bool.and_eq_true,decide_eq_true_eq]at hb;have hil:=(List.getElem?_eq_some_iff.1 hi).1;refine AOp.le (Ef i j hij hi hj) ?_;refine CR (ι:=Value) (t':=fun v'=>AJ t o.dst (.lit v')) (A:=rowR m.tv 97 (tCl 0) (m.ths.map fun t=>[Cl.v t.cv])) (A':=fun v'=>rowR v' 97 (tCl 0) (m.ths.map (fun t=>[Cl.v t.cv])++[[Cl.v q.cv]])) i 3 [] (List.getElem?_set_self (by rw[List.length_set];exact hil)) rfl rfl (fun _=>rfl) (fun h1 K1 hi1 _ hK1=>?_) fun v'=>?_
 ·exact Gf ho hT hx hi1 hy (EncOf.one (T:=tCl 0) (enc:=fun l=>l.map Cl.av)) (by rw[List.length_map];exact hb.1) (by rw[List.length_map];exact hb.2) fun v'=>by have:=hK1 v';rwa [List.append_nil]at this
 ·have e:(Kq p m++[thR q]).set 3 (rowR v' 97 (tCl 0) (m.ths.map (fun t=>[Cl.v t.cv])++[[Cl.v q.cv]]))=Kq p {m with tv:=v',ths:=m.ths++[q]}:=by
   show _::_::_::_::(m.ths.map thR++[thR q])=_::_::_::rowR v' 97 (tCl 0) ((m.ths++[q]).map fun t=>[Cl.v t.cv])::(m.ths++[q]).map thR;rw[List.map_append,List.map_append];rfl
  rw[List.set_set,e];exact hK v'
theorem Aas{p:Prog}{m:MdA}(i:Nat)(hi:h[i]? =some (.res (modR p m)))(hne:m.ths≠[])(hk:∀tg c,m.tv=slV tg m.ths.length c→AOp P C o ⟨t,h⟩ K):AOp P C o ⟨t,h⟩ K:=fun Q' a w H=>by
 obtain⟨hd,S,ψ,HR,hl⟩:=id H;obtain⟨cells,hown,_⟩:=WL (HR.blk i _ hi).2;rcases hown.2 with⟨_,e0⟩|⟨g,cap,cur,e,_⟩
 ·exact absurd (List.eq_nil_of_length_eq_zero (by rw[List.length_map]at e0;exact e0)) hne
 ·rw[List.length_map]at e;exact hk g cap e Q' a w H
end
theorem NY:Cf Tryz.prog 95=some [(0,1)]:=by kernel_rfl
theorem ID:Cf Tryz.prog 97=some [(0,1)]:=by kernel_rfl
theorem ND:Bj Tryz.prog 95=some [.slice none 0 0]:=by kernel_rfl
theorem Io:Bj Tryz.prog 97=some [.slice none 0 0]:=by kernel_rfl
theorem ZP{z:Array Value}{c0 z0:Value}{v:Value}(hz:z= #[z0])(hv:v.cells= #[c0]):Instr.fill (fun i=>(#[(0,1)]:Array (Nat×Nat))[i]?) z [(0,v)]=some #[c0]:=by
 subst hz;simp[Instr.fill,hv]
theorem Cx{P:Program}{C:Ctx}{t:List AV}{h:List ABlk}{o:Oper}{ty:TypeId}{x:Operand}{z0:Value}{u:Value}(hz:Bj P ty=some [z0])(ho:o.op= .build ty #[(0,x)])(hpl:Cf P ty=some [(0,1)])(hx:evA t x= .lit u∧u.oneCell'=true∨evA t x= .agg [.lit u]):Av P C t h o (.agg [.lit u]):=
 Ap fun S ψ w ρ H hρ=>by
  unfold Bj at hz;obtain⟨z,hz1,hzc⟩:=Option.map_eq_some_iff.1 hz;obtain⟨i,hi,hz2⟩:=Option.bind_eq_some_iff.1 hz1;unfold Cf at hpl;split at hpl <;> try(cases hpl;done)
  rename_i fs hun;have hrp:=GW (P:=P) w fs.toList _ hpl;have hm:=hρ x (by rw[ho];simp[Op.operands]);have hu:(ρ x).cells= #[u]:=by
   rcases hx with⟨hx,h1⟩|hx
   ·rw[hx]at hm;unfold AV.rel at hm;rw[hm];exact CM (One.lit h1 C S ψ w _ H (by unfold AV.rel;rfl))
   ·rw[hx]at hm;unfold AV.rel at hm;obtain⟨cs,ec,hcs⟩:=hm;have hl:=AW hcs;obtain⟨c0,rfl⟩:∃c0,cs= [c0]:=by
     match cs,hl with
     | [c0],_=>exact⟨c0,rfl⟩
    unfold Ad at hcs;obtain⟨v,us,e,h1,_⟩:=hcs;unfold AV.rel at h1;cases e;rw[ec,h1];rfl
  have hzz:z.cells= #[z0]:=by
   apply Array.ext';rw[hzc]
  refine⟨.agg #[u],?_,by
   unfold AV.rel;refine⟨[u],rfl,?_⟩;simp only[Ad];exact⟨_,_,rfl,by unfold AV.rel;rfl,rfl⟩⟩
  have hpa:(fs.mapM (m:=Sem) fun f=>do pure (f.offset,←Go.sizeOf f.type)).run P w= .ok #[(0,1)] w:=by
   rw[←Array.toArray_toList (xs:=fs),List.mapM_toArray,Sem.run_map,hrp];rfl
  have hf':Instr.fill (fun i=>(#[(0,1)]:Array (Nat×Nat))[i]?) z.cells ((#[(0,x)]:Array (Nat×Operand)).map fun p=>(p.1,ρ p.2)).toList=some #[u]:=by
   simpa using ZP hzz hu
  simp only[execOp,ho,Instr.build,zeroValue,typeInfo,underlying,Sem.run_bind,run_program,Result.andThen_ok,hi,hz2,Sem.run_pure,hun,hpa,hf']
theorem FX{w:World}{S:Nat→Prop}{n:Nat}{l:List Value}(hl:l.length=n+1)(h1:∀v∈l,v.oneCell'=true){cs:List Value}(h:Ad w S [] ψ0 (l.map .lit) cs):(tCl n).RS w S cs (l.map .v):=by
 have hc:∀(l cs:List Value),Ad w S [] ψ0 (l.map .lit) cs→cs=l:=by
  intro l;induction l with
  |nil=>
   intro cs h;unfold Ad at h;exact h
  |cons a l ih=>
   intro cs h;rw[List.map_cons]at h;unfold Ad at h;obtain⟨v,us,rfl,h1,h2⟩:=h;unfold AV.rel at h1;rw[h1,ih us h2]
 refine⟨by rw[List.length_map];exact hl,?_,fun u hu=>h1 u (by rw[←hc l cs h];exact hu)⟩;rw[List.map_map];exact h
structure InsF(p:Prog)(f:Func)(x:Ins):Prop where
 op:x.op≤10
 nn:0≤x.d∧0≤x.a∧0≤x.b∧∀r∈x.args,0≤r
 call:x.op=5→OL x.f (p.funcs.length:Int)=true∧(x.args.length:Int)=(ixD p.funcs x.f).args
 other:x.op≠5→x.args= []
 n:x.op=1→x.n≤13
 l:x.op=8∨x.op=9→OL x.l1 (f.blocks.length:Int)=true∧OL x.l2 (f.blocks.length:Int)=true
theorem Adp{a b c:Int}(h:decide (Yz a b c < 0)=false):0≤a∧0≤b∧0≤c:=by
 have h:=of_decide_eq_false h;unfold Yz at h;split at h <;> split at h <;> first|omega|(rename_i h1 h2;split at h1 <;> omega)
theorem Ak4{p:Prog}{f:Func}{x:Ins}(h0:0≤x.op)(hl:x.args.length≤1073741824):∃r,(Fv p f x).to r∧(r=true→InsF p f x):=by
 unfold Fv;cases h1:decide (x.op > 10)with
 |true=>exact⟨false,BT rfl (An _),fun e=>by cases e⟩
 |false=>
  have h1':=of_decide_eq_false h1;obtain⟨s,hs⟩:∃s,s=Ao7 x:=⟨_,rfl⟩
  have hb:(Jo x).to s:=by
   rw[hs];exact AA (by rw[decide_eq_true h0,decide_eq_true (by omega:x.op≤10)];rfl) (An _)
  generalize hc:(((!(((((((s.d ==x.d)&&(s.a ==x.a))&&(s.b ==x.b))&&(s.n ==x.n))&&(s.f ==x.f))&&(s.l1 ==x.l1))&&(s.l2 ==x.l2)))||(decide ((Yz x.d x.a x.b) < 0)))||(x.args.any (fun z=>decide (z < 0))))=c;have hlen:decide (x.args.length≤1073741824)=true:=decide_eq_true hl;cases c with
  |true=>exact⟨false,Bc rfl (AF hb (AA (by rw[hlen,Bool.or_true]) (BT hc (An _)))),fun e=>by cases e⟩
  |false=>
   rw[Bool.or_eq_false_iff,Bool.or_eq_false_iff]at hc;have hc':=hc;obtain⟨⟨_,hm⟩,ha⟩:=hc;obtain⟨m1,m2,m3⟩:=Adp hm;have hargs:∀r∈x.args,0≤r:=fun r hr=>by
    have:=List.any_eq_false.1 ha r hr;have:=of_decide_eq_false (by simpa using this:decide (r < 0)=false);omega
   have hcc:(((!(((((((s.d ==x.d)&&(s.a ==x.a))&&(s.b ==x.b))&&(s.n ==x.n))&&(s.f ==x.f))&&(s.l1 ==x.l1))&&(s.l2 ==x.l2)))||(decide ((Yz x.d x.a x.b) < 0)))||(x.args.any (fun z=>decide (z < 0))))=false:=by rw[Bool.or_eq_false_iff,Bool.or_eq_false_iff];exact hc'
   cases h5:x.op ==5 with
   |true=>
    have e5:x.op=5:=by simpa using h5
    refine⟨OL x.f (p.funcs.length:Int)&&((x.args.length:Int) ==(ixD p.funcs x.f).args),Bc rfl (AF hb (AA (by rw[hlen,Bool.or_true]) (Bc hcc (BT rfl (AF (An _) (AA ?_ (An _))))))),fun e=>?_⟩
    ·cases hh:OL x.f (p.funcs.length:Int)with
     |true=>exact(by rw[show EJ p.funcs x.f=true from Xg hh,Bool.or_true])
     |false=>
      show(!OL x.f (p.funcs.length:Int)||_)=true;rw[hh];rfl
    ·rw[Bool.and_eq_true]at e;exact⟨by omega,⟨m1,m2,m3,hargs⟩,fun _=>⟨e.1,by simpa using e.2⟩,fun h=>absurd e5 h,fun h=>by omega,fun h=>by omega⟩
   |false=>
    have e5:x.op≠5:=by simpa using h5
    have fin:∀(r12 r13:Bool),((((((x.args.length:Int) ==0)&&((x.op !=1)||(decide (x.n≤13))))&&(((x.op !=8)&&(x.op !=9))||(r12&&r13)))=true)→(r12=true→OL x.l1 (f.blocks.length:Int)=true)→(r13=true→OL x.l2 (f.blocks.length:Int)=true)→InsF p f x):=fun r12 r13 e k1 k2=>by
     simp only[Bool.and_eq_true,Bool.or_eq_true,bne_iff_ne,ne_eq,beq_iff_eq,decide_eq_true_eq]at e;obtain⟨⟨e1,e2⟩,e3⟩:=e;refine⟨by omega,⟨m1,m2,m3,hargs⟩,fun h=>absurd h e5,fun _=>List.eq_nil_of_length_eq_zero (by omega),fun h=>by rcases e2 with e2|e2;exact absurd h e2;exact e2,fun h=>?_⟩;rcases e3 with e3|e3
     ·omega
     ·exact⟨k1 e3.1,k2 e3.2⟩
    generalize hc1:((((x.args.length:Int) ==0)&&((x.op !=1)||(decide (x.n≤13))))&&(!((x.op !=8)&&(x.op !=9))))=c1;cases c1 with
    |false=>
     exact⟨_,Bc rfl (AF hb (AA (by rw[hlen,Bool.or_true]) (Bc hcc (Bc rfl (AF (M.whn_f rfl) (AF (M.whn_f rfl) (An _))))))),fun e=>fin false false e (fun h=>by cases h) fun h=>by cases h⟩
    |true=>
     rcases hh1:OL x.l1 (f.blocks.length:Int)with _|_
     ·exact⟨_,Bc rfl (AF hb (AA (by rw[hlen,Bool.or_true]) (Bc hcc (Bc rfl (AF (G9 rfl (An _)) (AF (M.whn_f (by show(true&&OL x.l1 (f.blocks.length:Int))=false;rw[hh1];rfl)) (An _))))))),fun e=>fin _ _ e (fun h=>h) fun h=>by cases h⟩
     ·exact⟨_,Bc rfl (AF hb (AA (by rw[hlen,Bool.or_true]) (Bc hcc (Bc rfl (AF (G9 rfl (An _)) (AF (G9 (by show(true&&OL x.l1 (f.blocks.length:Int))=true;rw[hh1];rfl) (An _)) (An _))))))),fun e=>fin _ _ e (fun h=>h) fun h=>h⟩
def GE(z n:Int):Prop:=(if 4096 < z then 4096 else z)+1≤n
theorem GE.le{z n m:Int}(h:GE z n)(h2:n≤m):GE z m:=Int.le_trans h h2
theorem Zr{v m:Int}(hm:m≤4097)(hv:v≤4097):m≤(if v > m then v else m)∧v≤(if v > m then v else m)∧(if v > m then v else m)≤4097:=by
 by_cases h:v > m
 ·rw[if_pos h];omega
 ·rw[if_neg h];omega
theorem Ars{l:List Int}(hok:Bo l)(hl:l.length≤1073741824){n:Int}(h0:0≤n)(h1:n≤4097):∃r,(M.loop (CH l) (n,0)).to r∧(n≤r∧r≤4097∧∀z∈l,GE z r):=by
 refine M.loop_inv (fun s:Int×Int=>0≤s.2∧s.2.toNat≤l.length∧n≤s.1∧s.1≤4097∧∀(i:Nat) (z:Int),i < s.2.toNat→l[i]? =some z→GE z s.1) (fun s=>l.length - s.2.toNat) _ (fun s hs=>?_) (n,0) ⟨Int.le_refl _,Nat.zero_le _,Int.le_refl _,h1,fun i z hi=>absurd hi (Nat.not_lt_zero _)⟩;obtain⟨m,k⟩:=s;obtain⟨k0,kl,km,km2,hall⟩:=hs;have k0:0≤k:=k0;have kl:k.toNat≤l.length:=kl;have km:n≤m:=km;have km2:m≤4097:=km2;have hall:∀(i:Nat) (z:Int),i < k.toNat→l[i]? =some z→GE z m:=hall;unfold CH;cases hc:decide (k < (l.length:Int))with
 |false=>
  have:=of_decide_eq_false hc;refine⟨.inr m,Bc hc (An _),fun s' e=>(by cases e),fun r e=>?_⟩;cases e;refine⟨km,km2,fun z hz=>?_⟩;obtain⟨i,hi⟩:=List.getElem?_of_mem hz;have:=(List.getElem?_eq_some_iff.1 hi).1;exact hall i z (by omega) hi
 |true=>
  have hk:=of_decide_eq_true hc;have hin:EJ l k=true:=B8.2 ⟨k0,by omega⟩;have hz:=BJ hin;obtain⟨z,hze⟩:∃z,z=ixD l k:=⟨_,rfl⟩
  rw[←hze]at hz;have hwz:=Acn (hok z (List.mem_of_getElem? hz));have hw:IntKind.i64.wrap ((if 4096 < z then 4096 else z)+1)=(if 4096 < z then 4096 else z)+1:=IntWalk.i64_in _ (by split <;> omega);refine⟨_,BT hc (AA hin (An _)),fun s' e=>?_,fun r e=>(by cases e)⟩;cases e;rw[←hze,hw,show IntKind.i64.wrap (k+1)=k+1 from IntWalk.i64_in _ (by omega)];have hv:(if 4096 < z then 4096 else z)+1≤4097:=by split <;> omega
  obtain⟨f1,f2,f3⟩:=Zr km2 hv;refine⟨⟨by show 0≤k+1;omega,by show(k+1).toNat≤_;omega,Int.le_trans km f1,f3,fun i y hi hy=>?_⟩,by show l.length - (k+1).toNat < l.length - k.toNat;omega⟩;have hi:i < (k+1).toNat:=hi;by_cases e:i=k.toNat
  ·subst e;rw[hz]at hy;cases hy;exact f2
  ·exact(hall i y (by omega) hy).le f1
def EU(x:Ins):List Int:=readsC x++if Az x then [x.d]else []
theorem Ac4{x:Ins}(ho:okIns x)(ha:x.args.length≤2097152):(M.bnd (Kz x) fun r16=>M.bnd (Iv x) fun r20=>M.cnd r20.2 (M.chk (wfB .i64 r20.1) (M.chk (H5 (r16.length+ [r20.1].length) 8) (M.ok (r16++[r20.1])))) (M.ok r16)).to (EU x):=by
 have h1:(Kz x).to (readsC x):=AA (by rw[IH.2 ho,decide_eq_true ha];rfl) (An _);have h2:(Iv x).to (if Az x then x.d else 0,Az x):=AA (IH.2 ho) (An _);have hl:=H8 ha;refine AF h1 (AF h2 ?_);unfold EU;cases hw:Az x with
 |true=>exact BT rfl (AA ho.d (AA (by show H5 ((readsC x).length+1) 8=true;exact Aq8 (by omega)) (An _)))
 |false=>
  have e:readsC x++(if false=true then [x.d]else [])=readsC x:=by simp
  rw[e];exact Bc rfl (An _)
theorem Y4{x:Ins}(ho:okIns x)(ha:x.args.length≤2097152):Bo (EU x)∧(EU x).length≤1073741824:=by
 have hl:=H8 ha;unfold EU;refine⟨fun z hz=>?_,?_⟩
 ·rcases List.mem_append.1 hz with hz|hz
  ·exact Ep ho z hz
  ·split at hz
   ·rw[List.mem_singleton.1 hz];exact ho.d
   ·cases hz
 ·rw[List.length_append];split <;> simp <;> omega
theorem Art{f:Func}{x2:Int}(hok:∀x∈(ixD f.blocks x2).ins,okIns x∧x.args.length≤2097152)(hl:(ixD f.blocks x2).ins.length≤1073741824){n:Int}(h0:0≤n)(h1:n≤4097):∃r,(M.loop (CI f x2) (n,0)).to r∧(n≤r∧r≤4097∧∀x∈(ixD f.blocks x2).ins,∀z∈EU x,GE z r):=by
 obtain⟨l,hle⟩:∃l,l=(ixD f.blocks x2).ins:=⟨_,rfl⟩
 rw[←hle]at hok hl⊢;refine M.loop_inv (fun s:Int×Int=>0≤s.2∧s.2.toNat≤l.length∧n≤s.1∧s.1≤4097∧∀(i:Nat) (x:Ins),i < s.2.toNat→l[i]? =some x→∀z∈EU x,GE z s.1) (fun s=>l.length - s.2.toNat) _ (fun s hs=>?_) (n,0) ⟨Int.le_refl _,Nat.zero_le _,Int.le_refl _,h1,fun i z hi=>absurd hi (Nat.not_lt_zero _)⟩;obtain⟨m,k⟩:=s;obtain⟨k0,kl,km,km2,hall⟩:=hs;have k0:0≤k:=k0;have kl:k.toNat≤l.length:=kl;have km:n≤m:=km;have km2:m≤4097:=km2;have hall:∀(i:Nat) (x:Ins),i < k.toNat→l[i]? =some x→∀z∈EU x,GE z m:=hall;unfold CI;rw[←hle];cases hc:decide (k < (l.length:Int))with
 |false=>
  have:=of_decide_eq_false hc;refine⟨.inr m,Bc hc (An _),fun s' e=>(by cases e),fun r e=>?_⟩;cases e;refine⟨km,km2,fun x hx=>?_⟩;obtain⟨i,hi⟩:=List.getElem?_of_mem hx;have:=(List.getElem?_eq_some_iff.1 hi).1;exact hall i x (by omega) hi
 |true=>
  have hk:=of_decide_eq_true hc;have hin:EJ l k=true:=B8.2 ⟨k0,by omega⟩;have hz:=BJ hin;obtain⟨x,hxe⟩:∃x,x=ixD l k:=⟨_,rfl⟩
  rw[←hxe]at hz;obtain⟨ho,ha⟩:=hok x (List.mem_of_getElem? hz);obtain⟨o1,o2⟩:=Y4 ho ha;obtain⟨r,hr,g1,g2,g3⟩:=Ars o1 o2 (n:=m) (by omega) km2;obtain⟨r16,q1,q2⟩:=AX.1 (Ac4 ho ha);refine⟨.inl (r,IntKind.i64.wrap (k+1)),BT hc (AA hin (by rw[←hxe];exact AF q1 (AF q2 (AF hr (An _))))),fun s' e=>?_,fun r e=>(by cases e)⟩;cases e;rw[show IntKind.i64.wrap (k+1)=k+1 from IntWalk.i64_in _ (by omega)];refine⟨⟨by show 0≤k+1;omega,by show(k+1).toNat≤_;omega,Int.le_trans km g1,g2,fun i y hi hy=>?_⟩,by show l.length - (k+1).toNat < l.length - k.toNat;omega⟩;have hi:i < (k+1).toNat:=hi;by_cases e:i=k.toNat
  ·subst e;rw[hz]at hy;cases hy;exact g3
  ·exact fun z hz=>(hall i y (by omega) hy z hz).le g1
theorem ZG{f:Func}(hok:∀b∈f.blocks,b.ins.length≤1073741824∧∀x∈b.ins,okIns x∧x.args.length≤2097152)(hl:f.blocks.length≤1073741824):∃r,(CX f).to r∧(0≤r∧r≤4097∧∀b∈f.blocks,∀x∈b.ins,∀z∈EU x,GE z r):=by
 have key:∃r,(M.loop (CT f) (0,0)).to r∧(0≤r∧r≤4097∧∀b∈f.blocks,∀x∈b.ins,∀z∈EU x,GE z r):=by
  refine M.loop_inv (fun s:Int×Int=>0≤s.2∧s.2.toNat≤f.blocks.length∧0≤s.1∧s.1≤4097∧∀(i:Nat) (b:Block),i < s.2.toNat→f.blocks[i]? =some b→∀x∈b.ins,∀z∈EU x,GE z s.1) (fun s=>f.blocks.length - s.2.toNat) _ (fun s hs=>?_) (0,0) ⟨Int.le_refl _,Nat.zero_le _,Int.le_refl _,by decide,fun i z hi=>absurd hi (Nat.not_lt_zero _)⟩;obtain⟨m,k⟩:=s;obtain⟨k0,kl,km,km2,hall⟩:=hs;have k0:0≤k:=k0;have kl:k.toNat≤f.blocks.length:=kl;have km:0≤m:=km;have km2:m≤4097:=km2;have hall:∀(i:Nat) (b:Block),i < k.toNat→f.blocks[i]? =some b→∀x∈b.ins,∀z∈EU x,GE z m:=hall;unfold CT;cases hc:decide (k < (f.blocks.length:Int))with
  |false=>
   have:=of_decide_eq_false hc;refine⟨.inr m,Bc hc (An _),fun s' e=>(by cases e),fun r e=>?_⟩;cases e;refine⟨km,km2,fun b hb=>?_⟩;obtain⟨i,hi⟩:=List.getElem?_of_mem hb;have:=(List.getElem?_eq_some_iff.1 hi).1;exact hall i b (by omega) hi
  |true=>
   have hk:=of_decide_eq_true hc;have hin:EJ f.blocks k=true:=B8.2 ⟨k0,by omega⟩;have hz:=BJ hin;have hbm:=List.mem_of_getElem? hz;obtain⟨r,hr,g1,g2,g3⟩:=Art (x2:=k) (hok _ hbm).2 (hok _ hbm).1 km km2;refine⟨.inl (r,IntKind.i64.wrap (k+1)),BT hc (AA hin (AF hr (An _))),fun s' e=>?_,fun r e=>(by cases e)⟩;cases e;rw[show IntKind.i64.wrap (k+1)=k+1 from IntWalk.i64_in _ (by omega)];refine⟨⟨by show 0≤k+1;omega,by show(k+1).toNat≤_;omega,Int.le_trans km g1,g2,fun i y hi hy=>?_⟩,by show f.blocks.length - (k+1).toNat < f.blocks.length - k.toNat;omega⟩;have hi:i < (k+1).toNat:=hi;by_cases e:i=k.toNat
   ·subst e;rw[hz]at hy;cases hy;exact g3
   ·exact fun x hx z hz=>(hall i y (by omega) hy x hx z hz).le g1
 obtain⟨r,h1,h2⟩:=key;exact⟨r,AF h1 (An _),h2⟩
structure ProgSz(p:Prog):Prop where
 heap:wfI .i64 p.heap
 thr:p.threads.length≤2097152
 fl:p.funcs.length≤2097152
 ok:∀f∈p.funcs,okFunc f
 nm:∀f∈p.funcs,f.name.size≤1073741824∧∀b∈f.blocks,b.name.size≤1073741824
 bl:∀f∈p.funcs,f.blocks.length≤2097152
 il:∀f∈p.funcs,∀b∈f.blocks,b.ins.length≤2097152
 al:∀f∈p.funcs,∀b∈f.blocks,∀x∈b.ins,x.args.length≤2097152
open Classical in
noncomputable def nbF(s:ByteArray):Bool:=if h:s.size≤1073741824 then Classical.choose (WH h)else false
theorem Abh{s:ByteArray}(h:s.size≤1073741824):Fn Tryz.prog 197 [.lit (.string s)] (.lit (.bool (nbF s))):=by
 unfold nbF;rw[dif_pos h];exact Classical.choose_spec (WH h)
open Classical in
noncomputable def grF(f:Func):Int:=if h:∃r,(CX f).to r∧(0≤r∧r≤4097∧∀b∈f.blocks,∀x∈b.ins,∀z∈EU x,GE z r)then Classical.choose h else 0
open Classical in
noncomputable def ivF(p:Prog)(f:Func)(x:Ins):Bool:=if h:∃r,(Fv p f x).to r∧(r=true→InsF p f x)then Classical.choose h else false
section
variable{p:Prog}(hp:ProgSz p)
include hp
theorem W7{f:Func}(hf:f∈p.funcs){b:Block}(hb:b∈f.blocks){x:Ins}(hx:x∈b.ins):okIns x:=((hp.ok f hf).blocks b hb).ins x hx
theorem Ab4{f:Func}(hf:f∈p.funcs):(CX f).to (grF f)∧(0≤grF f∧grF f≤4097∧∀b∈f.blocks,∀x∈b.ins,∀z∈EU x,GE z (grF f)):=by
 have h:=ZG (f:=f) (fun b hb=>⟨Nat.le_trans (hp.il f hf b hb) (by decide),fun x hx=>⟨W7 hp hf hb hx,hp.al f hf b hb x hx⟩⟩) (Nat.le_trans (hp.bl f hf) (by decide));unfold grF;rw[dif_pos h];exact Classical.choose_spec h
theorem Abn{f:Func}(hf:f∈p.funcs){b:Block}(hb:b∈f.blocks){x:Ins}(hx:x∈b.ins):(Fv p f x).to (ivF p f x)∧(ivF p f x=true→InsF p f x):=by
 have h:=Ak4 (p:=p) (f:=f) (x:=x) (OP (W7 hp hf hb hx).op).1 (Nat.le_trans (hp.al f hf b hb x hx) (by decide));unfold ivF;rw[dif_pos h];exact Classical.choose_spec h
theorem IT{f:Func}(hf:f∈p.funcs)(hh:∀n,n < p.funcs.length→YB p nbF grF n=true):0≤f.args∧f.args≤f.regs∧grF f≤f.regs∧f.regs≤4096∧f.blocks≠[]:=by
 have _hp:=hp;obtain⟨n,hn⟩:=List.getElem?_of_mem hf;have hnl:=(List.getElem?_eq_some_iff.1 hn).1;have e:ixD p.funcs (n:Int)=f:=by
  have:=BJ (Ed hnl);rw[Int.toNat_natCast,hn]at this;exact(Option.some.inj this).symm
 have h:=hh n hnl;unfold YB ZB at h;rw[e]at h;simp only[Bool.and_eq_true,decide_eq_true_eq,beq_iff_eq]at h;obtain⟨⟨⟨⟨⟨_,h1⟩,_⟩,h2⟩,h3⟩,h4⟩:=h;unfold Apo at h2;refine⟨h1,?_,?_,h3,fun e=>?_⟩
 ·rw[h2];split <;> omega
 ·rw[h2];split <;> omega
 ·rw[e]at h4;exact absurd h4 (by decide)
theorem G8{f:Func}(hf:f∈p.funcs)(hb:∀i,i < f.blocks.length→YE nbF (ivF p) f i=true){b:Block}(hbm:b∈f.blocks):b.ins≠[]∧(∀x∈b.ins,InsF p f x)∧∀(i:Nat) (x:Ins),b.ins[i]? =some x→(LP x=true↔i+1=b.ins.length):=by
 obtain⟨n,hn⟩:=List.getElem?_of_mem hbm;have hnl:=(List.getElem?_eq_some_iff.1 hn).1;have e:ixD f.blocks (n:Int)=b:=by
  have:=BJ (Ed hnl);rw[Int.toNat_natCast,hn]at this;exact(Option.some.inj this).symm
 have h:=hb n hnl;unfold YE On at h;rw[e,Bool.and_eq_true,Bool.not_eq_true',Bool.or_eq_false_iff]at h;obtain⟨⟨_,h1⟩,h2⟩:=h;have hne:b.ins≠[]:=fun e=>by rw[e]at h1;cases h1
 have hpos:=List.length_pos_iff.2 hne;have key:∀(i:Nat) (x:Ins),b.ins[i]? =some x→(LP x=((i:Int) ==((b.ins.length - 1:Nat):Int)))∧ivF p f x=true:=fun i x hx=>by
  have hil:=(List.getElem?_eq_some_iff.1 hx).1;have h3:=List.all_eq_true.1 h2 i (List.mem_range.2 hil);have ex:ixD b.ins (i:Int)=x:=by
   have:=BJ (Ed hil);rw[Int.toNat_natCast,hx]at this;exact(Option.some.inj this).symm
  unfold okI at h3;rw[ex,Bool.not_eq_true',Bool.or_eq_false_iff,Bool.not_eq_false']at h3;exact⟨by simpa using h3.1,h3.2⟩
 refine⟨hne,fun x hx=>?_,fun i x hx=>?_⟩
 ·obtain⟨i,hi⟩:=List.getElem?_of_mem hx;exact(Abn hp hf hbm hx).2 (key i x hi).2
 ·have hil:=(List.getElem?_eq_some_iff.1 hx).1;rw[(key i x hx).1];simp only[beq_iff_eq];omega
omit hp in
theorem Y8{f:Func}{x:Ins}(h:InsF p f x){r:Int}(hr:r∈readsC x):0≤r:=by
 obtain⟨h1,h2,h3,h4⟩:=h.nn;unfold readsC at hr;rcases List.mem_append.1 hr with hr|hr
 ·rcases List.mem_append.1 hr with hr|hr
  ·split at hr
   ·rw[List.mem_singleton.1 hr];exact h2
   ·cases hr
  ·split at hr
   ·rw[List.mem_singleton.1 hr];exact h3
   ·cases hr
 ·split at hr
  ·exact h4 r hr
  ·cases hr
omit hp in
theorem GE.lt{z g n:Int}(h:GE z g)(h1:g≤n)(h2:n≤4096):z < n:=by
 unfold GE at h;split at h <;> omega
omit hp in
theorem WY(p:Prog)(z:Int):ixD p.funcs z=BS p z.toNat:=rfl
omit hp in
theorem EY{z n:Int}(h:OL z n=true):0≤z∧z < n:=by
 unfold OL at h;rw[Bool.and_eq_true,decide_eq_true_eq,decide_eq_true_eq]at h;exact h
variable(hS:Stat p nbF grF (ivF p))
include hS
theorem Pl{f:Func}(hf:f∈p.funcs){b:Block}(hb:b∈f.blocks){x:Ins}(hx:x∈b.ins):(∀r∈readsC x,0≤r∧r < f.regs)∧(Az x=true→0≤x.d∧x.d < f.regs):=by
 obtain⟨_,_,h3,h4,_⟩:=IT hp hf hS.heads;have hI:=(G8 hp hf (hS.blocks f hf) hb).2.1 x hx;have hg:=(Ab4 hp hf).2.2.2 b hb x hx;refine⟨fun r hr=>⟨Y8 hI hr,(hg r (List.mem_append.2 (.inl hr))).lt h3 h4⟩,fun hw=>⟨hI.nn.1,(hg x.d (List.mem_append.2 (.inr (by rw[if_pos hw];simp)))).lt h3 h4⟩⟩
theorem Aon{f:Func}(hf:f∈p.funcs):∃n,InF n f:=by
 obtain⟨h1,h2,h3,h4,h5⟩:=IT hp hf hS.heads;refine⟨f.regs.toNat,by omega,by omega,⟨h1,h2⟩,h5,Nat.le_trans (hp.bl f hf) (by decide),fun b hb=>?_⟩;obtain⟨k1,k2,_⟩:=G8 hp hf (hS.blocks f hf) hb;refine⟨k1,Nat.le_trans (hp.il f hf b hb) (by decide),fun x hx=>?_,fun x hx r hr=>?_⟩
 ·obtain⟨q1,q2⟩:=Pl hp hS hf hb hx;exact⟨W7 hp hf hb hx,hp.al f hf b hb x hx,fun r hr=>⟨(q1 r hr).1,by have:=q1 r hr;omega⟩,fun hw=>⟨(q2 hw).1,by have:=q2 hw;omega⟩⟩
 ·have hI:=k2 x hx;unfold Hn at hr;split at hr
  ·rename_i e;rw[List.mem_singleton.1 hr];have:=EY (hI.l (.inl e)).1;omega
  ·split at hr
   ·rename_i e;have k:=hI.l (.inr e);have k1:=EY k.1;have k2:=EY k.2;rcases List.mem_cons.1 hr with rfl|hr
    ·omega
    ·rw[List.mem_singleton.1 hr];omega
   ·cases hr
theorem Abe:ProgOk p:=by
 refine⟨fun f hf=>?_,?_⟩
 ·obtain⟨h1,h2,h3,h4,h5⟩:=IT hp hf hS.heads;refine⟨⟨h1,h2⟩,h5,fun b hb=>?_⟩;obtain⟨k1,k2,k3⟩:=G8 hp hf (hS.blocks f hf) hb;refine⟨k1,fun x hx=>?_,fun i x hx=>?_⟩
  ·have hI:=k2 x hx;obtain⟨q1,q2⟩:=Pl hp hS hf hb hx;have h0:=(OP (W7 hp hf hb hx).op).1;refine⟨⟨h0,hI.op⟩,q1,q2,fun e=>?_,fun e=>?_,fun e=>?_⟩
   ·obtain⟨c1,c2⟩:=hI.call e;have:=EY c1;exact⟨this.1,by omega,by rw[c2,WY]⟩
   ·have:=EY (hI.l e).1;omega
   ·have:=EY (hI.l (.inr e)).2;omega
  ·have hI:=k2 x (List.mem_of_getElem? hx);rw[←k3 i x hx];unfold LP;rw[Bool.and_eq_true,decide_eq_true_eq,decide_eq_true_eq];have:=hI.op;omega
 ·have ht:=hS.top;unfold Vv at ht;simp only[Bool.and_eq_true,Bool.not_eq_true',Bool.or_eq_false_iff,decide_eq_false_iff_not]at ht;obtain⟨⟨⟨⟨⟨⟨_,_⟩,_⟩,_⟩,h1⟩,_⟩,h2⟩:=ht;refine⟨fun e=>by rw[e]at h1;exact h1 (by decide),fun t ht=>?_⟩;have h3:=List.any_eq_false.1 h2 t ht;unfold Akh at h3;simp only[Bool.or_eq_true,Bool.not_eq_true',not_or,Bool.not_eq_false,bne_iff_ne,ne_eq,Decidable.not_not]at h3;have:=EY h3.1;exact⟨this.1,by omega,by rw[←WY];exact h3.2⟩
theorem Aro:PBig dwF p:=by
 refine⟨Abe hp hS,fun f hf b hb x hx=>?_,fun f hf b hb=>Nat.le_trans (hp.il f hf b hb) (by decide),fun f hf=>?_,fun n a b h0 h1 ha hb=>?_⟩
 ·have hI:=(G8 hp hf (hS.blocks f hf) hb).2.1 x hx;have hw:=(W7 hp hf hb hx).n;refine⟨hw,fun e=>?_⟩;have:=hI.n e;have:=KU hw;omega
 ·obtain⟨_,_,_,h4,_⟩:=IT hp hf hS.heads;omega
 ·obtain⟨w,is,k1,k2,k3⟩:=Ao2 n a b h0 h1 ha hb;exact⟨w,is,k1,k2,k3⟩
omit hS in
theorem Aqs:ChkIn p nbF grF (ivF p) where
 heap:=hp.heap
 thr:=Nat.le_trans hp.thr (by decide)
 fl:=Nat.le_trans hp.fl (by decide)
 ok:=hp.ok
 bl:=fun f hf=>Nat.le_trans (hp.bl f hf) (by decide)
 il:=fun f hf b hb=>Nat.le_trans (hp.il f hf b hb) (by decide)
 nameF:=fun f hf=>Abh (hp.nm f hf).1
 nameB:=fun f hf b hb=>Abh ((hp.nm f hf).2 b hb)
 great:=fun f hf=>Kk (Ab4 hp hf).1
 ins:=fun f hf b hb x hx=>Re (Abn hp hf hb hx).1
 inF:=fun h1 h2 h3 f hf=>Aon hp ⟨h1,h2,h3⟩ hf
end
theorem Akp{p:Prog}(hb:Dl.bulk p≤2097152)(hh:wfI .i64 p.heap)(ho:∀f∈p.funcs,okFunc f):ProgSz p:=by
 have hf:∀f∈p.funcs,B4.bulk f≤2097152:=fun f hf=>Nat.le_trans (GB hf) hb
 have hbk:∀f∈p.funcs,∀b∈f.blocks,Bs.bulk b≤2097152:=fun f h b hb=>Nat.le_trans (D6 hb) (hf f h)
 refine⟨hh,Nat.le_trans (Lm p) hb,Nat.le_trans (IB p) hb,ho,fun f h=>⟨?_,fun b hb=>?_⟩,fun f h=>Nat.le_trans (E9 f) (hf f h),fun f h b hb=>Nat.le_trans (GL b) (hbk f h b hb),fun f h b hb x hx=>Nat.le_trans (RG x) (Nat.le_trans (LZ hx) (hbk f h b hb))⟩
 ·have:=hf f h;rw[GK]at this;omega
 ·have:=hbk f h b hb;rw[Ee]at this;omega
def JY(p:Prog)(ch:List Int):Mdl:=⟨List.replicate p.heap.toNat 0,[],ch,p.threads.map fun z=>[newFr p z.toNat []],0,0,0⟩
theorem Zp{p:Prog}(hP:ProgOk p){z:Nat}(hz:z < p.funcs.length):FrOk p (newFr p z []):=by
 have hF:=LM hP hz;have hb0:=List.length_pos_iff.2 hF.blocks;have hbm:(BS p z).blocks[0]∈(BS p z).blocks:=List.getElem_mem hb0;have hi0:=List.length_pos_iff.2 (hF.ins _ hbm).1;refine⟨hz,hb0,?_,?_⟩
 ·show 0 < (ON p (newFr p z [])).length;have e:ON p (newFr p z [])=(BS p z).blocks[0].ins:=by
   unfold ON;show((BS p z).blocks.getD 0 default).ins=_;rw[List.getD_eq_getElem?_getD,List.getElem?_eq_getElem hb0];rfl
  rw[e];exact hi0
 ·show(newFr p z []).regs.length=_;unfold newFr;simp
theorem YQ{p:Prog}(hP:ProgOk p)(ch:List Int):MOk p (JY p ch):=by
 obtain⟨ht,htt⟩:=hP.threads;have hpos:=List.length_pos_iff.2 ht;have hlen:(JY p ch).ths.length=p.threads.length:=List.length_map _;have h0:(JY p ch).ths.getD 0 []≠[]:=by
  show(p.threads.map fun z=>[newFr p z.toNat []]).getD 0 []≠[];rw[List.getD_eq_getElem?_getD,List.getElem?_map,List.getElem?_eq_getElem hpos];exact fun e=>by cases e
 refine⟨hlen,fun t l hl=>?_,fun _=>h0,fun _=>⟨by rw[hlen];exact hpos,h0⟩⟩;have hl:(p.threads.map fun z=>[newFr p z.toNat []])[t]? =some l:=hl;rw[List.getElem?_map]at hl;obtain⟨z,hz,rfl⟩:=Option.map_eq_some_iff.1 hl;obtain⟨k1,k2,_⟩:=htt z (List.mem_of_getElem? hz);refine⟨fun r hr=>by rw[List.mem_singleton.1 hr];exact Zp hP k2,trivial,fun r hr=>?_⟩;cases hr;rw[hz];show some z=some ((z.toNat:Nat):Int);rw[Int.toNat_of_nonneg k1]
abbrev Ap9(p:Prog)(nb:ByteArray→Bool)(gr:Func→Int)(iv:Func→Ins→Bool)(ch:List Int):Type:={e:Int // e≠0}⊕{m:MdA // m.Nrm∧m.abs=JY p ch∧Stat p nb gr iv}
section
variable{p:Prog}{nb:ByteArray→Bool}{gr:Func→Int}{iv:Func→Ins→Bool}{ch:List Int}
def newR(p:Prog):Ap9 p nb gr iv ch→Res
 | .inl _=>.emp
 | .inr m=>modR p m.1
def Aqm:Ap9 p nb gr iv ch→AV
 | .inl e=>.tup [.lit (.pointer none),.lit (.int .i64 e.1)]
 | .inr m=>.tup [.lit (ptV m.1.g 0),.lit (.int .i64 0)]
structure NewI(p:Prog)(ch hl:List Int)(k:Nat)(m:MdA):Prop where
 le:k≤p.threads.length
 heap:m.heap=hl
 out:m.out= []
 ov:m.oc=m.ov
 ch:m.ch=ch
 at_:m.at_=0
 kind:m.kind=0
 v:m.v=0
 tc:m.tc=m.tv
 ths:m.ths.map (fun t=>t.l.map FrA.fr)=(p.threads.take k).map fun z=>[newFr p z.toNat []]
 th:∀t∈m.ths,t.cv=t.fv∧∃fg c,t.fv=slV fg t.l.length c
 tg:0 < k→∃tg c,m.tv=slV tg m.ths.length c
theorem NewI.len{hl:List Int}{k:Nat}{m:MdA}(h:NewI p ch hl k m):m.ths.length=k:=by
 have:=congrArg List.length h.ths;rw[List.length_map,List.length_map,List.length_take]at this;have:=h.le;omega
theorem NewI.step{hl:List Int}{k:Nat}{m:MdA}{z:Int}{t2:ThA}{v':Value}{tg c:Nat}(h:NewI p ch hl k m)(hz:p.threads[k]? =some z)(e:t2.l.map FrA.fr= [newFr p z.toNat []])(h1:t2.cv=t2.fv∧∃fg c,t2.fv=slV fg t2.l.length c)(hv:v'=slV tg (m.ths++[t2]).length c):NewI p ch hl (k+1) {m with tv:=v',tc:=v',ths:=m.ths++[t2]}:=by
 have hk:=(List.getElem?_eq_some_iff.1 hz).1;refine⟨hk,h.heap,h.out,h.ov,h.ch,h.at_,h.kind,h.v,rfl,?_,fun t ht=>?_,fun _=>⟨tg,c,hv⟩⟩
 ·show(m.ths++[t2]).map _=_;rw[List.map_append,h.ths,List.take_add_one,hz,List.map_append];show _++[t2.l.map FrA.fr]=_;rw[e];rfl
 ·have ht:t∈m.ths++[t2]:=ht;rcases List.mem_append.1 ht with ht|ht
  ·exact h.th t ht
  ·rw[List.mem_singleton.1 ht];exact h1
theorem NewI.nrm{hl:List Int}{k:Nat}{m:MdA}(h:NewI p ch hl k m)(hk:0 < k):m.Nrm:=⟨h.ov,h.tc,h.tg hk,h.th⟩
theorem NewI.abs{hl:List Int}{k:Nat}{m:MdA}(h:NewI p ch hl k m)(hk:k=p.threads.length)(hh:hl=List.replicate p.heap.toNat 0):m.abs=JY p ch:=by
 unfold MdA.abs JY;rw[h.ths,h.heap,h.out,h.ch,h.at_,h.kind,h.v,hh,hk,List.take_length]
theorem Adl(hS:Stat p nb gr iv){z:Int}(hz:z∈p.threads):∃n:Nat,0≤z∧z.toNat < p.funcs.length∧(BS p z.toNat).regs=(n:Int)∧n≤65536:=by
 have ht:=hS.top;unfold Vv at ht;simp only[Bool.and_eq_true,Bool.not_eq_true',Bool.or_eq_false_iff,decide_eq_false_iff_not]at ht;obtain⟨_,h2⟩:=ht;have h3:=List.any_eq_false.1 h2 z hz;unfold Akh at h3;simp only[Bool.or_eq_true,Bool.not_eq_true',not_or,Bool.not_eq_false,bne_iff_ne,ne_eq,Decidable.not_not]at h3;have h4:=EY h3.1;have hlt:z.toNat < p.funcs.length:=by omega
 have h:=hS.heads z.toNat hlt;unfold YB ZB at h;rw[show ixD p.funcs ((z.toNat:Nat):Int)=BS p z.toNat from rfl]at h;simp only[Bool.and_eq_true,decide_eq_true_eq,beq_iff_eq]at h;obtain⟨⟨⟨⟨⟨_,h1⟩,_⟩,h5⟩,h6⟩,_⟩:=h;unfold Apo at h5;refine⟨(BS p z.toNat).regs.toNat,h4.1,hlt,?_,by omega⟩;split at h5 <;> omega
theorem Zo(q:Ap9 p nb gr iv ch):(newR p q).mrk= []:=by cases q <;> rfl
theorem Akz(hI:ChkIn p nb gr iv)(hok:∀f∈p.funcs,okFunc f∧f.blocks.length≤1073741824∧∀b∈f.blocks,b.ins.length≤1073741824∧∀x∈b.ins,x.args.length≤1073741824)(hch:ch.length≤1073741824):AE Tryz.prog 10 .emp [.agg (AU p),.bs (Ty.int .u32) ch] (newR p:Ap9 p nb gr iv ch→Res) Aqm:=by
 refine Ku Tryz.func10 rfl (by kernel_rfl) rfl Tryz.ntmps10 rfl fun C hCt=>?_
 have hC:=Vp hCt;simp only[List.length_cons,List.length_nil,Nat.reduceAdd,Nat.reduceSub,List.replicate_succ,List.replicate_zero,List.cons_append,List.nil_append];refine wS (sB (sT (sT (wN ?_))));refine Ac fun K2 h2=>?_
 refine wS (sT ?_);refine Ao rfl (C6 rfl (Z3 hI) (fun _=>rfl) rfl rfl (fun _=>rfl) fun q=>?_);refine sNt ?_;dsimp only[Ard];refine sT (sT (sT (sA0 ?_)));refine sW (sT (wN ?_));obtain⟨⟨⟨q1,q2⟩,e⟩,he⟩:=q;have he:(e=0∧Stat p nb gr iv)∨e=140:=he;refine wS (sT (sT (wN ?_)));refine Ae rfl (fun hb5=>?_) (fun hb5=>?_)
 ·refine wR ?_;have hne:e≠0:=by simpa using hb5
  exact Aj ⟨.inr rfl,.inl ⟨e,hne⟩,rfl,rfl,rfl,rfl⟩
 ·have he0:e=0:=by simpa using hb5
  have hSt:Stat p nb gr iv:=by
   rcases he with h|h
   ·exact h.2
   ·omega
  obtain⟨hN,hhN⟩:∃hN:Nat,p.heap=(hN:Int):=⟨p.heap.toNat,by
   have:=hSt.top;unfold Vv at this;simp only[Bool.and_eq_true,Bool.not_eq_true',Bool.or_eq_false_iff,decide_eq_false_iff_not]at this;omega⟩
  have hN2:hN≤1024:=by
   have:=hSt.top;unfold Vv at this;simp only[Bool.and_eq_true,Bool.not_eq_true',Bool.or_eq_false_iff,decide_eq_false_iff_not]at this;omega
  refine Ag ?_;refine h2 _ ?_;refine nT ?_;refine As ⟨(.any::.bs (Ty.int .u32) ch::.ptr 1 0::A40 (A9 [])),[.res .emp,.box (AU p)]⟩ (Fb (hc:=.cons (.cons (.nil _)))) ?_;refine dH 0 [5] [] (uT uN) fun K8 hK8=>vN ?_
  refine KW (BV [5,0,1,2,3,4,6] (Array.replicate 10 false)) 3 (fun hg:Nat=>⟨(.any::.bs (Ty.int .u32) ch::.ptr 1 0::A10 (A6 (.agg (AU p)::.agg (AU p)::.ptr 1 0::.lit (.int .i64 p.heap)::.lit (slV hg hN hN)::.bs (Ty.int .u32) ch::.bs (Ty.int .u32) ch::A20 (A6 [])))),[.res .emp,.box (AU p),.res (rowR (slV hg hN hN) 38 tW (List.replicate hN 0))]⟩) (fun hg=>?_) (fun hB=>?_)
  rotate_left
  ·refine Aw [0,2] (tC (oT ?_) (tC (oT ?_) Ah))
   ·refine Aw [1,2] (tC (oH (AB rfl rfl (C0 hI.thr hI.fl hok) rfl rfl) ?_) (tC (oT ?_) Ah))
    ·refine Aw [2,6] (tC (oT ?_) (tC (oH (AB rfl rfl (Bd hch) rfl rfl) ?_) Ah))
     ·refine Aw [3,6] (tC (oT ?_) (tC (oH (AB rfl rfl (Bd hch) rfl rfl) ?_) Ah))
      ·refine Aw [4,6] (tC ?_ (tC (oH (AB rfl rfl (Bd hch) rfl rfl) ?_) Ah))
       ·refine Cd (T:=tW) (0:Int) (n:=hN) (e:=38) (z:=.int .u32 0) (bytes:=4) rfl (by kernel_rfl) rfl (fun w S=>⟨rfl,by decide⟩) (by show AV.lit (.int .i64 p.heap)=_;rw[hhN]) (by show AV.lit (.int .i64 p.heap)=_;rw[hhN]) (by omega) (by unfold maxLen;omega) fun hg=>?_
        refine tNt ?_;refine tH 6 (AB rfl rfl (Bd hch) rfl rfl) ?_;exact tE (hB hg)
       ·refine tA 4 ?_;refine Cd (T:=tW) (0:Int) (n:=hN) (e:=38) (z:=.int .u32 0) (bytes:=4) rfl (by kernel_rfl) rfl (fun w S=>⟨rfl,by decide⟩) (by show AV.lit (.int .i64 p.heap)=_;rw[hhN]) (by show AV.lit (.int .i64 p.heap)=_;rw[hhN]) (by omega) (by unfold maxLen;omega) fun hg=>?_
        refine tNt ?_;exact tE (hB hg)
      ·refine tT 3 ?_;refine tA 4 ?_;refine Cd (T:=tW) (0:Int) (n:=hN) (e:=38) (z:=.int .u32 0) (bytes:=4) rfl (by kernel_rfl) rfl (fun w S=>⟨rfl,by decide⟩) (by show AV.lit (.int .i64 p.heap)=_;rw[hhN]) (by show AV.lit (.int .i64 p.heap)=_;rw[hhN]) (by omega) (by unfold maxLen;omega) fun hg=>?_
       refine tNt ?_;exact tE (hB hg)
     ·refine tT 2 ?_;refine tT 3 ?_;refine tA 4 ?_;refine Cd (T:=tW) (0:Int) (n:=hN) (e:=38) (z:=.int .u32 0) (bytes:=4) rfl (by kernel_rfl) rfl (fun w S=>⟨rfl,by decide⟩) (by show AV.lit (.int .i64 p.heap)=_;rw[hhN]) (by show AV.lit (.int .i64 p.heap)=_;rw[hhN]) (by omega) (by unfold maxLen;omega) fun hg=>?_
      refine tNt ?_;exact tE (hB hg)
    ·refine Aw [1,3] (tC (oH (AB rfl rfl (C0 hI.thr hI.fl hok) rfl rfl) ?_) (tC (oT ?_) Ah))
     ·refine Aw [3,6] (tC (oT ?_) (tC (oH (AB rfl rfl (Bd hch) rfl rfl) ?_) Ah))
      ·refine Aw [4,6] (tC ?_ (tC (oH (AB rfl rfl (Bd hch) rfl rfl) ?_) Ah))
       ·refine Cd (T:=tW) (0:Int) (n:=hN) (e:=38) (z:=.int .u32 0) (bytes:=4) rfl (by kernel_rfl) rfl (fun w S=>⟨rfl,by decide⟩) (by show AV.lit (.int .i64 p.heap)=_;rw[hhN]) (by show AV.lit (.int .i64 p.heap)=_;rw[hhN]) (by omega) (by unfold maxLen;omega) fun hg=>?_
        refine tNt ?_;refine tH 6 (AB rfl rfl (Bd hch) rfl rfl) ?_;exact tE (hB hg)
       ·refine tA 4 ?_;refine Cd (T:=tW) (0:Int) (n:=hN) (e:=38) (z:=.int .u32 0) (bytes:=4) rfl (by kernel_rfl) rfl (fun w S=>⟨rfl,by decide⟩) (by show AV.lit (.int .i64 p.heap)=_;rw[hhN]) (by show AV.lit (.int .i64 p.heap)=_;rw[hhN]) (by omega) (by unfold maxLen;omega) fun hg=>?_
        refine tNt ?_;exact tE (hB hg)
      ·refine tT 3 ?_;refine tA 4 ?_;refine Cd (T:=tW) (0:Int) (n:=hN) (e:=38) (z:=.int .u32 0) (bytes:=4) rfl (by kernel_rfl) rfl (fun w S=>⟨rfl,by decide⟩) (by show AV.lit (.int .i64 p.heap)=_;rw[hhN]) (by show AV.lit (.int .i64 p.heap)=_;rw[hhN]) (by omega) (by unfold maxLen;omega) fun hg=>?_
       refine tNt ?_;exact tE (hB hg)
     ·refine Aw [1,4] (tC (oH (AB rfl rfl (C0 hI.thr hI.fl hok) rfl rfl) ?_) (tC ?_ Ah))
      ·refine Aw [4,6] (tC ?_ (tC (oH (AB rfl rfl (Bd hch) rfl rfl) ?_) Ah))
       ·refine Cd (T:=tW) (0:Int) (n:=hN) (e:=38) (z:=.int .u32 0) (bytes:=4) rfl (by kernel_rfl) rfl (fun w S=>⟨rfl,by decide⟩) (by show AV.lit (.int .i64 p.heap)=_;rw[hhN]) (by show AV.lit (.int .i64 p.heap)=_;rw[hhN]) (by omega) (by unfold maxLen;omega) fun hg=>?_
        refine tNt ?_;refine tH 6 (AB rfl rfl (Bd hch) rfl rfl) ?_;exact tE (hB hg)
       ·refine tA 4 ?_;refine Cd (T:=tW) (0:Int) (n:=hN) (e:=38) (z:=.int .u32 0) (bytes:=4) rfl (by kernel_rfl) rfl (fun w S=>⟨rfl,by decide⟩) (by show AV.lit (.int .i64 p.heap)=_;rw[hhN]) (by show AV.lit (.int .i64 p.heap)=_;rw[hhN]) (by omega) (by unfold maxLen;omega) fun hg=>?_
        refine tNt ?_;exact tE (hB hg)
      ·refine Cd (T:=tW) (0:Int) (n:=hN) (e:=38) (z:=.int .u32 0) (bytes:=4) rfl (by kernel_rfl) rfl (fun w S=>⟨rfl,by decide⟩) (by show AV.lit (.int .i64 p.heap)=_;rw[hhN]) (by show AV.lit (.int .i64 p.heap)=_;rw[hhN]) (by omega) (by unfold maxLen;omega) fun hg=>?_
       refine tNt ?_;refine tH 1 (AB rfl rfl (C0 hI.thr hI.fl hok) rfl rfl) ?_;refine tH 6 (AB rfl rfl (Bd hch) rfl rfl) ?_;exact tE (hB hg)
   ·refine Aw [0,3] (tC (oT ?_) (tC (oT ?_) Ah))
    ·refine Aw [1,3] (tC (oH (AB rfl rfl (C0 hI.thr hI.fl hok) rfl rfl) ?_) (tC (oT ?_) Ah))
     ·refine Aw [3,6] (tC (oT ?_) (tC (oH (AB rfl rfl (Bd hch) rfl rfl) ?_) Ah))
      ·refine Aw [4,6] (tC ?_ (tC (oH (AB rfl rfl (Bd hch) rfl rfl) ?_) Ah))
       ·refine Cd (T:=tW) (0:Int) (n:=hN) (e:=38) (z:=.int .u32 0) (bytes:=4) rfl (by kernel_rfl) rfl (fun w S=>⟨rfl,by decide⟩) (by show AV.lit (.int .i64 p.heap)=_;rw[hhN]) (by show AV.lit (.int .i64 p.heap)=_;rw[hhN]) (by omega) (by unfold maxLen;omega) fun hg=>?_
        refine tNt ?_;refine tH 6 (AB rfl rfl (Bd hch) rfl rfl) ?_;exact tE (hB hg)
       ·refine tA 4 ?_;refine Cd (T:=tW) (0:Int) (n:=hN) (e:=38) (z:=.int .u32 0) (bytes:=4) rfl (by kernel_rfl) rfl (fun w S=>⟨rfl,by decide⟩) (by show AV.lit (.int .i64 p.heap)=_;rw[hhN]) (by show AV.lit (.int .i64 p.heap)=_;rw[hhN]) (by omega) (by unfold maxLen;omega) fun hg=>?_
        refine tNt ?_;exact tE (hB hg)
      ·refine tT 3 ?_;refine tA 4 ?_;refine Cd (T:=tW) (0:Int) (n:=hN) (e:=38) (z:=.int .u32 0) (bytes:=4) rfl (by kernel_rfl) rfl (fun w S=>⟨rfl,by decide⟩) (by show AV.lit (.int .i64 p.heap)=_;rw[hhN]) (by show AV.lit (.int .i64 p.heap)=_;rw[hhN]) (by omega) (by unfold maxLen;omega) fun hg=>?_
       refine tNt ?_;exact tE (hB hg)
     ·refine Aw [1,4] (tC (oH (AB rfl rfl (C0 hI.thr hI.fl hok) rfl rfl) ?_) (tC ?_ Ah))
      ·refine Aw [4,6] (tC ?_ (tC (oH (AB rfl rfl (Bd hch) rfl rfl) ?_) Ah))
       ·refine Cd (T:=tW) (0:Int) (n:=hN) (e:=38) (z:=.int .u32 0) (bytes:=4) rfl (by kernel_rfl) rfl (fun w S=>⟨rfl,by decide⟩) (by show AV.lit (.int .i64 p.heap)=_;rw[hhN]) (by show AV.lit (.int .i64 p.heap)=_;rw[hhN]) (by omega) (by unfold maxLen;omega) fun hg=>?_
        refine tNt ?_;refine tH 6 (AB rfl rfl (Bd hch) rfl rfl) ?_;exact tE (hB hg)
       ·refine tA 4 ?_;refine Cd (T:=tW) (0:Int) (n:=hN) (e:=38) (z:=.int .u32 0) (bytes:=4) rfl (by kernel_rfl) rfl (fun w S=>⟨rfl,by decide⟩) (by show AV.lit (.int .i64 p.heap)=_;rw[hhN]) (by show AV.lit (.int .i64 p.heap)=_;rw[hhN]) (by omega) (by unfold maxLen;omega) fun hg=>?_
        refine tNt ?_;exact tE (hB hg)
      ·refine Cd (T:=tW) (0:Int) (n:=hN) (e:=38) (z:=.int .u32 0) (bytes:=4) rfl (by kernel_rfl) rfl (fun w S=>⟨rfl,by decide⟩) (by show AV.lit (.int .i64 p.heap)=_;rw[hhN]) (by show AV.lit (.int .i64 p.heap)=_;rw[hhN]) (by omega) (by unfold maxLen;omega) fun hg=>?_
       refine tNt ?_;refine tH 1 (AB rfl rfl (C0 hI.thr hI.fl hok) rfl rfl) ?_;refine tH 6 (AB rfl rfl (Bd hch) rfl rfl) ?_;exact tE (hB hg)
    ·refine Aw [0,4] (tC (oT ?_) (tC ?_ Ah))
     ·refine Aw [1,4] (tC (oH (AB rfl rfl (C0 hI.thr hI.fl hok) rfl rfl) ?_) (tC ?_ Ah))
      ·refine Aw [4,6] (tC ?_ (tC (oH (AB rfl rfl (Bd hch) rfl rfl) ?_) Ah))
       ·refine Cd (T:=tW) (0:Int) (n:=hN) (e:=38) (z:=.int .u32 0) (bytes:=4) rfl (by kernel_rfl) rfl (fun w S=>⟨rfl,by decide⟩) (by show AV.lit (.int .i64 p.heap)=_;rw[hhN]) (by show AV.lit (.int .i64 p.heap)=_;rw[hhN]) (by omega) (by unfold maxLen;omega) fun hg=>?_
        refine tNt ?_;refine tH 6 (AB rfl rfl (Bd hch) rfl rfl) ?_;exact tE (hB hg)
       ·refine tA 4 ?_;refine Cd (T:=tW) (0:Int) (n:=hN) (e:=38) (z:=.int .u32 0) (bytes:=4) rfl (by kernel_rfl) rfl (fun w S=>⟨rfl,by decide⟩) (by show AV.lit (.int .i64 p.heap)=_;rw[hhN]) (by show AV.lit (.int .i64 p.heap)=_;rw[hhN]) (by omega) (by unfold maxLen;omega) fun hg=>?_
        refine tNt ?_;exact tE (hB hg)
      ·refine Cd (T:=tW) (0:Int) (n:=hN) (e:=38) (z:=.int .u32 0) (bytes:=4) rfl (by kernel_rfl) rfl (fun w S=>⟨rfl,by decide⟩) (by show AV.lit (.int .i64 p.heap)=_;rw[hhN]) (by show AV.lit (.int .i64 p.heap)=_;rw[hhN]) (by omega) (by unfold maxLen;omega) fun hg=>?_
       refine tNt ?_;refine tH 1 (AB rfl rfl (C0 hI.thr hI.fl hok) rfl rfl) ?_;refine tH 6 (AB rfl rfl (Bd hch) rfl rfl) ?_;exact tE (hB hg)
     ·refine Cd (T:=tW) (0:Int) (n:=hN) (e:=38) (z:=.int .u32 0) (bytes:=4) rfl (by kernel_rfl) rfl (fun w S=>⟨rfl,by decide⟩) (by show AV.lit (.int .i64 p.heap)=_;rw[hhN]) (by show AV.lit (.int .i64 p.heap)=_;rw[hhN]) (by omega) (by unfold maxLen;omega) fun hg=>?_
      refine tNt ?_;refine tT 0 ?_;refine tH 1 (AB rfl rfl (C0 hI.thr hI.fl hok) rfl rfl) ?_;refine tH 6 (AB rfl rfl (Bd hch) rfl rfl) ?_;exact tE (hB hg)
  refine tH 7 (Qy Acm rfl Ac8 rfl rfl rfl (One.lit rfl) One.bs) ?_;refine tA 8 ?_;refine OJ 3 rfl rfl Qz.agg ?_;refine tNt ?_;refine tT 9 ?_;refine DJ (hK8 _ ?_);obtain⟨hl,hl1,hl2⟩:∃l:List Int,l.length=hN∧l=List.replicate hN 0:=⟨_,List.length_replicate,rfl⟩
  refine As ⟨(A2 (.ptr 1 0::A5 (.ptr 3 0::A40 (A3 [])))),[.res .emp,.box (AU p),.res (rowR (slV hg hN hN) 38 tW (List.replicate hN 0)),.box [.lit (.int .i64 p.heap),.bs tInt p.threads,.bs B4 p.funcs,.lit (slV hg hN hN),.lit (.slice none 0 0),.lit (.slice none 0 0),.lit (.int .i64 0),.bs (Ty.int .u32) ch,.lit (.int .u8 0),.lit (.int .u32 0)]]⟩ (Fb (hc:=.cons (.cons (.cons (.cons (.nil _)))))) ?_;rw[←hl2,←hl1];refine Bv 3 rfl rfl rfl (fun g=>(A2 (.ptr 1 0::A5 (.lit (ptV g 0)::A40 (A3 []))))) (fun g=>(by(repeat(first|exact OpnB.nil|refine OpnB.ptr ?_|refine OpnB.any ?_|refine OpnB.keep rfl ?_)))) fun g=>?_
  refine nT ?_;refine As _ (JM 38 tW (by decide)) ?_;refine nT ?_;refine As _ (JM 97 (tCl 0) (by decide)) ?_;refine nT ?_;refine As _ (Ma 3 rfl) ?_;refine nT ?_;refine As _ (Ef 3 2 (by decide) rfl rfl) ?_;refine nT ?_;refine As _ (Ef 3 4 (by decide) rfl rfl) ?_;refine nT ?_;refine As _ (Ef 3 5 (by decide) rfl rfl) ?_;refine nT ?_;obtain⟨m0,hm0⟩:∃m0:MdA,m0=⟨g,hg,.slice none 0 0,.slice none 0 0,.slice none 0 0,.slice none 0 0,hl,[],ch,[],0,0,0⟩:=⟨_,rfl⟩
  refine As ⟨(A2 (.ptr 1 0::A5 (.lit (ptV g 0)::A40 (A3 [])))),[.res .emp,.box (AU p),.dead,.res (modR p m0)]⟩ (by rw[hm0];exact B5 (.cons (.cons (.cons (.cons (.nil _))))) rfl (by(try simp only[AJ,List.set_cons_zero,List.set_cons_succ]);repeat(first|exact Fgt.nil|refine Fgt.keep rfl ?_|refine Fgt.any ?_))) ?_;refine Ac fun K9 h9=>?_
  refine wS (sT (sT (sT (sT (wN ?_)))));refine Af ?_;have htop:=hSt.top;unfold Vv at htop;simp only[Bool.and_eq_true,Bool.not_eq_true',Bool.or_eq_false_iff,decide_eq_false_iff_not,List.any_eq_false]at htop;have hpos:0 < p.threads.length:=by omega
  have hnl:p.threads.length≤4:=by omega
  refine Au (fun b:Nat×MdA=>⟨(A2 (.ptr 1 0::A5 (.lit (ptV b.2.g 0)::A20 (.bs tInt p.threads::.lit (.int .i64 (p.threads.length:Int))::.lit (.int .i64 (b.1:Int))::A20 [])))),[.res .emp,.box (AU p),.dead,.res (modR p b.2)]⟩) (fun b=>NewI p ch hl b.1 b.2) (fun b=>p.threads.length - b.1) (0,m0) (by rw[hm0];exact⟨Nat.zero_le _,rfl,rfl,rfl,rfl,rfl,rfl,rfl,rfl,rfl,fun t ht=>(by cases ht),fun h=>absurd h (Nat.lt_irrefl _)⟩) (by rw[hm0];exact Fb (hc:=.cons (.cons (.cons (.cons (.nil _)))))) ?_;rintro⟨k,m⟩ hI2;have hI2:NewI p ch hl k m:=hI2;have hk:=hI2.le;refine wS (sT (wN ?_));refine Ac fun K13 h13=>?_
  refine Ae rfl (fun hb14=>?_) (fun hb14=>?_)
  ·have hlt:k < p.threads.length:=by
    have:=of_decide_eq_true hb14;omega
   obtain⟨z,hz⟩:∃z,p.threads[k]? =some z:=⟨_,List.getElem?_eq_getElem hlt⟩
   have hzm:=List.mem_of_getElem? hz;have hzI:ixD p.threads (k:Int)=z:=by
    show p.threads.getD ((k:Int).toNat) 0=z;rw[Int.toNat_natCast,List.getD_eq_getElem?_getD,hz];rfl
   obtain⟨n,hzn,hzl,hzr,hzr2⟩:=Adl hSt hzm;obtain⟨q2,hq2⟩:∃q2:Nat→FrA,q2=fun rg=>⟨newFr p z.toNat [],rg⟩:=⟨_,rfl⟩
   have hrl:(newFr p z.toNat []).regs= []++(List.replicate n (0:Int)).drop 0:=by
    unfold newFr;rw[hzr,Int.toNat_natCast];simp
   have hrn:(newFr p z.toNat []).regs.length=n:=by
    rw[hrl];simp
   have hrR:∀rg,rowR (slV rg n n) 38 tW ([]++(List.replicate n (0:Int)).drop 0)=rgR (q2 rg):=fun rg=>by
    rw[hq2];unfold rgR Ik;rw[hrn,hrl]
   have hfc:∀rg,frC (q2 rg)=(YD z.toNat n rg).map .v:=fun rg=>by
    rw[hq2];unfold frC;rw[hrn];rfl
   have hfo:=(M3 p m z.toNat n [] hzl hzr hzr2 (Nat.zero_le _)).nil3;rw[show((z.toNat:Nat):Int)=z by omega,show Aou p m n []=fun rg=>.all [modR p m,rgR (q2 rg)]from funext fun rg=>by unfold Aou;rw[←hrR];rfl]at hfo;refine Ag ?_;refine h13 _ ?_;refine nT ?_;refine Ac fun K15 h15=>?_
   refine Af ?_;refine wS (sX (Ed hlt) ?_);rw[hzI];refine sT (sT (wN ?_));refine dHE 0 [0,1,2,3,5,6] [] (uT (uT (uT (uT (uT (uT uN)))))) (vN ?_);refine KW (BV [0,1,2,3,5,6,4,7,8,9,10,11] (Array.replicate 16 false)) 4 (fun b:Nat×Nat×Nat=>⟨(A2 (.ptr 1 0::A5 (.lit (ptV m.g 0)::.any::.lit (.int .i64 z)::A10 (A8 (.bs tInt p.threads::.lit (.int .i64 (p.threads.length:Int))::.lit (.int .i64 (k:Int))::.lit (.bool (decide ((k:Int) < (p.threads.length:Int))))::.bp tInt z 0::.lit (.int .i64 z)::.lit (ptV m.g 0)::.lit (ptV m.g 0)::.lit (ptV m.g 0)::.lit (ptV m.g 5)::.lit m.tc::.lit (ptV m.g 0)::.lit (.int .i64 z)::.agg ((YD z.toNat n b.1).map .lit)::.lit (slV b.2.1 1 1)::.agg [.lit (slV b.2.1 1 1)]::.agg [.lit (slV b.2.1 1 1)]::.lit (slV b.2.2 1 1)::A5 []))))),[.res .emp,.box (AU p),.dead,.res (modR p m),.res (rgR (q2 b.1)),.res (rowR (slV b.2.1 1 1) 91 (tCl 3) [frC (q2 b.1)]),.res (rowR (slV b.2.2 1 1) 97 (tCl 0) [[.v (slV b.2.1 1 1)]])]⟩) (fun b=>?_) (fun hB=>?_)
   rotate_left
   ·have hone:∀rg,∀v∈YD z.toNat n rg,v.oneCell'=true:=fun rg v hv=>by
     simp only[YD,List.mem_cons,List.not_mem_nil,or_false]at hv;rcases hv with rfl|rfl|rfl|rfl <;> rfl
    refine Aw [4,7] (tC (oT ?_) (tC ?_ Ah))
    ·refine tA 7 ?_;refine Hf (i:=3) rfl rfl hfo rfl (fun _=>rfl) (fun _=>rfl) rfl rfl (fun _=>rfl) fun rg=>?_
     refine tNt ?_;refine tA 8 ?_;refine Ea (cells:=(YD z.toNat n rg).map .lit) (T:=tCl 3) (d:=frC (q2 rg)) rfl rfl rfl rfl rfl (by decide) (fun w S cs h=>by rw[hfc];exact FX rfl (hone rg) h) (by decide) fun fg=>?_
     refine tNt ?_;refine tH 9 (Cx ND rfl NY (.inl ⟨rfl,rfl⟩)) ?_;refine tH 10 (Cx Io rfl ID (.inr rfl)) ?_;refine tA 11 ?_;refine Ea (cells:=[.lit (slV fg 1 1)]) (T:=tCl 0) (d:=[.v (slV fg 1 1)]) rfl rfl rfl rfl rfl (by decide) (fun w S cs h=>FX (l:=[slV fg 1 1]) rfl (fun v hv=>by rw[List.mem_singleton.1 hv];rfl) h) (by decide) fun tg=>?_
     refine tNt ?_;exact tE (hB (rg,fg,tg))
    ·refine Hf (i:=3) rfl rfl hfo rfl (fun _=>rfl) (fun _=>rfl) rfl rfl (fun _=>rfl) fun rg=>?_
     refine tNt ?_;refine Aw [4,8] (tC (oT ?_) (tC ?_ Ah))
     ·refine tA 8 ?_;refine Ea (cells:=(YD z.toNat n rg).map .lit) (T:=tCl 3) (d:=frC (q2 rg)) rfl rfl rfl rfl rfl (by decide) (fun w S cs h=>by rw[hfc];exact FX rfl (hone rg) h) (by decide) fun fg=>?_
      refine tNt ?_;refine tH 9 (Cx ND rfl NY (.inl ⟨rfl,rfl⟩)) ?_;refine tH 10 (Cx Io rfl ID (.inr rfl)) ?_;refine tA 11 ?_;refine Ea (cells:=[.lit (slV fg 1 1)]) (T:=tCl 0) (d:=[.v (slV fg 1 1)]) rfl rfl rfl rfl rfl (by decide) (fun w S cs h=>FX (l:=[slV fg 1 1]) rfl (fun v hv=>by rw[List.mem_singleton.1 hv];rfl) h) (by decide) fun tg=>?_
      refine tNt ?_;exact tE (hB (rg,fg,tg))
     ·refine Ea (cells:=(YD z.toNat n rg).map .lit) (T:=tCl 3) (d:=frC (q2 rg)) rfl rfl rfl rfl rfl (by decide) (fun w S cs h=>by rw[hfc];exact FX rfl (hone rg) h) (by decide) fun fg=>?_
      refine tNt ?_;refine Aw [4,9] (tC (oT ?_) (tC (oH (Cx ND rfl NY (.inl ⟨rfl,rfl⟩)) ?_) Ah))
      ·refine tH 9 (Cx ND rfl NY (.inl ⟨rfl,rfl⟩)) ?_;refine tH 10 (Cx Io rfl ID (.inr rfl)) ?_;refine tA 11 ?_;refine Ea (cells:=[.lit (slV fg 1 1)]) (T:=tCl 0) (d:=[.v (slV fg 1 1)]) rfl rfl rfl rfl rfl (by decide) (fun w S cs h=>FX (l:=[slV fg 1 1]) rfl (fun v hv=>by rw[List.mem_singleton.1 hv];rfl) h) (by decide) fun tg=>?_
       refine tNt ?_;exact tE (hB (rg,fg,tg))
      ·refine Aw [4,10] (tC (oT ?_) (tC (oH (Cx Io rfl ID (.inr rfl)) ?_) Ah))
       ·refine tH 10 (Cx Io rfl ID (.inr rfl)) ?_;refine tA 11 ?_;refine Ea (cells:=[.lit (slV fg 1 1)]) (T:=tCl 0) (d:=[.v (slV fg 1 1)]) rfl rfl rfl rfl rfl (by decide) (fun w S cs h=>FX (l:=[slV fg 1 1]) rfl (fun v hv=>by rw[List.mem_singleton.1 hv];rfl) h) (by decide) fun tg=>?_
        refine tNt ?_;exact tE (hB (rg,fg,tg))
       ·refine Aw [4,11] (tC (oT ?_) (tC ?_ Ah))
        ·refine tA 11 ?_;refine Ea (cells:=[.lit (slV fg 1 1)]) (T:=tCl 0) (d:=[.v (slV fg 1 1)]) rfl rfl rfl rfl rfl (by decide) (fun w S cs h=>FX (l:=[slV fg 1 1]) rfl (fun v hv=>by rw[List.mem_singleton.1 hv];rfl) h) (by decide) fun tg=>?_
         refine tNt ?_;exact tE (hB (rg,fg,tg))
        ·refine Ea (cells:=[.lit (slV fg 1 1)]) (T:=tCl 0) (d:=[.v (slV fg 1 1)]) rfl rfl rfl rfl rfl (by decide) (fun w S cs h=>FX (l:=[slV fg 1 1]) rfl (fun v hv=>by rw[List.mem_singleton.1 hv];rfl) h) (by decide) fun tg=>?_
         refine tNt ?_;refine tT 4 ?_;exact tE (hB (rg,fg,tg))
   obtain⟨rg,fg,tg⟩:=b;obtain⟨t2,ht2⟩:∃t2:ThA,t2=⟨slV fg 1 1,slV fg 1 1,[q2 rg]⟩:=⟨_,rfl⟩
   refine tA 12 ?_;refine AOp.le (JN hC 6 46 rfl rfl) ?_;refine AOp.le (Hb 5 4 (by decide) rfl rfl) ?_;refine Vs (i:=3) (j:=5) t2 (by decide) rfl (by kernel_rfl) (by show AV.lit m.tc=AV.lit m.tv;rw[hI2.tc]) (by rw[ht2];rfl) rfl (by rw[ht2];rfl) (by have:=hI2.len;unfold H5 maxLen;simp;omega) fun v'=>?_
   refine tNt ?_;refine tT 13 (tT 14 ?_);have hlen1:=hI2.len;refine tA 15 ?_;refine Aas 3 rfl (by simp) fun tg2 c2 hv2=>?_
   have hv2:v'=slV tg2 (m.ths++[t2]).length c2:=hv2;refine He (p:=p) (m:={m with tv:=v',ths:=m.ths++[t2]}) (i:=3) (new:=[.lit v']) {m with tv:=v',tc:=v',ths:=m.ths++[t2]} rfl rfl rfl (fun _=>OC.one (One.lit (by rw[hv2];rfl))) rfl rfl (Nat.le_of_ble_eq_true rfl) rfl ?_;refine tNt ?_;refine DJ ?_;refine h15 _ ?_;refine nT ?_;refine wSE (sT (sT (wN ?_)));refine athen_n ⟨(k+1,{m with tv:=v',tc:=v',ths:=m.ths++[t2]}),hI2.step hz (by rw[ht2,hq2];rfl) (by rw[ht2];exact⟨rfl,fg,1,rfl⟩) hv2,by show p.threads.length - (k+1) < p.threads.length - k;omega,?_⟩;rw[Cq (by omega)];exact B5 (.cons (.cons (.cons (.cons (.nil _))))) rfl (by(try simp only[AJ,List.set_cons_zero,List.set_cons_succ]);repeat(first|exact Fgt.nil|refine Fgt.keep rfl ?_|refine Fgt.any ?_))
  ·have hkn:k=p.threads.length:=by
    have:=of_decide_eq_false hb14;omega
   refine Aq ?_;refine h9 _ ?_;refine nT ?_;refine wS (sT (sT (sT (wN ?_))));refine As _ (Df 0 3 (by decide) rfl rfl) ?_;refine nT ?_;exact Aj ⟨.inr rfl,.inr ⟨m,hI2.nrm (by rw[hkn];exact hpos),hI2.abs hkn (by rw[hl2,hhN];rfl),hSt⟩,rfl,rfl,rfl,rfl⟩
end
structure BndM(H T k:Nat)(s:Mdl):Prop where
 heap:s.heap.length≤H
 ths:s.ths.length=T
 out:s.out.length≤k
 frs:∀l∈s.ths,l.length≤k+1
 ch:∀c∈s.ch,wfI .u32 c
section
variable{H T k:Nat}{s:Mdl}{p:Prog}{dw:Int→Int→Int→Option Int}
theorem BndM.up(h:BndM H T k s):BndM H T (k+1) s:=⟨h.heap,h.ths,Nat.le_succ_of_le h.out,fun l hl=>Nat.le_succ_of_le (h.frs l hl),h.ch⟩
theorem BndM.put(h:BndM H T k s){l:List Fr}(hl:l.length≤k+2):BndM H T (k+1) (IA s l):=⟨h.heap,by show(List.set _ _ _).length=_;rw[List.length_set];exact h.ths,Nat.le_succ_of_le h.out,fun l' hl'=>by
 rcases List.mem_or_eq_of_mem_set hl' with hl'|rfl
 ·exact Nat.le_succ_of_le (h.frs l' hl')
 ·exact hl,h.ch⟩
theorem BndM.thA(h:BndM H T k s):(thA s).length≤k+1:=by
 unfold Mu.thA;rw[List.getD_eq_getElem?_getD];cases hx:s.ths[s.at_]? with
 |none=>exact Nat.zero_le _
 |some l=>exact h.frs l (List.mem_of_getElem? hx)
theorem BndM.setT(h:BndM H T k s)(r:Fr):BndM H T (k+1) (De s r):=h.put (by rw[List.length_append,List.length_dropLast];have:=h.thA;simp;omega)
theorem BndM.choose(h:BndM H T k s):BndM H T k (Fa s):=⟨h.heap,h.ths,h.out,h.frs,fun c hc=>h.ch c (List.mem_of_mem_tail hc)⟩
theorem BndM.fault(h:BndM H T k s)(v:Int):BndM H T (k+1) (M7 s v):=⟨h.heap,h.ths,Nat.le_succ_of_le h.out,fun l hl=>Nat.le_succ_of_le (h.frs l hl),h.ch⟩
theorem BndM.one(h:BndM H T k s):BndM H T (k+1) (PE dw p s):=by
 have ht:=h.thA;obtain⟨r,hr⟩:∃r,r=QT s:=⟨_,rfl⟩
 obtain⟨x,hx⟩:∃x,x=Cu p r:=⟨_,rfl⟩
 unfold PE;rw[←hr,←hx];unfold Q7;by_cases e0:x.op=0
 ·rw[if_pos e0];exact h.setT _
 rw[if_neg e0];by_cases e1:x.op=1
 ·rw[if_pos e1];cases dw x.n (regA r x.a) (regA r x.b)with
  |some w=>exact h.setT _
  |none=>exact h.fault _
 rw[if_neg e1];by_cases e2:x.op=2
 ·rw[if_pos e2];exact h.setT _
 rw[if_neg e2];by_cases e3:x.op=3
 ·rw[if_pos e3];by_cases hi:(regA r x.a).toNat < s.heap.length
  ·rw[if_pos hi];exact h.setT _
  ·rw[if_neg hi];exact h.fault _
 rw[if_neg e3];by_cases e4:x.op=4
 ·rw[if_pos e4];by_cases hi:(regA r x.a).toNat < s.heap.length
  ·rw[if_pos hi];have h1:=h.setT (nextF r r.regs);exact⟨by show(List.set _ _ _).length≤H;rw[List.length_set];exact h.heap,h1.ths,h1.out,h1.frs,h1.ch⟩
  ·rw[if_neg hi];exact h.fault _
 rw[if_neg e4];by_cases e5:x.op=5
 ·rw[if_pos e5];exact h.put (by rw[List.length_append];simp;omega)
 rw[if_neg e5];by_cases e6:x.op=6
 ·rw[if_pos e6];have h1:=h.setT (nextF r r.regs);exact⟨h1.heap,h1.ths,by show(s.out++[_]).length≤k+1;rw[List.length_append];have:=h.out;simp;omega,h1.frs,h1.ch⟩
 rw[if_neg e6];by_cases e7:x.op=7
 ·rw[if_pos e7];exact(h.setT _).choose
 rw[if_neg e7];by_cases e8:x.op=8
 ·rw[if_pos e8];exact h.setT _
 rw[if_neg e8];by_cases e9:x.op=9
 ·rw[if_pos e9];exact h.setT _
 rw[if_neg e9];cases(Mu.thA s).dropLast.getLast? with
 |some up=>exact h.put (by rw[List.length_append,List.length_dropLast,List.length_dropLast];simp;omega)
 |none=>
  by_cases h0:s.at_=0
  ·show BndM H T (k+1) (if s.at_=0 then _ else _);rw[if_pos h0];have h1:=h.put (l:=[]) (Nat.zero_le _);exact⟨h1.heap,h1.ths,h1.out,h1.frs,h1.ch⟩
  ·show BndM H T (k+1) (if s.at_=0 then _ else _);rw[if_neg h0];exact(h.put (l:=[]) (Nat.zero_le _)).choose
theorem VU{ch:List Int}(hc:∀c∈ch,wfI .u32 c):BndM p.heap.toNat p.threads.length 0 (JY p ch):=⟨by show(List.replicate _ _).length≤_;rw[List.length_replicate];exact Nat.le_refl _,List.length_map _,Nat.le_refl _,fun l hl=>by
 obtain⟨z,_,rfl⟩:=List.mem_map.1 hl;exact Nat.le_refl _,hc⟩
end
structure RunM(p:Prog)(k:Nat)(m:MdA):Prop where
 nrm:m.Nrm
 ok:MOk p m.abs
 bnd:BndM p.heap.toNat p.threads.length k m.abs
section
variable{p:Prog}{k:Nat}{m:MdA}
theorem RunM.big(h:RunM p k m)(hk:k≤1000)(hH:p.heap≤1024)(hT:p.threads.length≤2097152):MBig m:=by
 have hb:=h.bnd;have hths:m.abs.ths.length=m.ths.length:=List.length_map _;refine⟨by rw[←hths,hb.ths];omega,fun t ht=>?_,Nat.le_trans hb.out (by omega),Nat.le_trans hb.heap (by omega),hb.ch⟩;have:=hb.frs (t.l.map FrA.fr) (List.mem_map.2 ⟨t,ht,rfl⟩);rw[List.length_map]at this;omega
end
end Mu
end
section
namespace Mu
open Go Go.RowKit Go.Proofs Go.Maps
end Mu
end
section
namespace Mu
open Go
end Mu
end
section
namespace Mu
open Go Go.RowKit Go.Proofs
def Aal(w:World)(e:Ending)(w':World):Prop:=∃b,e= .returned (.bool b)∧Below w.heap.size w w'
def Aaq(v:Value):Prop:=∃n:Int,v= .int .i64 n
theorem Aaq.mk(n:Int):Aaq (.int .i64 n):=⟨n,rfl⟩
theorem Xh(p:Prog)(w:World)(cs:List Value)(hR:Dl.R w w.heap.size cs p)(_:Dl.bulk p≤2097152):
 Calls Tryz.prog 8 #[.agg cs.toArray] w (Aal w):=by
 obtain⟨A,c,A',c',rfl,_,_,hF⟩:=KV.1 hR;have hpl:=IB p;have HF:=Lib.hid hF;have hb:Hid (Below (w.heap.size+1) (w.alloc (.cells [.int .i64 p.heap,.slice A' p.threads.length c',.slice A p.funcs.length c].toArray 25)) (w.alloc (.cells [.int .i64 p.heap,.slice A' p.threads.length c',.slice A p.funcs.length c].toArray 25))):=Below.refl _ _;have hbx:=(UY hb.out).2.1 2 _ rfl;have hfar:=(UY hb.out).1;have hfin:=Lib.hid (UY hb.out).2.2.2;clear hR hF
 go_enter Tryz.func8,Tryz.ntmps8
 go_wp2
 go_loop [3,4] (fun nv i=>Aaq nv∧∃q:Nat,q≤p.funcs.length∧i= .int .i64 q) (fun _ i=>p.funcs.length - (RowKit.intOf i).toNat)
 case atStart=>exact⟨Aaq.mk _,0,Nat.zero_le _,rfl⟩
 case round=>
  obtain⟨⟨nz,rfl⟩,q,hq,rfl⟩:=hrel;by_cases hlt:q < p.funcs.length
  ·by_cases h70:q < 70
   ·obtain⟨fn,hfn⟩:∃fn,p.funcs[q]? =some fn:=⟨_,List.getElem?_eq_getElem hlt⟩
    obtain⟨b,o,Ab,cb,rfl,hbl,c0,c1,c2,c3,_,_,hwr,hBR⟩:=Afw HF.out hfn;have hfb:=GB (List.mem_of_getElem? hfn);have hbl':=E9 fn;have HBR:=Lib.hid hBR;clear hfn hBR
    go_wp2_with fail
    all_goals try(go_ret;exact⟨_,rfl,hfin.out⟩)
    go_loop [3,5] (fun nv i=>Aaq nv∧∃k:Nat,k≤fn.blocks.length∧i= .int .i64 k) (fun _ i=>fn.blocks.length - (RowKit.intOf i).toNat)
    case atStart=>exact⟨Aaq.mk _,0,Nat.zero_le _,rfl⟩
    case round=>
     obtain⟨⟨nz2,rfl⟩,k,hk,rfl⟩:=hrel;by_cases hlt2:k < fn.blocks.length
     ·by_cases h300:k < 300
      ·obtain⟨x,hx⟩:∃x,fn.blocks[k]? =some x:=⟨_,List.getElem?_eq_getElem hlt2⟩
       obtain⟨bb,bo,Ai,ci,rfl,hbb,e0,e1,hnm,hIR⟩:=Z7 HBR.out hx;have hil:=GL x;have hxb:=D6 (List.mem_of_getElem? hx);have HIR:=Lib.hid hIR;clear hx hIR
       go_wp2_with fail
       all_goals try(go_ret;exact⟨_,rfl,hfin.out⟩)
       go_loop [3,6] (fun nv i=>Aaq nv∧∃j:Nat,j≤x.ins.length∧i= .int .i64 j) (fun _ i=>x.ins.length - (RowKit.intOf i).toNat)
       case atStart=>exact⟨Aaq.mk _,0,Nat.zero_le _,rfl⟩
       case round=>
        obtain⟨⟨nz3,rfl⟩,j,hj,rfl⟩:=hrel;by_cases hlt3:j < x.ins.length
        ·by_cases h300':j < 300
         ·obtain⟨y,hy⟩:∃y,x.ins[j]? =some y:=⟨_,List.getElem?_eq_getElem hlt3⟩
          obtain⟨ib,io,Aa,ca,rfl,hib,_,_,_,_,_,_,c6,_,_,_⟩:=Abq (HIR.out) hy;clear hy
          go_wp2_with fail
          go_round
          case rel=>exact⟨Aaq.mk _,j+1,by omega,by go_num⟩
          case measure=>simp[RowKit.intOf];omega
         ·go_wp2_with fail
          go_round
          case rel=>exact⟨Aaq.mk _,k+1,by omega,by go_num⟩
          case measure=>simp[RowKit.intOf];omega
        ·obtain rfl:j=x.ins.length:=by omega
         go_wp2_with fail
         go_round
         case rel=>exact⟨Aaq.mk _,k+1,by omega,by go_num⟩
         case measure=>simp[RowKit.intOf];omega
      ·go_wp2_with fail
       all_goals try(go_ret;exact⟨_,rfl,hfin.out⟩)
       all_goals
        go_round
        case rel=>exact⟨Aaq.mk _,q+1,by omega,by go_num⟩
        case measure=>simp[RowKit.intOf];omega
     ·obtain rfl:k=fn.blocks.length:=by omega
      go_wp2_with fail
      all_goals try(go_ret;exact⟨_,rfl,hfin.out⟩)
      all_goals
       go_round
       case rel=>exact⟨Aaq.mk _,q+1,by omega,by go_num⟩
       case measure=>simp[RowKit.intOf];omega
   ·go_wp2_with fail
    all_goals try(go_ret;exact⟨_,rfl,hfin.out⟩)
  ·go_wp2_with fail
   all_goals try(go_ret;exact⟨_,rfl,hfin.out⟩)
end Mu
end
section
namespace Mu
open Go Go.RowKit Go.Proofs Go.Maps
end Mu
end
section
namespace Mu
open Go Go.RowKit Go.Proofs
theorem Xi{p:Prog}(hh:wfI .i64 p.heap)(hb:Dl.bulk p≤2097152):AE Tryz.prog 8 .emp [.agg (AU p)] (fun _:Bool=>.emp) (fun b=>.lit (.bool b)):=
 ⟨by kernel_rfl,fun w S vs hS _ _ hr=>by
  have hr:=Al (Ext.grow [] ψ0 (fun _ _=>rfl) fun k hk=>(hS k hk).1) _ _ hr;unfold Ad at hr;obtain⟨v,us,rfl,h1,h2⟩:=hr;unfold Ad at h2;subst h2;unfold AV.rel at h1;obtain⟨cs,rfl,hc⟩:=h1;refine(Xh p w cs (NV (h:=[]) hh hc) hb).mono ?_;rintro e w' ⟨b,rfl,hbl⟩;exact⟨_,rfl,⟨hbl.os,hbl.tape,hbl.output,hbl.size,fun k hk _=>hbl.block k hk⟩,b,S,fun _ h=>h,fun _ h=>.inl h,fun k hk=>Nat.lt_of_lt_of_le (hS k hk).1 hbl.size,by unfold AV.rel;rfl,trivial,fun k hk=>hk.elim⟩⟩
end Mu
end
section
namespace Mu
open Go Go.RowKit
def Agp(P:Program)(f:FuncId)(R:Res)(args:List AV)(r:AV):Prop:=
 Bw P f=true∧∀(w:World) (S:Nat→Prop) (vs:List Value),(∀k,S k→k < w.heap.size∧¬R.F k)→(∀g,R.F g→g < w.heap.size)→R.R w S→Ad w S [] ψ0 args vs→
  Calls P f vs.toArray w fun e w'=>∃v,e= .returned v∧Vm w S [] ψ0 r v w'
theorem Agp.of{P:Program}{f:FuncId}{R:Res}{args:List AV}{r:AV}(hE:Bw P f=true)(h:∀w0,AE P f (R.pin w0) args (fun _:Unit=>R.pin w0) (fun _=>r)):Agp P f R args r:=
 ⟨hE,fun w S vs hS hF hR hr=>((h w).2 w S vs hS hF ⟨hR,fun _ _=>rfl⟩ hr).mono fun e w' ⟨v,he,hT⟩=>by
  obtain⟨_,S',k1,k2,k3,k4,k5,_⟩:=hT.some;refine⟨v,he,⟨hT.gr.os,hT.gr.tape,hT.gr.output,hT.gr.size,fun k hk=>?_⟩,S',k1,k2,k3,k4⟩;by_cases hf:R.F k
  ·exact k5.2 k hf
  ·exact hT.gr.block k hk hf⟩
theorem DV{P:Program}{C:Ctx}{t:List AV}{h:List ABlk}{o:Oper}{f:FuncId}{args:Array Operand}{tys:Array TypeId}{xs:List AV}{r:AV}{i:Nat}{R:Res}(hi:h[i]? =some (.res R))
 (ho:o.op= .call {callee:=.value (.func f),args:=args,argTypes:=tys}) (hF:Agp P f R xs r) (hx:args.toList.map (evA t)=xs) (hc:AZ xs=true) (hr:AV.cl r=true):Av P C t h o r:=by
 intro S ψ w ρ H hρ;have h1:ρ (.func f)= .func (.func f) #[] #[]:=by
  have:=hρ (.func f) (by rw[ho];exact Array.mem_append.2 (.inl (by simp)));simpa[evA,AV.rel]using this
 rw[CJ ho hF.1 ρ w h1];refine⟨rfl,?_⟩;have h2:Ad w S h ψ xs (args.toList.map ρ):=by
  rw[←hx];exact BY fun x hx'=>hρ x (by rw[ho];exact Array.mem_append.2 (.inr (Array.mem_toList_iff.1 hx')))
 have hB:=H.blk i _ hi;have h3:=hF.2 w S (args.toList.map ρ) (fun k hk=>⟨H.lt k hk,fun hf=>(hB.1 k hf).2.1 hk⟩) (fun g hg=>(hB.1 g hg).2.2) hB.2 (AQ _ _ hc h2);rw[show(args.map ρ)=(args.toList.map ρ).toArray from(by rw[←Array.toList_map])];refine h3.mono ?_;rintro e w' ⟨v,he,hb,S',k1,k2,k3,k4⟩;exact⟨v,he,hb,S',k1,k2,k3,Br _ _ hr k4⟩
end Mu
end
section
namespace Mu
open Go Go.RowKit Go.Proofs
theorem Agp.pin{P:Program}{f:FuncId}{R:Res}{args:List AV}{r:AV}{w0:World}(h:Agp P f R args r):Agp P f (R.pin w0) args r:=⟨h.1,fun w S vs a b c d=>h.2 w S vs a b c.1 d⟩
theorem Mm{P:Program}{f:FuncId}{fn:Go.Func}{c:Code}{args:List AV}{ι:Type}{R:Res}{Rs:ι→Res}{rs:ι→AV}{n:Nat}{t u x:Tmp}(hf:P.funcs[f]? =some fn)(hb:fn.body=some c)(hE:Bw P f=true)(hres:fn.results= #[.tmp t,.tmp u,.tmp x])(hn:fn.ntmps=n)(hm:R.mrk= [])
 (h:∀C:Ctx,C.turn R→Awp P C c (Hv R Rs rs fun s r=>.tup [evA s.t (.tmp t),evA s.t (.tmp u),evA s.t (.tmp x)]=r∧AV.cl r=true) ⟨args++List.replicate (n - args.length) (.lit undef),[.res R]⟩):AE P f R args Rs rs:=
 BP _ hf hb hE hn hm (fun C s a w r S ψ ⟨h1,h2⟩ H hl=>⟨.tuple #[a.eval (.tmp t),a.eval (.tmp u),a.eval (.tmp x)],by
  have e1:(a.tmps[t]?).getD undef=a.eval (.tmp t):=by rw[←Array.getD_eq_getD_getElem?];rfl
  have e2:(a.tmps[u]?).getD undef=a.eval (.tmp u):=by rw[←Array.getD_eq_getD_getElem?];rfl
  have e3:(a.tmps[x]?).getD undef=a.eval (.tmp x):=by rw[←Array.getD_eq_getD_getElem?];rfl
  simp[results,hres,e1,e2,e3],by
  subst h1;refine Br (h:=s.h) (ψ:=ψ) _ _ h2 ?_;unfold AV.rel;refine⟨[a.eval (.tmp t),a.eval (.tmp u),a.eval (.tmp x)],rfl,?_⟩;unfold Ad;refine⟨_,_,rfl,Ba hl (.tmp t),?_⟩;unfold Ad;refine⟨_,_,rfl,Ba hl (.tmp u),?_⟩;unfold Ad;refine⟨_,_,rfl,Ba hl (.tmp x),?_⟩;unfold Ad;rfl⟩) h
theorem Acq{w0:World}(p:Prog)(m:MdA)(tg ti:Nat)(t0:ThA)(fg c:Nat)(hv:TV m tg)(ht:m.ths[ti]? =some t0)(hc:t0.cv=slV fg t0.l.length c)(hl:t0.l.length≤4611686018427387904):AE Tryz.prog 84 ((modR p m).pin w0) [.lit (ptV tg ti)] (fun _:Unit=>(modR p m).pin w0) (fun _=>.lit (MH t0 fg)):=by
 haveI hT:TI m ti t0:=⟨ht⟩
 refine AS Tryz.func84 rfl (by kernel_rfl) rfl Tryz.ntmps84 rfl fun C=>?_
 simp only[List.length_cons,List.length_nil,Nat.reduceAdd,Nat.reduceSub,List.replicate_succ,List.replicate_zero,List.cons_append,List.nil_append];refine wS (sT (wN ?_));refine Ac fun K2 h2=>?_
 refine wS (sT (sT (sT (sT ?_))));rw[hc];refine sT (sT (wN ?_));refine Ae rfl (fun hb4=>?_) (fun hb4=>?_)
 ·have h0:t0.l.length=0:=by simpa using hb4
  refine wS (sT (wN ?_));refine Aj ⟨.inr rfl,(),rfl,rfl,?_,rfl⟩;unfold MH topA;rw[if_pos h0];rfl
 ·have hne:t0.l.length≠0:=by simpa using hb4
  have hw:IntKind.i64.wrap ((t0.l.length:Int) - 1)=((t0.l.length - 1:Nat):Int):=by rw[IntWalk.i64_in _ (by omega)];omega
  refine Ag ?_;refine h2 _ ?_;refine nT ?_;refine dS 12 (hq:=qT (qT (qT (qT ?_))));rw[hc];refine qT (qT (qT (qT ?_)));rw[hc];refine qT (qT ?_);refine qH (Ns rfl rfl rfl hw (by omega)) (qT (qN (wN ?_)));refine Aj ⟨.inr rfl,(),rfl,rfl,?_,rfl⟩;unfold MH topA;rw[if_neg hne];rfl
theorem VL(p:Prog)(m:MdA)(tg ti:Nat)(t0:ThA)(fg c:Nat)(hv:TV m tg)(ht:m.ths[ti]? =some t0)(hc:t0.cv=slV fg t0.l.length c)(hl:t0.l.length≤4611686018427387904):Agp Tryz.prog 84 (modR p m) [.lit (ptV tg ti)] (.lit (MH t0 fg)):=Agp.of (by kernel_rfl) fun _=>Acq p m tg ti t0 fg c hv ht hc hl
section
variable{p:Prog}{m:MdA}{t0:ThA}
def whA(l:List FrA):AV:=match l.getLast? with
 |none=>.tup [.lit (.int .i64 (-1)),.lit (.int .i64 (-1)),.lit (.int .i64 (-1))]
 |some q=>.tup [.lit (.int .i64 (q.fr.f:Int)),.lit (.int .i64 (q.fr.b:Int)),.lit (.int .i64 (q.fr.i:Int))]
theorem VH{w0:World}(hN:m.Nrm)(ht:m.ths[m.at_]? =some t0)(hl:t0.l.length≤1073741824):AE Tryz.prog 31 ((modR p m).pin w0) [.lit (ptV m.g 0)] (fun _:Unit=>(modR p m).pin w0) (fun _=>whA t0.l):=by
 obtain⟨tg,tc,htv⟩:=hN.tg;have htc:m.tc=slV tg m.ths.length tc:=hN.tv.trans htv;have htl:=(List.getElem?_eq_some_iff.1 ht).1
 haveI hTV:TV m tg:=⟨tc,htv⟩
 haveI hTI:TI m m.at_ t0:=⟨ht⟩
 obtain⟨hcv,fg,fc,hfv⟩:=hN.th t0 (List.mem_of_getElem? ht);have htop:=VL p m tg m.at_ t0 fg fc hTV ht (hcv.trans hfv) (by omega);refine Mm Tryz.func31 rfl (by kernel_rfl) rfl Tryz.ntmps31 rfl fun C hC=>?_
 simp only[List.length_cons,List.length_nil,Nat.reduceAdd,Nat.reduceSub,List.replicate_succ,List.replicate_zero,List.cons_append,List.nil_append];refine wR ?_;refine Ac fun K2 h2=>?_
 refine wS (sT (sT (sT ?_)));refine sTg (sTg (sTg (sTg ?_)));rw[htc];refine sTg (sTg ?_);rw[show decide ((m.ths.length:Int) > 0)=true from decide_eq_true (by omega)];refine sH (Av.pick rfl rfl rfl) (wN ?_);refine Ae rfl (fun hb4=>?_) (fun hb4=>?_)
 ·refine dS 12 (hq:=qT (qT (qT (qT ?_))));rw[htc];refine qT (qT (qT (qT ?_)));refine qH (AY rfl rfl rfl htl) (qT ?_);refine qH (DV (i:=0) rfl rfl htop.pin rfl rfl rfl) (qT (qN (wN ?_)));refine wS (sT (sT (wN ?_)));refine Ae rfl (fun hb7=>?_) (fun hb7=>?_)
  ·have hne:t0.l.length≠0:=by
    intro e;unfold topA at hb7;rw[if_pos e]at hb7;cases hb7
   have e:topA t0 fg=some ⟨fg,(t0.l.length - 1) * 4,none⟩:=by unfold topA;rw[if_neg hne]
   obtain⟨q,hq⟩:∃q,t0.l[t0.l.length - 1]? =some q:=⟨_,List.getElem?_eq_getElem (by omega)⟩
   haveI hTG:TG m fg m.at_ t0:=⟨ht,fc,hfv⟩
   haveI hQK:QK t0 (t0.l.length - 1) q:=⟨hq⟩
   rw[show MH t0 fg=ptV fg ((t0.l.length - 1) * 4)from by unfold MH;rw[e]];refine dS 15 (h2:=rfl) (hq:=qT (qT (qT (qT (qT (qT (qT (qT (qT (qT (qT (qT (qT (qT (qT (qN (wN ?_)))))))))))))))));refine Aj ⟨.inr rfl,(),rfl,rfl,?_,?_⟩
   ·unfold whA;rw[List.getLast?_eq_getElem?,hq];rfl
   ·unfold whA;rw[List.getLast?_eq_getElem?,hq];rfl
  ·have he:t0.l= []:=by
    by_cases e:t0.l.length=0
    ·exact List.eq_nil_of_length_eq_zero e
    ·unfold topA at hb7;rw[if_neg e]at hb7;cases hb7
   refine Ag ?_;refine h2 _ ?_;refine nT ?_;refine wR ?_;refine Aj ⟨.inr rfl,(),rfl,rfl,?_,?_⟩
   ·rw[he];rfl
   ·rw[he];rfl
 ·cases hb4
theorem YH(hN:m.Nrm)(ht:m.ths[m.at_]? =some t0)(hl:t0.l.length≤1073741824):Agp Tryz.prog 31 (modR p m) [.lit (ptV m.g 0)] (whA t0.l):=Agp.of (by kernel_rfl) fun _=>VH hN ht hl
end
section
variable{P:Program}{C:Ctx}{t:List AV}{h:List ABlk}{o:Oper}{K:St→Prop}
theorem Va{R R':Res}(hC:C.turn R)(i j s:Nat)(hij:i≠j){v:Value}{e:TypeId}{α:Type}{T:Ty α}{l:List α}(hi:h[i]? =some (.res R'))(hF:∀g,R.F g→R'.F g)(hj:h[j]? =some (.res (rowR v e T l)))(hs:t[s]? =some (.lit v)):St.le C ⟨t,h⟩ ⟨t.set s (.bs T l),h.set j .dead⟩:=
 EB j s hj rfl rfl hs (fun S ψ w H k hk=>Nat.le_of_not_lt fun hlt=>by
  by_cases hR:R.F k
  ·exact H.dis i j hij (by rw[hi];rfl) (by rw[hj];rfl) k (by rw[hi];exact hF k hR) (by rw[hj];exact hk)
  ·exact((H.blk j _ hj).lt rfl k hk).1 (hC k hlt hR)) fun S ψ w u H hr=>by
  obtain⟨_,hR0⟩:=H.blk j _ hj;unfold AV.rel at hr⊢;rw[hr];obtain⟨cells,k1,k0,k2⟩:=hR0;exact Ch k1 (fun i d hd=>Ty.keepS _ (k2 i d hd) (fun _ _=>rfl) fun _ h=>.inl h) fun g hg=>.inr (AR hg)
theorem Sx{i g n c:Nat}{R:Res}{e:TypeId}{α:Type}{T:Ty α}{d:List α}{ι:Type}{Rs:ι→Res}{rs:ι→AV}{f:FuncId}{args:Array Operand}{tys:Array TypeId}(hj:h[i]? =some (.res R))(hR:∀w S,R.R w S→(rowR (slV g n c) e T d).R w S)(hF:∀k,(rowR (slV g n c) e T d).F k→R.F k)
 (ho:o.op= .call {callee:=.value (.func f),args:=args,argTypes:=tys}) (hc:AE P f .emp [.tv T.sliceP d] Rs rs) (hm:∀p,(Rs p).mrk= []) (hS:∀p w S S',(Rs p).R w S→(Rs p).R w S') (hcl:∀p,AV.cl (rs p)=true) (hr:∀p w S S' v,AV.rel w S [] ψ0 (rs p) v→AV.rel w S' [] ψ0 (rs p) v)
 (hx:args.toList.map (evA t)= [.lit (slV g n c)])
 (hK:∀p,K ⟨AJ t o.dst (rs p),h++[.res (Rs p)]⟩):AOp P C o ⟨t,h⟩ K:=by
 have hjl:=(List.getElem?_eq_some_iff.1 hj).1;have hj':(h++[ABlk.res .emp])[i]? =some (.res R):=by rw[List.getElem?_append_left hjl];exact hj
 refine AOp.le Mc (JT (i:=h.length) (j:=i) (by omega) (by rw[List.getElem?_append_right (Nat.le_refl _),Nat.sub_self];rfl) hj' rfl ho hc hm hS hcl hr (fun S ψ w vs H hv=>?_) fun p=>?_)
 ·rw[hx]at hv;unfold Ad at hv⊢;obtain⟨v,vs',e1,h1,h2⟩:=hv;refine⟨v,vs',e1,?_,by unfold Ad at h2⊢;exact h2⟩;unfold AV.rel at h1⊢;subst h1;obtain⟨cells,k1,k0,k2⟩:=hR w S (H.blk _ _ hj').2;refine⟨Ch k1 (fun i d hd=>Ty.keepS _ (k2 i d hd) (fun _ _=>rfl) fun _ h=>.inl h) fun g hg=>.inr (by rw[hj'];exact hF _ (AR hg)),fun e=>by cases e⟩
 ·rw[List.set_append_right _ _ (Nat.le_refl _),Nat.sub_self];exact hK p
end
theorem V9{v:Value}{e:TypeId}{l:List Int}{w:World}{S S':Nat→Prop}(h:(rowR v e tW l).R w S):(rowR v e tW l).R w S':=by
 obtain⟨cells,h1,h0,h2⟩:=h;exact⟨cells,h1,h0,fun i d hd=>h2 i d hd⟩
section
variable{p:Prog}{m:MdA}{t0:ThA}{q:FrA}
theorem Arn{k:Nat}(ht:m.ths[m.at_]? =some t0)(hq:q∈t0.l)(h:(rgR q).F k):(modR p m).F k:=
 ⟨thR t0,List.mem_of_getElem? (Ia ht),rgR q,List.mem_cons_of_mem _ (List.mem_map.2 ⟨q,hq,rfl⟩),h⟩
theorem Y3{w0:World}(hN:m.Nrm)(ht:m.ths[m.at_]? =some t0)(hl:t0.l.length≤1073741824)(hq:t0.l.getLast? =some q)(hrl:q.fr.regs.length≤1073741824):AE Tryz.prog 32 ((modR p m).pin w0) [.lit (ptV m.g 0)] (fun _:Unit=>(modR p m).pin w0) (fun _=>.bs tW q.fr.regs):=by
 obtain⟨tg,tc,htv⟩:=hN.tg;have htc:m.tc=slV tg m.ths.length tc:=hN.tv.trans htv;have htl:=(List.getElem?_eq_some_iff.1 ht).1
 haveI hTV:TV m tg:=⟨tc,htv⟩
 haveI hTI:TI m m.at_ t0:=⟨ht⟩
 obtain⟨hcv,fg,fc,hfv⟩:=hN.th t0 (List.mem_of_getElem? ht);have htop:=VL p m tg m.at_ t0 fg fc hTV ht (hcv.trans hfv) (by omega);have hne:t0.l.length≠0:=fun e=>by
  rw[List.eq_nil_of_length_eq_zero e]at hq;cases hq
 have e:topA t0 fg=some ⟨fg,(t0.l.length - 1) * 4,none⟩:=by unfold topA;rw[if_neg hne]
 rw[List.getLast?_eq_getElem?]at hq
 haveI hTG:TG m fg m.at_ t0:=⟨ht,fc,hfv⟩
 haveI hQK:QK t0 (t0.l.length - 1) q:=⟨hq⟩
 refine Ml Tryz.func32 rfl (by kernel_rfl) rfl Tryz.ntmps32 rfl fun C hC=>?_
 simp only[List.length_cons,List.length_nil,Nat.reduceAdd,Nat.reduceSub,List.replicate_succ,List.replicate_zero,List.cons_append,List.nil_append];refine wR ?_;refine Ac fun K2 h2=>?_
 refine wS (sT (sT (sT ?_)));refine sTg (sTg (sTg (sTg ?_)));rw[htc];refine sTg (sTg ?_);rw[show((m.ths.length:Int) ==0)=false from by rw[beq_eq_false_iff_ne];omega];refine sH (Av.pick rfl rfl rfl) (wN ?_);refine Ae rfl (fun hb4=>?_) (fun hb4=>?_)
 ·cases hb4
 ·refine Ag ?_;refine h2 _ ?_;refine nT ?_;refine Ac fun K7 h7=>?_
  refine dS 12 (hq:=qT (qT (qT (qT ?_))));rw[htc];refine qT (qT (qT (qT ?_)));refine qH (AY rfl rfl rfl htl) (qT ?_);refine qH (DV (i:=0) rfl rfl htop.pin rfl rfl rfl) (qT (qN (wN ?_)));rw[show MH t0 fg=ptV fg ((t0.l.length - 1) * 4)from by unfold MH;rw[e]];refine wS (sT (sT (wN ?_)));refine Ae rfl (fun hb10=>?_) (fun hb10=>?_)
  ·refine wS (sT (sT (sT (sT ?_))));refine Ao rfl (Sx (i:=0) (e:=38) (T:=tW) (d:=q.fr.regs) rfl (fun w S H=>SV H.1 ht (List.mem_of_getElem? hq |> fun _=>hq)) (fun k hk=>Arn ht (List.mem_of_getElem? hq) hk) rfl (RP hrl) (fun _=>rfl) (fun _ _ _ _ h=>V9 h) (fun _=>rfl) (fun _ _ _ _ _ h=>by unfold AV.rel at h⊢;exact h) rfl fun v=>?_);refine sNt (hk:=sT (wN ?_));refine As _ (Va hC 0 1 2 (by decide) rfl (fun _ h=>h) rfl rfl) ?_;refine nT ?_;exact Aj ⟨.inr rfl,(),rfl,rfl,rfl,rfl⟩
  ·cases hb10
theorem Ac5(hN:m.Nrm)(ht:m.ths[m.at_]? =some t0)(hl:t0.l.length≤1073741824)(hq:t0.l.getLast? =some q)(hrl:q.fr.regs.length≤1073741824):Agp Tryz.prog 32 (modR p m) [.lit (ptV m.g 0)] (.bs tW q.fr.regs):=Agp.of (by kernel_rfl) fun _=>Y3 hN ht hl hq hrl
end
end Mu
end
section
namespace Mu
open Go
structure FrMv(p:Prog)(r q:Fr):Prop where
 f:q.f=r.f
 go:(q.b=r.b∧q.i=r.i+1∧(Cu p r).op < 8∧(q.regs=r.regs∧Az (Cu p r)=false∨Az (Cu p r)=true∧∃w,q.regs=r.regs.set (Cu p r).d.toNat w∧((Cu p r).op=2→w=regA r (Cu p r).a)))∨
  (q.i=0∧q.regs=r.regs∧((Cu p r).op=8∧q.b=(Cu p r).l1.toNat∨(Cu p r).op=9∧(q.b=(Cu p r).l1.toNat∨q.b=(Cu p r).l2.toNat)))
def Fm(p:Prog)(s:Mdl)(t:Nat)(q:Fr):Prop:=(∃l r,s.ths[t]? =some l∧r∈l∧(q=r∨FrMv p r q))∨∃k args,k < p.funcs.length∧q=newFr p k args
theorem Adk{x:Ins}(h:x.op=4∨x.op=6∨x.op=7):Az x=false:=by
 unfold Az;rcases h with h|h|h <;> rw[h] <;> decide
theorem Sy{x:Ins}(h0:0≤x.op)(h:x.op≤3∨x.op=5):Az x=true:=by
 have h:x.op=0∨x.op=1∨x.op=2∨x.op=3∨x.op=5:=by omega
 unfold Az;rcases h with h|h|h|h|h <;> rw[h] <;> decide
theorem Fm.put{p:Prog}{s:Mdl}{l:List Fr}(ha:s.at_ < s.ths.length)(hl:∀q∈l,Fm p s s.at_ q){t:Nat}{l':List Fr}(h:(IA s l).ths[t]? =some l'):∀q∈l',Fm p s t q:=by
 rcases NX ha h with⟨rfl,rfl⟩|⟨_,h⟩
 ·exact hl
 ·exact fun q hq=>.inl ⟨l',q,h,hq,.inl rfl⟩
theorem Aku{dw:Int→Int→Int→Option Int}{p:Prog}(hp:ProgOk p){s:Mdl}(h:MOk p s)(hk:s.kind=0){t:Nat}{l':List Fr}(ht:(PE dw p s).ths[t]? =some l'):∀q∈l',Fm p s t q:=by
 obtain⟨ha,hne⟩:=h.run hk;have hat:=VN ha;obtain⟨hfr,hch,_⟩:=h.frs _ _ hat;obtain⟨l0,r,hl⟩:∃l0 r,thA s=l0++[r]:=⟨_,_,(List.dropLast_concat_getLast hne).symm⟩
 have htop:QT s=r:=by
  unfold QT;rw[hl];simp
 have hdl:(thA s).dropLast=l0:=by rw[hl];simp
 have hrm:r∈thA s:=by rw[hl];simp
 have hold:∀q∈thA s,Fm p s s.at_ q:=fun q hq=>.inl ⟨_,q,hat,hq,.inl rfl⟩
 have hold0:∀q∈l0,Fm p s s.at_ q:=fun q hq=>hold q (by rw[hl];simp[hq])
 obtain⟨_,hx,_⟩:=Ka hp (hfr r hrm);have hsame:∀{s':Mdl},s'.ths=s.ths→s'.ths[t]? =some l'→∀q∈l',Fm p s t q:=fun e h q hq=>.inl ⟨l',q,by rw[←e];exact h,hq,.inl rfl⟩
 have hset:∀(r':Fr),FrMv p r r'→∀{s':Mdl},s'.ths=(De s r').ths→s'.ths[t]? =some l'→∀q∈l',Fm p s t q:=fun r' hm s' e h=>by
  rw[e]at h;unfold De at h;rw[hdl]at h;refine Fm.put ha (fun q hq=>?_) h;rcases List.mem_append.1 hq with hq|hq
  ·exact hold0 q hq
  ·rw[List.mem_singleton.1 hq];exact .inl ⟨_,r,hat,hrm,.inr hm⟩
 unfold PE at ht;rw[htop]at ht;generalize hX:Cu p r=x at hx ht;have hw:∀w,x.op≤3→(x.op=2→w=regA r x.a)→FrMv p r (nextF r (r.regs.set x.d.toNat w)):=fun w h8 h2=>⟨rfl,.inl ⟨rfl,rfl,by rw[hX];omega,.inr ⟨by rw[hX];exact Sy hx.op.1 (.inl h8),w,by rw[hX];rfl,by rw[hX];exact h2⟩⟩⟩
 have hn:x.op=4∨x.op=6∨x.op=7→FrMv p r (nextF r r.regs):=fun h=>⟨rfl,.inl ⟨rfl,rfl,by rw[hX];omega,.inl ⟨rfl,by rw[hX];exact Adk h⟩⟩⟩
 unfold Q7 at ht;by_cases e0:x.op=0
 ·rw[if_pos e0]at ht;exact hset _ (hw _ (by omega) (by omega)) rfl ht
 rw[if_neg e0]at ht;by_cases e1:x.op=1
 ·rw[if_pos e1]at ht;cases hd:dw x.n (regA r x.a) (regA r x.b)with
  |some w=>
   rw[hd]at ht;exact hset _ (hw w (by omega) (by omega)) rfl ht
  |none=>
   rw[hd]at ht;exact hsame rfl ht
 rw[if_neg e1]at ht;by_cases e2:x.op=2
 ·rw[if_pos e2]at ht;exact hset _ (hw _ (by omega) (fun _=>rfl)) rfl ht
 rw[if_neg e2]at ht;by_cases e3:x.op=3
 ·rw[if_pos e3]at ht;by_cases hh:(regA r x.a).toNat < s.heap.length
  ·rw[if_pos hh]at ht;exact hset _ (hw _ (by omega) (by omega)) rfl ht
  ·rw[if_neg hh]at ht;exact hsame rfl ht
 rw[if_neg e3]at ht;by_cases e4:x.op=4
 ·rw[if_pos e4]at ht;by_cases hh:(regA r x.a).toNat < s.heap.length
  ·rw[if_pos hh]at ht;exact hset _ (hn (.inl e4)) rfl ht
  ·rw[if_neg hh]at ht;exact hsame rfl ht
 rw[if_neg e4]at ht;by_cases h5:x.op=5
 ·rw[if_pos h5]at ht;refine Fm.put ha (fun q hq=>?_) ht;rcases List.mem_append.1 hq with hq|hq
  ·exact hold q hq
  ·rw[List.mem_singleton.1 hq];exact .inr ⟨_,_,(hx.call h5).2.1,rfl⟩
 rw[if_neg h5]at ht;by_cases e6:x.op=6
 ·rw[if_pos e6]at ht;exact hset _ (hn (.inr (.inl e6))) rfl ht
 rw[if_neg e6]at ht;by_cases e7:x.op=7
 ·rw[if_pos e7]at ht;exact hset _ (hn (.inr (.inr e7))) rfl ht
 rw[if_neg e7]at ht;by_cases h8:x.op=8
 ·rw[if_pos h8]at ht;exact hset ⟨r.f,x.l1.toNat,0,r.regs⟩ ⟨rfl,.inr ⟨rfl,rfl,.inl ⟨by rw[hX];exact h8,by rw[hX]⟩⟩⟩ rfl ht
 rw[if_neg h8]at ht;by_cases h9:x.op=9
 ·rw[if_pos h9]at ht;refine hset ⟨r.f,if regA r x.a=0 then x.l2.toNat else x.l1.toNat,0,r.regs⟩ ⟨rfl,.inr ⟨rfl,rfl,.inr ⟨by rw[hX];exact h9,?_⟩⟩⟩ rfl ht;rw[hX];by_cases hz:regA r x.a=0
  ·rw[if_pos hz];exact .inr rfl
  ·rw[if_neg hz];exact .inl rfl
 rw[if_neg h9,hdl]at ht;cases hup:l0.getLast? with
 |some up=>
  rw[hup]at ht;obtain⟨l1,rfl⟩:∃l1,l0=l1++[up]:=by
   obtain⟨l1,e⟩:=List.getLast?_eq_some_iff.1 hup;exact⟨l1,e⟩
  have hc:=Jh (l:=l1) (r:=up) (u:=r) (m:=[]) (by rw[hl]at hch;simpa using hch);have hum:up∈thA s:=by rw[hl];simp
  refine Fm.put ha (fun q hq=>?_) ht;rw[List.dropLast_concat]at hq;rcases List.mem_append.1 hq with hq|hq
  ·exact hold0 q (by simp[hq])
  ·rw[List.mem_singleton.1 hq];exact .inl ⟨_,up,hat,hum,.inr ⟨rfl,.inl ⟨rfl,rfl,by rw[hc.1];decide,.inr ⟨Sy (by rw[hc.1];decide) (.inr hc.1),_,rfl,fun e=>by rw[hc.1]at e;cases e⟩⟩⟩⟩
 |none=>
  rw[hup]at ht;by_cases hz:s.at_=0
  ·simp only[if_pos hz]at ht;exact Fm.put (l:=[]) ha (fun q hq=>by cases hq) ht
  ·simp only[if_neg hz]at ht;exact Fm.put (l:=[]) ha (fun q hq=>by cases hq) ht
theorem Zg{dw:Int→Int→Int→Option Int}{p:Prog}(hp:ProgOk p){G:Fr→Prop}(hn:∀k args,k < p.funcs.length→G (newFr p k args))(hm:∀r q,FrOk p r→FrMv p r q→G r→G q){s:Mdl}(h:MOk p s)(hk:s.kind=0)(hG:∀(t:Nat) (l:List Fr),s.ths[t]? =some l→∀r∈l,G r):
 ∀(t:Nat) (l:List Fr),(PE dw p s).ths[t]? =some l→∀r∈l,G r:=fun t l ht r hr=>by
 rcases Aku hp h hk ht r hr with⟨l0,r0,h0,hr0,e|hv⟩|⟨k,args,hk,e⟩
 ·rw[e];exact hG t l0 h0 r0 hr0
 ·exact hm r0 r ((h.frs t l0 h0).1 r0 hr0) hv (hG t l0 h0 r0 hr0)
 ·rw[e];exact hn k args hk
end Mu
end
