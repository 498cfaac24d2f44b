/-
  Own texts laid together, part 2: MuGoes, MuNext, MuOk, ShelfM, MuSets, MuBack, MuLiveP, MuBuild, MuDraw, MuRowFn, MuDrawT, MuDrawF, MuRes, MuRange, MuFnM, MuLitR, MuSlice, MuStep, MuRef17A, MuNext15, MuRef17B, MuRef17C, MuRef17D, MuRef17E, MuRef17F, MuRowP, MuM, MuFull, MuCond, MuStr, MuBytes, MuTab.
  Conditions: as each part says.
-/
import Derived.Test.YtebigcfcmpogpaaGreatBr1
import Derived.RangeFuncNested
import Derived.RangeFuncBound
import Derived.RangeFuncCalls
import Derived.RangeFuncLeaves
import Derived.Shelf.Abstract
import Derived.Shelf.RegionOpen
import Derived.WalkKit
import Derived.OwnWalkIn
import Derived.TacticsInMore
import Derived.LoopNIn
import Derived.LoopIn
import Derived.RangeFuncBox
import Derived.RangeFuncWrites
import Derived.Shelf.SlIterI.Nil
import Derived.Shelf.SortM.Plain
import Derived.Shelf.SortM.SortNone
import Derived.Shelf.SlMaps.Clone
import Derived.Shelf.SlMaps.Copy
import Derived.Ground.GgzProg
import Derived.Ground.SlgmProg
import Derived.Ground.SlmcProg
import Derived.Ground.SlmpProg
import Derived.Test.YtebigcfcmpogpaaGreatProg
import Derived.Maps.OwnSet
import Derived.RangeFuncRecord
import Derived.Lib.Hide
import Derived.Deep.Upon
import Derived.Laws.Strings3
import Derived.Laws.IdiomStrings
import Derived.Laws.StructEq
set_option linter.unusedSimpArgs false
set_option linter.unusedVariables false
set_option maxRecDepth 100000
set_option maxHeartbeats 8000000
section
namespace Mu
open Go Go.RowKit Go.Proofs Go.Shelf
attribute [local go_sem] Oper.semAt_some
structure KS(S:Nat→Prop)(W W':World):Prop where
 size:W.heap.size≤W'.heap.size
 block:∀k,S k→W'.heap[k]? =W.heap[k]?
theorem KS.refl{S:Nat→Prop}{W:World}:KS S W W:=⟨Nat.le_refl _,fun _ _=>rfl⟩
theorem KS.trans{S:Nat→Prop}{A B C:World}(h:KS S A B)(k:KS S B C):KS S A C:=⟨Nat.le_trans h.size k.size,fun i hi=>(k.block i hi).trans (h.block i hi)⟩
theorem KS.cell{S:Nat→Prop}{W W':World}(h:KS S W W'){a:Addr}{v:Value}(ha:S a.block)(hc:W.cell? a=some v):W'.cell? a=some v:=(World.cell?_of_block (h.block a.block ha)).trans hc
theorem KS.alloc{S:Nat→Prop}{W W':World}(h:KS S W W')(hS:∀k,S k→k < W'.heap.size)(o:Obj):KS S W (W'.alloc o):=⟨by have:=h.size;simp;omega,fun k hk=>(Below.heap_alloc _ _ _ (hS k hk)).trans (h.block k hk)⟩
structure GoesAt(W:World)(S:Nat→Prop)(f:Func)(bi:Int)(Bf Bb:Nat):Prop where
 fS:S Bf
 f3:∃A c,W.cell? ⟨Bf,3,none⟩=some (.slice A f.blocks.length c)∧B3.slice.RS W S [.slice A f.blocks.length c] f.blocks
 bS:S Bb
 b0:W.cell? ⟨Bb,0,none⟩=some (.int .i64 bi)
 len:f.blocks.length≤2097152
 ins:∀b∈f.blocks,b.ins.length≤2097152
theorem CW{β:Type}{B:Nat}{J:List β→World→Prop}(hJ:AbidesFrom B J){s:List β}{A:World}(h:J s A)(o:Obj):J s (A.alloc o):=hJ s A _ none h (World.grownBy_alloc _ _ _) (fun r e=>by cases e)
def Akm{f:Func}(xs:List (Blk f))(J Jx:List (Blk f)→World→Prop)(W':World):Prop:=(∃ys,ys=xs∧J ys W')∨(∃pre,pre <+:xs∧Jx pre W')
theorem F2(f:Func)(l m:List Int):CB f (l++m)=CB f l++CB f m:=List.filterMap_append
theorem E6{f:Func}{m:Nat}(h:m < f.blocks.length){a:Int}(e:a=m):CB f [a]= [⟨m,h⟩]:=by
 unfold CB;rw[e,List.filterMap_cons,Qk h];rfl
theorem D2{f:Func}{a:Int}(h:¬(0≤a∧a < f.blocks.length)):CB f [a]= []:=by
 unfold CB;rw[List.filterMap_cons,Uw h];rfl
theorem Acg(F:Fence)(n:Nat)(h89:F.fn 189)(hro:F.round=none)(hn:1≤n)(l:Nat)(f:Func)(bi:Int)(Bf Bb:Nat)(S:Nat→Prop)(J Jx:List (Blk f)→World→Prop)(W:World)
 (hJ:AbidesFrom W.heap.size J) (hS:∀k,S k→k < W.heap.size)
 (hY:∀pre x W,J pre W→pre.length < 2→YieldAt F (n - 1) Tryz.prog l #[.int .i64 ((x:Blk f).1:Int)] W fun e W'=>
  (e= .returned (.bool true)∧J (pre++[x]) W'∧KS S W W')∨(e= .returned (.bool false)∧Jx (pre++[x]) W'))
 (hG:GoesAt W S f bi Bf Bb) (h0:J [] W):
 CallsIn F n Tryz.prog 189 #[.func (.yield l) #[] #[],.pointer (some ⟨Bb,0,none⟩),.pointer (some ⟨Bf,0,none⟩)] W fun e W'=>(∃v,e= .returned v)∧Akm (El f bi) J Jx W':=by
 obtain⟨hfS,⟨A,c,hf3,hBR⟩,hbS,hb0,hlen,hins⟩:=hG;have HBR:=Lib.hid hBR;have HINS:=Lib.hid hins;have HY:=Lib.hid hY;have H0:=Lib.hid h0;clear hBR hins hY h0;by_cases h0:bi < 0
 ·have d0:decide (bi < 0)=true:=decide_eq_true h0;have hnx:Hid (El f bi= []):=by
   show _=_;unfold El;rw[if_neg (by omega)]
  refine callsIn_of_wp Tryz.func189 rfl h89 ?_ hro;simp only[Tryz.ntmps189,List.size_toArray,List.length_cons,List.length_nil,Nat.reduceAdd,Nat.reduceSub,Array.replicate_succ,Array.replicate_zero,List.push_toArray,List.append_toArray,List.nil_append,List.cons_append]
  gi_wp2
  refine bodyPost_ret (results_none rfl _ _ _) rfl ?_;exact⟨⟨_,rfl⟩,.inl ⟨_,hnx.out.symm,H0.out⟩⟩
 ·have d0:decide (bi < 0)=false:=decide_eq_false h0;obtain⟨q,rfl⟩:=Int.eq_ofNat_of_zero_le (show 0≤bi by omega);by_cases h1:q < f.blocks.length
  ·have d1:decide ((f.blocks.length:Int)≤(q:Int))=false:=decide_eq_false (by omega);obtain⟨bl,hbk⟩:∃bl,f.blocks[q]? =some bl:=⟨_,List.getElem?_eq_getElem h1⟩
   obtain⟨bb,bo,Ai,ci,rfl,hbb,hc0,hc1,hnm,hIR⟩:=PU HBR.out hbk;have hnb:Hid (El f (q:Int)=MZ f bl):=by
    show _=_;unfold El;rw[if_pos (by omega),show((q:Int)).toNat=q from by omega,hbk]
   have hil:bl.ins.length≤2097152:=HINS.out bl (List.mem_of_getElem? hbk);have HIR:=Lib.hid hIR;have HBK:=Lib.hid hbk;clear hIR hbk hc0;by_cases h2:bl.ins= []
   ·have hz:bl.ins.length=0:=by rw[h2];rfl
    rw[hz]at hc1;have hnx:Hid (El f (q:Int)= []):=by
     show _=_;rw[hnb.out];unfold MZ;rw[h2];rfl
    clear h2;refine callsIn_of_wp Tryz.func189 rfl h89 ?_ hro;simp only[Tryz.ntmps189,List.size_toArray,List.length_cons,List.length_nil,Nat.reduceAdd,Nat.reduceSub,Array.replicate_succ,Array.replicate_zero,List.push_toArray,List.append_toArray,List.nil_append,List.cons_append]
    gi_wp2
    refine bodyPost_ret (results_none rfl _ _ _) rfl ?_;exact⟨⟨_,rfl⟩,.inl ⟨_,hnx.out.symm,H0.out⟩⟩
   ·obtain⟨li,hli⟩:∃li,bl.ins.length=li+1:=⟨bl.ins.length - 1,by have:=List.length_pos_iff.2 h2;omega⟩
    obtain⟨x,hxk⟩:∃x,bl.ins[li]? =some x:=⟨_,List.getElem?_eq_getElem (by omega)⟩
    obtain⟨ib,io,Aa,ca,rfl,hib,hat⟩:=Rv HIR.out hxk;have hnx:Hid (El f (q:Int)=CB f (EU x)):=by
     show _=_;rw[hnb.out];unfold MZ;rw[List.getLast?_eq_getElem?,show bl.ins.length - 1=li from by omega,hxk]
    have e0:=hat.c0;have e1:=hat.c1;have e2:=hat.c2;have e3:=hat.c3;have e4:=hat.c4;have e5:=hat.c5;have e6:=hat.c6;have e7:=hat.c7;have e8:=hat.c8;rw[hli]at hc1;have dz:((li:Int)+1 ==0)=false:=beq_eq_false_iff_ne.2 (by omega);have hll:li≤2097152:=by omega
    clear hat h2 hli hxk hil;have hcs:(x.op=9∧x.l2≠x.l1)∨(x.op=9∧x.l2=x.l1)∨x.op=8∨(x.op≠9∧x.op≠8):=by omega
    rcases hcs with⟨h9,hne⟩|⟨h9,heq⟩|h8|⟨n9,n8⟩
    ·have k9:(x.op ==9)=true:=beq_iff_eq.2 h9;have k9':(x.op !=9)=false:=by rw[h9];rfl
     have kn:(x.l2 !=x.l1)=true:=by rw[bne_iff_ne];exact hne
     have hws:Hid (EU x= [x.l1,x.l2]):=by
      show _=_;unfold EU;rw[if_pos h9,if_neg hne]
     have hJ1:Hid (J [] ((W.alloc (.cells #[.int .u8 x.op,.int .i64 x.d,.int .i64 x.a,.int .i64 x.b,.int .u32 x.n,.int .i64 x.f,.slice Aa x.args.length ca,.int .i64 x.l1,.int .i64 x.l2] 62)).alloc (.cells #[.int .i64 x.l1,.int .i64 x.l2] 28))):=
      CW hJ (CW hJ H0.out _) _
     have hK1:Hid (KS S W ((W.alloc (.cells #[.int .u8 x.op,.int .i64 x.d,.int .i64 x.a,.int .i64 x.b,.int .u32 x.n,.int .i64 x.f,.slice Aa x.args.length ca,.int .i64 x.l1,.int .i64 x.l2] 62)).alloc (.cells #[.int .i64 x.l1,.int .i64 x.l2] 28))):=
      (KS.refl.alloc hS _).alloc (fun k hk=>by have:=hS k hk;simp;omega) _
     clear h9 hne;refine callsIn_of_wp Tryz.func189 rfl h89 ?_ hro;simp only[Tryz.ntmps189,List.size_toArray,List.length_cons,List.length_nil,Nat.reduceAdd,Nat.reduceSub,Array.replicate_succ,Array.replicate_zero,List.push_toArray,List.append_toArray,List.nil_append,List.cons_append]
     gi_wp2
     have i0:∀w,(Instr.index 28 (.agg #[.int .i64 x.l1,.int .i64 x.l2]) (.int .i64 0)).run Tryz.prog w= .ok (.int .i64 x.l1) w:=fun _=>by kernel_rfl
     have i1:∀w,(Instr.index 28 (.agg #[.int .i64 x.l1,.int .i64 x.l2]) (.int .i64 1)).run Tryz.prog w= .ok (.int .i64 x.l2) w:=fun _=>by kernel_rfl
     gi_loopw [67] (fun i wr=>∃k:Nat,k≤2∧i= .int .i64 k∧J (CB f ([x.l1,x.l2].take k)) wr∧KS S W wr) (fun i _=>2 - (RowKit.intOf i).toNat)
     case atStart=>exact⟨0,Nat.zero_le _,rfl,hJ1.out,hK1.out⟩
     case round=>
      obtain⟨k,hk,rfl,hJk,hKk⟩:=hrel;have hf3':=hKk.cell (a:=⟨Bf,3,none⟩) hfS hf3;have hk3:k=0∨k=1∨k=2:=by omega
      clear hJ1 hK1;rcases hk3 with rfl|rfl|rfl
      ·by_cases hin:0≤x.l1∧x.l1 < (f.blocks.length:Int)
       ·obtain⟨m,hm⟩:=Int.eq_ofNat_of_zero_le hin.1;have hml:m < f.blocks.length:=by have:=hin.2;omega
        have hst:Hid (CB f [x.l1]=CB f []++[⟨m,hml⟩]):=by
         show _=_;rw[E6 hml hm];rfl
        have hprf:Hid (CB f []++[⟨m,hml⟩] <+:El f (q:Int)):=by
         show _ <+:_;rw[←hst.out,hnx.out,hws.out];exact List.IsPrefix.filterMap _ ⟨[x.l2],rfl⟩
        obtain⟨fn,tmps,assign,body,hy,hR⟩:=HY.out _ (⟨m,hml⟩:Blk f) wr hJk (Nat.lt_of_le_of_lt (Ia _ _) (by simp));have t0:decide (0≤x.l1)=true:=decide_eq_true hin.1;have t1:decide (x.l1 < (f.blocks.length:Int))=true:=decide_eq_true hin.2;dsimp only at hy;rw[←hm]at hy;clear hin hm
        gi_wp2
        refine hR.mono ?_;rintro e W3 (⟨rfl,hJ3,hk3⟩|⟨rfl,hJx3⟩)
        ·gi_wp2
         go_roundw
         case rel=>exact⟨1,by omega,by rfl,by rw[show([x.l1,x.l2].take 1)= [x.l1]from rfl,hst.out];exact hJ3,hKk.trans hk3⟩
         case measure=>simp[RowKit.intOf]
        ·gi_wp2
         refine bodyPost_ret (results_none rfl _ _ _) rfl ?_;exact⟨⟨_,rfl⟩,.inr ⟨_,hprf.out,hJx3⟩⟩
       ·have hst:Hid (CB f [x.l1]=CB f []):=by
         show _=_;rw[D2 hin];rfl
        have hJn:J (CB f [x.l1]) wr:=by rw[hst.out];exact hJk
        by_cases h0':0≤x.l1
        ·have t0:decide (0≤x.l1)=true:=decide_eq_true h0';have t1:decide (x.l1 < (f.blocks.length:Int))=false:=decide_eq_false (by omega)
         gi_wp2
         refine⟨fun _ h=>(by cases h),?_⟩
         gi_wp2
         go_roundw
         case rel=>exact⟨1,by omega,by rfl,hJn,hKk⟩
         case measure=>simp[RowKit.intOf]
        ·have t0:decide (0≤x.l1)=false:=decide_eq_false h0'
         gi_wp2
         refine⟨fun _ h=>(by cases h),?_⟩
         gi_wp2
         go_roundw
         case rel=>exact⟨1,by omega,by rfl,hJn,hKk⟩
         case measure=>simp[RowKit.intOf]
      ·by_cases hin:0≤x.l2∧x.l2 < (f.blocks.length:Int)
       ·obtain⟨m,hm⟩:=Int.eq_ofNat_of_zero_le hin.1;have hml:m < f.blocks.length:=by have:=hin.2;omega
        have hst:Hid (CB f [x.l1,x.l2]=CB f [x.l1]++[⟨m,hml⟩]):=by
         show _=_;exact(F2 f [x.l1] [_]).trans (by rw[E6 hml hm])
        have hprf:Hid (CB f [x.l1]++[⟨m,hml⟩] <+:El f (q:Int)):=by
         show _ <+:_;rw[←hst.out,hnx.out,hws.out];exact List.prefix_rfl
        obtain⟨fn,tmps,assign,body,hy,hR⟩:=HY.out _ (⟨m,hml⟩:Blk f) wr hJk (Nat.lt_of_le_of_lt (Ia _ _) (by simp));have t0:decide (0≤x.l2)=true:=decide_eq_true hin.1;have t1:decide (x.l2 < (f.blocks.length:Int))=true:=decide_eq_true hin.2;dsimp only at hy;rw[←hm]at hy;clear hin hm
        gi_wp2
        refine hR.mono ?_;rintro e W3 (⟨rfl,hJ3,hk3⟩|⟨rfl,hJx3⟩)
        ·gi_wp2
         go_roundw
         case rel=>exact⟨2,by omega,by rfl,by rw[show([x.l1,x.l2].take 2)= [x.l1,x.l2]from rfl,hst.out];exact hJ3,hKk.trans hk3⟩
         case measure=>simp[RowKit.intOf]
        ·gi_wp2
         refine bodyPost_ret (results_none rfl _ _ _) rfl ?_;exact⟨⟨_,rfl⟩,.inr ⟨_,hprf.out,hJx3⟩⟩
       ·have hst:Hid (CB f [x.l1,x.l2]=CB f [x.l1]):=by
         show _=_;exact(F2 f [x.l1] [_]).trans (by rw[D2 hin,List.append_nil])
        have hJn:J (CB f [x.l1,x.l2]) wr:=by rw[hst.out];exact hJk
        by_cases h0':0≤x.l2
        ·have t0:decide (0≤x.l2)=true:=decide_eq_true h0';have t1:decide (x.l2 < (f.blocks.length:Int))=false:=decide_eq_false (by omega)
         gi_wp2
         refine⟨fun _ h=>(by cases h),?_⟩
         gi_wp2
         go_roundw
         case rel=>exact⟨2,by omega,by rfl,hJn,hKk⟩
         case measure=>simp[RowKit.intOf]
        ·have t0:decide (0≤x.l2)=false:=decide_eq_false h0'
         gi_wp2
         refine⟨fun _ h=>(by cases h),?_⟩
         gi_wp2
         go_roundw
         case rel=>exact⟨2,by omega,by rfl,hJn,hKk⟩
         case measure=>simp[RowKit.intOf]
      ·have hfin:Hid (J (El f (q:Int)) wr):=by
        show J _ _;rw[hnx.out,hws.out];exact hJk
       gi_wp2
       go_end0
       exact⟨⟨_,rfl⟩,.inl ⟨_,rfl,hfin.out⟩⟩
    ·have k9:(x.op ==9)=true:=beq_iff_eq.2 h9;have k9':(x.op !=9)=false:=by rw[h9];rfl
     have kn:(x.l2 !=x.l1)=false:=by rw[heq];simp
     have hws:Hid (EU x= [x.l1,(-1)]):=by
      show _=_;unfold EU;rw[if_pos h9,if_pos heq]
     have hJ1:Hid (J [] ((W.alloc (.cells #[.int .u8 x.op,.int .i64 x.d,.int .i64 x.a,.int .i64 x.b,.int .u32 x.n,.int .i64 x.f,.slice Aa x.args.length ca,.int .i64 x.l1,.int .i64 x.l2] 62)).alloc (.cells #[.int .i64 x.l1,.int .i64 (-1)] 28))):=
      CW hJ (CW hJ H0.out _) _
     have hK1:Hid (KS S W ((W.alloc (.cells #[.int .u8 x.op,.int .i64 x.d,.int .i64 x.a,.int .i64 x.b,.int .u32 x.n,.int .i64 x.f,.slice Aa x.args.length ca,.int .i64 x.l1,.int .i64 x.l2] 62)).alloc (.cells #[.int .i64 x.l1,.int .i64 (-1)] 28))):=
      (KS.refl.alloc hS _).alloc (fun k hk=>by have:=hS k hk;simp;omega) _
     clear h9 heq;refine callsIn_of_wp Tryz.func189 rfl h89 ?_ hro;simp only[Tryz.ntmps189,List.size_toArray,List.length_cons,List.length_nil,Nat.reduceAdd,Nat.reduceSub,Array.replicate_succ,Array.replicate_zero,List.push_toArray,List.append_toArray,List.nil_append,List.cons_append]
     gi_wp2
     have i0:∀w,(Instr.index 28 (.agg #[.int .i64 x.l1,.int .i64 (-1)]) (.int .i64 0)).run Tryz.prog w= .ok (.int .i64 x.l1) w:=fun _=>by kernel_rfl
     have i1:∀w,(Instr.index 28 (.agg #[.int .i64 x.l1,.int .i64 (-1)]) (.int .i64 1)).run Tryz.prog w= .ok (.int .i64 (-1)) w:=fun _=>by kernel_rfl
     gi_loopw [67] (fun i wr=>∃k:Nat,k≤2∧i= .int .i64 k∧J (CB f ([x.l1,(-1)].take k)) wr∧KS S W wr) (fun i _=>2 - (RowKit.intOf i).toNat)
     case atStart=>exact⟨0,Nat.zero_le _,rfl,hJ1.out,hK1.out⟩
     case round=>
      obtain⟨k,hk,rfl,hJk,hKk⟩:=hrel;have hf3':=hKk.cell (a:=⟨Bf,3,none⟩) hfS hf3;have hk3:k=0∨k=1∨k=2:=by omega
      clear hJ1 hK1;rcases hk3 with rfl|rfl|rfl
      ·by_cases hin:0≤x.l1∧x.l1 < (f.blocks.length:Int)
       ·obtain⟨m,hm⟩:=Int.eq_ofNat_of_zero_le hin.1;have hml:m < f.blocks.length:=by have:=hin.2;omega
        have hst:Hid (CB f [x.l1]=CB f []++[⟨m,hml⟩]):=by
         show _=_;rw[E6 hml hm];rfl
        have hprf:Hid (CB f []++[⟨m,hml⟩] <+:El f (q:Int)):=by
         show _ <+:_;rw[←hst.out,hnx.out,hws.out];exact List.IsPrefix.filterMap _ ⟨[(-1)],rfl⟩
        obtain⟨fn,tmps,assign,body,hy,hR⟩:=HY.out _ (⟨m,hml⟩:Blk f) wr hJk (Nat.lt_of_le_of_lt (Ia _ _) (by simp));have t0:decide (0≤x.l1)=true:=decide_eq_true hin.1;have t1:decide (x.l1 < (f.blocks.length:Int))=true:=decide_eq_true hin.2;dsimp only at hy;rw[←hm]at hy;clear hin hm
        gi_wp2
        refine hR.mono ?_;rintro e W3 (⟨rfl,hJ3,hk3⟩|⟨rfl,hJx3⟩)
        ·gi_wp2
         go_roundw
         case rel=>exact⟨1,by omega,by rfl,by rw[show([x.l1,(-1)].take 1)= [x.l1]from rfl,hst.out];exact hJ3,hKk.trans hk3⟩
         case measure=>simp[RowKit.intOf]
        ·gi_wp2
         refine bodyPost_ret (results_none rfl _ _ _) rfl ?_;exact⟨⟨_,rfl⟩,.inr ⟨_,hprf.out,hJx3⟩⟩
       ·have hst:Hid (CB f [x.l1]=CB f []):=by
         show _=_;rw[D2 hin];rfl
        have hJn:J (CB f [x.l1]) wr:=by rw[hst.out];exact hJk
        by_cases h0':0≤x.l1
        ·have t0:decide (0≤x.l1)=true:=decide_eq_true h0';have t1:decide (x.l1 < (f.blocks.length:Int))=false:=decide_eq_false (by omega)
         gi_wp2
         refine⟨fun _ h=>(by cases h),?_⟩
         gi_wp2
         go_roundw
         case rel=>exact⟨1,by omega,by rfl,hJn,hKk⟩
         case measure=>simp[RowKit.intOf]
        ·have t0:decide (0≤x.l1)=false:=decide_eq_false h0'
         gi_wp2
         refine⟨fun _ h=>(by cases h),?_⟩
         gi_wp2
         go_roundw
         case rel=>exact⟨1,by omega,by rfl,hJn,hKk⟩
         case measure=>simp[RowKit.intOf]
      ·have hst:Hid (CB f [x.l1,(-1)]=CB f [x.l1]):=by
        show _=_;exact(F2 f [x.l1] [_]).trans (by rw[D2 (a:=-1) (by omega),List.append_nil])
       have hJn:J (CB f [x.l1,(-1)]) wr:=by rw[hst.out];exact hJk
       gi_wp2
       refine⟨fun _ h=>(by cases h),?_⟩
       gi_wp2
       go_roundw
       case rel=>exact⟨2,by omega,by rfl,hJn,hKk⟩
       case measure=>simp[RowKit.intOf]
      ·have hfin:Hid (J (El f (q:Int)) wr):=by
        show J _ _;rw[hnx.out,hws.out];exact hJk
       gi_wp2
       go_end0
       exact⟨⟨_,rfl⟩,.inl ⟨_,rfl,hfin.out⟩⟩
    ·have k9:(x.op ==9)=false:=by rw[h8];rfl
     have k9':(x.op !=9)=true:=by rw[h8];rfl
     have k8':(x.op !=8)=false:=by rw[h8];rfl
     have hws:Hid (EU x= [x.l1,(-1)]):=by
      show _=_;unfold EU;rw[if_neg (by omega),if_pos h8]
     have hJ1:Hid (J [] ((W.alloc (.cells #[.int .u8 x.op,.int .i64 x.d,.int .i64 x.a,.int .i64 x.b,.int .u32 x.n,.int .i64 x.f,.slice Aa x.args.length ca,.int .i64 x.l1,.int .i64 x.l2] 62)).alloc (.cells #[.int .i64 x.l1,.int .i64 (-1)] 28))):=
      CW hJ (CW hJ H0.out _) _
     have hK1:Hid (KS S W ((W.alloc (.cells #[.int .u8 x.op,.int .i64 x.d,.int .i64 x.a,.int .i64 x.b,.int .u32 x.n,.int .i64 x.f,.slice Aa x.args.length ca,.int .i64 x.l1,.int .i64 x.l2] 62)).alloc (.cells #[.int .i64 x.l1,.int .i64 (-1)] 28))):=
      (KS.refl.alloc hS _).alloc (fun k hk=>by have:=hS k hk;simp;omega) _
     clear h8;refine callsIn_of_wp Tryz.func189 rfl h89 ?_ hro;simp only[Tryz.ntmps189,List.size_toArray,List.length_cons,List.length_nil,Nat.reduceAdd,Nat.reduceSub,Array.replicate_succ,Array.replicate_zero,List.push_toArray,List.append_toArray,List.nil_append,List.cons_append]
     gi_wp2
     have i0:∀w,(Instr.index 28 (.agg #[.int .i64 x.l1,.int .i64 (-1)]) (.int .i64 0)).run Tryz.prog w= .ok (.int .i64 x.l1) w:=fun _=>by kernel_rfl
     have i1:∀w,(Instr.index 28 (.agg #[.int .i64 x.l1,.int .i64 (-1)]) (.int .i64 1)).run Tryz.prog w= .ok (.int .i64 (-1)) w:=fun _=>by kernel_rfl
     gi_loopw [67] (fun i wr=>∃k:Nat,k≤2∧i= .int .i64 k∧J (CB f ([x.l1,(-1)].take k)) wr∧KS S W wr) (fun i _=>2 - (RowKit.intOf i).toNat)
     case atStart=>exact⟨0,Nat.zero_le _,rfl,hJ1.out,hK1.out⟩
     case round=>
      obtain⟨k,hk,rfl,hJk,hKk⟩:=hrel;have hf3':=hKk.cell (a:=⟨Bf,3,none⟩) hfS hf3;have hk3:k=0∨k=1∨k=2:=by omega
      clear hJ1 hK1;rcases hk3 with rfl|rfl|rfl
      ·by_cases hin:0≤x.l1∧x.l1 < (f.blocks.length:Int)
       ·obtain⟨m,hm⟩:=Int.eq_ofNat_of_zero_le hin.1;have hml:m < f.blocks.length:=by have:=hin.2;omega
        have hst:Hid (CB f [x.l1]=CB f []++[⟨m,hml⟩]):=by
         show _=_;rw[E6 hml hm];rfl
        have hprf:Hid (CB f []++[⟨m,hml⟩] <+:El f (q:Int)):=by
         show _ <+:_;rw[←hst.out,hnx.out,hws.out];exact List.IsPrefix.filterMap _ ⟨[(-1)],rfl⟩
        obtain⟨fn,tmps,assign,body,hy,hR⟩:=HY.out _ (⟨m,hml⟩:Blk f) wr hJk (Nat.lt_of_le_of_lt (Ia _ _) (by simp));have t0:decide (0≤x.l1)=true:=decide_eq_true hin.1;have t1:decide (x.l1 < (f.blocks.length:Int))=true:=decide_eq_true hin.2;dsimp only at hy;rw[←hm]at hy;clear hin hm
        gi_wp2
        refine hR.mono ?_;rintro e W3 (⟨rfl,hJ3,hk3⟩|⟨rfl,hJx3⟩)
        ·gi_wp2
         go_roundw
         case rel=>exact⟨1,by omega,by rfl,by rw[show([x.l1,(-1)].take 1)= [x.l1]from rfl,hst.out];exact hJ3,hKk.trans hk3⟩
         case measure=>simp[RowKit.intOf]
        ·gi_wp2
         refine bodyPost_ret (results_none rfl _ _ _) rfl ?_;exact⟨⟨_,rfl⟩,.inr ⟨_,hprf.out,hJx3⟩⟩
       ·have hst:Hid (CB f [x.l1]=CB f []):=by
         show _=_;rw[D2 hin];rfl
        have hJn:J (CB f [x.l1]) wr:=by rw[hst.out];exact hJk
        by_cases h0':0≤x.l1
        ·have t0:decide (0≤x.l1)=true:=decide_eq_true h0';have t1:decide (x.l1 < (f.blocks.length:Int))=false:=decide_eq_false (by omega)
         gi_wp2
         refine⟨fun _ h=>(by cases h),?_⟩
         gi_wp2
         go_roundw
         case rel=>exact⟨1,by omega,by rfl,hJn,hKk⟩
         case measure=>simp[RowKit.intOf]
        ·have t0:decide (0≤x.l1)=false:=decide_eq_false h0'
         gi_wp2
         refine⟨fun _ h=>(by cases h),?_⟩
         gi_wp2
         go_roundw
         case rel=>exact⟨1,by omega,by rfl,hJn,hKk⟩
         case measure=>simp[RowKit.intOf]
      ·have hst:Hid (CB f [x.l1,(-1)]=CB f [x.l1]):=by
        show _=_;exact(F2 f [x.l1] [_]).trans (by rw[D2 (a:=-1) (by omega),List.append_nil])
       have hJn:J (CB f [x.l1,(-1)]) wr:=by rw[hst.out];exact hJk
       gi_wp2
       refine⟨fun _ h=>(by cases h),?_⟩
       gi_wp2
       go_roundw
       case rel=>exact⟨2,by omega,by rfl,hJn,hKk⟩
       case measure=>simp[RowKit.intOf]
      ·have hfin:Hid (J (El f (q:Int)) wr):=by
        show J _ _;rw[hnx.out,hws.out];exact hJk
       gi_wp2
       go_end0
       exact⟨⟨_,rfl⟩,.inl ⟨_,rfl,hfin.out⟩⟩
    ·have hny:Hid (El f (q:Int)= []):=by
      show _=_;rw[hnx.out];unfold EU;rw[if_neg n9,if_neg n8];rfl
     have k9:(x.op ==9)=false:=beq_eq_false_iff_ne.2 n9;have k9':(x.op !=9)=true:=by rw[bne_iff_ne];exact n9
     have k8':(x.op !=8)=true:=by rw[bne_iff_ne];exact n8
     have hJ1:Hid (J [] ((W.alloc (.cells #[.int .u8 x.op,.int .i64 x.d,.int .i64 x.a,.int .i64 x.b,.int .u32 x.n,.int .i64 x.f,.slice Aa x.args.length ca,.int .i64 x.l1,.int .i64 x.l2] 62)).alloc (.cells #[.int .i64 x.l1,.int .i64 (-1)] 28))):=
      CW hJ (CW hJ H0.out _) _
     clear n9 n8;refine callsIn_of_wp Tryz.func189 rfl h89 ?_ hro;simp only[Tryz.ntmps189,List.size_toArray,List.length_cons,List.length_nil,Nat.reduceAdd,Nat.reduceSub,Array.replicate_succ,Array.replicate_zero,List.push_toArray,List.append_toArray,List.nil_append,List.cons_append]
     gi_wp2
     refine bodyPost_ret (results_none rfl _ _ _) rfl ?_;exact⟨⟨_,rfl⟩,.inl ⟨_,hny.out.symm,hJ1.out⟩⟩
  ·have d1:decide ((f.blocks.length:Int)≤(q:Int))=true:=decide_eq_true (by omega);have hnx:Hid (El f (q:Int)= []):=by
    show _=_;unfold El;rw[if_pos (by omega),show((q:Int)).toNat=q from by omega,List.getElem?_eq_none (by omega)]
   refine callsIn_of_wp Tryz.func189 rfl h89 ?_ hro;simp only[Tryz.ntmps189,List.size_toArray,List.length_cons,List.length_nil,Nat.reduceAdd,Nat.reduceSub,Array.replicate_succ,Array.replicate_zero,List.push_toArray,List.append_toArray,List.nil_append,List.cons_append]
   gi_wp2
   refine bodyPost_ret (results_none rfl _ _ _) rfl ?_;exact⟨⟨_,rfl⟩,.inl ⟨_,hnx.out.symm,H0.out⟩⟩
attribute [local go_sem] Oper.semAt_some
theorem Afo(F:Fence)(n:Nat)(h60:F.fn 164)(hro:F.round=none)(cs:List Value)(bi:Int)(w:World)(hcs:cs.length=4):
 CallsIn F n Tryz.prog 164 #[.agg cs.toArray,.int .i64 bi] w fun e w'=>e= .returned (.func (.func 189) #[] #[.pointer (some ⟨w.heap.size+1,0,none⟩),.pointer (some ⟨w.heap.size,0,none⟩)])∧
  w'=(w.alloc (.cells cs.toArray 24)).alloc (.cells #[.int .i64 bi] 3):=by
 match cs,hcs with
 | [a,b,c,d],_=>
  refine callsIn_of_wp Tryz.func164 rfl h60 ?_ hro;simp only[Tryz.ntmps164,List.size_toArray,List.length_cons,List.length_nil,Nat.reduceAdd,Nat.reduceSub,Array.replicate_succ,Array.replicate_zero,List.push_toArray,List.append_toArray,List.nil_append,List.cons_append]
  gi_wp2
  go_ret
  exact⟨rfl,rfl⟩
theorem Afp{W:World}{S:Nat→Prop}{cs:List Value}{f:Func}{bi:Int}(hR:CX.RS W S cs f)(hS:∀k,S k→k < W.heap.size)(hl:f.blocks.length≤2097152)(hi:∀b∈f.blocks,b.ins.length≤2097152):
 GoesAt ((W.alloc (.cells cs.toArray 24)).alloc (.cells #[.int .i64 bi] 3)) (fun k=>S k∨k=W.heap.size∨k=W.heap.size+1) f bi W.heap.size (W.heap.size+1):=by
 obtain⟨A,c,rfl,_,_,_,hB⟩:=I3.1 hR;refine⟨.inr (.inl rfl),⟨A,c,?_,?_⟩,.inr (.inr rfl),?_,hl,hi⟩
 ·exact BK (Ci (heap_alloc_new W _) _) rfl
 ·refine B3.slice.keepS hB (fun k hk=>?_) (fun k hk=>.inl hk);have hk':=hS k hk;rw[Below.heap_alloc _ _ _ (by simp;omega),Below.heap_alloc _ _ _ hk']
 ·have h:=heap_alloc_new (W.alloc (.cells [.string f.name,.int .i64 f.args,.int .i64 f.regs,.slice A f.blocks.length c].toArray 24)) (.cells #[.int .i64 bi] 3);rw[show(W.alloc (.cells [.string f.name,.int .i64 f.args,.int .i64 f.regs,.slice A f.blocks.length c].toArray 24)).heap.size=W.heap.size+1 from by simp]at h;exact BK (cs:=[_]) h rfl
theorem GoesAt.keep{W W':World}{S:Nat→Prop}{f:Func}{bi:Int}{Bf Bb:Nat}(h:GoesAt W S f bi Bf Bb)(hk:∀k,S k→W'.heap[k]? =W.heap[k]?):GoesAt W' S f bi Bf Bb:=by
 obtain⟨h1,⟨A,c,h2,h3⟩,h4,h5,h6,h7⟩:=h;exact⟨h1,⟨A,c,(World.cell?_of_block (w:=W) (a:=⟨Bf,3,none⟩) (hk _ h1)).trans h2,B3.slice.keepS h3 hk (fun _ h=>h)⟩,h4,(World.cell?_of_block (w:=W) (a:=⟨Bb,0,none⟩) (hk _ h4)).trans h5,h6,h7⟩
theorem Wu(F:Fence)(n:Nat)(h89:F.fn 189)(hro:F.round=none)(hn:1≤n)(f:Func)(bi:Int)(Bf Bb:Nat)(S:Nat→Prop)(w:World)(hS:∀k,S k→k < w.heap.size)(hG:GoesAt w S f bi Bf Bb):
 SeqStopsK F n Tryz.prog 189 #[.pointer (some ⟨Bb,0,none⟩),.pointer (some ⟨Bf,0,none⟩)] (fun x:Blk f=>#[Value.int .i64 ((x.1:Nat):Int)]) (KS S) (fun ys=>ys=El f bi) (fun pre=>pre <+:El f bi) 2 w:=fun l J Jx W hW hJ _ hY h0=>
 Acg F n h89 hro hn l f bi Bf Bb S J Jx W hJ (fun k hk=>Nat.lt_of_lt_of_le (hS k hk) hW.size) hY (hG.keep (fun k hk=>hW.block k (hS k hk))) h0
theorem Aij{S:Nat→Prop}{A B C:World}(h:KS S A B)(k:KS S B C):KS S A C:=h.trans k
theorem Aik{S:Nat→Prop}{w:World}(hS:∀k,S k→k < w.heap.size)(W:World)(l:Nat)(o o':Obj)(hl:w.heap.size≤l)(h:W.heap[l]? =some o)(_:o.isCells=false)(_:o.isWalk=false):KS S W (W.putObj l o'):=by
 have hg:=grownBy_putObj' W l o';refine⟨hg.size,fun k hk=>hg.block k ?_ ?_⟩
 ·have:=hS k hk;have:=(Array.getElem?_eq_some_iff.1 h).1;omega
 ·intro e;injection e with e;have:=hS k hk;omega
def PV{f:Func}(x:Blk f):Int:=((x.1:Nat):Int)
def G3(f:Func)(b:Int):List Int:=(El f b).map PV
end Mu
end
section
namespace Mu
open Go Go.RowKit Go.Proofs
def Br(l:List Int):Prop:=∀x∈l,wfI .i64 x
structure okIns(x:Ins):Prop where
 op:wfI .u8 x.op
 d:wfI .i64 x.d
 a:wfI .i64 x.a
 b:wfI .i64 x.b
 n:wfI .u32 x.n
 f:wfI .i64 x.f
 l1:wfI .i64 x.l1
 l2:wfI .i64 x.l2
 args:Br x.args
structure okBlock(b:Block):Prop where
 name:b.name.size≤maxLen
 ins:∀x∈b.ins,okIns x
structure okFunc(f:Func):Prop where
 name:f.name.size≤maxLen
 args:wfI .i64 f.args
 regs:wfI .i64 f.regs
 blocks:∀b∈f.blocks,okBlock b
section
variable{w:World}{S:Nat→Prop}{cs:List Value}
theorem Pw{α:Type}{T:Ty α}{p:α→Prop}{l:List α}(hp:∀cs d,T.RS w S cs d→p d)(h:T.slice.RS w S cs l):∀x∈l,p x:=by
 obtain⟨A,c,rfl,_,_,hi⟩:=h;intro x hx;obtain⟨j,hj⟩:=List.mem_iff_getElem?.1 hx;obtain⟨b,o,_,_,cs',h1,_⟩:=hi j x hj;exact hp cs' x h1
theorem Ae3{l:List Int}(h:tInt.slice.RS w S cs l):Br l:=Pw (T:=tInt) (p:=wfI .i64) (fun _ _ h=>(Qm.1 h).2) h
theorem Aie{x:Ins}(h:Ep.RS w S cs x):okIns x:=by
 obtain⟨A,c,hI⟩:=Fk.1 h;exact⟨hI.op,hI.d,hI.a,hI.b,hI.n,hI.f,hI.l1,hI.l2,Ae3 hI.args⟩
theorem Abx{x:Block}(h:B3.RS w S cs x):okBlock x:=by
 obtain⟨A,c,_,h1,h2⟩:=Is.1 h;exact⟨h1,Pw (fun _ _ h=>Aie h) h2⟩
theorem Ae4{x:Func}(h:CX.RS w S cs x):okFunc x:=by
 obtain⟨A,c,_,h1,h2,h3,h4⟩:=I3.1 h;exact⟨h1,h2,h3,Pw (fun _ _ h=>Abx h) h4⟩
variable{h:List ABlk}{ψ:Nat→Value}
theorem KJ{x:Ins}(ho:okIns x)(H:Ah w S h ψ (BB x) cs):Ep.RS w S cs x:=by
 simp only[BB,Ah,AV.rel]at H;obtain⟨_,_,rfl,rfl,_,_,rfl,rfl,_,_,rfl,rfl,_,_,rfl,rfl,_,_,rfl,rfl,_,_,rfl,rfl,_,_,rfl,ha,_,_,rfl,rfl,_,_,rfl,rfl,rfl⟩:=H;obtain⟨A,c,rfl⟩:=Cs ha;exact Fk.2 ⟨A,c,rfl,ho.op,ho.d,ho.a,ho.b,ho.n,ho.f,ho.l1,ho.l2,ha⟩
theorem Q2{x:Block}(ho:x.name.size≤maxLen)(H:Ah w S h ψ (Eg x) cs):B3.RS w S cs x:=by
 simp only[Eg,Ah,AV.rel]at H;obtain⟨_,_,rfl,rfl,_,_,rfl,ha,rfl⟩:=H;obtain⟨A,c,rfl⟩:=Cs ha;exact Is.2 ⟨A,c,rfl,ho,ha⟩
theorem LZ{x:Func}(ho:okFunc x)(H:Ah w S h ψ (Aq x) cs):CX.RS w S cs x:=by
 simp only[Aq,Ah,AV.rel]at H;obtain⟨_,_,rfl,rfl,_,_,rfl,rfl,_,_,rfl,rfl,_,_,rfl,ha,rfl⟩:=H;obtain⟨A,c,rfl⟩:=Cs ha;exact I3.2 ⟨A,c,rfl,ho.name,ho.args,ho.regs,ha⟩
end
section
variable{P:Program}
theorem Ks{f:FuncId}{args:List AV}{v:Value}(hE:B6 P f=true)(h:∀(w:World) (vs:List Value),Ah w (fun k=>k < w.heap.size) [] ψ0 args vs→Calls P f vs.toArray w fun e w'=>e= .returned v∧Below w.heap.size w w'):Fn P f args (.lit v):=
 ⟨hE,fun w S vs hS hr=>(h w vs (Ay (Ext.grow [] ψ0 (fun _ _=>rfl) hS) _ _ hr)).mono fun e w' ⟨he,hb⟩=>⟨v,he,hb,S,fun _ h=>h,fun _ h=>.inl h,fun k hk=>Nat.lt_of_lt_of_le (hS k hk) hb.size,by unfold AV.rel;rfl⟩⟩
theorem OP{f:FuncId}{args:List AV}{v u:Value}(hE:B6 P f=true)(h:∀(w:World) (vs:List Value),Ah w (fun k=>k < w.heap.size) [] ψ0 args vs→Calls P f vs.toArray w fun e w'=>e= .returned (.tuple #[v,u])∧Below w.heap.size w w'):Fn P f args (.tup [.lit v,.lit u]):=
 ⟨hE,fun w S vs hS hr=>(h w vs (Ay (Ext.grow [] ψ0 (fun _ _=>rfl) hS) _ _ hr)).mono fun e w' ⟨he,hb⟩=>⟨_,he,hb,S,fun _ h=>h,fun _ h=>.inl h,fun k hk=>Nat.lt_of_lt_of_le (hS k hk) hb.size,by
  unfold AV.rel;exact⟨[v,u],rfl,by simp[Ah,AV.rel]⟩⟩⟩
theorem OQ{f:FuncId}{args:List AV}{l:List Int}(hE:B6 P f=true)(hl:Br l)(h:∀(w:World) (vs:List Value),Ah w (fun k=>k < w.heap.size) [] ψ0 args vs→Calls P f vs.toArray w fun e w'=>∃v,e= .returned v∧Hm w' w.heap.size v l∧Below w.heap.size w w'):Fn P f args (.bs tInt l):=
 ⟨hE,fun w S vs hS hr=>(h w vs (Ay (Ext.grow [] ψ0 (fun _ _=>rfl) hS) _ _ hr)).mono fun e w' ⟨v,he,ho,hb⟩=>by
  refine⟨v,he,hb,fun k=>S k∨v.ownBlock=some k,fun _ h=>.inl h,fun k hk=>hk.imp id fun e=>(ho.lt k e).1,fun k hk=>?_,?_⟩
  ·rcases hk with hk|hk
   ·exact Nat.lt_of_lt_of_le (hS k hk) hb.size
   ·exact(ho.lt k hk).2
  ·unfold AV.rel;exact tInt.slice.keepS (MT ho hl) (fun _ _=>rfl) fun k hk=>.inr hk⟩
theorem NF{f:FuncId}{args:List AV}{α:Type}{T:Ty α}{l:List α}(hE:B6 P f=true)(h:∀(w:World) (vs:List Value),Ah w (fun k=>k < w.heap.size) [] ψ0 args vs→Calls P f vs.toArray w fun e w'=>∃v,e= .returned v∧T.slice.RS w' (fun k=>w.heap.size≤k∧k < w'.heap.size) [v] l∧Below w.heap.size w w'):Fn P f args (.bs T l):=
 ⟨hE,fun w S vs hS hr=>(h w vs (Ay (Ext.grow [] ψ0 (fun _ _=>rfl) hS) _ _ hr)).mono fun e w' ⟨v,he,ho,hb⟩=>by
  refine⟨v,he,hb,fun k=>S k∨(w.heap.size≤k∧k < w'.heap.size),fun _ h=>.inl h,fun k hk=>hk.imp id fun e=>e.1,fun k hk=>?_,?_⟩
  ·rcases hk with hk|hk
   ·exact Nat.lt_of_lt_of_le (hS k hk) hb.size
   ·exact hk.2
  ·unfold AV.rel;exact T.slice.keepS ho (fun _ _=>rfl) fun k hk=>.inr hk⟩
theorem Aa4{w:World}{S:Nat→Prop}{h:List ABlk}{ψ:Nat→Value}{x:AV}{vs:List Value}(H:Ah w S h ψ [x] vs):∃v,vs= [v]∧AV.rel w S h ψ x v:=by
 simp only[Ah]at H;obtain⟨v,_,rfl,h1,rfl⟩:=H;exact⟨v,rfl,h1⟩
theorem Akd{w:World}{S:Nat→Prop}{h:List ABlk}{ψ:Nat→Value}{x y:AV}{vs:List Value}(H:Ah w S h ψ [x,y] vs):∃v u,vs= [v,u]∧AV.rel w S h ψ x v∧AV.rel w S h ψ y u:=by
 simp only[Ah]at H;obtain⟨v,_,rfl,h1,u,_,rfl,h2,rfl⟩:=H;exact⟨v,u,rfl,h1,h2⟩
theorem Jb{w:World}{S:Nat→Prop}{h:List ABlk}{ψ:Nat→Value}{l:List AV}{v:Value}(H:AV.rel w S h ψ (.agg l) v):∃cs,v= .agg cs.toArray∧Ah w S h ψ l cs:=by unfold AV.rel at H;exact H
theorem Aer{w:World}{S:Nat→Prop}{h:List ABlk}{ψ:Nat→Value}{u v:Value}(H:AV.rel w S h ψ (.lit u) v):v=u:=by unfold AV.rel at H;exact H
theorem Yn{w:World}{S:Nat→Prop}{h:List ABlk}{ψ:Nat→Value}{α:Type}{T:Ty α}{l:List α}{v:Value}(H:AV.rel w S h ψ (.bs T l) v):T.slice.RS w S [v] l:=by unfold AV.rel at H;exact H
end
theorem Fm{x:Ins}(h:okIns x):Br (readsC x):=by
 intro r hr;unfold readsC at hr;simp only[List.mem_append]at hr;rcases hr with(hr|hr)|hr <;> split at hr <;> first|(simp at hr;done)|(simp at hr;subst hr;first|exact h.a|exact h.b)|exact h.args r hr
theorem EH(x:Ins)(ho:okIns x)(hl:x.args.length≤2097152):Fn Tryz.prog 61 [.agg (BB x)] (.bs tInt (readsC x)):=
 OQ (by kernel_rfl) (Fm ho) fun w vs hr=>by
  obtain⟨v,rfl,hv⟩:=Aa4 hr;obtain⟨cs,rfl,hc⟩:=Jb hv;exact Ys x w cs (KJ ho hc) hl
theorem E2(x:Ins)(ho:okIns x):Fn Tryz.prog 62 [.agg (BB x)] (.tup [.lit (.int .i64 (if AY x then x.d else 0)),.lit (.bool (AY x))]):=
 OP (by kernel_rfl) fun w vs hr=>by
  obtain⟨v,rfl,hv⟩:=Aa4 hr;obtain⟨cs,rfl,hc⟩:=Jb hv;refine(VR x w cs (KJ ho hc)).mono fun e w' ⟨he,hb⟩=>⟨?_,hb⟩
  rw[he];unfold Hq;cases AY x <;> rfl
theorem Ael(xs ys:List Int)(hx:xs.length≤2097152):Fn Tryz.prog 84 [.bs tInt xs,.bs tInt ys] (.lit (.bool (decide (xs=ys)))):=
 Ks (by kernel_rfl) fun w vs hr=>by
  obtain⟨v,u,rfl,hv,hu⟩:=Akd hr;exact(Abo xs ys v u w (Yn hv) (Yn hu) hx).mono fun e w' ⟨he,hb⟩=>⟨he,hb⟩
theorem TI(xs:List Int)(n:Int)(hx:xs.length≤2097152):Fn Tryz.prog 130 [.bs tInt xs,.lit (.int .i64 n)] (.lit (.bool (xs.contains n))):=
 Ks (by kernel_rfl) fun w vs hr=>by
  obtain⟨v,u,rfl,hv,hu⟩:=Akd hr;obtain rfl:=Aer hu;exact(Abq xs n v w (Yn hv) hx).mono fun e w' h=>by first|exact h|exact⟨h.1,by rw[←h.2];exact Below.refl _ _⟩|exact⟨h.1,by rw[h.2];exact Below.refl _ _⟩
end Mu
end
section
namespace Go.Proofs
open Go.Shelf
def Tryz.keysM_ren:Go.Shelf.Ren:=⟨fun|7=>167|10=>190|n=>n,fun|23=>110|26=>3|3=>3|28=>137|0=>0|27=>136|33=>86|4=>4|n=>n,fun|n=>n⟩
theorem Tryz.keysM:Go.Proofs.SlLaysZI.n7 Tryz.prog Tryz.keysM_ren:={
 mixed:=by kernel_rfl
 f7:=⟨Tryz.f167.name,by decide,Tryz.func167.trans (congrArg some (by kernel_rfl))⟩
 f10:=⟨Tryz.f190.name,by decide,Tryz.func190.trans (congrArg some (by kernel_rfl))⟩
 t0:=Tryz.underlying0
 a0:=Tryz.isAgg0
 z0:=Tryz.sizeOf0
 v0:=Tryz.zeroValue0
 t4:=Tryz.underlying4
 a4:=Tryz.isAgg4
 z4:=Tryz.sizeOf4
 v4:=Tryz.zeroValue4
 t23:=Tryz.underlying110
 a23:=Tryz.isAgg110
 z23:=Tryz.sizeOf110
 v23:=Tryz.zeroValue110
 t26:=Tryz.underlying3
 a26:=Tryz.isAgg3
 z26:=Tryz.sizeOf3
 v26:=Tryz.zeroValue3
 t27:=Tryz.underlying136
 a27:=Tryz.isAgg136
 z27:=Tryz.sizeOf136
 v27:=Tryz.zeroValue136
 t28:=Tryz.underlying137
 a28:=Tryz.isAgg137
 z28:=Tryz.sizeOf137
 v28:=Tryz.zeroValue137
 t33:=Tryz.underlying86
 a33:=Tryz.isAgg86
 z33:=Tryz.sizeOf86
 v33:=Tryz.zeroValue86}
def Tryz.sortedM_ren:Go.Shelf.Ren:=⟨fun|6=>95|8=>152|9=>101|11=>174|13=>155|12=>154|23=>183|24=>184|14=>175|15=>176|16=>177|17=>178|18=>179|19=>180|20=>109|21=>181|22=>182|25=>201|26=>202|27=>203|28=>204|29=>205|30=>159|31=>213|n=>n,fun|26=>3|28=>137|24=>25|0=>0|3=>3|37=>147|48=>60|50=>214|4=>4|40=>207|39=>206|45=>99|5=>5|9=>9|51=>224|55=>228|57=>235|58=>165|33=>86|n=>n,fun|n=>n⟩
theorem Tryz.sortedM:Go.Proofs.SlLaysZI.n6 Tryz.prog Tryz.sortedM_ren:={
 mixed:=by kernel_rfl
 f6:=⟨Tryz.f95.name,by decide,Tryz.func95.trans (congrArg some (by kernel_rfl))⟩
 f8:=⟨Tryz.f152.name,by decide,Tryz.func152.trans (congrArg some (by kernel_rfl))⟩
 f11:=⟨Tryz.f174.name,by decide,Tryz.func174.trans (congrArg some (by kernel_rfl))⟩
 t0:=Tryz.underlying0
 a0:=Tryz.isAgg0
 z0:=Tryz.sizeOf0
 v0:=Tryz.zeroValue0
 t24:=Tryz.underlying25
 a24:=Tryz.isAgg25
 z24:=Tryz.sizeOf25
 v24:=Tryz.zeroValue25
 t26:=Tryz.underlying3
 a26:=Tryz.isAgg3
 z26:=Tryz.sizeOf3
 v26:=Tryz.zeroValue3
 t28:=Tryz.underlying137
 a28:=Tryz.isAgg137
 z28:=Tryz.sizeOf137
 v28:=Tryz.zeroValue137
 i26:=by kernel_rfl}
def Tryz.sortM_ren:Go.Shelf.Ren:=⟨fun|5=>101|8=>155|7=>154|19=>183|20=>184|10=>175|11=>176|12=>177|13=>178|14=>179|15=>180|16=>109|17=>181|18=>182|30=>201|31=>202|32=>203|33=>204|34=>205|35=>159|40=>213|n=>n,fun|23=>25|25=>3|3=>3|32=>147|22=>25|0=>0|44=>60|46=>214|4=>4|36=>207|35=>206|41=>99|5=>5|9=>9|53=>224|57=>228|63=>235|64=>165|n=>n,fun|n=>n⟩
theorem Tryz.sortM:Go.Proofs.SlLaysM.n5 Tryz.prog Tryz.sortM_ren:={
 mixed:=by kernel_rfl
 f5:=⟨Tryz.f101.name,by decide,Tryz.func101.trans (congrArg some (by kernel_rfl))⟩
 f7:=⟨Tryz.f154.name,by decide,Tryz.func154.trans (congrArg some (by kernel_rfl))⟩
 f8:=Tryz.func155.trans (congrArg some (by kernel_rfl))
 f10:=⟨Tryz.f175.name,by decide,Tryz.func175.trans (congrArg some (by kernel_rfl))⟩
 f11:=⟨Tryz.f176.name,by decide,Tryz.func176.trans (congrArg some (by kernel_rfl))⟩
 f12:=⟨Tryz.f177.name,by decide,Tryz.func177.trans (congrArg some (by kernel_rfl))⟩
 f13:=⟨Tryz.f178.name,by decide,Tryz.func178.trans (congrArg some (by kernel_rfl))⟩
 f14:=⟨Tryz.f179.name,by decide,Tryz.func179.trans (congrArg some (by kernel_rfl))⟩
 f15:=⟨Tryz.f180.name,by decide,Tryz.func180.trans (congrArg some (by kernel_rfl))⟩
 f16:=⟨Tryz.f109.name,by decide,Tryz.func109.trans (congrArg some (by kernel_rfl))⟩
 f17:=⟨Tryz.f181.name,by decide,Tryz.func181.trans (congrArg some (by kernel_rfl))⟩
 f18:=⟨Tryz.f182.name,by decide,Tryz.func182.trans (congrArg some (by kernel_rfl))⟩
 f19:=Tryz.func183.trans (congrArg some (by kernel_rfl))
 f20:=Tryz.func184.trans (congrArg some (by kernel_rfl))
 f30:=⟨Tryz.f201.name,by decide,Tryz.func201.trans (congrArg some (by kernel_rfl))⟩
 f31:=Tryz.func202.trans (congrArg some (by kernel_rfl))
 f32:=Tryz.func203.trans (congrArg some (by kernel_rfl))
 f33:=⟨Tryz.f204.name,by decide,Tryz.func204.trans (congrArg some (by kernel_rfl))⟩
 f34:=⟨Tryz.f205.name,by decide,Tryz.func205.trans (congrArg some (by kernel_rfl))⟩
 f35:=⟨Tryz.f159.name,by decide,Tryz.func159.trans (congrArg some (by kernel_rfl))⟩
 f40:=⟨Tryz.f213.name,by decide,Tryz.func213.trans (congrArg some (by kernel_rfl))⟩
 t0:=Tryz.underlying0
 a0:=Tryz.isAgg0
 z0:=Tryz.sizeOf0
 v0:=Tryz.zeroValue0
 t3:=Tryz.underlying3
 a3:=Tryz.isAgg3
 z3:=Tryz.sizeOf3
 v3:=Tryz.zeroValue3
 t4:=Tryz.underlying4
 a4:=Tryz.isAgg4
 z4:=Tryz.sizeOf4
 v4:=Tryz.zeroValue4
 t5:=Tryz.underlying5
 a5:=Tryz.isAgg5
 z5:=Tryz.sizeOf5
 v5:=Tryz.zeroValue5
 t9:=Tryz.underlying9
 a9:=Tryz.isAgg9
 z9:=Tryz.sizeOf9
 v9:=Tryz.zeroValue9
 t22:=Tryz.underlying25
 a22:=Tryz.isAgg25
 z22:=Tryz.sizeOf25
 v22:=Tryz.zeroValue25
 t23:=Tryz.underlying25
 a23:=Tryz.isAgg25
 z23:=Tryz.sizeOf25
 v23:=Tryz.zeroValue25
 t25:=Tryz.underlying3
 a25:=Tryz.isAgg3
 z25:=Tryz.sizeOf3
 v25:=Tryz.zeroValue3
 t32:=Tryz.underlying147
 a32:=Tryz.isAgg147
 z32:=Tryz.sizeOf147
 v32:=Tryz.zeroValue147
 t35:=Tryz.underlying206
 a35:=Tryz.isAgg206
 z35:=Tryz.sizeOf206
 v35:=Tryz.zeroValue206
 t36:=Tryz.underlying207
 a36:=Tryz.isAgg207
 z36:=Tryz.sizeOf207
 v36:=Tryz.zeroValue207
 t41:=Tryz.underlying99
 a41:=Tryz.isAgg99
 z41:=Tryz.sizeOf99
 v41:=Tryz.zeroValue99
 t44:=Tryz.underlying60
 a44:=Tryz.isAgg60
 z44:=Tryz.sizeOf60
 v44:=Tryz.zeroValue60
 t46:=Tryz.underlying214
 a46:=Tryz.isAgg214
 z46:=Tryz.sizeOf214
 v46:=Tryz.zeroValue214
 t53:=Tryz.underlying224
 a53:=Tryz.isAgg224
 z53:=Tryz.sizeOf224
 v53:=Tryz.zeroValue224
 t57:=Tryz.underlying228
 a57:=Tryz.isAgg228
 z57:=Tryz.sizeOf228
 v57:=Tryz.zeroValue228
 t63:=Tryz.underlying235
 a63:=Tryz.isAgg235
 z63:=Tryz.sizeOf235
 v63:=Tryz.zeroValue235
 t64:=Tryz.underlying165
 a64:=Tryz.isAgg165
 z64:=Tryz.sizeOf165
 v64:=Tryz.zeroValue165}
def Tryz.cloneM_ren:Go.Shelf.Ren:=⟨fun|5=>120|7=>165|n=>n,fun|23=>110|25=>3|3=>3|4=>4|20=>20|n=>n,fun|n=>n⟩
theorem Tryz.cloneM:Go.Proofs.SlLaysW.n5 Tryz.prog Tryz.cloneM_ren:={
 mixed:=by kernel_rfl
 f5:=⟨Tryz.f120.name,by decide,Tryz.func120.trans (congrArg some (by kernel_rfl))⟩
 f7:=Tryz.func165.trans (congrArg some (by kernel_rfl))
 t4:=Tryz.underlying4
 a4:=Tryz.isAgg4
 z4:=Tryz.sizeOf4
 v4:=Tryz.zeroValue4
 t20:=Tryz.underlying20
 a20:=Tryz.isAgg20
 z20:=Tryz.sizeOf20
 v20:=Tryz.zeroValue20
 t23:=Tryz.underlying110
 a23:=Tryz.isAgg110
 z23:=Tryz.sizeOf110
 v23:=Tryz.zeroValue110}
def Tryz.copyM_ren:Go.Shelf.Ren:=⟨fun|5=>123|n=>n,fun|23=>110|24=>110|26=>3|27=>3|0=>0|4=>4|n=>n,fun|n=>n⟩
theorem Tryz.copyM:Go.Proofs.SlLaysX.n5 Tryz.prog Tryz.copyM_ren:={
 mixed:=by kernel_rfl
 f5:=⟨Tryz.f123.name,by decide,Tryz.func123.trans (congrArg some (by kernel_rfl))⟩
 t0:=Tryz.underlying0
 a0:=Tryz.isAgg0
 z0:=Tryz.sizeOf0
 v0:=Tryz.zeroValue0
 t4:=Tryz.underlying4
 a4:=Tryz.isAgg4
 z4:=Tryz.sizeOf4
 v4:=Tryz.zeroValue4
 t23:=Tryz.underlying110
 a23:=Tryz.isAgg110
 z23:=Tryz.sizeOf110
 v23:=Tryz.zeroValue110
 t24:=Tryz.underlying110
 a24:=Tryz.isAgg110
 z24:=Tryz.sizeOf110
 v24:=Tryz.zeroValue110
 a26:=Tryz.isAgg3
 z26:=Tryz.sizeOf3
 a27:=Tryz.isAgg3
 z27:=Tryz.sizeOf3}
end Go.Proofs
end
section
namespace Mu
open Go Go.RowKit Go.Proofs Go.Maps Go.Sort Go.Shelf
def Ht(x:Int):Prop:=(Lit.int .i64 x).wf=true
def Gk(w:World)(b:Nat)(S:Int→Bool):Prop:=∃(D:DataW Unit),w.ownsMap Tryz.prog 3 (plainElem Tryz.prog 3) b (Maps.size D) D∧∀x,Ht x→has D (.int .i64 x)=S x
theorem Ady:Keyed Tryz.prog 3:=int_keyed Tryz.underlying3
theorem JT{w:World}{b n:Nat}{D:DataW Unit}(h:w.ownsMap Tryz.prog 3 (plainElem Tryz.prog 3) b n D):w.ownsMap Tryz.prog 3 (plainElem Tryz.prog 3) b (Maps.size D) D:=by
 obtain⟨es,clock,h1,h2,h3,rfl⟩:=h;refine⟨es,clock,h1,h2,?_,rfl⟩;rw[size_eq,length_read];exact Nat.le_refl _
theorem Gk.lt{w:World}{b:Nat}{S:Int→Bool}(h:Gk w b S):b < w.heap.size:=by
 obtain⟨D,h1,_⟩:=h;exact h1.lt
theorem Gk.keep{w w':World}{b:Nat}{S:Int→Bool}(h:Gk w b S)(hk:w'.heap[b]? =w.heap[b]?):Gk w' b S:=by
 obtain⟨D,⟨es,clock,h1,h2⟩,h3⟩:=h;exact⟨D,⟨es,clock,hk.trans h1,h2⟩,h3⟩
def Asc(l:List Int):Prop:=l.Pairwise (· < ·)
theorem Asc.nodup{l:List Int}(h:Asc l):l.Nodup:=h.imp (fun{a b} hab=>by omega)
theorem Asc.filter{l:List Int}(h:Asc l)(S:Int→Bool):Asc (l.filter S):=List.Pairwise.filter _ h
theorem P0{l m:List Int}(hl:Asc l)(hm:Asc m)(h:∀x,x∈l↔x∈m):l=m:=by
 have hp:l.Perm m:=(List.perm_ext_iff_of_nodup hl.nodup hm.nodup).2 h;exact List.Perm.eq_of_pairwise (le:=fun a b=>a < b) (fun a b _ _ h1 h2=>by omega) hl hm hp
theorem Vj{l:List Int}(h:l.Nodup):Asc (l.mergeSort fun x y=>decide (x≤y)):=by
 have tr:∀a b c:Int,leI a b=true→leI b c=true→leI a c=true:=fun a b c h1 h2=>by simp only[leI,decide_eq_true_eq]at *;exact Int.le_trans h1 h2
 have to:∀a b:Int,(leI a b||leI b a)=true:=fun a b=>by simp only[leI,Bool.or_eq_true,decide_eq_true_eq];exact Int.le_total a b
 have h1:=List.pairwise_mergeSort tr to l;have h2:(l.mergeSort leI).Nodup:=(List.mergeSort_perm l leI).nodup_iff.2 h;refine(List.Pairwise.and h1 h2).imp fun{a b} hab=>?_
 obtain⟨h3,h4⟩:=hab;simp only[leI,decide_eq_true_eq]at h3;omega
theorem Afb{w:World}{b:Nat}{D:DataW Unit}{n:Nat}(h:w.ownsMap Tryz.prog 3 (plainElem Tryz.prog 3) b n D):(intKeys D).Nodup∧(∀x,x∈intKeys D↔Ht x∧has D (.int .i64 x)=true)∧(intKeys D).length=Maps.size D:=by
 obtain⟨es,rfl,hpw,_⟩:=h.entries Ady;obtain⟨es',hD',hko⟩:=h.keysOf;obtain rfl:es=es':=by simpa using hD'
 have hk:∀p∈es,∃x,p.1= .int .i64 x∧Ht x:=fun p hp=>by
  obtain⟨v,hv⟩:=hko p hp;obtain⟨x,_,hx,hw⟩:=Maps.keyOf_i64 Tryz.underlying3 hv;exact⟨x,hx,hw⟩
 refine⟨?_,fun x=>?_,by simp[intKeys,size_eq]⟩
 ·show(es.map fun p=>Go.intOf p.1).Nodup;refine List.pairwise_map.2 (hpw.imp_of_mem fun{p q} hp' hq' hne e=>hne ?_);obtain⟨a,ha,_⟩:=hk p hp';obtain⟨b,hb,_⟩:=hk q hq';rw[ha,hb]at e⊢;exact congrArg _ e
 ·rw[has_eq,List.any_eq_true];show x∈es.map (fun p=>Go.intOf p.1)↔_;rw[List.mem_map];constructor
  ·rintro⟨p,hp',rfl⟩;obtain⟨a,ha,hw⟩:=hk p hp';rw[ha];exact⟨hw,p,hp',by rw[ha];simp[Lit.sameKey,Go.intOf]⟩
  ·rintro⟨_,p,hp',hs⟩;obtain⟨a,ha,_⟩:=hk p hp';rw[ha]at hs;exact⟨p,hp',by rw[ha];simpa[Lit.sameKey,Go.intOf]using hs⟩
theorem S5{w:World}{b:Nat}{D:DataW Unit}{n:Nat}{S:Int→Bool}{R:List Int}(h:w.ownsMap Tryz.prog 3 (plainElem Tryz.prog 3) b n D)(hS:∀x,Ht x→has D (.int .i64 x)=S x)(hR:Asc R)(hw:∀x∈R,Ht x)
 (hin:∀x,Ht x→S x=true→x∈R):(intKeys D).Perm (R.filter S)∧Maps.size D=(R.filter S).length:=by
 obtain⟨h1,h2,h3⟩:=Afb h;have hp:(intKeys D).Perm (R.filter S):=(List.perm_ext_iff_of_nodup h1 (hR.filter S).nodup).2 fun x=>by
  rw[h2,List.mem_filter];constructor
  ·rintro⟨hx,hh⟩;rw[hS x hx]at hh;exact⟨hin x hx hh,hh⟩
  ·rintro⟨hx,hs⟩;exact⟨hw x hx,by rw[hS x (hw x hx)];exact hs⟩
 exact⟨hp,by rw[←h3];exact hp.length_eq⟩
theorem Ado(m:Nat):AnyZI.SortsIn Tryz.prog Tryz.sortedM_ren Fence.wide m:=
 ⟨fun blk off cap ss W hH hblk hsz=>callsIn_wide.2 (AnyM.slices_Sort_int Tryz.sortM blk off cap ss W hH hblk hsz),
  fun p cap W=>callsIn_wide.2 (AnyM.slices_Sort_int_none Tryz.sortM p cap W)⟩
theorem UA{b:Nat}{S:Int→Bool}{R:List Int}(w:World)(h:Gk w b S)(hR:Asc R)(hw:∀x∈R,Ht x)(hin:∀x,Ht x→S x=true→x∈R)(hl:R.length≤2147483648):
 Calls Tryz.prog 124 #[.map (some b)] w fun e w'=>∃v,e= .returned v∧Hm w' w.heap.size v (R.filter S)∧Below w.heap.size w w':=by
 obtain⟨D,hown,hS⟩:=h;obtain⟨hperm,hsz⟩:=S5 hown hS hR hw hin;have hfl:=List.length_filter_le S R;have hmax:Maps.size D≤maxLen:=by rw[hsz];unfold maxLen;omega
 have hbytes:Maps.size D * 8≤140737488355328:=by rw[hsz];omega
 refine(callsIn_wide (n:=6)).1 ?_;have hbl:=hown.lt;have hseq:SeqGives Fence.wide 2 Tryz.prog 190 #[.pointer (some ⟨w.heap.size,0,none⟩)] encZ (fun ss=>ss.Perm (intKeys D)) (Maps.size D) (w.alloc (.cells #[.map (some b)] 110)):=
  AnyZI.keys_gives (ρ:=Tryz.keysM_ren) {Tryz.keysM with} Fence.wide _ trivial rfl (by omega) w.heap.size b (Maps.size D) D _ (by simp) (by simp) (by
   obtain⟨es,clock,hb,Ft,hs,hD⟩:=hown;exact⟨es,clock,(Below.heap_alloc _ _ b hbl).trans hb,Ft,hs,hD⟩)
 have cK:∀mb W,CallsIn Fence.wide 5 Tryz.prog 167 #[.map mb] W fun e w'=>e= .returned (.func (.func 190) #[] #[.pointer (some ⟨W.heap.size,0,none⟩)])∧w'=W.alloc (.cells #[.map mb] 110):=fun mb W=>AnyZI.keys_in Tryz.keysM Fence.wide 5 trivial rfl mb W
 have cS:=AnyZI.sorted_in Tryz.sortedM Fence.wide 5 trivial trivial trivial trivial rfl (by omega) (Ado _) (enters_of Tryz.func101 (by kernel_rfl) rfl) 190 #[.pointer (some ⟨w.heap.size,0,none⟩)] trivial (enters_of Tryz.func190 (by kernel_rfl) rfl) _ _ hmax hbytes _ hseq;change CallsIn _ _ Tryz.prog 95 _ _ _ at cS;have hfK:Fence.wide.fn 167:=trivial;have hfS:Fence.wide.fn 95:=trivial;have HP:=Lib.hid hperm;clear hS hsz hperm hin hw;refine callsIn_of_wp Tryz.func124 rfl trivial ?_ rfl;simp only[Tryz.ntmps124,List.size_toArray,List.length_cons,List.length_nil,Nat.reduceAdd,Nat.reduceSub,Array.replicate_succ,Array.replicate_zero,List.push_toArray,List.append_toArray,List.nil_append,List.cons_append]
 gi_wp2_with (first
  |(gi_at_call 167;refine(cK _ _).mono ?_;rintro e w' ⟨rfl,rfl⟩)
  |(gi_at_call 95;refine cS.mono ?_;rintro e w' ⟨v,ss,rfl,hS,hrow,hnil,hb⟩))
 go_ret
 have hp2:ss.Perm (R.filter S):=hS.trans HP.out;have he:(ss.mergeSort fun x y=>decide (x≤y))=R.filter S:=
  P0 (Vj (hp2.nodup_iff.2 (hR.filter S).nodup)) (hR.filter S) (fun x=>((List.mergeSort_perm ss _).mem_iff).trans hp2.mem_iff)
 refine⟨v,rfl,?_,((Below.refl _ w).alloc (Nat.le_refl _) _).trans (hb.mono (by simp))⟩;have hrow2:w'.ownsRow w.heap.size 3 1 v ss.length ((ss.mergeSort (fun x y=>decide (x≤y))).map encZ):=ownsRow_base_a hrow (by simp);rw[he]at hrow2;exact .of hrow2 hp2.length_eq rfl
end Mu
end
section
namespace Mu
open Go Go.RowKit Go.Proofs Go.Maps
theorem Ge{w w1:World}{r:Option Nat}(h:Below w.heap.size w w1):w.grownBy w1 r:=⟨h.os,h.tape,h.output,h.size,fun k hk _=>h.block k hk⟩
theorem NW{w w1:World}{b B:Nat}(h:w.grownBy w1 (some b))(hB:B≤w.heap.size)(hb:B≤b):Below B w w1:=⟨h.os,h.tape,h.output,h.size,fun k hk=>h.block k (by omega) (by simp;omega)⟩
def Ho{α:Type}(T:Ty α):Prop:=∀(w:World) (S:Nat→Prop) (cs:List Value) (d:α) (b:Nat) (es:Array MapEntry) (c:Nat),T.RS w S cs d→w.heap[b]? =some (.map es c)→T.RS w (fun k=>S k∧k≠b) cs d
theorem DD(k:IntKind):Ho (Ty.int k):=fun _ _ _ _ _ _ _ h _=>h
theorem T5:Ho C0:=fun _ _ _ _ _ _ _ h _=>h
theorem CZ{α β:Type}{T:Ty α}{U:Ty β}(h1:Ho T)(h2:Ho U):Ho (T.cons U):=by
 rintro w S cs d b es c ⟨c1,c2,rfl,k1,k2⟩ hm;exact⟨c1,c2,rfl,h1 w S c1 d.1 b es c k1 hm,h2 w S c2 d.2 b es c k2 hm⟩
theorem W6{α β:Type}{U:Ty β}{f:β→α}{g:α→β}(h:Ho U):Ho (U.via f g):=by
 rintro w S cs d b es c ⟨k1,k2⟩ hm;exact⟨h w S cs (g d) b es c k1 hm,k2⟩
theorem R7{α:Type}{T:Ty α}(h:Ho T)(hp:0 < T.size):Ho T.slice:=by
 rintro w S cs ds b es c ⟨A,cp,rfl,hl,hc,hi⟩ hm;refine⟨A,cp,rfl,hl,hc,fun i d hd=>?_⟩;obtain⟨b',o,rfl,hS,cs,hR,hC⟩:=hi i d hd;refine⟨b',o,rfl,⟨hS,fun e=>?_⟩,cs,h w S cs d b es c hR hm,hC⟩;subst e;have hlen:=T.len hR;have h0:=hC 0 _ (List.getElem?_eq_getElem (by omega));simp[World.cell?,hm]at h0
theorem Jp:Ho Ep:=
 W6 (CZ (DD _) (CZ (DD _) (CZ (DD _) (CZ (DD _) (CZ (DD _) (CZ (DD _) (CZ (R7 (DD _) (by decide)) (CZ (DD _) (CZ (DD _) T5)))))))))
theorem Add{α:Type}{T:Ty α}(h:Ho T){w w':World}{B b c:Nat}{cs:List Value}{d:α}{es:Array MapEntry}(hR:T.R w B cs d)(hB:B≤w.heap.size)(hm:w.heap[b]? =some (.map es c))(hg:w.grownBy w' (some b)):T.R w' w'.heap.size cs d:=
 T.keepS (h w _ cs d b es c hR hm) (fun k hk=>hg.block k (by have:=hk.1;omega) (by simp;exact hk.2)) (fun k hk=>by have:=hk.1;have:=hg.size;omega)
theorem Gk.mapAt{w:World}{b:Nat}{S:Int→Bool}(h:Gk w b S):∃es c,w.heap[b]? =some (.map es c):=by
 obtain⟨D,⟨es,c,h1,_⟩,_⟩:=h;exact⟨es,c,h1⟩
def Bm(w0:World)(cs:List Value)(T:TypeId)(b:Nat)(w':World):Prop:=(w0.alloc (.cells cs.toArray T)).grownBy w' (some b)
section
variable{w0 w' w'':World}{cs:List Value}{T:TypeId}{b:Nat}
theorem Bm.refl:Bm w0 cs T b (w0.alloc (.cells cs.toArray T)):=World.grownBy.refl _ _
theorem Bm.cell(h:Bm w0 cs T b w')(hb:b < w0.heap.size){j:Nat}{v:Value}(hv:cs[j]? =some v):w'.cell? ⟨w0.heap.size,j,none⟩=some v:=by
 have h1:=h.block w0.heap.size (by simp) (by simp;omega);exact BK (h1.trans (heap_alloc_new w0 _)) hv
theorem Bm.lt(h:Bm w0 cs T b w'):w0.heap.size < w'.heap.size:=by have:=h.size;simp at this;omega
theorem Bm.grown(h:Bm w0 cs T b w'):w0.grownBy w' (some b):=Du (World.grownBy_alloc _ _ _) h
theorem Bm.call(h:Bm w0 cs T b w')(hb:Below w'.heap.size w' w''):Bm w0 cs T b w'':=Du h (Ge hb)
theorem Bm.turn(h:Bm w0 cs T b w')(hg:w'.grownBy w'' (some b)):Bm w0 cs T b w'':=Du h hg
theorem Bm.R{α:Type}{U:Ty α}{us:List Value}{d:α}{es:Array MapEntry}{c:Nat}(h:Bm w0 cs T b w')(ha:Ho U)(hm:w0.heap[b]? =some (.map es c))(hR:U.R w0 w0.heap.size us d):U.R w' w'.heap.size us d:=
 Add ha hR (Nat.le_refl _) hm h.grown
end
structure InR(R:List Int)(S:Int→Bool):Prop where
 mem:∀x,Ht x→S x=true→x∈R
structure RegsR(R:List Int):Prop where
 asc:Asc R
 wf:∀x∈R,Ht x
 len:R.length≤2147483648
theorem Ajr{r:Int}(hw:Ht r):keyOf Tryz.prog 3 (.int .i64 r)=some (.int .i64 r):=Maps.keyOf_int_mk Tryz.underlying3 hw
theorem UP:(Lit.int .i64 1).wf=true:=by decide
theorem Gu{w:World}{b:Nat}{S:Int→Bool}{R:List Int}{D:DataW Unit}{n:Nat}(hown:w.ownsMap Tryz.prog 3 (plainElem Tryz.prog 3) b n D)(hS:∀x,Ht x→has D (.int .i64 x)=S x)(hR:RegsR R)(hi:InR R S):Maps.size D=(R.filter S).length∧Maps.size D≤2147483648:=by
 have h:=(S5 hown hS hR.asc hR.wf hi.mem).2;have h2:=List.length_filter_le S R;have:=hR.len;exact⟨h,by omega⟩
def Aaa(S:Int→Bool)(r:Int):Int→Bool:=fun x=>S x||x ==r
def ZE(S:Int→Bool)(r:Int):Int→Bool:=fun x=>S x&&x !=r
def addL(S:Int→Bool)(l:List Int):Int→Bool:=fun x=>S x||l.contains x
theorem Md(S:Int→Bool):addL S []=S:=by funext x;simp[addL]
theorem Nu(S:Int→Bool)(l:List Int)(r:Int):addL S (l++[r])=Aaa (addL S l) r:=by
 funext x;simp only[addL,Aaa,List.contains_eq_mem,List.mem_append,List.mem_singleton,Bool.decide_or,Bool.or_assoc];congr 2
theorem Gk.put{w w1:World}{b n:Nat}{S:Int→Bool}{D:DataW Unit}{d:DataW Unit}{r:Int}(hown:w.ownsMap Tryz.prog 3 (plainElem Tryz.prog 3) b n D)(hS:∀x,Ht x→has D (.int .i64 x)=S x)
 (h1:w1.ownsMap Tryz.prog 3 (plainElem Tryz.prog 3) b (n+1) (D.put (.int .i64 r) d)):Gk w1 b (Aaa S r):=by
 refine⟨_,JT h1,fun x hx=>?_⟩;by_cases e:x=r
 ·subst e;rw[has_put_same hown.isMap (by trivial)];simp[Aaa]
 ·rw[has_put_other (by simpa using e),hS x hx];simp[Aaa,e]
theorem Gk.del{w1:World}{b n:Nat}{S:Int→Bool}{D:DataW Unit}{r:Int}(hS:∀x,Ht x→has D (.int .i64 x)=S x)
 (h1:w1.ownsMap Tryz.prog 3 (plainElem Tryz.prog 3) b n (D.del (.int .i64 r))):Gk w1 b (ZE S r):=by
 refine⟨_,JT h1,fun x hx=>?_⟩;by_cases e:x=r
 ·subst e;rw[has_del_same];simp[ZE]
 ·rw[has_del_other (by simpa using e),hS x hx];simp[ZE,e]
def GN(x:Ins)(S:Int→Bool):Int→Bool:=addL (if AY x then ZE S x.d else S) (readsC x)
theorem InR.del{R:List Int}{S:Int→Bool}(h:InR R S)(r:Int):InR R (ZE S r):=⟨fun x hx hs=>h.mem x hx (by simp only[ZE,Bool.and_eq_true]at hs;exact hs.1)⟩
theorem InR.addL{R:List Int}{S:Int→Bool}{l:List Int}(h:InR R S)(hl:∀r∈l,r∈R):InR R (addL S l):=⟨fun x hx hs=>by
 simp only[Mu.addL,Bool.or_eq_true,List.contains_iff_mem]at hs;rcases hs with hs|hs
 ·exact h.mem x hx hs
 ·exact hl x hs⟩
theorem InR.take{R:List Int}{S:Int→Bool}{l:List Int}(h:InR R S)(hl:∀r∈l,r∈R)(k:Nat):InR R (Mu.addL S (l.take k)):=h.addL fun r hr=>hl r (List.mem_of_mem_take hr)
theorem InR.back{R:List Int}{S:Int→Bool}{x:Ins}(h:InR R S)(hl:∀r∈readsC x,r∈R):InR R (GN x S):=by
 unfold GN;split
 ·exact(h.del _).addL hl
 ·exact h.addL hl
theorem VT{x:Ins}(h:x.args.length≤2097152):(readsC x).length≤2097154:=by
 unfold readsC;simp only[List.length_append];have a1:(if(DH x.op).contains 97 then [x.a]else []).length≤1:=by split <;> simp
 have a2:(if(DH x.op).contains 98 then [x.b]else []).length≤1:=by split <;> simp
 have a3:(if(DH x.op).contains 120 then x.args else []).length≤x.args.length:=by split <;> simp
 omega
theorem R6(x:Ins)(b:Nat)(S:Int→Bool)(R:List Int)(w:World)(cs:List Value)(hRI:Ep.R w w.heap.size cs x)(hl:x.args.length≤2097152)(hs:Gk w b S)(hR:RegsR R)(hi:InR R S)(hx:∀r∈readsC x,r∈R):
 Calls Tryz.prog 122 #[.map (some b),.agg cs.toArray] w fun e w'=>e= .returned (.tuple #[])∧Gk w' b (GN x S)∧w.grownBy w' (some b):=by
 have hRI2:=hRI;obtain⟨A,c,hI⟩:=Fk.1 hRI;have hb:=hs.lt;obtain⟨rfl,hop,hd,_,_,_,_,_,_,_⟩:=hI;have hrl:=VT hl;obtain⟨cs,hcs⟩:∃cs:List Value,cs= [.int .u8 x.op,.int .i64 x.d,.int .i64 x.a,.int .i64 x.b,.int .u32 x.n,.int .i64 x.f,.slice A x.args.length c,.int .i64 x.l1,.int .i64 x.l2]:=⟨_,rfl⟩
 have q0:∀w',Bm w cs 62 b w'→w'.cell? ⟨w.heap.size,0,none⟩=some (.int .u8 x.op):=fun w' h=>h.cell hb (by rw[hcs];rfl)
 have q1:∀w',Bm w cs 62 b w'→w'.cell? ⟨w.heap.size,1,none⟩=some (.int .i64 x.d):=fun w' h=>h.cell hb (by rw[hcs];rfl)
 have q2:∀w',Bm w cs 62 b w'→w'.cell? ⟨w.heap.size,2,none⟩=some (.int .i64 x.a):=fun w' h=>h.cell hb (by rw[hcs];rfl)
 have q3:∀w',Bm w cs 62 b w'→w'.cell? ⟨w.heap.size,3,none⟩=some (.int .i64 x.b):=fun w' h=>h.cell hb (by rw[hcs];rfl)
 have q4:∀w',Bm w cs 62 b w'→w'.cell? ⟨w.heap.size,4,none⟩=some (.int .u32 x.n):=fun w' h=>h.cell hb (by rw[hcs];rfl)
 have q5:∀w',Bm w cs 62 b w'→w'.cell? ⟨w.heap.size,5,none⟩=some (.int .i64 x.f):=fun w' h=>h.cell hb (by rw[hcs];rfl)
 have q6:∀w',Bm w cs 62 b w'→w'.cell? ⟨w.heap.size,6,none⟩=some (.slice A x.args.length c):=fun w' h=>h.cell hb (by rw[hcs];rfl)
 have q7:∀w',Bm w cs 62 b w'→w'.cell? ⟨w.heap.size,7,none⟩=some (.int .i64 x.l1):=fun w' h=>h.cell hb (by rw[hcs];rfl)
 have q8:∀w',Bm w cs 62 b w'→w'.cell? ⟨w.heap.size,8,none⟩=some (.int .i64 x.l2):=fun w' h=>h.cell hb (by rw[hcs];rfl)
 have hstart:Hid (Bm w cs 62 b (w.alloc (.cells #[.int .u8 x.op,.int .i64 x.d,.int .i64 x.a,.int .i64 x.b,.int .u32 x.n,.int .i64 x.f,.slice A x.args.length c,.int .i64 x.l1,.int .i64 x.l2] 62))):=by
  have h:=Bm.refl (w0:=w) (cs:=cs) (T:=62) (b:=b);rw[hcs]at h;rw[hcs];exact h
 have HRI:=Lib.hid hRI2;have HX:=Lib.hid hx;have HS:=Lib.hid hs;clear hcs hRI hRI2 hx hs;have hst:=hstart.out
 go_enter Tryz.func122,Tryz.ntmps122
 obtain⟨mes,mc,hmap⟩:=HS.out.mapAt;have HM:=Lib.hid hmap;clear hmap
 go_wp2_with fail
 refine(Ll x _ _ (hst.R Jp HM.out HRI.out)).mono ?_;rintro e w1 ⟨rfl,hb1⟩;have hx1:Bm w cs 62 b w1:=hst.call hb1;have hs1:Hid (Gk w1 b S):=HS.out.keep ((hb1.block b (by simp;omega)).trans (Below.heap_alloc _ _ _ hb));have hlt1:=hx1.lt;clear hb1 hst hstart HS;have hg1:Hid (w.grownBy w1 (some b)):=hx1.grown;have hi1:=hi;rcases hq:AY x with _|_
 ·have HQ:=Lib.hid hq;rw[Ky HQ.out];clear hq
  go_wp2_with fail
  refine(I7 x _ _ (hx1.R Jp HM.out HRI.out) hl).mono ?_;rintro e w4 ⟨v4,rfl,ho4,hb4⟩;have hx4:Bm w cs 62 b w4:=hx1.call hb4;have hs4:Hid (Gk w4 b S):=hs1.out.keep (hb4.block b (by have:=hx1.lt;omega));have hg4:Hid (w.grownBy w4 (some b)):=Du hg1.out (Ge hb4);obtain⟨A4,c4,rfl⟩:=L3 ho4;have HO4:=Lib.hid ho4;have hlow4:∀g,(Value.slice A4 (readsC x).length c4).ownBlock=some g→b < g:=fun g hg=>by have:=(ho4.lt g hg).1;have:=hx1.lt;omega
  have HLOW:=Lib.hid hlow4;have hlt4:=hx4.lt;clear ho4 hb4 hlow4
  go_wp2_with fail
  go_loopw [19] (fun i wr=>∃k:Nat,k≤(readsC x).length∧i= .int .i64 k∧Hid (Gk wr b (addL S ((readsC x).take k)))∧Hid (w.grownBy wr (some b))∧Hid (Hm wr w1.heap.size (.slice A4 (readsC x).length c4) (readsC x))) (fun i _=>(readsC x).length - (RowKit.intOf i).toNat)
  case atStart=>exact⟨0,Nat.zero_le _,rfl,by rw[List.take_zero,Md];exact hs4,hg4,HO4⟩
  case round=>
   obtain⟨k,hk,rfl,hsr,hgr,hor⟩:=hrel;clear hs4 hg4 HO4;by_cases hlt:k < (readsC x).length
   ·obtain⟨z,hz⟩:∃z,(readsC x)[k]? =some z:=⟨_,List.getElem?_eq_getElem hlt⟩
    have hzR:=HX.out z (List.mem_of_getElem? hz);have hzw:=hR.wf z hzR;obtain⟨g,cap,e,_⟩:=Q8 hor.out (by omega);cases e;have hcz:=UM hor.out hz;obtain⟨D,hown,hD⟩:=hsr.out;have hsz:=Gu hown hD hR (hi1.take HX.out k);have hm:Maps.size D < maxLen:=by have:=hsz.2;unfold maxLen;omega
    have HD:=Lib.hid hD;have HZ:=Lib.hid hz;have HK:=Lib.hid (Ajr hzw);clear hsz hD hz hsr
    go_wp2_with (at_mapUpdate;refine wpList_mapUpdate_own _ rfl _ _ _ 110 rfl 3 3 Ady Tryz.underlying110 _ b _ D rfl hown hm _ _ (.int .i64 z) rfl rfl HK.out _ [] (plainElem_int Tryz.underlying3 UP) ?_;intro w5 hown5 hgrow5)
    have hs5:Hid (Gk w5 b (addL S ((readsC x).take (k+1)))):=by
     rw[List.take_add_one,HZ.out,Option.toList_some,Nu];exact Gk.put hown HD.out hown5
    have hg5:Hid (w.grownBy w5 (some b)):=Du hgr.out hgrow5;have ho5:Hid (Hm w5 w1.heap.size (.slice (some ⟨g,0,none⟩) (readsC x).length c4) (readsC x)):=Dp hor.out (fun q hq=>hgrow5.block q (World.ownsRow.lt hor.out q hq).2 (by have:=HLOW.out q hq;simp;omega));clear hown5 hgrow5 hgr hor hown hcz
    go_wp2_with fail
    go_roundw
    case rel=>exact⟨k+1,by omega,by go_num,hs5,hg5,ho5⟩
    case measure=>simp[RowKit.intOf];omega
   ·obtain rfl:k=(readsC x).length:=by omega
    have hfin:Hid (Gk wr b (GN x S)):=by
     have h:=hsr.out;rw[List.take_length]at h;unfold GN;rw[HQ.out,if_neg (by simp)];exact h
    go_wp2_with fail
    go_end0
    exact⟨rfl,hfin.out,hgr.out⟩
 ·have HQ:=Lib.hid hq;rw[I2 HQ.out];clear hq;have HKD:=Lib.hid (Ajr (r:=x.d) hd);obtain⟨D0,hown0,hD0⟩:=hs1.out;have HD0:=Lib.hid hD0;clear hD0;have hi2:=hi.del x.d
  go_wp2_with (at_delete;refine wpList_delete_own _ rfl _ _ 110 3 rfl 3 Ady Tryz.underlying110 _ b _ D0 rfl hown0 _ _ rfl HKD.out ?_)
  intro w2 hown2 hturn2;have hs2:Hid (Gk w2 b (ZE S x.d)):=Gk.del HD0.out hown2;have hg2:Hid (w.grownBy w2 (some b)):=Du hg1.out hturn2.grown;have hx2:Bm w cs 62 b w2:=hx1.turn hturn2.grown;have hlt2:=hx2.lt;clear hown2 hturn2 hown0 hs1 hg1
  go_wp2_with fail
  refine(I7 x _ _ (hx2.R Jp HM.out HRI.out) hl).mono ?_;rintro e w4 ⟨v4,rfl,ho4,hb4⟩;have hx4:Bm w cs 62 b w4:=hx2.call hb4;have hs4:Hid (Gk w4 b (ZE S x.d)):=hs2.out.keep (hb4.block b (by have:=hx2.lt;omega));have hg4:Hid (w.grownBy w4 (some b)):=Du hg2.out (Ge hb4);obtain⟨A4,c4,rfl⟩:=L3 ho4;have HO4:=Lib.hid ho4;have hlow4:∀g,(Value.slice A4 (readsC x).length c4).ownBlock=some g→b < g:=fun g hg=>by have:=(ho4.lt g hg).1;have:=hx2.lt;omega
  have HLOW:=Lib.hid hlow4;have hlt4:=hx4.lt;clear ho4 hb4 hlow4
  go_wp2_with fail
  go_loopw [19] (fun i wr=>∃k:Nat,k≤(readsC x).length∧i= .int .i64 k∧Hid (Gk wr b (addL (ZE S x.d) ((readsC x).take k)))∧Hid (w.grownBy wr (some b))∧Hid (Hm wr w2.heap.size (.slice A4 (readsC x).length c4) (readsC x))) (fun i _=>(readsC x).length - (RowKit.intOf i).toNat)
  case atStart=>exact⟨0,Nat.zero_le _,rfl,by rw[List.take_zero,Md];exact hs4,hg4,HO4⟩
  case round=>
   obtain⟨k,hk,rfl,hsr,hgr,hor⟩:=hrel;clear hs4 hg4 HO4;by_cases hlt:k < (readsC x).length
   ·obtain⟨z,hz⟩:∃z,(readsC x)[k]? =some z:=⟨_,List.getElem?_eq_getElem hlt⟩
    have hzR:=HX.out z (List.mem_of_getElem? hz);have hzw:=hR.wf z hzR;obtain⟨g,cap,e,_⟩:=Q8 hor.out (by omega);cases e;have hcz:=UM hor.out hz;obtain⟨D,hown,hD⟩:=hsr.out;have hsz:=Gu hown hD hR (hi2.take HX.out k);have hm:Maps.size D < maxLen:=by have:=hsz.2;unfold maxLen;omega
    have HD:=Lib.hid hD;have HZ:=Lib.hid hz;have HK:=Lib.hid (Ajr hzw);clear hsz hD hz hsr
    go_wp2_with (at_mapUpdate;refine wpList_mapUpdate_own _ rfl _ _ _ 110 rfl 3 3 Ady Tryz.underlying110 _ b _ D rfl hown hm _ _ (.int .i64 z) rfl rfl HK.out _ [] (plainElem_int Tryz.underlying3 UP) ?_;intro w5 hown5 hgrow5)
    have hs5:Hid (Gk w5 b (addL (ZE S x.d) ((readsC x).take (k+1)))):=by
     rw[List.take_add_one,HZ.out,Option.toList_some,Nu];exact Gk.put hown HD.out hown5
    have hg5:Hid (w.grownBy w5 (some b)):=Du hgr.out hgrow5;have ho5:Hid (Hm w5 w2.heap.size (.slice (some ⟨g,0,none⟩) (readsC x).length c4) (readsC x)):=Dp hor.out (fun q hq=>hgrow5.block q (World.ownsRow.lt hor.out q hq).2 (by have:=HLOW.out q hq;simp;omega));clear hown5 hgrow5 hgr hor hown hcz
    go_wp2_with fail
    go_roundw
    case rel=>exact⟨k+1,by omega,by go_num,hs5,hg5,ho5⟩
    case measure=>simp[RowKit.intOf];omega
   ·obtain rfl:k=(readsC x).length:=by omega
    have hfin:Hid (Gk wr b (GN x S)):=by
     have h:=hsr.out;rw[List.take_length]at h;unfold GN;rw[HQ.out,if_pos rfl];exact h
    go_wp2_with fail
    go_end0
    exact⟨rfl,hfin.out,hgr.out⟩
end Mu
end
section
namespace Mu
open Go
def rdB(r:Int):List Ins→Bool
 | []=>false
 |x::ds=>(readsC x).contains r||(!(AY x&&x.d ==r)&&rdB r ds)
def Aaz(r:Int):List Ins→Bool
 | []=>true
 |x::ds=>!(AY x&&x.d ==r)&&Aaz r ds
def inS(ds:List Ins)(S:Int→Bool):Int→Bool:=ds.foldr GN S
theorem Vh(x:Ins)(S:Int→Bool)(r:Int):GN x S r=((readsC x).contains r||(!(AY x&&x.d ==r)&&S r)):=by
 unfold GN addL ZE;cases hw:AY x
 ·simp[Bool.or_comm]
 ·have e:(r ==x.d)=(x.d ==r):=by
   by_cases h:r=x.d
   ·subst h;simp
   ·rw[beq_eq_false_iff_ne.2 h,beq_eq_false_iff_ne.2 (Ne.symm h)]
  simp[bne,e,Bool.or_comm,Bool.and_comm]
theorem Rw(ds:List Ins)(S:Int→Bool)(r:Int):inS ds S r=(rdB r ds||(Aaz r ds&&S r)):=by
 induction ds with
 |nil=>simp[inS,rdB,Aaz]
 |cons x ds ih=>
  have h:inS (x::ds) S r=GN x (inS ds S) r:=rfl;rw[h,Vh,ih,rdB,Aaz];cases(readsC x).contains r <;> cases(AY x&&x.d ==r) <;> simp
def Ch(f:Func)(b:Nat):List Ins:=match f.blocks[b]? with|some bl=>bl.ins|none=>[]
def Edge(f:Func)(k b:Nat):Prop:=∃x∈El f (k:Int),x.1=b
inductive LOut (f:Func):Nat→Int→Prop
 |read {k b:Nat} {r:Int} (he:Edge f k b) (h:rdB r (Ch f b)=true):LOut f k r
 |pass {k b:Nat} {r:Int} (he:Edge f k b) (h:Aaz r (Ch f b)=true) (hl:LOut f b r):LOut f k r
theorem Xl{f:Func}{k b:Nat}{r:Int}{S:Int→Bool}(he:Edge f k b)(hS:S r=true→LOut f b r)(h:inS (Ch f b) S r=true):LOut f k r:=by
 rw[Rw]at h;simp only[Bool.or_eq_true,Bool.and_eq_true]at h;rcases h with h|⟨h1,h2⟩
 ·exact .read he h
 ·exact .pass he h1 (hS h2)
def Sub(R:List Int)(S:Int→Bool):Prop:=∀x,S x=true→x∈R
theorem Sub.inR{R:List Int}{S:Int→Bool}(h:Sub R S):InR R S:=⟨fun x _ hs=>h x hs⟩
theorem Sub.back{R:List Int}{S:Int→Bool}{x:Ins}(h:Sub R S)(hx:∀r∈readsC x,r∈R):Sub R (GN x S):=fun r hr=>by
 rw[Vh]at hr;simp only[Bool.or_eq_true,Bool.and_eq_true,List.contains_iff_mem]at hr;rcases hr with hr|⟨_,hr⟩
 ·exact hx r hr
 ·exact h r hr
theorem Sub.inS{R:List Int}{S:Int→Bool}{ds:List Ins}(h:Sub R S)(hx:∀x∈ds,∀r∈readsC x,r∈R):Sub R (Mu.inS ds S):=by
 induction ds with
 |nil=>exact h
 |cons x ds ih=>exact(ih fun y hy=>hx y (by simp[hy])).back (hx x (by simp))
def uni(S N:Int→Bool):Int→Bool:=fun x=>S x||N x
theorem Acv{R:List Int}{S N:Int→Bool}:(R.filter S).length≤(R.filter (uni S N)).length:=by
 induction R with
 |nil=>simp
 |cons x l ih=>
  have e:(uni S N) x=(S x||N x):=rfl;simp only[List.filter_cons,e];cases hS:S x <;> cases hN:N x <;> simp <;> omega
theorem WN{R:List Int}{S N:Int→Bool}(h:(R.filter (uni S N)).length≤(R.filter S).length):∀x∈R,N x=true→S x=true:=by
 induction R with
 |nil=>simp
 |cons y l ih=>
  have hc:(l.filter S).length≤(l.filter (uni S N)).length:=Acv;have e:(uni S N) y=(S y||N y):=rfl;simp only[List.filter_cons,e]at h;intro x hx hn;cases hS:S y
  ·cases hN:N y
   ·simp only[hS,hN,Bool.or_false,Bool.false_eq_true,if_false]at h;rcases List.mem_cons.1 hx with rfl|hx
    ·rw[hN]at hn;cases hn
    ·exact ih h x hx hn
   ·simp only[hS,hN,Bool.or_true,Bool.false_eq_true,if_true,if_false,List.length_cons]at h;omega
  ·simp only[hS,Bool.true_or,if_true,List.length_cons]at h;rcases List.mem_cons.1 hx with rfl|hx
   ·exact hS
   ·exact ih (by omega) x hx hn
theorem Us{R:List Int}{S N:Int→Bool}(hN:Sub R N)(h:(R.filter (uni S N)).length≤(R.filter S).length):uni S N=S:=by
 funext x;unfold uni;cases hS:S x
 ·cases hn:N x
  ·rfl
  ·have:=WN h x (hN x hn) hn;rw[hS]at this;cases this
 ·rfl
end Mu
end
section
namespace Mu
open Go Go.RowKit Go.Proofs
section
variable{P:Program}
def L2(P:Program):List Field→Option (List (Nat×Nat))
 | []=>some []
 |f::fs=>
  match P.info? f.type with
  |some i=>(L2 P fs).map fun l=>(f.offset,i.size)::l
  |none=>none
def Ec(P:Program)(t:TypeId):Option (List (Nat×Nat)):=
 match P.underlying t with
 |some (.struct fs)=>L2 P fs.toList
 |_=>none
theorem KE(w:World):∀(fs:List Field) (l:List (Nat×Nat)),L2 P fs=some l→(fs.mapM (m:=Sem) fun f=>do pure (f.offset,←Go.sizeOf f.type)).run P w= .ok l w
 | [],l,h=>by cases h;rfl
 |f::fs,l,h=>by
  unfold L2 at h;split at h <;> try(cases h;done)
  rename_i i hi;obtain⟨l',h1,rfl⟩:=Option.map_eq_some_iff.1 h;have ih:=KE w fs l' h1;have h0:(do pure (f.offset,←Go.sizeOf f.type):Sem (Nat×Nat)).run P w= .ok (f.offset,i.size) w:=by simp[Go.sizeOf,typeInfo,hi]
  rw[List.mapM_cons,Sem.run_bind,h0];simp only[Result.andThen_ok,Sem.run_bind,ih,Sem.run_pure]
def putCells(pl:List (Nat×Nat)):List AV→List (Nat×AV)→Option (List AV)
 |cs,[]=>some cs
 |cs,(j,x)::ps=>
  match pl[j]? with
  |some (off,1)=>if off < cs.length then putCells pl (cs.set off x) ps else none
  |_=>none
theorem U5{w:World}{S:Nat→Prop}{h:List ABlk}{ψ:Nat→Value}{pl:List (Nat×Nat)}:∀(ps:List (Nat×AV)) (cs rs:List AV) (vs:List (Nat×Value)) (us:List Value),putCells pl cs ps=some rs→Ah w S h ψ cs us→
 vs.map (·.1)=ps.map (·.1)→(∀(j:Nat) (p:Nat×AV) (v:Nat×Value),ps[j]? =some p→vs[j]? =some v→AV.rel w S h ψ p.2 v.2∧v.2.oneCell'=true)→
 ∃us',Instr.fill (fun i=>pl[i]?) us.toArray vs=some us'.toArray∧Ah w S h ψ rs us'
 | [],cs,rs,vs,us,hp,hr,hv,_=>by
  cases hp;have:vs= []:=by simpa using hv
  subst this;exact⟨us,rfl,hr⟩
 |(j,x)::ps,cs,rs,vs,us,hp,hr,hv,hrel=>by
  cases vs with
  |nil=>simp at hv
  |cons v vs=>
   simp only[List.map_cons,List.cons.injEq]at hv;obtain⟨hv1,hv2⟩:=hv;unfold putCells at hp;split at hp <;> try(cases hp;done)
   rename_i off hpl;split at hp <;> try(cases hp;done)
   rename_i hoff;obtain⟨h1,h2⟩:=hrel 0 _ _ rfl rfl;have hul:=By hr;obtain⟨us',h3,h4⟩:=U5 ps (cs.set off x) rs vs (us.set off v.2) hp (G0 hr off h1) hv2 fun j p v hp hv=>hrel (j+1) p v (by simpa using hp) (by simpa using hv)
   refine⟨us',?_,h4⟩;obtain⟨i,v⟩:=v;dsimp only at hv1 h1 h2 h3;subst hv1;unfold Instr.fill;simp only[hpl,Ic h2];have hc:¬((decide ((#[v]:Array Value).size≠1)||decide (off+(#[v]:Array Value).size > us.toArray.size))=true):=by
    simp;omega
   rw[if_neg hc];simpa using h3
theorem AX.build{C:Ctx}{t:List AV}{h:List ABlk}{o:Oper}{ty:TypeId}{parts:Array (Nat×Operand)}{zs:List Value}{pl:List (Nat×Nat)}{rs:List AV}(ho:o.op= .build ty parts)(hz:B2 P ty=some zs)(hpl:Ec P ty=some pl)
 (hr:putCells pl (zs.map .lit) (parts.toList.map fun p=>(p.1,evA t p.2))=some rs) (h1:∀p∈parts.toList,One h (evA t p.2)):AX P C t h o (.agg rs):=
 AR fun S ψ w ρ H hρ=>by
  unfold B2 at hz;obtain⟨z,hz1,rfl⟩:=Option.map_eq_some_iff.1 hz;obtain⟨i,hi,hz2⟩:=Option.bind_eq_some_iff.1 hz1;unfold Ec at hpl;split at hpl <;> try(cases hpl;done)
  rename_i fs hu;have hrp:=KE (P:=P) w fs.toList pl hpl;have hmem:∀p∈parts.toList,AV.rel w S h ψ (evA t p.2) (ρ p.2):=fun p hp=>hρ p.2 (by rw[ho];exact List.mem_toArray.2 (List.mem_map.2 ⟨p,hp,rfl⟩))
  obtain⟨us',h3,h4⟩:=U5 (w:=w) (S:=S) (h:=h) (ψ:=ψ) _ _ rs (parts.toList.map fun p=>(p.1,ρ p.2)) z.cells.toList hr (EF _) (by simp) fun j p v hp hv=>by
   rw[List.getElem?_map]at hp hv;obtain⟨q,hq,rfl⟩:=Option.map_eq_some_iff.1 hp;rw[hq]at hv;cases hv;have hqm:=List.mem_of_getElem? hq;exact⟨hmem q hqm,h1 q hqm C S ψ w _ H (hmem q hqm)⟩
  refine⟨.agg us'.toArray,?_,by unfold AV.rel;exact⟨us',rfl,h4⟩⟩;have hpa:(fs.mapM (m:=Sem) fun f=>do pure (f.offset,←Go.sizeOf f.type)).run P w= .ok pl.toArray w:=by
   rw[←Array.toArray_toList (xs:=fs),List.mapM_toArray,Sem.run_map,hrp];rfl
  have hf:Instr.fill (fun i=>pl.toArray[i]?) z.cells (parts.map fun p=>(p.1,ρ p.2)).toList=some us'.toArray:=by simpa using h3
  simp only[execOp,ho,Instr.build,zeroValue,typeInfo,underlying,Sem.run_bind,run_program,Result.andThen_ok,hi,hz2,Sem.run_pure,hu,hpa,hf]
def Akk(t:Tmp)(r:AV):Exit→St→Prop:=fun e s=>(e= .normal∨e= .ret)∧∃i cells,evA s.t (.tmp t)= .ptr i 0∧s.h[i]? =some (.box cells)∧Fin s.h (.agg cells) r
theorem ID{f:FuncId}{fn:Go.Func}{c:Code}{args:List AV}{r:AV}{t:Tmp}{ty:TypeId}{n m:Nat}(hf:P.funcs[f]? =some fn)(hb:fn.body=some c)(hE:B6 P f=true)(hres:fn.results= #[.cell t ty])(ha:T9 P ty=some (true,m))(hn:fn.ntmps=n)
 (h:∀C:Ctx,C.std→Awp P C c (fun e s=>Akk t r e s∧∀i cells,evA s.t (.tmp t)= .ptr i 0→s.h[i]? =some (.box cells)→cells.length=m) ⟨args++List.replicate (n - args.length) (.lit undef),[]⟩):Fn P f args r:=by
 refine⟨hE,fun w S vs hS hr=>calls_of_wp hf hb ?_⟩;rw[hn];refine wp_mono ((h ⟨w,S,fun k=>k < w.heap.size,none⟩ (fun _ h=>h)).wp rfl (Dk hS hr)) ?_;rintro e a' w' ⟨s,⟨⟨he,i,cells,hev,hi,hfin⟩,hlen⟩,hd,S1,ψ,H,hl⟩;rw[hfin.1]at hd;have hm:=hlen i cells hev hi;have hv:=BJ hl (.tmp t);rw[hev]at hv;unfold AV.rel at hv;obtain⟨g,h1,h2⟩:=hv.2 (by rw[hi];rfl);obtain⟨g',cs,e',h3,_,_,h4,h5⟩:=H.blk i _ hi;rw[h1]at h3;cases h3;have hc:∀j u,cs[j]? =some u→w'.cell? ⟨g,0+j,none⟩=some u:=fun j u hu=>by simp[World.cell?,h4,hu]
 have hload:=Hv (P:=P) (ty:=ty) (b:=g) (off:=0) ha (by rw[By h5];exact hm) hc;have hres':(results fn a'.tmps).run P w'= .ok (.agg cs.toArray) w':=by
  have e1:(a'.tmps[t]?).getD undef= .pointer (some ⟨g,0,none⟩):=by rw[←Array.getD_eq_getD_getElem?];exact h2
  unfold Instr.loadAt Instr.sureAddr at hload;simp only[Sem.run_bind,Sem.run_pure,Result.andThen_ok]at hload;simp[results,hres,e1,asAddr,hload]
 have hg:=Es H hfin (by unfold AV.rel;exact⟨cs,rfl,h5⟩);rcases he with rfl|rfl
 ·exact⟨hd,_,hres',_,rfl,hg⟩
 ·exact⟨hd,_,hres',_,rfl,hg⟩
end
end Mu
end
section
namespace Mu
open Go Go.RowKit
mutual
def EY(p:Nat):AV→Bool
 | .own i _=>i !=p
 | .ptr i _=>i !=p
 | .rp i _ _ _=>i !=p
 | .agg l=>C9 p l
 | .tup l=>C9 p l
 | .fn _ l=>C9 p l
 |_=>true
def C9(p:Nat):List AV→Bool
 | []=>true
 |x::l=>EY p x&&C9 p l
end
def nrB(p:Nat):ABlk→Bool
 | .box cells=>C9 p cells
 |_=>true
section
variable{w:World}{S:Nat→Prop}{h:List ABlk}{ψ ψ':Nat→Value}{p:Nat}{b:ABlk}
mutual
theorem FN(hψ:∀i,i≠p→ψ' i=ψ i):∀(x:AV) (v:Value),EY p x=true→AV.rel w S h ψ x v→AV.rel w S (h.set p b) ψ' x v
 | .any,_,_,_=>by unfold AV.rel;trivial
 | .lit u,v,_,H=>by unfold AV.rel at H⊢;exact H
 | .bs T l,v,_,H=>by unfold AV.rel at H⊢;exact H
 | .tv T d,v,_,H=>by unfold AV.rel at H⊢;exact H
 | .own i ver,v,hn,H=>by
  have hi:i≠p:=by simpa[EY]using hn
  unfold AV.rel at H⊢;rw[List.getElem?_set_ne (Ne.symm hi),hψ i hi];exact⟨by simpa using H.1,H.2⟩
 | .ptr i off,v,hn,H=>by
  have hi:i≠p:=by simpa[EY]using hn
  unfold AV.rel at H⊢;rw[List.getElem?_set_ne (Ne.symm hi),hψ i hi];exact⟨by simpa using H.1,H.2⟩
 | .rp i ver k off,v,hn,H=>by
  have hi:i≠p:=by simpa[EY]using hn
  unfold AV.rel at H⊢;rw[List.getElem?_set_ne (Ne.symm hi),hψ i hi];exact⟨by simpa using H.1,H.2⟩
 | .bp T d off,v,_,H=>by unfold AV.rel at H⊢;exact H
 | .agg l,v,hn,H=>by
  unfold EY at hn;unfold AV.rel at H⊢;obtain⟨cs,e,hl⟩:=H;exact⟨cs,e,Cu hψ l cs hn hl⟩
 | .tup l,v,hn,H=>by
  unfold EY at hn;unfold AV.rel at H⊢;obtain⟨cs,e,hl⟩:=H;exact⟨cs,e,Cu hψ l cs hn hl⟩
 | .fn f l,v,hn,H=>by
  unfold EY at hn;unfold AV.rel at H⊢;obtain⟨cs,e,hl⟩:=H;exact⟨cs,e,Cu hψ l cs hn hl⟩
theorem Cu(hψ:∀i,i≠p→ψ' i=ψ i):∀(l:List AV) (cs:List Value),C9 p l=true→Ah w S h ψ l cs→Ah w S (h.set p b) ψ' l cs
 | [],cs,_,H=>by unfold Ah at H⊢;exact H
 |x::l,cs,hn,H=>by
  unfold C9 at hn;rw[Bool.and_eq_true]at hn;unfold Ah at H⊢;obtain⟨v,vs,e,h1,h2⟩:=H;exact⟨v,vs,e,FN hψ x v hn.1 h1,Cu hψ l vs hn.2 h2⟩
end
variable{h':List ABlk}
mutual
theorem Jy(hc:Cut h h')(hl:h'.length=h.length):∀(x:AV) (v:Value),AV.rel w S h ψ x v→AV.rel w S h' ψ x v
 | .any,_,_=>by unfold AV.rel;trivial
 | .lit u,v,H=>by unfold AV.rel at H⊢;exact H
 | .bs T l,v,H=>by unfold AV.rel at H⊢;exact H
 | .tv T d,v,H=>by unfold AV.rel at H⊢;exact H
 | .own i ver,v,H=>by
  unfold AV.rel at H⊢;exact⟨by omega,fun c hv=>H.2 c (hc.ver hv).1⟩
 | .ptr i off,v,H=>by
  unfold AV.rel at H⊢;exact⟨by omega,fun hv=>H.2 (hc.box hv)⟩
 | .rp i ver k off,v,H=>by
  unfold AV.rel at H⊢;refine⟨by omega,fun c hv=>?_⟩;rw[(hc.ver hv).2];exact H.2 c (hc.ver hv).1
 | .bp T d off,v,H=>by unfold AV.rel at H⊢;exact H
 | .agg l,v,H=>by
  unfold AV.rel at H⊢;obtain⟨cs,e,hL⟩:=H;exact⟨cs,e,EP hc hl l cs hL⟩
 | .tup l,v,H=>by
  unfold AV.rel at H⊢;obtain⟨cs,e,hL⟩:=H;exact⟨cs,e,EP hc hl l cs hL⟩
 | .fn f l,v,H=>by
  unfold AV.rel at H⊢;obtain⟨cs,e,hL⟩:=H;exact⟨cs,e,EP hc hl l cs hL⟩
theorem EP(hc:Cut h h')(hl:h'.length=h.length):∀(l:List AV) (cs:List Value),Ah w S h ψ l cs→Ah w S h' ψ l cs
 | [],cs,H=>by unfold Ah at H⊢;exact H
 |x::l,cs,H=>by
  unfold Ah at H⊢;obtain⟨v,vs,e,h1,h2⟩:=H;exact⟨v,vs,e,Jy hc hl x v h1,EP hc hl l vs h2⟩
end
theorem HRel.cute{C:Ctx}(H:HRel C h S ψ w)(hc:Cut h h')(hl:h'.length=h.length):HRel C h' S ψ w:=
 ⟨H.bel,H.nlt,H.lt,H.sub,H.new,fun i b hi=>by
  rcases hc.blk i b hi with rfl|h1
  ·trivial
  ·have hB:=H.blk i b h1;cases b with
   |dead=>trivial
   |box cells=>
    obtain⟨g,cs,e,k1,k2,k3,k4,k5⟩:=hB;exact⟨g,cs,e,k1,k2,k3,k4,EP hc hl _ _ k5⟩
   |row ver e T l=>exact hB
   |res R=>exact hB,fun i j hij h1 h2=>by rw[hc.same h1,hc.same h2];exact H.dis i j hij (hc.live h1) (hc.live h2)⟩
theorem Xp(hp:h[p]? =some .dead):Cut (h.set p b) h:=⟨by simp,fun i c hi=>by
 by_cases hip:i=p
 ·subst hip;rw[hp]at hi;exact .inl (by injection hi with e;exact e.symm)
 ·exact .inr (by rw[List.getElem?_set_ne (Ne.symm hip)];exact hi)⟩
theorem AX.up{P:Program}{C:Ctx}{t:List AV}{o:Oper}{r:AV}(hp:h[p]? =some .dead)(hr:EY p r=true)(hq:AX P C t h o r):AX P C t (h.set p b) o r:=by
 intro S ψ w ρ H hx;have hc:Cut (h.set p b) h:=Xp hp;have hl:h.length=(h.set p b).length:=by simp
 have h1:=hq S ψ w ρ (H.cute hc hl) fun x hxm=>Jy hc hl _ _ (hx x hxm)
 have key:∀v w',Xm w S h ψ r v w'→Xm w S (h.set p b) ψ r v w':=fun v w' ⟨hb,S',k1,k2,k3,k4⟩=>⟨hb,S',k1,k2,k3,FN (fun _ _=>rfl) r v hr k4⟩
 cases hres:(execOp ρ o).run P w with
 |ok n w'=>
  rw[hres]at h1;cases n <;> simp only[Tk]at h1⊢
  case value v=>exact key _ _ h1
  case skip=>exact key _ _ h1
  case enter f args=>exact⟨h1.1,h1.2.mono fun e w'' ⟨v,he,hg⟩=>⟨v,he,key _ _ hg⟩⟩
 |halt x w'=>rw[hres]at h1;simp only[Tk]at h1
theorem HRel.revive{C:Ctx}{w':World}{v:Value}(H:HRel C h S ψ w)(hp:h[p]? =some .dead)(hn:h.all (nrB p)=true)(hb:Below w.heap.size w w')(hB:Gm C.N w' S (h.set p b) (Bo ψ p v) v b)(hg:∀g,ftp (some b) v g→w.heap.size≤g):
 HRel C (h.set p b) S (Bo ψ p v) w':=by
 have hpl:=(List.getElem?_eq_some_iff.1 hp).1;have H':=H.grow (S':=S) hb (fun _ h=>h) (fun _ h=>.inl h) fun k hk=>Nat.lt_of_lt_of_le (H.lt k hk) hb.size
 have hlt:∀i,ABlk.live h[i]? =true→∀g,ftp h[i]? (ψ i) g→g < w.heap.size:=fun i hl g hgg=>by
  obtain⟨c,hc⟩:=Dq hl;rw[hc]at hgg;exact((H.blk i c hc).lt (by rw[←hc];exact hl) g hgg).2.1
 refine⟨H'.bel,H'.nlt,H'.lt,H'.sub,H'.new,fun i c hi=>?_,fun i j hij hi hj g h1 h2=>?_⟩
 ·by_cases hip:i=p
  ·subst hip;rw[List.getElem?_set_self hpl]at hi;cases hi;rw[AZ];exact hB
  ·rw[List.getElem?_set_ne (Ne.symm hip)]at hi;rw[Bq hip];have hc:=H'.blk i c hi;have hnr:=List.all_eq_true.1 hn c (List.mem_of_getElem? hi);cases c with
   |dead=>trivial
   |box cells=>
    obtain⟨g,cs,e,k1,k2,k3,k4,k5⟩:=hc;exact⟨g,cs,e,k1,k2,k3,k4,Cu (fun i hi=>Bq hi) _ _ hnr k5⟩
   |row ver e T l=>exact hc
   |res R=>exact hc
 ·by_cases hip:i=p
  ·subst hip;rw[AZ,List.getElem?_set_self hpl]at h1;have hji:j≠i:=Ne.symm hij;rw[Bq hji,List.getElem?_set_ne (Ne.symm hji)]at h2;rw[List.getElem?_set_ne (Ne.symm hji)]at hj;have:=hlt j hj g h2;have:=hg g h1;omega
  ·rw[Bq hip,List.getElem?_set_ne (Ne.symm hip)]at h1;rw[List.getElem?_set_ne (Ne.symm hip)]at hi;by_cases hjp:j=p
   ·subst hjp;rw[AZ,List.getElem?_set_self hpl]at h2;have:=hlt i hi g h1;have:=hg g h2;omega
   ·rw[Bq hjp,List.getElem?_set_ne (Ne.symm hjp)]at h2;rw[List.getElem?_set_ne (Ne.symm hjp)]at hj;exact H.dis i j hij hi hj g h1 h2
end
section
variable{P:Program}{C:Ctx}{ops:Array Oper}{md:Region.Mode}{h:List ABlk}{p ip:Nat}{zs:List Value}{elem:TypeId}
def Adz(o:Oper):Bool:=
 match o.op with
 | .alloc _=>true
 |_=>false
def Ii(P:Program)(C:Ctx)(ops:Array Oper)(h:List ABlk)(p:Nat)(zs:List Value)(o:Oper)(r:AV)(t:List AV):Prop:=
 (Adz o=false∧gA ops t o=some true∧AX P C t h o r∧EY p r=true)∨(Adz o=false∧gA ops t o=some false∧r= .lit undef)∨(Adz o=true∧o.guard=none∧r= .ptr p 0∧∃elem,o.op= .alloc elem∧B2 P elem=some zs)
def bOp(P:Program)(C:Ctx)(ops:Array Oper)(h:List ABlk)(p ip:Nat)(zs:List Value)(i:Nat)(K:List AV→Prop)(t:List AV):Prop:=
 match ops[i]? with
 |none=>K t
 |some o=>∃r,Ii P C ops h p zs o r t∧Adz o=decide (i=ip)∧K (BH t o.dst r)
theorem Ac4{i:Nat}{t:List AV}{K K':List AV→Prop}(hk:∀t,K t→K' t)(hh:bOp P C ops h p ip zs i K t):bOp P C ops h p ip zs i K' t:=by
 unfold bOp at *;split
 ·exact hk _ (by simpa[*]using hh)
 ·rename_i o ho;simp only[ho]at hh;obtain⟨r,h1,h2,h3⟩:=hh;exact⟨r,h1,h2,hk _ h3⟩
def Ajb(P:Program)(C:Ctx)(md:Region.Mode)(ops:Array Oper)(h:List ABlk)(p ip:Nat)(zs:List Value)(n:Nat)(L:Array Bool→List AV→Prop):Nat→Array Bool→List AV→Prop
 |0,listed,t=>L listed t
 |f+1,listed,t=>
  Region.ready md ops listed≠[]∧∀i∈Region.ready md ops listed,i < n∧bOp P C ops h p ip zs i (Ajb P C md ops h p ip zs n L f (listed.setIfInBounds i true)) t
def NN(h:List ABlk)(p ip:Nat)(zs:List Value)(listed:Array Bool):List ABlk:=if listed.getD ip false=true then h.set p (.box (zs.map .lit))else h
theorem Y9{listed:Array Bool}{i:Nat}(hi:i≠ip):NN h p ip zs (listed.setIfInBounds i true)=NN h p ip zs listed:=by
 unfold NN;rw[getD_set_ne false hi]
theorem Afn{listed:Array Bool}:NN h p ip zs listed=h∨NN h p ip zs listed=h.set p (.box (zs.map .lit)):=by
 unfold NN;split
 ·exact .inr rfl
 ·exact .inl rfl
theorem Ae8{t:List AV}{d:Option Tmp}{r:AV}(ht:C9 p t=true)(hr:EY p r=true):C9 p (BH t d r)=true:=by
 cases d with
 |none=>exact ht
 |some d=>
  unfold BH;simp only;induction t generalizing d with
  |nil=>exact ht
  |cons x t ih=>
   unfold C9 at ht;rw[Bool.and_eq_true]at ht;cases d with
   |zero=>unfold List.set C9;rw[hr,ht.2];rfl
   |succ d=>unfold List.set C9;rw[ht.1,ih ht.2];rfl
theorem SP{i:Nat}{t:List AV}{a:Act}{w:World}{K:List AV→Prop}{K':Act→World→Prop}{Q':Exit→Act→World→Prop}{listed:Array Bool}(hp:h[p]? =some .dead)(hn:h.all (nrB p)=true)(hnt:listed.getD ip false=false→C9 p t=true)
 (hip:ip < listed.size) (hr:i∈Region.ready md ops listed) (H:St.rel C ⟨t,NN h p ip zs listed⟩ a w)
 (hK:∀t a w,K t→((listed.setIfInBounds i true).getD ip false=false→C9 p t=true)→St.rel C ⟨t,NN h p ip zs (listed.setIfInBounds i true)⟩ a w→K' a w)
 (hh:bOp P C ops h p ip zs i K t):wpOp P ops Q' i K' a w:=by
 obtain⟨hun,o,ho,-⟩:=mem_ready.1 hr;unfold bOp at hh;unfold wpOp;simp only[ho]at hh⊢;obtain⟨r,hy,hal,hk⟩:=hh;obtain⟨hd,S,ψ,hh',hl⟩:=id H;have hnr:∀{r:AV},i≠ip→EY p r=true→((listed.setIfInBounds i true).getD ip false=false→C9 p (BH t o.dst r)=true):=fun hi hr hl=>by
  rw[getD_set_ne false hi]at hl;exact Ae8 (hnt hl) hr
 rcases hy with⟨ha,hg,hq,hrn⟩|⟨ha,hg,rfl⟩|⟨ha,hgd,rfl,el,hop,hz⟩
 ·have hw:=DL hg hl;rw[hw,if_pos rfl];have hi:i≠ip:=fun e=>by rw[ha]at hal;simp[e]at hal
  refine .inl ?_;have hq':AX P C t (NN h p ip zs listed) o r:=by
   rcases Afn (h:=h) (p:=p) (ip:=ip) (zs:=zs) (listed:=listed)with e|e <;> rw[e]
   ·exact hq
   ·exact hq.up hp hrn
  exact JC (s:=⟨t,NN h p ip zs listed⟩) hd hh' hl (hq' S ψ w a.eval hh' fun x _=>BJ hl x) fun a' w' h'=>hK _ _ _ hk (hnr hi hrn) (by rw[Y9 hi];exact h')
 ·have hw:=DL hg hl;rw[hw,if_neg (by simp)];have hi:i≠ip:=fun e=>by rw[ha]at hal;simp[e]at hal
  exact hK _ _ _ hk (hnr hi rfl) (by rw[Y9 hi];exact Fj H o.dst)
 ·have hi:i=ip:=by rw[ha]at hal;simpa using hal.symm
  subst hi;have hw:Region.wanted o (yielded ops a.tmps)=true:=by unfold Region.wanted;rw[hgd]
  rw[hw,if_pos rfl];refine .inl ?_;have hun':listed.getD i false=false:=getD_both hun;have hc0:NN h p i zs listed=h:=by unfold NN;rw[if_neg (by simp[hun'])]
  have hc1:NN h p i zs (listed.setIfInBounds i true)=h.set p (.box (zs.map .lit)):=by
   unfold NN;rw[if_pos (by simp[Array.getD_eq_getD_getElem?,hip])]
  rw[hc0]at hh' hl;unfold B2 at hz;obtain⟨z,hz1,rfl⟩:=Option.map_eq_some_iff.1 hz;obtain⟨ti,hti,hz2⟩:=Option.bind_eq_some_iff.1 hz1;have hrun:(execOp a.eval o).run P w= .ok (.value (.pointer (some ⟨w.heap.size,0,none⟩))) (w.alloc (.cells z.cells el)):=by
   simp[execOp,hop,Instr.alloc,zeroValue,typeInfo,hti,hz2,newVar,newRow]
  unfold Oper.wp;rw[hrun];have hb:Below w.heap.size w (w.alloc (.cells z.cells el)):=(Below.refl _ _).alloc (Nat.le_refl _) _;have hB:Gm C.N (w.alloc (.cells z.cells el)) S (h.set p (.box (z.cells.toList.map .lit))) (Bo ψ p (.pointer (some ⟨w.heap.size,0,none⟩))) (.pointer (some ⟨w.heap.size,0,none⟩)) (.box (z.cells.toList.map .lit)):=
   ⟨w.heap.size,z.cells.toList,el,rfl,fun hN=>by have:=hh'.nlt _ hN;have:=hh'.bel.size;omega,fun hS=>by have:=hh'.lt _ hS;omega,by simpa using heap_alloc_new w (.cells z.cells el),EF _⟩
  have H1:=hh'.revive hp hn hb hB fun g hg=>by simp[ftp,BY]at hg;omega
  have hl1:=Ay (Ext.grow h ψ (fun k hk=>hb.block k (hh'.lt k hk)) fun _ h=>h) _ _ hl;have hl2:=Cu (b:=.box (z.cells.toList.map .lit)) (ψ':=Bo ψ p (.pointer (some ⟨w.heap.size,0,none⟩))) (fun i hi=>Bq hi) _ _ (hnt hun') hl1;refine hK _ _ _ hk (fun hl=>?_) ?_
  ·simp[Array.getD_eq_getD_getElem?,hip]at hl
  ·rw[hc1];refine⟨by rw[put_defers,hd];show mkD (NN _ _ _ _ _)=mkD (h.set p _);rw[hc0];exact(Dc (b':=.box (z.cells.toList.map .lit)) hp rfl).symm,S,_,H1,Gc hl2 o.dst ?_⟩;unfold AV.rel;exact⟨by simpa using(List.getElem?_eq_some_iff.1 hp).1,fun _=>⟨w.heap.size,AZ,rfl⟩⟩
theorem N3{n g:Nat}{L:Array Bool→List AV→Prop}{Q':Exit→Act→World→Prop}(hp:h[p]? =some .dead)(hn:h.all (nrB p)=true)(hL:∀listed t a w,L listed t→St.rel C ⟨t,NN h p ip zs listed⟩ a w→wpAny P md ops Q' g listed a w):
 ∀(f:Nat) (listed:Array Bool) (t:List AV) (a:Act) (w:World),ip < listed.size→(listed.getD ip false=false→C9 p t=true)→Ajb P C md ops h p ip zs n L f listed t→St.rel C ⟨t,NN h p ip zs listed⟩ a w→wpAny P md ops Q' (f+g) listed a w
 |0,listed,t,a,w,_,_,hh,H=>by rw[Nat.zero_add];exact hL _ _ _ _ hh H
 |f+1,listed,t,a,w,hip,hnt,hh,H=>by
  rw[show f+1+g=(f+g)+1 by omega];exact⟨fun h0=>absurd h0 hh.1,fun i hi=>SP hp hn hnt hip hi H (fun t' a' w' h' hnt' H'=>N3 hp hn hL f _ t' a' w' (by simpa using hip) hnt' h' H') (hh.2 i hi).2⟩
theorem Nr{o:Oper}{t:List AV}{dst:Option Tmp}{u r:AV}(hdst:∀d,dst=some d→d∉o.looksAt ops):Ii P C ops h p zs o r (BH t dst u)↔Ii P C ops h p zs o r t:=by
 unfold Ii;rw[Ad3 hdst,Q1 hdst]
theorem Af5{j:Nat}{oi oj:Oper}{v:AV}(hj:ops[j]? =some oj)(hap:oi.apart ops oj=true){K:List AV→Prop}{t:List AV}(hy:Ii P C ops h p zs oi v t)(hh:bOp P C ops h p ip zs j K (BH t oi.dst v)):
 bOp P C ops h p ip zs j (fun t'=>Ii P C ops h p zs oi v t'∧K (BH t' oi.dst v)) t:=by
 obtain⟨h1,h2,h3⟩:=Oper.apart_spec hap;unfold bOp at *;simp only[hj]at *;obtain⟨r,hr,ha,hk⟩:=hh;exact⟨r,(Nr h1).1 hr,ha,(Nr h3).2 hy,by rw[←Q3 t v r h2];exact hk⟩
theorem WZ{n i:Nat}{oi:Oper}{v:AV}{L:Array Bool→List AV→Prop}(hi:ops[i]? =some oi)(hial:Adz oi=decide (i=ip))
 (htail:∀listed i,HeadInv md ops n listed→i < n→listed.getD i true=false→∀t,n≤t→t∉Region.ready md ops listed) (hin:i < n)
 (hdone:∀listed t,L listed t→∀j∈Region.ready md ops listed,n≤j):
 ∀(f:Nat) (listed:Array Bool) (t:List AV),HeadInv md ops n listed→
  (∀j oj,ops[j]? =some oj→j≠i→listed.getD j true=false→(∀e∈oj.after,Region.binds md e=true→e.on≠i)→oi.apart ops oj=true)→
  i∈Region.ready md ops listed→Ii P C ops h p zs oi v t→
  Ajb P C md ops h p ip zs n L f (listed.setIfInBounds i true) (BH t oi.dst v)→Ajb P C md ops h p ip zs n L (f+1) listed t:=by
 intro f;induction f with
 |zero=>
  intro listed t inv _ hr hy H;have hun:=(mem_ready.1 hr).1;refine⟨fun h=>(by rw[h]at hr;cases hr),fun j hj=>?_⟩;have hjn:j < n:=by
   rcases Nat.lt_or_ge j n with h|h
   ·exact h
   ·exact absurd hj (htail _ i inv hin hun j h)
  refine⟨hjn,?_⟩;by_cases hji:j=i
  ·subst hji;unfold bOp;simp only[hi];exact⟨v,hy,hial,H⟩
  ·have:=hdone _ _ H j (ready_mono hj hji);omega
 |succ f ih=>
  intro listed t inv hfree hr hy H;have hun:=(mem_ready.1 hr).1;refine⟨fun h=>(by rw[h]at hr;cases hr),fun j hj=>?_⟩;have hjn:j < n:=by
   rcases Nat.lt_or_ge j n with h|h
   ·exact h
   ·exact absurd hj (htail _ i inv hin hun j h)
  refine⟨hjn,?_⟩;by_cases hji:j=i
  ·subst hji;unfold bOp;simp only[hi];exact⟨v,hy,hial,H⟩
  ·have h1:=(H.2 j (ready_mono hj hji)).2;obtain⟨hjun,oj,hoj,hall⟩:=mem_ready.1 hj;have hnot:∀e∈oj.after,Region.binds md e=true→e.on≠i:=fun e he hb heq=>by
    have h1:=hall e he hb;rw[heq,getD_both hun]at h1;cases h1
   have h2:=Af5 hoj (hfree j oj hoj hji hjun hnot) hy h1;have hfree':∀k ok,ops[k]? =some ok→k≠i→(listed.setIfInBounds j true).getD k true=false→
    (∀e∈ok.after,Region.binds md e=true→e.on≠i)→oi.apart ops ok=true:=fun k ok hk hki hun hno=>by
    refine hfree k ok hk hki ?_ hno;by_cases hjk:j=k
    ·subst hjk;exact hjun
    ·rw[getD_set_ne true hjk]at hun;exact hun
   refine Ac4 (fun a' h3=>ih (listed.setIfInBounds j true) a' (inv.set hj hjn) hfree' (ready_mono hr (Ne.symm hji)) h3.1 ?_) h2;rw[Array.setIfInBounds_comm _ _ hji];exact h3.2
def bQ(P:Program)(C:Ctx)(ops:Array Oper)(h:List ABlk)(p ip:Nat)(zs:List Value)(K:List AV→Prop):Nat→List Oper→List AV→Prop
 |_,[],t=>K t
 |k,o::rest,t=>∃r,Ii P C ops h p zs o r t∧Adz o=decide (k=ip)∧bQ P C ops h p ip zs K (k+1) rest (BH t o.dst r)
theorem Vi{n g:Nat}{Lq:List AV→Prop}(htail:∀listed i,HeadInv md ops n listed→i < n→listed.getD i true=false→∀t,n≤t→t∉Region.ready md ops listed)(hipn:ip < n):
 ∀(l:List Oper) (k:Nat) (listed:Array Bool) (t:List AV),(∀j,j < l.length→l[j]? =ops[k+j]?)→k+l.length=n→HeadInv md ops n listed→(∀j,j < k→listed.getD j false=true)→
 Region.lexHead md ops g l.length k listed=true→bQ P C ops h p ip zs Lq k l t→
 Ajb P C md ops h p ip zs n (fun listed' t'=>Region.seqB md ops g n listed'=true∧listed'.getD ip false=true∧Lq t') l.length listed t
 | [],k,listed,t,_,hk,_,hset,hB,hh=>by
  have:k=n:=by simpa using hk
  subst this;exact⟨by simpa[Region.lexHead]using hB,hset ip hipn,hh⟩
 |o::l,k,listed,t,hl,hk,inv,hset,hB,hh=>by
  have h0:ops[k]? =some o:=by simpa using(hl 0 (by simp)).symm
  simp only[List.length_cons,Region.lexHead,Bool.and_eq_true]at hB;obtain⟨⟨hr,hf⟩,hB'⟩:=hB;have hkn:k < n:=by simp only[List.length_cons]at hk;omega
  have hr':k∈Region.ready md ops listed:=by simpa using hr
  obtain⟨v,hy,ha,hK⟩:=hh;have hks:k < listed.size:=by rw[inv.size];exact(Array.getElem?_eq_some_iff.1 h0).1
  refine WZ h0 ha htail hkn (fun listed' a' hL=>seqB_ready hL.1) l.length listed t inv (Region.free_spec h0 hf) hr' hy
   (Vi htail hipn l (k+1) _ _ (fun j hj=>by have:=hl (j+1) (by simp;omega);simpa[Nat.add_assoc,Nat.add_comm 1 j]using this) (by simp only[List.length_cons]at hk;omega) (inv.set hr' hkn) (fun j hj=>?_) hB' hK)
  by_cases hjk:k=j
  ·subst hjk;simp[Array.getD_eq_getD_getElem?,hks]
  ·exact getD_set_true (hset j (by omega))
end
theorem OL{C:Ctx}{t:List AV}{h:List ABlk}:St.le C ⟨t,h⟩ ⟨t,h++[.dead]⟩:=fun a w ⟨hd,S,ψ,H,hl⟩=>by
 have X:Ext w S h ψ w S (h++[.dead]) (Bo ψ h.length (.slice none 0 0)):=Ext.push _ _ fun _ _=>rfl
 exact⟨by rw[hd];show mkD h=mkD (h++[_]);rw[FW];rfl,S,_,H.push (Below.refl _ _) trivial (fun g hg=>by simp[ftp,BY]at hg),Ay X _ _ hl⟩
theorem Aas{P:Program}{C:Ctx}{id:Nat}{l:List Oper}{Q:Exit→St→Prop}{t:List AV}{h:List ABlk}{zs:List Value}(n ip:Nat)(hm:P.follows .mixedOrders=true)(hB:Xw l.toArray n=true)(hip:decide (ip < n)=true)
 (hn:C9 h.length t=true) (hnh:h.all (nrB h.length)=true)
 (hh:bQ P C l.toArray (h++[.dead]) h.length ip zs (fun t=>Dj P C l.toArray (Q .normal) (l.drop n) ⟨t,h++[.box (zs.map .lit)]⟩) 0 (l.take n) t):Awp P C (.region id l.toArray true) Q ⟨t,h⟩:=fun a w H0=>by
 have H:=OL a w H0;have hipn:ip < n:=by simpa using hip
 simp only[Xw,Bool.and_eq_true,decide_eq_true_eq,Bool.or_eq_true,beq_iff_eq]at hB;obtain⟨⟨⟨⟨hsel,hnd⟩,hn'⟩,hs⟩,hlex⟩:=hB;have hn'':n≤l.length:=by simpa using hn'
 have htl:(l.take n).length=n:=by simp;omega
 have hdl:(l.drop n).length=l.toArray.size - n:=by simp
 have inv0:HeadInv .any l.toArray n (Array.replicate l.toArray.size false):=
  ⟨by simp,fun j oj _ hl=>(by rw[getD_replicate_false]at hl;cases hl),fun t _ ht=>getD_in (by simpa using ht) (getD_replicate_false _ _)⟩
 have htail:∀(listed:Array Bool) (i:Nat),HeadInv .any l.toArray n listed→i < n→listed.getD i true=false→∀t,n≤t→t∉Region.ready .any l.toArray listed:=by
  intro listed i inv hi hun t ht;rcases hs with hs|⟨hs,hc⟩
  ·intro hr;obtain⟨_,o,ho,_⟩:=mem_ready.1 hr;have:=(Array.getElem?_eq_some_iff.1 ho).1;omega
  ·by_cases hlt:n < l.toArray.size
   ·exact tail_waits hs hc hlt inv _ i rfl hi hun t ht
   ·intro hr;obtain⟨_,o,ho,_⟩:=mem_ready.1 hr;have:=(Array.getElem?_eq_some_iff.1 ho).1;omega
 have HH:=Vi (md:=.any) (g:=l.toArray.size - n) htail hipn (l.take n) 0 _ t (fun j hj=>by
  have hj':j < n:=by rw[htl]at hj;exact hj
  simp[hj']) (by simpa using htl) inv0 (fun j hj=>by omega) (by rw[htl];exact hlex) hh
 refine Ff hm hnd ?_;have hp:(h++[ABlk.dead])[h.length]? =some .dead:=by simp
 have hna:(h++[ABlk.dead]).all (nrB h.length)=true:=by rw[List.all_append,hnh];rfl
 have hset:(h++[ABlk.dead]).set h.length (.box (zs.map .lit))=h++[.box (zs.map .lit)]:=by simp
 have H':St.rel C ⟨t,NN (h++[.dead]) h.length ip zs (Array.replicate l.toArray.size false)⟩ a {w with drawn:=w.drawn+1}:=by
  obtain⟨hd,S,ψ,hh',hl⟩:=H;have hb:Below w.heap.size w {w with drawn:=w.drawn+1}:=⟨rfl,rfl,rfl,Nat.le_refl _,fun _ _=>rfl⟩
  have e:NN (h++[.dead]) h.length ip zs (Array.replicate l.toArray.size false)=h++[.dead]:=by unfold NN;rw[getD_replicate_false];rfl
  rw[e];exact⟨hd,S,ψ,hh'.grow hb (fun _ h=>h) (fun _ h=>.inl h) hh'.lt,Ay (show Ext w S (h++[.dead]) ψ {w with drawn:=w.drawn+1} S (h++[.dead]) ψ from Ext.grow _ ψ (fun k hk=>rfl) fun _ h=>h) _ _ hl⟩
 have:=N3 (Q':=fun e a' w'=>e= .normal∧∃s',Q e s'∧s'.rel C a' w') (g:=l.toArray.size - n) hp hna (fun listed t a' w' hL H'=>by
  have hc:NN (h++[.dead]) h.length ip zs listed=h++[.box (zs.map .lit)]:=by unfold NN;rw[if_pos hL.2.1];exact hset
  rw[hc]at H';have:=wpAny_of_seq (md:=.any) (l.drop n) n listed a' w' (fun j=>by simp[List.getElem?_drop]) (by rw[hdl];exact hL.1) (EC (Q':=fun e a' w'=>e= .normal∧∃s',Q e s'∧s'.rel C a' w') (fun s a w h H=>⟨rfl,s,h,H⟩) _ _ _ _ hL.2.2 H');rwa [hdl]at this) _ _ _ _ _ (by simp;omega) (fun _=>hn) HH H'
 rw[htl,show n+(l.toArray.size - n)=l.toArray.size by omega]at this;exact this
section
variable{P:Program}{C:Ctx}{ops:Array Oper}{h:List ABlk}{p ip k:Nat}{zs:List Value}{K:List AV→Prop}{o:Oper}{rest:List Oper}{t:List AV}
theorem Aar{id:Nat}{l:List Oper}{Q:Exit→St→Prop}(elem:TypeId)[ZC P elem zs](n ip:Nat)(hm:P.follows .mixedOrders=true)(hB:Xw l.toArray n=true)(hip:decide (ip < n)=true)
 (hn:C9 h.length t=true) (hnh:h.all (nrB h.length)=true)
 (hh:bQ P C l.toArray (h++[.dead]) h.length ip zs (fun t=>Dj P C l.toArray (Q .normal) (l.drop n) ⟨t,h++[.box (zs.map .lit)]⟩) 0 (l.take n) t):Awp P C (.region id l.toArray true) Q ⟨t,h⟩:=Aas n ip hm hB hip hn hnh hh
def BOp(P:Program)(C:Ctx)(o:Oper)(t:List AV)(h:List ABlk)(p:Nat)(K:List AV→Prop):Prop:=∃r,AX P C t h o r∧EY p r=true∧K (BH t o.dst r)
theorem EA{r:AV}{K:List AV→Prop}(hq:AX P C t h o r)(hk:EY p r=true∧K (BH t o.dst r)):BOp P C o t h p K:=⟨r,hq,hk.1,hk.2⟩
theorem Ak0(ha:Adz o=false)(hi:decide (k=ip)=false)(hg:gA ops t o=some true)(hq:BOp P C o t h p (bQ P C ops h p ip zs K (k+1) rest)):bQ P C ops h p ip zs K k (o::rest) t:=
 let ⟨r,h1,h2,h3⟩:=hq;⟨r,.inl ⟨ha,hg,h1,h2⟩,by rw[ha,hi],h3⟩
theorem Akc{elem:TypeId}[ZC P elem zs](ha:Adz o=true)(hi:decide (k=ip)=true)(hgd:o.guard=none)(ho:o.op= .alloc elem)(hk:bQ P C ops h p ip zs K (k+1) rest (BH t o.dst (.ptr p 0))):bQ P C ops h p ip zs K k (o::rest) t:=⟨_,.inr (.inr ⟨ha,hgd,rfl,elem,ho,ZC.eq⟩),by rw[ha,hi],hk⟩
theorem Akb{l:List Oper}{t':List AV}(ht:t=t')(hk:bQ P C ops h p ip zs K k l t'):bQ P C ops h p ip zs K k l t:=by subst ht;exact hk
theorem Aja(hk:K t):bQ P C ops h p ip zs K k [] t:=hk
end
def Adg(P:Program)(f:FuncId)(e:TypeId){α:Type}(T:Ty α)(l l':List α):Prop:=
 B6 P f=true∧∀(N S:Nat→Prop) (w:World) (v:Value),(∀k,N k→k < w.heap.size)→(∀k,S k→k < w.heap.size)→Gm N w S [] ψ0 v (.row 0 e T l)→
  Calls P f #[v] w fun x w'=>∃v',x= .returned v'∧w.grownBy w' (BY v)∧Gm N w' S [] ψ0 v' (.row 0 e T l')∧∀g,BY v'=some g→BY v=some g∨w.heap.size≤g
def Aah(t:Tmp)(e:TypeId){α:Type}(T:Ty α)(l':List α):Exit→St→Prop:=fun x s=>(x= .normal∨x= .ret)∧∃i ver,evA s.t (.tmp t)= .own i ver∧s.h[i]? =some (.row ver e T l')∧mkD s.h= []
theorem SA{P:Program}{f:FuncId}{fn:Go.Func}{c:Code}{e:TypeId}{α:Type}{T:Ty α}{l l':List α}{t:Tmp}{n:Nat}(hf:P.funcs[f]? =some fn)(hb:fn.body=some c)(hE:B6 P f=true)(hres:fn.results= #[.tmp t])(hn:fn.ntmps=n)(hflat:∀w S S' cs d,T.RS w S cs d→T.RS w S' cs d)
 (h:∀C:Ctx,Awp P C c (Aah t e T l') ⟨[.own 0 0]++List.replicate (n - 1) (.lit undef),[.row 0 e T l]⟩):Adg P f e T l l':=by
 refine⟨hE,fun N S w v hN hS hB=>calls_of_wp hf hb ?_⟩;rw[hn];have hlv:=hB.lt rfl;have hst:St.rel ⟨w,S,fun k=>k < w.heap.size∧BY v≠some k,none⟩ ⟨[.own 0 0]++List.replicate (n - 1) (.lit undef),[.row 0 e T l]⟩ {tmps:=#[v]++Array.replicate (n - (#[v]:Array Value).size) undef,defers:=[]} w:=by
  refine⟨rfl,S,fun _=>v,⟨Kp.refl _ _,fun k hk=>hk.1,hS,fun _ h=>h,fun _ h=>.inl h,fun i b hi=>?_,fun i j hij hi hj=>?_⟩,?_⟩
  ·cases i with
   |zero=>
    simp only[List.getElem?_cons_zero,Option.some.injEq]at hi;subst hi;obtain⟨cells,k1,k2,k3,k4⟩:=hB;exact⟨cells,k1,k2,k3,fun g hg=>⟨fun hc=>hc.2 (BZ hg),(k4 g hg).2⟩⟩
   |succ i=>simp at hi
  ·cases i with
   |zero=>cases j with
    |zero=>exact absurd rfl hij
    |succ j=>simp[ABlk.live]at hj
   |succ i=>simp[ABlk.live]at hi
  ·simp only[Array.toList_append,Array.toList_replicate];refine B1 ?_ (DS (by simp) fun i x u hx hu=>?_)
   ·unfold Ah;refine⟨v,[],rfl,?_,by unfold Ah;rfl⟩;unfold AV.rel;refine⟨by simp,fun c hc=>?_⟩;simp[ABlk.ver]at hc;exact⟨by omega,fun _=>rfl⟩
   ·rw[List.getElem?_replicate]at hx hu;split at hx <;> cases hx
    split at hu <;> cases hu
    unfold AV.rel;rfl
 refine wp_mono ((h ⟨w,S,fun k=>k < w.heap.size∧BY v≠some k,none⟩).wp rfl hst) ?_;rintro x a' w' ⟨s,⟨hx,i,ver,hev,hi,hmk⟩,hd,S1,ψ,H,hl⟩;rw[hmk]at hd;have hv:=BJ hl (.tmp t);rw[hev]at hv;unfold AV.rel at hv;have hv':=(hv.2 _ (by rw[hi];rfl)).2 rfl;have hBi:=H.blk i _ hi;have hlt:=hBi.lt rfl;have hres':(results fn a'.tmps).run P w'= .ok (a'.eval (.tmp t)) w':=results_tmp hres _ _ _;have hg:w.grownBy w' (BY v):=⟨H.bel.os,H.bel.tape,H.bel.output,H.bel.size,fun k hk hne=>H.bel.block k ⟨hk,fun e=>hne e.symm⟩⟩
 have hfin:∃v',Ending.returned (a'.eval (.tmp t))= .returned v'∧w.grownBy w' (BY v)∧Gm N w' S [] ψ0 v' (.row 0 e T l')∧∀g,BY v'=some g→BY v=some g∨w.heap.size≤g:=by
  have hor:∀g,BY (ψ i)=some g→BY v=some g∨w.heap.size≤g:=fun g hgg=>by
   have:=(hlt g hgg).1;by_cases hc:BY v=some g
   ·exact .inl hc
   ·exact .inr (Nat.le_of_not_lt fun h=>this ⟨h,hc⟩)
  obtain⟨cells,k1,k2,k3,k4⟩:=hBi;rw[hv'];refine⟨_,rfl,hg,⟨cells,k1,k2,?_,fun g hgg=>?_⟩,hor⟩
  ·intro j d hj;exact hflat _ _ _ _ _ (k3 j d hj)
  ·refine⟨fun hNg=>?_,fun hSg=>(k4 g hgg).2 (H.sub g hSg)⟩;rcases hor g (BZ hgg)with h1|h1
   ·exact(hlv g h1).1 hNg
   ·have:=hN g hNg;omega
 rcases hx with rfl|rfl
 ·exact⟨hd,_,hres',hfin⟩
 ·exact⟨hd,_,hres',hfin⟩
theorem NJ{P:Program}{C:Ctx}{o:Oper}{t:List AV}{h:List ABlk}{K:St→Prop}{f:FuncId}{x:Operand}{tys:Array TypeId}{i ver:Nat}{e:TypeId}{α:Type}{T:Ty α}{l l':List α}
 (ho:o.op= .call {callee:=.value (.func f),args:=#[x],argTypes:=tys}) (hF:Adg P f e T l l') (hx:evA t x= .own i ver) (hi:h[i]? =some (.row ver e T l))
 (hK:K ⟨BH t o.dst (.own i (ver+1)),h.set i (.row (ver+1) e T l')⟩):AOp P C o ⟨t,h⟩ K:=by
 rintro Q' a w ⟨hd,S,ψ,H,hl⟩;refine⟨fun c e=>(by rw[ho]at e;cases e),?_⟩;have hx':=BJ hl x;rw[show evA (St.mk t h).t x= .own i ver from hx]at hx';unfold AV.rel at hx';have hv:=(hx'.2 _ (by rw[hi];rfl)).2 rfl;have hBi:=H.blk i _ hi;have hlt:=hBi.lt rfl;unfold Oper.wp;rw[CY ho hF.1 a.eval w rfl];simp only[Oper.upon];have hc:=hF.2 C.N S w (ψ i) (fun k hk=>Nat.lt_of_lt_of_le (H.nlt k hk) H.bel.size) H.lt hBi;rw[show(#[x].map a.eval)= #[ψ i]from by simp[hv]];refine hc.mono ?_;rintro r w' ⟨v',rfl,hgr,hB',hor⟩;have hblk:∀k,S k→w'.heap[k]? =w.heap[k]?:=fun k hk=>hgr.block k (H.lt k hk) fun e=>(hlt k e.symm).2.2 hk
 have X:Ext w S h ψ w' S (h.set i (.row (ver+1) e T l')) (Bo ψ i v'):=Ext.set hblk hi (fun c' hc=>by
  simp only[ABlk.ver,Option.some.injEq]at hc;exact⟨ver,rfl,by omega,fun e=>by omega⟩) fun h=>by simp[Bj]at h
 refine⟨_,hK,JI (s:=⟨t,h⟩) hi hd hl (H.set hi rfl (Gr.of_grownBy hgr) X hB' hor) X ?_⟩;unfold AV.rel;refine⟨by simp[(List.getElem?_eq_some_iff.1 hi).1],fun c' hc'=>?_⟩;rw[List.getElem?_set_self (List.getElem?_eq_some_iff.1 hi).1]at hc';simp only[ABlk.ver,Option.some.injEq]at hc';exact⟨by omega,fun _=>by rw[AZ]⟩
section
variable{P:Program}{C:Ctx}{ops:Array Oper}{md:Region.Mode}{h:List ABlk}{K:St→Prop}
def tOp(P:Program)(C:Ctx)(ops:Array Oper)(i:Nat)(K:St→Prop)(s:St):Prop:=
 match ops[i]? with
 |none=>K s
 |some o=>∃b,gA ops s.t o=some b∧(b=true→AOp P C o s K)∧(b=false→K ⟨BH s.t o.dst (.lit undef),s.h⟩)
def ST(P:Program)(C:Ctx)(md:Region.Mode)(ops:Array Oper)(K:St→Prop):Nat→Array Bool→St→Prop
 |0,listed,s=>Region.ready md ops listed= []∧K s
 |f+1,listed,s=>(Region.ready md ops listed= []→K s)∧∀i∈Region.ready md ops listed,tOp P C ops i (ST P C md ops K f (listed.setIfInBounds i true)) s
theorem SO{i:Nat}{s:St}{a:Act}{w:World}{K':Act→World→Prop}{Q':Exit→Act→World→Prop}(H:s.rel C a w)(hK:∀s a w,K s→s.rel C a w→K' a w)(hh:tOp P C ops i K s):wpOp P ops Q' i K' a w:=by
 unfold tOp at hh;unfold wpOp;split
 ·rename_i ho;simp only[ho]at hh;exact hK _ _ _ hh H
 ·rename_i o ho;simp only[ho]at hh;obtain⟨b,hg,ht,hf⟩:=hh;obtain⟨_,S,ψ,_,hl⟩:=id H;rw[DL hg hl];cases b with
  |true=>
   rw[if_pos rfl];exact .inl (Oper.wp_mono (fun a' w' ⟨s',h1,h2⟩=>hK s' a' w' h1 h2) (ht rfl Q' a w H).2)
  |false=>
   rw[if_neg (by simp)];exact hK _ _ _ (hf rfl) (Fj H o.dst)
theorem GW{Q':Exit→Act→World→Prop}(hQ:∀s a w,K s→s.rel C a w→Q' .normal a w):∀(f:Nat) (listed:Array Bool) (s:St) (a:Act) (w:World),ST P C md ops K f listed s→s.rel C a w→wpAny P md ops Q' f listed a w
 |0,_,s,a,w,hh,H=>⟨hh.1,hQ s a w hh.2 H⟩
 |f+1,_,s,a,w,hh,H=>⟨fun h0=>hQ s a w (hh.1 h0) H,fun i hi=>SO H (fun s' a' w' h' H'=>GW hQ f _ s' a' w' h' H') (hh.2 i hi)⟩
def Ab4(ops:Array Oper)(n:Nat):Nat→Nat→Array Bool→Bool
 |0,_,listed=>(Region.ready .any ops listed).all fun j=>decide (n≤j)
 |f+1,k,listed=>(Region.ready .any ops listed).contains k&&Region.free .any ops listed k&&Ab4 ops n f (k+1) (listed.setIfInBounds k true)
def Akp(ops:Array Oper)(n:Nat):Bool:=
 (Region.noSelect ops&&HV ops)&&decide (n≤ops.size)&&((List.range ops.size).all fun t=>decide (t < n)||(List.range n).all fun i=>Region.waitsFor .any ops t i)&&Ab4 ops n n 0 (Array.replicate ops.size false)
def Gd(sz:Nat):Nat→Array Bool
 |0=>Array.replicate sz false
 |k+1=>(Gd sz k).setIfInBounds k true
theorem Sj{n sz:Nat}{Lq:List AV→Prop}(htail:∀listed i,HeadInv .any ops n listed→i < n→listed.getD i true=false→∀t,n≤t→t∉Region.ready .any ops listed):
 ∀(l:List Oper) (k:Nat) (t:List AV),(∀j,j < l.length→l[j]? =ops[k+j]?)→k+l.length=n→HeadInv .any ops n (Gd sz k)→
 Ab4 ops n l.length k (Gd sz k)=true→aQ P C ops h Lq l t→
 Aa5 P C .any ops h n (fun listed' t'=>(∀j∈Region.ready .any ops listed',n≤j)∧listed'=Gd sz n∧Lq t') l.length (Gd sz k) t
 | [],k,t,_,hk,_,hB,hh=>by
  have:k=n:=by simpa using hk
  subst this;exact⟨fun j hj=>of_decide_eq_true (List.all_eq_true.1 hB j hj),rfl,hh⟩
 |o::l,k,t,hl,hk,inv,hB,hh=>by
  have h0:ops[k]? =some o:=by simpa using(hl 0 (by simp)).symm
  simp only[List.length_cons,Ab4,Bool.and_eq_true]at hB;obtain⟨⟨hr,hf⟩,hB'⟩:=hB;have hkn:k < n:=by simp only[List.length_cons]at hk;omega
  have hr':k∈Region.ready .any ops (Gd sz k):=by simpa using hr
  obtain⟨v,hy,hK⟩:=hh;exact OK h0 htail hkn (fun listed' a' hL=>hL.1) l.length _ t inv (Region.free_spec h0 hf) hr' hy
   (Sj htail l (k+1) _ (fun j hj=>by have:=hl (j+1) (by simp;omega);simpa[Nat.add_assoc,Nat.add_comm 1 j]using this) (by simp only[List.length_cons]at hk;omega) (inv.set hr' hkn) hB' hK)
end
theorem Aao{P:Program}{C:Ctx}{id:Nat}{l:List Oper}{Q:Exit→St→Prop}{s:St}(n:Nat)(hm:P.follows .mixedOrders=true)(hB:Akp l.toArray n=true)
 (hh:aQ P C l.toArray s.h (fun t=>ST P C .any l.toArray (Q .normal) (l.length - n) (Gd l.length n) ⟨t,s.h⟩) (l.take n) s.t):Awp P C (.region id l.toArray true) Q s:=fun a w H=>by
 simp only[Akp,Bool.and_eq_true,decide_eq_true_eq]at hB;obtain⟨⟨⟨⟨hsel,hnd⟩,hn⟩,hs⟩,hlex⟩:=hB;have hn':n≤l.length:=by simpa using hn
 have htl:(l.take n).length=n:=by simp;omega
 have inv0:HeadInv .any l.toArray n (Array.replicate l.toArray.size false):=
  ⟨by simp,fun j oj _ hl=>(by rw[getD_replicate_false]at hl;cases hl),fun t _ ht=>getD_in (by simpa using ht) (getD_replicate_false _ _)⟩
 have htail:∀(listed:Array Bool) (i:Nat),HeadInv .any l.toArray n listed→i < n→listed.getD i true=false→∀t,n≤t→t∉Region.ready .any l.toArray listed:=by
  intro listed i inv hi hun t ht hr;obtain⟨_,ot,hot,hall⟩:=mem_ready.1 hr;have htlt:t < l.toArray.size:=(Array.getElem?_eq_some_iff.1 hot).1;have h1:=List.all_eq_true.1 hs t (List.mem_range.2 htlt);simp only[Bool.or_eq_true,decide_eq_true_eq]at h1;rcases h1 with h1|h1
  ·omega
  ·obtain⟨oj,hoj,e,he,hb,hon⟩:=Region.waitsFor_spec (List.all_eq_true.1 h1 i (List.mem_range.2 hi));have:oj=ot:=Option.some.inj (hoj.symm.trans hot);subst this;have h2:=hall e he hb;rw[hon,getD_both hun]at h2;cases h2
 have HH:=Sj (P:=P) (C:=C) (h:=s.h) (sz:=l.length) (Lq:=fun t=>ST P C .any l.toArray (Q .normal) (l.length - n) (Gd l.length n) ⟨t,s.h⟩) htail (l.take n) 0 s.t (fun j hj=>by
  have hj':j < n:=by rw[htl]at hj;exact hj
  simp[hj']) (by simpa using htl) (by simpa[Gd]using inv0) (by rw[htl];simpa[Gd]using hlex) hh
 refine Ff hm hnd ?_;have H':St.rel C ⟨s.t,s.h⟩ a {w with drawn:=w.drawn+1}:=by
  obtain⟨hd,S,ψ,hh',hl⟩:=H;have hb:Below w.heap.size w {w with drawn:=w.drawn+1}:=⟨rfl,rfl,rfl,Nat.le_refl _,fun _ _=>rfl⟩
  exact⟨hd,S,ψ,hh'.grow hb (fun _ h=>h) (fun _ h=>.inl h) hh'.lt,Ay (show Ext w S s.h ψ {w with drawn:=w.drawn+1} S s.h ψ from Ext.grow s.h ψ (fun k hk=>rfl) fun _ h=>h) _ _ hl⟩
 have:=Ir (Q':=fun e a' w'=>e= .normal∧∃s',Q e s'∧s'.rel C a' w') (g:=l.length - n) (fun listed t a' w' hL H'=>by
  rw[hL.2.1];exact GW (fun s a w h H=>⟨rfl,s,h,H⟩) _ _ _ _ _ hL.2.2 H') _ _ _ _ _ HH H'
 rw[htl,show n+(l.length - n)=l.toArray.size by simp;omega]at this;exact this
section
variable{P:Program}{C:Ctx}{ops:Array Oper}{K:St→Prop}{listed:Array Bool}{g:Nat}{s:St}{t:List AV}{h:List ABlk}
def Aef(P:Program)(C:Ctx)(ops:Array Oper)(K:St→Prop)(g:Nat)(listed:Array Bool)(s:St)(rs:List Nat):Prop:=∀i∈rs,tOp P C ops i (ST P C .any ops K g (listed.setIfInBounds i true)) s
theorem JE(rs:List Nat)(hr:Region.ready .any ops listed=rs)(hne:rs≠[])(hh:Aef P C ops K g listed s rs):ST P C .any ops K (g+1) listed s:=⟨fun h0=>absurd (hr▸h0) hne,hr▸hh⟩
theorem Qn(hr:Region.ready .any ops listed= [])(hh:K s):ST P C .any ops K 0 listed s:=⟨hr,hh⟩
theorem AI:Aef P C ops K g listed s []:=fun i hi=>by cases hi
theorem JF{i:Nat}{rs:List Nat}{o:Oper}(ho:ops[i]? =some o)(hg:gA ops s.t o=some true)(h1:AOp P C o s (ST P C .any ops K g (listed.setIfInBounds i true)))(h2:Aef P C ops K g listed s rs):Aef P C ops K g listed s (i::rs):=fun j hj=>by
 rcases List.mem_cons.1 hj with rfl|hj
 ·unfold tOp;simp only[ho];exact⟨true,hg,fun _=>h1,fun e=>by cases e⟩
 ·exact h2 j hj
end
section
variable{P:Program}{C:Ctx}{ops:Array Oper}{md:Region.Mode}{h:List ABlk}{Inv:Array Bool→Prop}{n:Nat}
theorem Uc{i:Nat}{oi:Oper}{v:AV}{L:Array Bool→List AV→Prop}(hset:∀listed i,Inv listed→i∈Region.ready md ops listed→i < n→Inv (listed.setIfInBounds i true))(hi:ops[i]? =some oi)
 (htail:∀listed i,Inv listed→i < n→listed.getD i true=false→∀t,n≤t→t∉Region.ready md ops listed) (hin:i < n)
 (hdone:∀listed t,L listed t→∀j∈Region.ready md ops listed,n≤j):
 ∀(f:Nat) (listed:Array Bool) (t:List AV),Inv listed→
  (∀j oj,ops[j]? =some oj→j≠i→listed.getD j true=false→(∀e∈oj.after,Region.binds md e=true→e.on≠i)→oi.apart ops oj=true)→
  i∈Region.ready md ops listed→FI P C ops h oi v t→
  Aa5 P C md ops h n L f (listed.setIfInBounds i true) (BH t oi.dst v)→Aa5 P C md ops h n L (f+1) listed t:=by
 intro f;induction f with
 |zero=>
  intro listed t inv _ hr hy H;have hun:=(mem_ready.1 hr).1;refine⟨fun h=>(by rw[h]at hr;cases hr),fun j hj=>?_⟩;have hjn:j < n:=by
   rcases Nat.lt_or_ge j n with h|h
   ·exact h
   ·exact absurd hj (htail _ i inv hin hun j h)
  refine⟨hjn,?_⟩;by_cases hji:j=i
  ·subst hji;unfold aOp;simp only[hi];exact⟨v,hy,H⟩
  ·have:=hdone _ _ H j (ready_mono hj hji);omega
 |succ f ih=>
  intro listed t inv hfree hr hy H;have hun:=(mem_ready.1 hr).1;refine⟨fun h=>(by rw[h]at hr;cases hr),fun j hj=>?_⟩;have hjn:j < n:=by
   rcases Nat.lt_or_ge j n with h|h
   ·exact h
   ·exact absurd hj (htail _ i inv hin hun j h)
  refine⟨hjn,?_⟩;by_cases hji:j=i
  ·subst hji;unfold aOp;simp only[hi];exact⟨v,hy,H⟩
  ·have h1:=(H.2 j (ready_mono hj hji)).2;obtain⟨hjun,oj,hoj,hall⟩:=mem_ready.1 hj;have hnot:∀e∈oj.after,Region.binds md e=true→e.on≠i:=fun e he hb heq=>by
    have h1:=hall e he hb;rw[heq,getD_both hun]at h1;cases h1
   have h2:=Aae hoj (hfree j oj hoj hji hjun hnot) hy h1;have hfree':∀k ok,ops[k]? =some ok→k≠i→(listed.setIfInBounds j true).getD k true=false→
    (∀e∈ok.after,Region.binds md e=true→e.on≠i)→oi.apart ops ok=true:=fun k ok hk hki hun hno=>by
    refine hfree k ok hk hki ?_ hno;by_cases hjk:j=k
    ·subst hjk;exact hjun
    ·rw[getD_set_ne true hjk]at hun;exact hun
   refine Vm (fun a' h3=>ih (listed.setIfInBounds j true) a' (hset _ _ inv hj hjn) hfree' (ready_mono hr (Ne.symm hji)) h3.1 ?_) h2;rw[Array.setIfInBounds_comm _ _ hji];exact h3.2
def aQo(P:Program)(C:Ctx)(ops:Array Oper)(h:List ABlk)(K:List AV→Prop):List Nat→List AV→Prop
 | [],t=>K t
 |i::rest,t=>∃o r,ops[i]? =some o∧FI P C ops h o r t∧aQo P C ops h K rest (BH t o.dst r)
def Gv:List Nat→Array Bool→Array Bool
 | [],l=>l
 |i::is,l=>Gv is (l.setIfInBounds i true)
def Ajq(ops:Array Oper)(n:Nat):List Nat→Array Bool→Bool
 | [],listed=>(Region.ready .any ops listed).all fun j=>decide (n≤j)
 |i::is,listed=>decide (i < n)&&(Region.ready .any ops listed).contains i&&Region.free .any ops listed i&&Ajq ops n is (listed.setIfInBounds i true)
theorem Vn{Lq:List AV→Prop}(hset:∀listed i,Inv listed→i∈Region.ready .any ops listed→i < n→Inv (listed.setIfInBounds i true))
 (htail:∀listed i,Inv listed→i < n→listed.getD i true=false→∀t,n≤t→t∉Region.ready .any ops listed):
 ∀(l:List Nat) (listed:Array Bool) (t:List AV),Inv listed→Ajq ops n l listed=true→aQo P C ops h Lq l t→
 Aa5 P C .any ops h n (fun listed' t'=>(∀j∈Region.ready .any ops listed',n≤j)∧listed'=Gv l listed∧Lq t') l.length listed t
 | [],listed,t,_,hB,hh=>⟨fun j hj=>of_decide_eq_true (List.all_eq_true.1 hB j hj),rfl,hh⟩
 |i::l,listed,t,inv,hB,hh=>by
  obtain⟨o,v,h0,hy,hK⟩:=hh;simp only[Ajq,Bool.and_eq_true,decide_eq_true_eq]at hB;obtain⟨⟨⟨hin,hr⟩,hf⟩,hB'⟩:=hB;have hr':i∈Region.ready .any ops listed:=by simpa using hr
  exact Uc hset h0 htail hin (fun listed' a' hL=>hL.1) l.length _ t inv (Region.free_spec h0 hf) hr' hy (Vn hset htail l _ _ (hset _ _ inv hr' hin) hB' hK)
def UT(ops:Array Oper):List Nat→List AV→Option (List AV)
 | [],t=>some t
 |i::is,t=>
  match ops[i]? with
  |some ⟨dst,.move x,_,_,_,none⟩=>UT ops is (BH t dst (evA t x))
  |_=>none
def Ww(ops:Array Oper):List Nat→Array Bool→Bool
 | [],_=>true
 |i::is,listed=>(Region.ready .any ops listed).contains i&&Region.free .any ops listed i&&Ww ops is (listed.setIfInBounds i true)
theorem Mi{Q:Exit→Act→World→Prop}(hsel:Region.noSelect ops=true)(hQ:∀c a w,¬Q (.panic c) a w):∀(is:List Nat) (fuel:Nat) (listed:Array Bool) (t t':List AV) (a:Act) (w:World),Ww ops is listed=true→UT ops is t=some t'→St.rel C ⟨t,h⟩ a w→
 (∀a',St.rel C ⟨t',h⟩ a' w→wpAny P .any ops Q fuel (Gv is listed) a' w)→wpAny P .any ops Q (fuel+is.length) listed a w
 | [],fuel,listed,t,t',a,w,_,hm,H,hk=>by
  cases hm;exact hk a H
 |i::is,fuel,listed,t,t',a,w,hB,hm,H,hk=>by
  unfold UT at hm;split at hm <;> try(cases hm;done)
  rename_i dst x ty pos af ho;simp only[Ww,Bool.and_eq_true]at hB;obtain⟨⟨hr,hf⟩,hB'⟩:=hB;obtain⟨hd,S,ψ,hh,hl⟩:=id H;have hy:Yields P ops ⟨dst,.move x,ty,pos,af,none⟩ (a.eval x) a:=.inl ⟨by simp[Region.wanted],fun w=>by simp[execOp]⟩;rw[show fuel+(i::is).length=(fuel+is.length)+1 from by simp;omega];refine wpAny_take ho hsel hf hr (fun c a w hq=>absurd hq (hQ c _ w)) hy ?_;exact Mi hsel hQ is fuel _ _ t' _ w hB' hm ⟨by rw[put_defers];exact hd,S,ψ,hh,Gc hl dst (BJ hl x)⟩ hk
end
def Aa8(ops:Array Oper):Nat→Nat→Nat→Bool
 |0,_,_=>false
 |f+1,j,i=>
  match ops[j]? with
  |some oj=>oj.after.any fun e=>Region.binds .any e&&(e.on ==i||Aa8 ops f e.on i)
  |none=>false
theorem Lj{ops:Array Oper}{n:Nat}{listed:Array Bool}(inv:HeadInv .any ops n listed):∀(f j i:Nat),(∀oj,ops[j]? =some oj→∀e∈oj.after,Region.binds .any e=true→listed.getD e.on false=true)→Aa8 ops f j i=true→listed.getD i false=true
 |0,j,i,_,h=>by cases h
 |f+1,j,i,hj,h=>by
  unfold Aa8 at h;cases ho:ops[j]? with
  |none=>rw[ho]at h;cases h
  |some oj=>
   rw[ho]at h;obtain⟨e,he,hb⟩:=Array.any_eq_true'.1 h;simp only[Bool.and_eq_true,Bool.or_eq_true,beq_iff_eq]at hb;have hl:=hj oj ho e he hb.1;rcases hb.2 with h1|h1
   ·rw[←h1];exact hl
   ·exact Lj inv f e.on i (fun oj' ho' e' he' hb'=>inv.closed e.on oj' ho' hl e' he' hb') h1
def Akq(ops:Array Oper)(n:Nat)(fs is:List Nat):Bool:=
 (Region.noSelect ops&&HV ops)&&decide (n≤ops.size)&&(fs.all fun i=>decide (i < n))&&Ww ops fs (Array.replicate ops.size false)&&Ajq ops n is (Gv fs (Array.replicate ops.size false))&&((List.range ops.size).all fun t=>decide (t < n)||(List.range n).all fun i=>fs.contains i||Aa8 ops ops.size t i)
theorem Mw:∀(l:List Nat) (a:Array Bool) (j:Nat),a.getD j false=true→(Gv l a).getD j false=true
 | [],a,j,h=>h
 |i::l,a,j,h=>Mw l _ j (getD_set_true h)
theorem Oa:∀(l:List Nat) (a:Array Bool) (j:Nat),j∈l→j < a.size→(Gv l a).getD j false=true
 | [],a,j,h,_=>by cases h
 |i::l,a,j,h,hs=>by
  unfold Gv;rcases List.mem_cons.1 h with rfl|h
  ·exact Mw l _ _ (by simp[Array.getD_eq_getD_getElem?,hs])
  ·exact Oa l _ j h (by simpa using hs)
theorem M6{ops:Array Oper}{n:Nat}:∀(fs:List Nat) (listed:Array Bool),HeadInv .any ops n listed→(fs.all fun i=>decide (i < n))=true→Ww ops fs listed=true→HeadInv .any ops n (Gv fs listed)
 | [],listed,inv,_,_=>inv
 |i::fs,listed,inv,hn,hB=>by
  simp only[List.all_cons,Bool.and_eq_true,decide_eq_true_eq]at hn;simp only[Ww,Bool.and_eq_true]at hB;exact M6 fs _ (inv.set (by simpa using hB.1.1) hn.1) hn.2 hB.2
theorem Aaq{P:Program}{C:Ctx}{id:Nat}{l:List Oper}{Q:Exit→St→Prop}{s:St}(n:Nat)(fs is:List Nat){t1:List AV}(hm:P.follows .mixedOrders=true)(hB:Akq l.toArray n fs is=true)(hl:fs.length+is.length=n∧n≤l.length)(hmv:UT l.toArray fs s.t=some t1)
 (hh:aQo P C l.toArray s.h (fun t=>ST P C .any l.toArray (Q .normal) (l.length - n) (Gv is (Gv fs (Array.replicate l.length false))) ⟨t,s.h⟩) is t1):Awp P C (.region id l.toArray true) Q s:=fun a w H=>by
 simp only[Akq,Bool.and_eq_true,decide_eq_true_eq]at hB;obtain⟨⟨⟨⟨⟨⟨hsel,hnd⟩,hn⟩,hfn⟩,hfree⟩,hord⟩,hs⟩:=hB;have inv0:HeadInv .any l.toArray n (Array.replicate l.toArray.size false):=
  ⟨by simp,fun j oj _ hl=>(by rw[getD_replicate_false]at hl;cases hl),fun t _ ht=>getD_in (by simpa using ht) (getD_replicate_false _ _)⟩
 let Inv:Array Bool→Prop:=fun listed=>HeadInv .any l.toArray n listed∧∀j∈fs,listed.getD j false=true
 have hset:∀listed i,Inv listed→i∈Region.ready .any l.toArray listed→i < n→Inv (listed.setIfInBounds i true):=fun listed i inv hr hi=>⟨inv.1.set hr hi,fun j hj=>getD_set_true (inv.2 j hj)⟩
 have htail:∀(listed:Array Bool) (i:Nat),Inv listed→i < n→listed.getD i true=false→∀t,n≤t→t∉Region.ready .any l.toArray listed:=by
  intro listed i inv hi hun t ht hr;obtain⟨_,ot,hot,hall⟩:=mem_ready.1 hr;have htlt:t < l.toArray.size:=(Array.getElem?_eq_some_iff.1 hot).1;have h1:=List.all_eq_true.1 hs t (List.mem_range.2 htlt);simp only[Bool.or_eq_true,decide_eq_true_eq]at h1;rcases h1 with h1|h1
  ·omega
  ·have h2:=List.all_eq_true.1 h1 i (List.mem_range.2 hi);simp only[Bool.or_eq_true]at h2;rcases h2 with h2|h2
   ·have:=inv.2 i (by simpa using h2);rw[getD_both hun]at this;cases this
   ·have h3:=Lj inv.1 _ t i (fun oj hoj e he hb=>by
     have:oj=ot:=Option.some.inj (hoj.symm.trans hot);subst this;exact hall e he hb) h2
    rw[getD_both hun]at h3;cases h3
 have inv1:Inv (Gv fs (Array.replicate l.toArray.size false)):=⟨M6 fs _ inv0 hfn hfree,fun j hj=>Oa fs _ j hj (by
  have:=List.all_eq_true.1 hfn j hj;simp only[decide_eq_true_eq]at this;simp;omega)⟩
 have HH:=Vn (P:=P) (C:=C) (h:=s.h) (Inv:=Inv) (Lq:=fun t=>ST P C .any l.toArray (Q .normal) (l.length - n) (Gv is (Gv fs (Array.replicate l.length false))) ⟨t,s.h⟩) hset htail is _ t1 inv1 hord hh;have H':St.rel C ⟨s.t,s.h⟩ a {w with drawn:=w.drawn+1}:=by
  obtain⟨hd,S,ψ,hh',hl⟩:=H;have hb:Below w.heap.size w {w with drawn:=w.drawn+1}:=⟨rfl,rfl,rfl,Nat.le_refl _,fun _ _=>rfl⟩
  exact⟨hd,S,ψ,hh'.grow hb (fun _ h=>h) (fun _ h=>.inl h) hh'.lt,Ay (show Ext w S s.h ψ {w with drawn:=w.drawn+1} S s.h ψ from Ext.grow s.h ψ (fun k hk=>rfl) fun _ h=>h) _ _ hl⟩
 refine Ff hm hnd ?_;have key:=Mi (P:=P) (C:=C) (h:=s.h) (Q:=fun e a' w'=>e= .normal∧∃s',Q e s'∧s'.rel C a' w') hsel (fun c a w hq=>by cases hq.1) fs (is.length+(l.length - n)) (Array.replicate l.toArray.size false) s.t t1 a {w with drawn:=w.drawn+1} hfree hmv H' fun a' H''=>
  Ir (Q':=fun e a' w'=>e= .normal∧∃s',Q e s'∧s'.rel C a' w') (g:=l.length - n) (fun listed t a' w' hL H'=>by
   rw[hL.2.1];have:=hL.2.2;simp only[List.size_toArray]at this⊢;exact GW (fun s a w h H=>⟨rfl,s,h,H⟩) _ _ _ _ _ this H') _ _ _ _ _ HH H''
 rw[show is.length+(l.length - n)+fs.length=l.toArray.size by simp;omega]at key;exact key
section
variable{P:Program}{C:Ctx}{ops:Array Oper}{K:List AV→Prop}{h:List ABlk}{t:List AV}
theorem Akf{i:Nat}{is:List Nat}{o:Oper}(ho:ops[i]? =some o)(hg:gA ops t o=some true)(hq:QOp P C o t h (aQo P C ops h K is)):aQo P C ops h K (i::is) t:=let ⟨r,h1,h2⟩:=hq;⟨o,r,ho,.inl ⟨hg,h1⟩,h2⟩
theorem Ad9{l:List Nat}{t':List AV}(ht:t=t')(hk:aQo P C ops h K l t'):aQo P C ops h K l t:=by subst ht;exact hk
theorem Agb(hk:K t):aQo P C ops h K [] t:=hk
end
section
variable{P:Program}{C:Ctx}{t:List AV}{h:List ABlk}{o:Oper}
theorem Jw.res{i b off:Nat}{R:Res}{rs:List AV}(hi:h[i]? =some (.res R))(hc:Bt rs=true)
 (hp:∀w S,R.R w S→∀j r,rs[j]? =some r→∃u,w.cell? ⟨b,off+j,none⟩=some u∧AV.rel w S [] ψ0 r u):Jw h (.lit (.pointer (some ⟨b,off,none⟩))) rs:=fun C S ψ w v H hv=>by
 unfold AV.rel at hv;refine⟨b,off,hv,fun j y hy=>?_⟩;obtain⟨u,h1,h2⟩:=hp w S (H.blk i _ hi).2 j y hy;have hcy:AV.cl y=true:=by
  have:∀(l:List AV),Bt l=true→∀y∈l,AV.cl y=true:=fun l=>by
   induction l with
   |nil=>intro _ y hy;cases hy
   |cons x l ih=>
    intro hl y hy;unfold Bt at hl;rw[Bool.and_eq_true]at hl;rcases List.mem_cons.1 hy with rfl|hy
    ·exact hl.1
    ·exact ih hl.2 y hy
  exact this rs hc y (List.mem_of_getElem? hy)
 exact⟨u,h1,Dz _ _ hcy h2⟩
theorem Sp{ty:TypeId}{x:Operand}{n i b off:Nat}{R:Res}{r:AV}[AG P ty false n](ho:o.op= .load ty x)(hx:evA t x= .lit (.pointer (some ⟨b,off,none⟩)))(hi:h[i]? =some (.res R))(hc:AV.cl r=true)
 (hp:∀w S,R.R w S→∃u,w.cell? ⟨b,off,none⟩=some u∧AV.rel w S [] ψ0 r u):AX P C t h o r:=
 Ew (cells:=[r]) ho AG.eq hx (Jw.res (rs:=[r]) hi (by unfold Bt;rw[hc];rfl) fun w S hR j y hy=>by
  cases j with
  |zero=>cases hy;exact hp w S hR
  |succ j=>cases hy) rfl
theorem Aai{ty:TypeId}{x y:Operand}{ik:IntKind}{k n b off len c:Nat}[ES P ty n](ho:o.op= .indexAddr ty x y)(hx:evA t x= .lit (.slice (some ⟨b,off,none⟩) len c))(hy:evA t y= .lit (.int ik (k:Int)))(hk:k < len):
 AX P C t h o (.lit (.pointer (some ⟨b,off+k * n,none⟩))):=
 AR fun S ψ w ρ H hρ=>by
  have h1:=hρ x (by simp[ho,Op.operands]);have h2:=hρ y (by simp[ho,Op.operands]);rw[hx]at h1;rw[hy]at h2;unfold AV.rel at h1 h2;have hr:=Gb (P:=P) (w:=w) (b:=b) (off:=off) (c:=c) (ik:=ik) (ES.eq (P:=P) (ty:=ty) (n:=n)) hk;exact⟨_,by simp[execOp,ho,h1,h2,hr];rfl,by unfold AV.rel;rfl⟩
structure Turns{ι:Type}(w:World)(S:Nat→Prop)(F:Nat→Prop)(Rs:ι→Res)(val:ι→Value)(v:Value)(w':World):Prop where
 gr:Gr F w w'
 some:∃p,v=val p∧(Rs p).R w' S∧∀k,(Rs p).F k→(F k∨w.heap.size≤k)∧k < w'.heap.size
def SR{ι:Type}(P:Program)(w:World)(S:Nat→Prop)(F:Nat→Prop)(Rs:ι→Res)(val:ι→Value):Result Next→Prop
 | .ok (.value v) w'=>Turns w S F Rs val v w'
 | .ok .skip w'=>Turns w S F Rs val undef w'
 | .ok (.enter f args) w1=>w1=w∧Calls P f args w fun e w'=>∃v,e= .returned v∧Turns w S F Rs val v w'
 |_=>False
variable{ι:Type}{Rs:ι→Res}{val:ι→Value}
theorem JD{w:World}{S:Nat→Prop}{F:Nat→Prop}{ρ:Operand→Value}(hq:SR P w S F Rs val ((execOp ρ o).run P w)):∀c,o.op≠.defer c:=fun c e=>by
 simp only[execOp,e,Sem.run_bind]at hq;generalize (resolve ρ c o.type).run P w=x at hq;cases x with
 |ok d w'=>exact hq
 |halt x w'=>exact hq
theorem Qi{K:Act→World→Prop}{Q':Exit→Act→World→Prop}{a:Act}{w:World}{S:Nat→Prop}{F:Nat→Prop}{res:Result Next}(hq:SR P w S F Rs val res)(hK:∀v w',Turns w S F Rs val v w'→K (a.put o.dst v) w'):o.upon P a K Q' res:=by
 cases res with
 |ok n w'=>
  cases n <;> simp only[SR]at hq <;> simp only[Oper.upon]
  case value v=>exact hK v w' hq
  case skip=>exact hK undef w' hq
  case enter f args=>
   obtain⟨rfl,hc⟩:=hq;exact hc.mono fun e w'' ⟨v,he,hg⟩=>by subst he;exact hK v w'' hg
 |halt x w'=>simp only[SR]at hq
theorem AOp.turn{i:Nat}{R:Res}{K:St→Prop}(hi:h[i]? =some (.res R))(hm:∀p,(Rs p).mrk=R.mrk)
 (hq:∀S ψ w (ρ:Operand→Value),HRel C h S ψ w→R.R w S→(∀g,R.F g→g < w.heap.size)→(∀x∈o.op.operands,AV.rel w S h ψ (evA t x) (ρ x))→SR P w S R.F Rs val ((execOp ρ o).run P w))
 (hK:∀p,K ⟨BH t o.dst (.lit (val p)),h.set i (.res (Rs p))⟩):AOp P C o ⟨t,h⟩ K:=by
 rintro Q' a w ⟨hd,S,ψ,H,hl⟩;have hB:=H.blk i _ hi;have hq':=hq S ψ w a.eval H hB.2 (fun g hg=>(hB.1 g hg).2.2) fun x _=>BJ hl x
 refine⟨JD hq',Qi hq' fun v w' hT=>?_⟩;obtain⟨p,rfl,hR,hF⟩:=hT.some;have hblk:∀k,S k→w'.heap[k]? =w.heap[k]?:=fun k hk=>hT.gr.block k (H.lt k hk) fun hf=>(hB.1 k hf).2.1 hk
 have X:Ext w S h ψ w' S (h.set i (.res (Rs p))) (Bo ψ i (ψ i)):=Ext.set hblk hi (fun c' hc=>by simp[ABlk.ver]at hc) fun h=>by simp[Bj]at h
 have hBn:Gm C.N w' S (h.set i (.res (Rs p))) (Bo ψ i (ψ i)) (ψ i) (.res (Rs p)):=⟨fun g hg=>by
  obtain⟨h1,h2⟩:=hF g hg;rcases h1 with h1|h1
  ·exact⟨(hB.1 g h1).1,(hB.1 g h1).2.1,h2⟩
  ·exact⟨fun hn=>by have:=H.nlt g hn;have:=H.bel.size;omega,fun hs=>by have:=H.lt g hs;omega,h2⟩,hR⟩
 exact⟨_,hK p,JI (s:=⟨t,h⟩) hi hd hl (H.set hi rfl hT.gr X hBn fun g hg=>(hF g hg).1) X (by unfold AV.rel;rfl) (by show(Rs p).mrk.map HW=R.mrk.map HW;rw[hm p])⟩
theorem EQ{K:St→Prop}(hm:∀p,(Rs p).mrk= [])
 (hq:∀S ψ w (ρ:Operand→Value),HRel C h S ψ w→(∀x∈o.op.operands,AV.rel w S h ψ (evA t x) (ρ x))→SR P w S (fun _=>False) Rs val ((execOp ρ o).run P w))
 (hK:∀p,K ⟨BH t o.dst (.lit (val p)),h++[.res (Rs p)]⟩):AOp P C o ⟨t,h⟩ K:=by
 rintro Q' a w ⟨hd,S,ψ,H,hl⟩;have hq':=hq S ψ w a.eval H fun x _=>BJ hl x
 refine⟨JD hq',Qi hq' fun v w' hT=>?_⟩;obtain⟨p,rfl,hR,hF⟩:=hT.some;have hb:Below w.heap.size w w':=⟨hT.gr.os,hT.gr.tape,hT.gr.output,hT.gr.size,fun k hk=>hT.gr.block k hk fun h=>h⟩
 have X:Ext w S h ψ w' S (h++[.res (Rs p)]) (Bo ψ h.length (val p)):=Ext.push _ _ fun k hk=>hb.block k (H.lt k hk)
 have hBn:Gm C.N w' S (h++[.res (Rs p)]) (Bo ψ h.length (val p)) (val p) (.res (Rs p)):=⟨fun g hg=>by
  obtain⟨h1,h2⟩:=hF g hg;rcases h1 with h1|h1
  ·exact h1.elim
  ·exact⟨fun hn=>by have:=H.nlt g hn;have:=H.bel.size;omega,fun hs=>by have:=H.lt g hs;omega,h2⟩,hR⟩
 exact⟨_,hK p,Mo (s:=⟨t,h⟩) hd hl (H.push hb hBn fun g hg=>by
  rcases(hF g hg).1 with h1|h1
  ·exact h1.elim
  ·exact h1) X (by unfold AV.rel;rfl) (by show(Rs p).mrk.map HW= [];rw[hm p];rfl)⟩
def Xn(P:Program)(f:FuncId)(args:List AV)(Rs:ι→Res)(val:ι→Value):Prop:=
 B6 P f=true∧∀(w:World) (S:Nat→Prop) (vs:List Value),(∀k,S k→k < w.heap.size)→Ah w S [] ψ0 args vs→
  Calls P f vs.toArray w fun e w'=>∃v,e= .returned v∧Turns w S (fun _=>False) Rs val v w'
theorem FP{f:FuncId}{args:Array Operand}{tys:Array TypeId}{xs:List AV}{K:St→Prop}
 (ho:o.op= .call {callee:=.value (.func f),args:=args,argTypes:=tys}) (hF:Xn P f xs Rs val) (hm:∀p,(Rs p).mrk= []) (hx:args.toList.map (evA t)=xs) (hc:Bt xs=true)
 (hK:∀p,K ⟨BH t o.dst (.lit (val p)),h++[.res (Rs p)]⟩):AOp P C o ⟨t,h⟩ K:=by
 refine EQ hm (fun S ψ w ρ H hρ=>?_) hK;have h1:ρ (.func f)= .func (.func f) #[] #[]:=by
  have:=hρ (.func f) (by rw[ho];exact Array.mem_append.2 (.inl (by simp)));simpa[evA,AV.rel]using this
 rw[CY ho hF.1 ρ w h1];refine⟨rfl,?_⟩;have h2:Ah w S h ψ xs (args.toList.map ρ):=by
  rw[←hx];exact Cm fun x hx'=>hρ x (by rw[ho];exact Array.mem_append.2 (.inr (Array.mem_toList_iff.1 hx')))
 rw[show(args.map ρ)=(args.toList.map ρ).toArray from(by rw[←Array.toList_map])];exact hF.2 w S (args.toList.map ρ) H.lt (Bi _ _ hc h2)
def Aal(P:Program)(f:FuncId)(R:Res)(args:List AV)(Rs:ι→Res)(val:ι→Value):Prop:=
 B6 P f=true∧∀(w:World) (S:Nat→Prop) (vs:List Value),(∀k,S k→k < w.heap.size)→(∀g,R.F g→g < w.heap.size)→R.R w S→Ah w S [] ψ0 args vs→
  Calls P f vs.toArray w fun e w'=>∃v,e= .returned v∧Turns w S (fun _=>False) Rs val v w'
theorem SF{i:Nat}{R:Res}{f:FuncId}{args:Array Operand}{tys:Array TypeId}{xs:List AV}{K:St→Prop}(hi:h[i]? =some (.res R))
 (ho:o.op= .call {callee:=.value (.func f),args:=args,argTypes:=tys}) (hF:Aal P f R xs Rs val) (hm:∀p,(Rs p).mrk= []) (hx:args.toList.map (evA t)=xs) (hc:Bt xs=true)
 (hK:∀p,K ⟨BH t o.dst (.lit (val p)),h++[.res (Rs p)]⟩):AOp P C o ⟨t,h⟩ K:=by
 refine EQ hm (fun S ψ w ρ H hρ=>?_) hK;have h1:ρ (.func f)= .func (.func f) #[] #[]:=by
  have:=hρ (.func f) (by rw[ho];exact Array.mem_append.2 (.inl (by simp)));simpa[evA,AV.rel]using this
 rw[CY ho hF.1 ρ w h1];refine⟨rfl,?_⟩;have h2:Ah w S h ψ xs (args.toList.map ρ):=by
  rw[←hx];exact Cm fun x hx'=>hρ x (by rw[ho];exact Array.mem_append.2 (.inr (Array.mem_toList_iff.1 hx')))
 rw[show(args.map ρ)=(args.toList.map ρ).toArray from(by rw[←Array.toList_map])];have hB:=H.blk i _ hi;exact hF.2 w S (args.toList.map ρ) H.lt (fun g hg=>(hB.1 g hg).2.2) hB.2 (Bi _ _ hc h2)
def Hn(P:Program)(f:FuncId)(R:Res)(args:List AV)(Rs:ι→Res)(val:ι→Value):Prop:=
 B6 P f=true∧∀(w:World) (S:Nat→Prop) (vs:List Value),(∀k,S k→k < w.heap.size∧¬R.F k)→(∀g,R.F g→g < w.heap.size)→R.R w S→Ah w S [] ψ0 args vs→
  Calls P f vs.toArray w fun e w'=>∃v,e= .returned v∧Turns w S R.F Rs val v w'
theorem CG{i:Nat}{R:Res}{f:FuncId}{args:Array Operand}{tys:Array TypeId}{xs:List AV}{K:St→Prop}(hi:h[i]? =some (.res R))
 (ho:o.op= .call {callee:=.value (.func f),args:=args,argTypes:=tys}) (hF:Hn P f R xs Rs val) (hm:∀p,(Rs p).mrk=R.mrk) (hx:args.toList.map (evA t)=xs) (hc:Bt xs=true)
 (hK:∀p,K ⟨BH t o.dst (.lit (val p)),h.set i (.res (Rs p))⟩):AOp P C o ⟨t,h⟩ K:=by
 refine AOp.turn hi hm (fun S ψ w ρ H hR hlt hρ=>?_) hK;have h1:ρ (.func f)= .func (.func f) #[] #[]:=by
  have:=hρ (.func f) (by rw[ho];exact Array.mem_append.2 (.inl (by simp)));simpa[evA,AV.rel]using this
 rw[CY ho hF.1 ρ w h1];refine⟨rfl,?_⟩;have h2:Ah w S h ψ xs (args.toList.map ρ):=by
  rw[←hx];exact Cm fun x hx'=>hρ x (by rw[ho];exact Array.mem_append.2 (.inr (Array.mem_toList_iff.1 hx')))
 rw[show(args.map ρ)=(args.toList.map ρ).toArray from(by rw[←Array.toList_map])];exact hF.2 w S (args.toList.map ρ) (fun k hk=>⟨H.lt k hk,fun hf=>((H.blk i _ hi).1 k hf).2.1 hk⟩) hlt hR (Bi _ _ hc h2)
theorem Aaf{i:Nat}{R R':Res}(hi:h[i]? =some (.res R))(hF:∀g,R'.F g→R.F g)(hR:∀w S,R.R w S→R'.R w S)(hm:R'.mrk=R.mrk):St.le C ⟨t,h⟩ ⟨t,h.set i (.res R')⟩:=fun a w ⟨hd,S,ψ,H,hl⟩=>by
 have hB:=H.blk i _ hi;have X:Ext w S h ψ w S (h.set i (.res R')) (Bo ψ i (ψ i)):=Ext.set (fun _ _=>rfl) hi (fun c' hc=>by simp[ABlk.ver]at hc) fun h=>by simp[Bj]at h
 refine⟨by rw[hd];exact(Dc hi (by show R'.mrk.map HW=R.mrk.map HW;rw[hm])).symm,S,_,H.set (v':=ψ i) hi rfl ⟨rfl,rfl,rfl,Nat.le_refl _,fun _ _ _=>rfl⟩ X ⟨fun g hg=>hB.1 g (hF g hg),hR w S hB.2⟩ fun g hg=>.inl (hF g hg),Ay X _ _ hl⟩
theorem Ny{i j:Nat}{R1 R2 R:Res}(hij:i≠j)(hi:h[i]? =some (.res R1))(hj:h[j]? =some (.res R2))(h1:R1.mrk= [])(h2:R2.mrk= [])(h3:R.mrk= [])(hF:∀g,R.F g→R1.F g∨R2.F g)
 (hR:∀w S,R1.R w S→R2.R w S→(∀g,R1.F g→¬R2.F g)→R.R w S):St.le C ⟨t,h⟩ ⟨t,(h.set j .dead).set i (.res R)⟩:=fun a w ⟨hd,S,ψ,H,hl⟩=>by
 have hB1:=H.blk i _ hi;have hB2:=H.blk j _ hj;have hil:=(List.getElem?_eq_some_iff.1 hi).1;have hjl:=(List.getElem?_eq_some_iff.1 hj).1;have hdis:∀g,R1.F g→¬R2.F g:=fun g k1 k2=>H.dis i j hij (by rw[hi];rfl) (by rw[hj];rfl) g (by rw[hi];exact k1) (by rw[hj];exact k2)
 have X1:Ext w S h ψ w S (h.set j .dead) (Bo ψ j (ψ j)):=Ext.set (fun _ _=>rfl) hj (fun c' hc=>by simp[ABlk.ver]at hc) fun h=>by simp[Bj]at h
 have hi':(h.set j .dead)[i]? =some (.res R1):=by rw[List.getElem?_set_ne (Ne.symm hij)];exact hi
 have X2:Ext w S (h.set j .dead) (Bo ψ j (ψ j)) w S ((h.set j .dead).set i (.res R)) (Bo (Bo ψ j (ψ j)) i (Bo ψ j (ψ j) i)):=Ext.set (fun _ _=>rfl) hi' (fun c' hc=>by simp[ABlk.ver]at hc) fun h=>by simp[Bj]at h
 have e:∀(φ:Nat→Value) k,Bo φ k (φ k)=φ:=fun φ k=>funext fun q=>by unfold Bo;split <;> simp_all
 rw[e]at X1;rw[e,e]at X2;have X:Ext w S h ψ w S ((h.set j .dead).set i (.res R)) ψ:=⟨fun _ _=>rfl,fun _ h=>h,by simp,fun k c' hk hv=>by
  obtain⟨c1,k1,k2,k3⟩:=X2.ver k c' (by simpa using hk) hv;obtain⟨c2,k4,k5,k6⟩:=X1.ver k c1 hk k1;exact⟨c2,k4,by omega,fun e'=>⟨rfl,by rw[(k3 (by omega)).2,(k6 (by omega)).2]⟩⟩,fun k hk hv=>⟨(X1.box k hk (X2.box k (by simpa using hk) hv).1).1,rfl⟩⟩
 have hget:∀k b,((h.set j .dead).set i (.res R))[k]? =some b→(k=i∧b= .res R)∨(k=j∧b= .dead)∨(k≠i∧k≠j∧h[k]? =some b):=fun k b hb=>by
  by_cases hki:k=i
  ·subst hki;rw[List.getElem?_set_self (by simpa using hil)]at hb;cases hb;exact .inl ⟨rfl,rfl⟩
  ·rw[List.getElem?_set_ne (Ne.symm hki)]at hb;by_cases hkj:k=j
   ·subst hkj;rw[List.getElem?_set_self hjl]at hb;cases hb;exact .inr (.inl ⟨rfl,rfl⟩)
   ·rw[List.getElem?_set_ne (Ne.symm hkj)]at hb;exact .inr (.inr ⟨hki,hkj,hb⟩)
 refine⟨?_,S,ψ,⟨H.bel,H.nlt,H.lt,H.sub,H.new,fun k b hb=>?_,fun k q hkq hk hq g g1 g2=>?_⟩,Ay X _ _ hl⟩
 ·rw[hd];show mkD h=_;rw[Dc hi' (by show R.mrk.map HW=R1.mrk.map HW;rw[h1,h3]),Dc hj (by show []=R2.mrk.map HW;rw[h2];rfl)]
 ·rcases hget k b hb with⟨rfl,rfl⟩|⟨rfl,rfl⟩|⟨_,_,hb⟩
  ·exact⟨fun g hg=>(hF g hg).elim (hB1.1 g) (hB2.1 g),hR w S hB1.2 hB2.2 hdis⟩
  ·trivial
  ·exact(H.blk k b hb).keep X fun g _=>⟨rfl,fun h=>h⟩
 ·have key:∀k,ABlk.live ((h.set j .dead).set i (.res R))[k]? =true→ftp ((h.set j .dead).set i (.res R))[k]? (ψ k) g→(k=i∧(R1.F g∨R2.F g))∨(k≠i∧k≠j∧ABlk.live h[k]? =true∧ftp h[k]? (ψ k) g):=fun k k1 k2=>by
   obtain⟨b,hb⟩:=Dq k1;rw[hb]at k1 k2;rcases hget k b hb with⟨rfl,rfl⟩|⟨rfl,rfl⟩|⟨q1,q2,hb'⟩
   ·exact .inl ⟨rfl,hF g k2⟩
   ·cases k1
   ·exact .inr ⟨q1,q2,by rw[hb'];exact k1,by rw[hb'];exact k2⟩
  have no:∀k,k≠i→k≠j→ABlk.live h[k]? =true→ftp h[k]? (ψ k) g→(R1.F g∨R2.F g)→False:=fun k q1 q2 q3 q4 q5=>by
   rcases q5 with q5|q5
   ·exact H.dis k i q1 q3 (by rw[hi];rfl) g q4 (by rw[hi];exact q5)
   ·exact H.dis k j q2 q3 (by rw[hj];rfl) g q4 (by rw[hj];exact q5)
  rcases key k hk g1 with⟨e1,f1⟩|⟨a1,a2,a3,a4⟩ <;> rcases key q hq g2 with⟨e2,f2⟩|⟨b1,b2,b3,b4⟩
  ·exact hkq (e1.trans e2.symm)
  ·exact no q b1 b2 b3 b4 f1
  ·exact no k a1 a2 a3 a4 f2
  ·exact H.dis k q hkq a3 b3 g a4 b4
end
def Ajk(P:Program)(gf:FuncId)(lb:Array Value)(Sg:Nat→Prop)(W0:World)(encs:Nat→List Value→Prop)(N:Nat):Prop:=
 ∀(l:Nat) (J:Nat→World→Prop) (W:World),KS Sg W0 W→
  (∀k vs W1,k < N→encs k vs→J k W1→YieldAt Fence.wide 2 P l vs.toArray W1 fun e W'=>e= .returned (.bool true)∧J (k+1) W'∧KS Sg W1 W')→
  J 0 W→CallsIn Fence.wide 3 P gf (#[.func (.yield l) #[] #[]]++lb) W fun e W'=>(∃v,e= .returned v)∧J N W'
def BR(ds:List Nat):Res:=⟨ds,fun g=>g∈ds,fun w _=>ds.Nodup∧∀d∈ds,w.heap[d]? =some (.deferred (some [])),fun h hk _ _=>⟨h.1,fun d hd=>(hk d hd).trans (h.2 d hd)⟩⟩
def owns(h:List ABlk)(ψ:Nat→Value)(g:Nat):Prop:=∃j,ABlk.live h[j]? =true∧ftp h[j]? (ψ j) g
section
variable{C:Ctx}{h h':List ABlk}{S:Nat→Prop}{ψ:Nat→Value}{w w' W W':World}{N N':Nat→Prop}
theorem Gm.re{b:ABlk}{v:Value}(H:Gm N w S h ψ v b)(hn:∀g,ftp (some b) v g→ABlk.live (some b)=true→¬N' g):Gm N' w S h ψ v b:=by
 cases b with
 |dead=>trivial
 |box cells=>
  obtain⟨g,cs,e,rfl,h1,h2,h3,h4⟩:=H;exact⟨g,cs,e,rfl,hn g rfl rfl,h2,h3,h4⟩
 |row ver e T l=>
  obtain⟨cells,h1,h0,h2,h3⟩:=H;exact⟨cells,h1,h0,h2,fun g hg=>⟨hn g (BZ hg) rfl,(h3 g hg).2⟩⟩
 |res R=>exact⟨fun g hg=>⟨hn g hg rfl,(H.1 g hg).2⟩,H.2⟩
theorem HRel.own_lt(H:HRel C h S ψ w){g:Nat}(hg:owns h ψ g):¬C.N g∧g < w.heap.size∧¬S g:=by
 obtain⟨j,h1,h2⟩:=hg;obtain⟨b,hb⟩:=Dq h1;rw[hb]at h1 h2;exact(H.blk j b hb).lt h1 g h2
theorem HRel.re(H:HRel C h S ψ W)(hS:∀k,S k→W'.heap[k]? =W.heap[k]?)(hO:∀k,owns h ψ k→W'.heap[k]? =W.heap[k]?)(N':Nat→Prop)(hN:∀k,N' k→k < W'.heap.size∧¬owns h ψ k)(rd:Option Nat):HRel ⟨W',S,N',rd⟩ h S ψ W':=by
 refine⟨Kp.refl _ _,fun k hk=>(hN k hk).1,fun k hk=>?_,fun _ h=>h,fun _ h=>.inl h,fun i b hi=>?_,H.dis⟩
 ·have h1:=hS k hk;rw[Array.getElem?_eq_getElem (H.lt k hk)]at h1;exact(Array.getElem?_eq_some_iff.1 h1).1
 ·by_cases hl:ABlk.live (some b)=true
  ·have hown:∀g,ftp (some b) (ψ i) g→owns h ψ g:=fun g hg=>⟨i,by rw[hi];exact hl,by rw[hi];exact hg⟩
   exact Gm.re ((H.blk i b hi).keep (Ext.grow h ψ hS fun _ h=>h) fun g hg=>⟨hO g (hown g hg),fun h=>h⟩) fun g hg _ hn=>(hN g hn).2 (hown g hg)
  ·cases b <;> simp[ABlk.live]at hl
   trivial
theorem HRel.to{C':Ctx}(H:HRel C' h S ψ W)(hbel:Kp C.N C.w0 W)(hnlt:∀k,C.N k→k < C.w0.heap.size)(hsub:∀k,C.S0 k→S k)(hnew:∀k,S k→C.S0 k∨C.w0.heap.size≤k)(hown:∀g,owns h ψ g→¬C.N g):HRel C h S ψ W:=
 ⟨hbel,hnlt,H.lt,hsub,hnew,fun i b hi=>(H.blk i b hi).re fun g hg hl=>hown g ⟨i,by rw[hi];exact hl,by rw[hi];exact hg⟩,H.dis⟩
theorem HRel.cut(H:HRel C h S ψ w)(hc:Cut h h')(hb:∀b∈h',Ac0 h'.length b=true):HRel C h' S ψ w:=by
 refine⟨H.bel,H.nlt,H.lt,H.sub,H.new,fun i b hi=>?_,fun i j hij h1 h2=>by rw[hc.same h1,hc.same h2];exact H.dis i j hij (hc.live h1) (hc.live h2)⟩;rcases hc.blk i b hi with rfl|h1
 ·trivial
 ·have hB:=H.blk i b h1;cases b with
  |dead=>trivial
  |box cells=>
   obtain⟨g,cs,e,k1,k2,k3,k4,k5⟩:=hB;exact⟨g,cs,e,k1,k2,k3,k4,EB hc _ _ (hb _ (List.mem_of_getElem? hi)) k5⟩
  |row ver e T l=>exact hB
  |res R=>exact hB
theorem Ps(hc:Cut h h'){g:Nat}(hg:owns h' ψ g):owns h ψ g:=by
 obtain⟨j,h1,h2⟩:=hg;exact⟨j,hc.live h1,by rw[←hc.same h1];exact h2⟩
theorem HRel.rise{p:Nat}{R:Res}(H:HRel C h S ψ w)(hp:h[p]? =some .dead)(hR:R.R w S)(hF:∀g,R.F g→¬C.N g∧¬S g∧g < w.heap.size∧¬owns h ψ g):HRel C (h.set p (.res R)) S ψ w:=by
 have hpl:=(List.getElem?_eq_some_iff.1 hp).1;have X:Ext w S h ψ w S (h.set p (.res R)) (Bo ψ p (ψ p)):=Ext.set (fun _ _=>rfl) hp (fun c' hc=>by simp[ABlk.ver]at hc) fun h=>by simp[Bj]at h
 have e:Bo ψ p (ψ p)=ψ:=funext fun j=>by unfold Bo;split <;> simp_all
 rw[e]at X;refine⟨H.bel,H.nlt,H.lt,H.sub,H.new,fun i b hi=>?_,fun i j hij hi hj g h1 h2=>?_⟩
 ·by_cases hip:i=p
  ·subst hip;rw[List.getElem?_set_self hpl]at hi;cases hi;exact⟨fun g hg=>⟨(hF g hg).1,(hF g hg).2.1,(hF g hg).2.2.1⟩,hR⟩
  ·rw[List.getElem?_set_ne (Ne.symm hip)]at hi;exact(H.blk i b hi).keep X fun g _=>⟨rfl,fun h=>h⟩
 ·have key:∀j,j≠p→ABlk.live (h.set p (.res R))[j]? =true→ftp (h.set p (.res R))[j]? (ψ j) g→owns h ψ g:=fun j hj h1 h2=>by
   rw[List.getElem?_set_ne (Ne.symm hj)]at h1 h2;exact⟨j,h1,h2⟩
  by_cases hip:i=p
  ·subst hip;rw[List.getElem?_set_self hpl]at h1;exact(hF g h1).2.2.2 (key j (Ne.symm hij) hj h2)
  ·by_cases hjp:j=p
   ·subst hjp;rw[List.getElem?_set_self hpl]at h2;exact(hF g h2).2.2.2 (key i hip hi h1)
   ·rw[List.getElem?_set_ne (Ne.symm hip)]at h1 hi;rw[List.getElem?_set_ne (Ne.symm hjp)]at h2 hj;exact H.dis i j hij hi hj g h1 h2
theorem PB{h:List ABlk}{p:Nat}{R:Res}(hp:h[p]? =some .dead)(hm:mkD h= []):mkD (h.set p (.res R))=R.mrk.map HW:=by
 induction h generalizing p with
 |nil=>simp at hp
 |cons c h ih=>
  simp only[mkD,List.append_eq_nil_iff]at hm;cases p with
  |zero=>simp[mkD,hm.1,ABlk.mrk]
  |succ p=>
   simp only[List.set_cons_succ,mkD];rw[ih (by simpa using hp) hm.1,hm.2,List.append_nil]
end
def IN(t:List AV)(ps:List Tmp)(es:List AV):List AV:=(ps.zip es).foldl (fun t p=>t.set p.1 p.2) t
theorem Iw{w:World}{S:Nat→Prop}{h:List ABlk}{ψ:Nat→Value}:∀(ps:List Tmp) (es:List AV) (vs:List Value) (t:List AV) (tmps:Array Value),Ah w S h ψ es vs→Ah w S h ψ t tmps.toList→
 Ah w S h ψ (IN t ps es) ((ps.zip vs).foldl (fun(t:Array Value) p=>t.setIfInBounds p.1 p.2) tmps).toList
 | [],es,vs,t,tmps,_,ht=>ht
 |p::ps,[],vs,t,tmps,he,ht=>by
  unfold Ah at he;subst he;exact ht
 |p::ps,x::es,vs,t,tmps,he,ht=>by
  unfold Ah at he;obtain⟨v,vs',rfl,h1,h2⟩:=he;exact Iw ps es vs' (t.set p x) (tmps.setIfInBounds p v) h2 (by rw[Array.toList_setIfInBounds];exact G0 ht p h1)
structure Drops(h h':List ABlk):Prop where
 cut:Cut h h'
 bd:∀b∈h',Ac0 h'.length b=true
def Abh(h':List ABlk):Exit→St→Prop:=fun e s=>e= .normal∧Drops s.h h'
def JM(P:Program)(body:Code)(h':List ABlk)(s1:St):Prop:=∀C':Ctx,C'.rd.isSome=true→Awp P C' body (Abh h') s1
structure Between(PN own0 S:Nat→Prop)(w:World)(rec_:Loop)(hk:List ABlk)(W:World):Prop where
 loop:W.heap[w.heap.size+1]? =some (.loop rec_)
 dfr:W.heap[w.heap.size]? =some (.deferred (some []))
 kp:Kp PN w W
 st:∃Sk ψk,HRel ⟨W,Sk,fun _=>False,none⟩ hk Sk ψk W∧(∀g,S g→Sk g)∧(∀g,Sk g→S g∨w.heap.size+2≤g)∧∀g,owns hk ψk g→own0 g∨w.heap.size+2≤g
section
variable{P:Program}
theorem Abg{PN own0 S:Nat→Prop}{w W:World}{t es:List AV}{hk hk1:List ABlk}{ps:Array Tmp}{vs:List Value}{tmps:Array Value}{assign body:Code}{fn:FuncId}{rec_:LoopState→Loop}
 (hst:∀x y,({rec_ x with state:=y}:Loop)=rec_ y) (hrst:(rec_ .ready).state= .ready) (hpe:∀x,(rec_ x).pending=none)
 (hP0:∀g,PN g→g < w.heap.size∧¬own0 g) (ho0:∀g,own0 g→g < w.heap.size) (hS0:∀g,S g→g < w.heap.size)
 (ht:Bt t=true) (hes:Bt es=true) (htr:Ah w S [] ψ0 t tmps.toList) (hSP:∀g,S g→PN g) (hev:Ah w S [] ψ0 es vs) (hm:mkD hk= [])
 (hB:Between PN own0 S w (rec_ .ready) hk W)
 (hA:∀C':Ctx,C'.rd.isSome=true→Awp P C' assign (IH (JM P body hk1) (fun _ _=>False)) ⟨IN t ps.toList es,hk⟩):
 RoundIn Fence.wide 2 P (w.heap.size+1) fn ((ps.toList.zip vs).foldl (fun t p=>t.setIfInBounds p.1 p.2) tmps) assign body W fun e W'=>e= .returned (.bool true)∧Between PN own0 S w (rec_ .ready) hk1 W'∧Kp PN W W':=by
 obtain⟨hl,hD,hkp,Sk,ψk,H,hs1,hs2,hs3⟩:=hB;have hlW:w.heap.size+1 < W.heap.size:=(Array.getElem?_eq_some_iff.1 hl).1;have hkp':=hkp;have hSk:∀k,S k→W.heap[k]? =w.heap[k]?:=fun k hk=>hkp.block k (hSP k hk)
 let N1:Nat→Prop:=fun g=>g < W.heap.size∧¬owns hk ψk g
 have hPN1:∀g,PN g→N1 g:=fun g hg=>⟨Nat.lt_of_lt_of_le (hP0 g hg).1 hkp.size,fun ho=>by
  rcases hs3 g ho with h1|h1
  ·exact(hP0 g hg).2 h1
  ·have:=(hP0 g hg).1;omega⟩
 have hlD:∀g,(g=w.heap.size∨g=w.heap.size+1)→N1 g:=fun g hg=>⟨by omega,fun ho=>by
  rcases hs3 g ho with h1|h1
  ·have:=ho0 g h1;omega
  ·omega⟩
 have H1:=H.re (W':=W) (fun _ _=>rfl) (fun _ _=>rfl) N1 (fun _ h=>h) (some (w.heap.size+1));refine roundIn_of_wpIn trivial ?_;have r1:St.rel ⟨W,Sk,N1,some (w.heap.size+1)⟩ ⟨IN t ps.toList es,hk⟩ {tmps:=(ps.toList.zip vs).foldl (fun t p=>t.setIfInBounds p.1 p.2) tmps,defers:=[]} W:=by
  refine⟨hm.symm,Sk,ψk,H1,Iw _ _ _ _ _ ?_ ?_⟩
  ·exact Bi _ _ hes (Ay (Ext.grow [] ψ0 hSk hs1) _ _ hev)
  ·exact Bi _ _ ht (Ay (Ext.grow [] ψ0 hSk hs1) _ _ htr)
 refine wpIn_mono (RE (hA ⟨W,Sk,N1,some (w.heap.size+1)⟩ rfl _ _ r1)) ?_;rintro e a1 Wa ⟨s1,q1,hd1,Sa,ψa,Ha,hla⟩;cases e with
 |normal=>
  have hka:=Ha.bel;have hla1:Wa.heap[w.heap.size+1]? =some (.loop (rec_ .ready)):=(hka.block _ (hlD _ (.inr rfl))).trans hl;have hDa:Wa.heap[w.heap.size]? =some (.deferred (some [])):=(hka.block _ (hlD _ (.inl rfl))).trans hD;have hSa2:∀g,Sa g→S g∨w.heap.size+2≤g:=fun g hg=>by
   rcases Ha.new g hg with h1|h1
   ·exact hs2 g h1
   ·right;show w.heap.size+2≤g;have:W.heap.size≤g:=h1;omega
  have hoa:∀g,owns s1.h ψa g→own0 g∨w.heap.size+2≤g:=fun g hg=>by
   by_cases hgW:g < W.heap.size
   ·have h1:=(Ha.own_lt hg).1;have:owns hk ψk g:=Classical.not_not.1 fun h2=>h1 ⟨hgW,h2⟩
    exact hs3 g this
   ·right;omega
  have hneS:∀g,Sa g→g≠w.heap.size+1:=fun g hg=>by
   rcases hSa2 g hg with h1|h1
   ·have:=hS0 g h1;omega
   ·omega
  have hneO:∀g,owns s1.h ψa g→g≠w.heap.size+1:=fun g hg=>by
   rcases hoa g hg with h1|h1
   ·have:=ho0 g h1;omega
   ·omega
  refine⟨_,run_beginRound hla1 hrst,?_⟩;rw[hst];obtain⟨W2,hW2⟩:∃W2,W2=Wa.putObj (w.heap.size+1) (.loop (rec_ .busy)):=⟨_,rfl⟩
  rw[←hW2];have hot:∀g,g≠w.heap.size+1→W2.heap[g]? =Wa.heap[g]?:=fun g hg=>by rw[hW2];exact World.putObj_heap_other hg
  have hsz2:W2.heap.size=Wa.heap.size:=by rw[hW2];simp
  let N2:Nat→Prop:=fun g=>g < W2.heap.size∧¬owns s1.h ψa g
  have H2:=Ha.re (W':=W2) (fun k hk=>hot k (hneS k hk)) (fun k hk=>hot k (hneO k hk)) N2 (fun _ h=>h) (some (w.heap.size+1));have hla2:W2.heap[w.heap.size+1]? =some (.loop (rec_ .busy)):=by rw[hW2];exact World.putObj_heap_same (Array.getElem?_eq_some_iff.1 hla1).1
  have hWa:W.heap.size≤Wa.heap.size:=hka.size;have hPN2:∀g,PN g→N2 g:=fun g hg=>⟨by have:=(hP0 g hg).1;omega,fun ho=>by
   rcases hoa g ho with h1|h1
   ·exact(hP0 g hg).2 h1
   ·have:=(hP0 g hg).1;omega⟩
  have hlD2:∀g,(g=w.heap.size∨g=w.heap.size+1)→N2 g:=fun g hg=>⟨by omega,fun ho=>by
   rcases hoa g ho with h1|h1
   ·have:=ho0 g h1;omega
   ·omega⟩
  have r2:St.rel ⟨W2,Sa,N2,some (w.heap.size+1)⟩ s1 a1 W2:=⟨hd1,Sa,ψa,H2,Ay (Ext.grow s1.h ψa (fun k hk=>hot k (hneS k hk)) fun _ h=>h) _ _ hla⟩
  refine wpIn_mono (RE (q1 ⟨W2,Sa,N2,some (w.heap.size+1)⟩ rfl _ _ r2)) ?_;rintro e a3 W3 ⟨s2,⟨rfl,hdr⟩,hd2,S3,ψ3,H3,hl3⟩;have hk3:=H3.bel;have hl31:W3.heap[w.heap.size+1]? =some (.loop (rec_ .busy)):=(hk3.block _ (hlD2 _ (.inr rfl))).trans hla2;have hD3:W3.heap[w.heap.size]? =some (.deferred (some [])):=(hk3.block _ (hlD2 _ (.inl rfl))).trans ((hot _ (by omega)).trans hDa);have H4:=H3.cut hdr.cut hdr.bd;have hS3:∀g,S3 g→S g∨w.heap.size+2≤g:=fun g hg=>by
   rcases H3.new g hg with h1|h1
   ·exact hSa2 g h1
   ·right;have:W2.heap.size≤g:=h1;omega
  have ho3:∀g,owns hk1 ψ3 g→own0 g∨w.heap.size+2≤g:=fun g hg=>by
   by_cases hgW:g < W2.heap.size
   ·have h1:=(H3.own_lt (Ps hdr.cut hg)).1;have:owns s1.h ψa g:=Classical.not_not.1 fun h2=>h1 ⟨hgW,h2⟩
    exact hoa g this
   ·right;omega
  have hot4:∀g,g≠w.heap.size+1→(W3.putObj (w.heap.size+1) (.loop (rec_ .ready))).heap[g]? =W3.heap[g]?:=fun g hg=>World.putObj_heap_other hg
  have hr:=run_endRound (P:=P) none hl31;have hrec:({rec_ .busy with state:=.ready,pending:=none}:Loop)=rec_ .ready:=by rw[←hst .busy .ready,←hpe .busy]
  rw[show(if(none:Option Code).isNone=true then LoopState.ready else LoopState.done)= .ready from rfl,hrec]at hr;have hkW:Kp PN W (W3.putObj (w.heap.size+1) (.loop (rec_ .ready))):=by
   refine⟨?_,?_,?_,?_,fun k hk=>?_⟩
   ·show W3.os=W.os;rw[hk3.os];show W2.os=W.os;rw[hW2];exact hka.os
   ·show W3.tape=W.tape;rw[hk3.tape];show W2.tape=W.tape;rw[hW2];exact hka.tape
   ·show W3.output=W.output;rw[hk3.output];show W2.output=W.output;rw[hW2];exact hka.output
   ·have h1:W2.heap.size≤W3.heap.size:=hk3.size;simp;omega
   ·have hne:k≠w.heap.size+1:=by have:=(hP0 k hk).1;omega
    rw[hot4 k hne,hk3.block k (hPN2 k hk)];show W2.heap[k]? =W.heap[k]?;rw[hot k hne];exact hka.block k (hPN1 k hk)
  refine⟨_,_,hr,rfl,⟨World.putObj_heap_same (Array.getElem?_eq_some_iff.1 hl31).1,(hot4 _ (by omega)).trans hD3,hkp.trans hkW,S3,ψ3,?_,fun g hg=>H3.sub g (Ha.sub g (hs1 g hg)),hS3,ho3⟩,hkW⟩;refine H4.re (fun k hk=>hot4 k ?_) (fun k hk=>hot4 k ?_) _ (fun _ h=>h.elim) none
  ·rcases hS3 k hk with h1|h1
   ·have:=hS0 k h1;omega
   ·omega
  ·rcases ho3 k hk with h1|h1
   ·have:=ho0 k h1;omega
   ·omega
 |_=>exact q1.elim
theorem Jm{gf:FuncId}(hE:B6 P gf=true)(args:Array Value)(w:World):(callFunc gf args).run P w= .ok (.enter gf args) w:=by
 unfold B6 at hE;cases hf:P.funcs[gf]? with
 |none=>rw[hf]at hE;cases hE
 |some fn=>
  rw[hf]at hE;simp only[Bool.and_eq_true,Bool.not_eq_true']at hE;have h1:¬fn.name= "runtime.NumGoroutine" :=by simpa using hE.1
  have h2:¬fn.body=none:=fun e=>by have:=hE.2;rw[e]at this;cases this
  simp[callFunc,hf,h1,h2]
theorem Xr{C:Ctx}{g:Operand}{ps:Array Tmp}{assign body:Code}{Q:Exit→St→Prop}{t:List AV}{h:List ABlk}{gf:FuncId}{lb:Array Value}{R:Res}{ds:List Nat}{N:Nat}{encs:Nat→List AV}(i im:Nat)(σ:Nat→List ABlk)
 (hrd:C.rd=none) (hE:B6 P gf=true) (hg:evA t g= .lit (.func (.func gf) #[] lb)) (hi:h[i]? =some (.res R)) (hmi:h[im]? =some (.res (BR ds))) (hmk:mkD h=ds.map HW)
 (h0:Drops h (σ 0)) (h0i:(σ 0)[i]? =some .dead) (hσm:∀k,(σ k)[im]? =some .dead) (hmσ:∀k,mkD (σ k)= []) (ht:Bt t=true) (hes:∀k,Bt (encs k)=true) (hps:∀k,(encs k).length=ps.size)
 (hit:∀w S,(∀k,S k→k < w.heap.size)→(∀k,R.F k→k < w.heap.size)→R.R w S→Ajk P gf lb (fun k=>S k∨R.F k) w (fun k vs=>Ah w S [] ψ0 (encs k) vs) N)
 (hround:∀k,k < N→∀C':Ctx,C'.rd.isSome=true→Awp P C' assign (IH (JM P body (σ (k+1))) (fun _ _=>False)) ⟨IN t ps.toList (encs k),σ k⟩)
 (hdone:∀D,Q .normal ⟨t,(σ N).set im (.res (BR (D::ds)))⟩):Awp P C (.rangeFunc g ps assign body) Q ⟨t,h⟩:=fun a w ⟨hd,S,ψ,H,hl⟩=>by
 rw[hrd];show(Code.rangeFunc g ps assign body).wpIn Fence.wide 4 P _ a w;have H0:=H.cut h0.cut h0.bd;have hBi:=H.blk i _ hi;have hBm:=H.blk im _ hmi;have hgv:=BJ hl g;rw[hg]at hgv;unfold AV.rel at hgv;have hlit:Ah w S [] ψ0 t a.tmps.toList:=Bi _ _ ht hl;obtain⟨own0,hown0⟩:∃o,o=owns (σ 0) ψ:=⟨_,rfl⟩
 obtain⟨PN,hPN⟩:∃p:Nat→Prop,p=fun g=>g < w.heap.size∧¬own0 g:=⟨_,rfl⟩
 have ho0:∀g,own0 g→g < w.heap.size:=fun g hg=>by rw[hown0]at hg;exact(H0.own_lt hg).2.1
 have hP0:∀g,PN g→g < w.heap.size∧¬own0 g:=fun g hg=>by rw[hPN]at hg;exact hg
 have hdead:∀(j:Nat) (R':Res),h[j]? =some (.res R')→(σ 0)[j]? =some .dead→∀g,R'.F g→¬own0 g:=fun j R' hj hjd g hF ho=>by
  rw[hown0]at ho;obtain⟨j',h1,h2⟩:=ho;have hne:j'≠j:=fun e=>by subst e;rw[hjd]at h1;cases h1
  rw[h0.cut.same h1]at h2;exact H.dis j' j hne (h0.cut.live h1) (by rw[hj];rfl) g h2 (by rw[hj];exact hF)
 have hSP:∀g,S g→PN g:=fun g hg=>by rw[hPN];exact⟨H.lt g hg,fun ho=>by rw[hown0]at ho;exact(H0.own_lt ho).2.2 hg⟩
 have hFP:∀g,R.F g→PN g:=fun g hg=>by rw[hPN];exact⟨(hBi.1 g hg).2.2,hdead i R hi h0i g hg⟩
 have hdP:∀g,g∈ds→PN g:=fun g hg=>by rw[hPN];exact⟨(hBm.1 g hg).2.2,hdead im _ hmi (hσm 0) g hg⟩
 refine wpIn_rangeFunc fun fn _=>?_
 obtain⟨rec_,hrec⟩:∃rec_:LoopState→Loop,rec_=fun st=>{state:=st,pending:=none,fn,tmps:=a.tmps,params:=ps,assign,body,defers:=w.heap.size}:=⟨_,rfl⟩
 have hst:∀x y,({rec_ x with state:=y}:Loop)=rec_ y:=fun x y=>by rw[hrec]
 have hrst:(rec_ .ready).state= .ready:=by rw[hrec]
 have hpe:∀x,(rec_ x).pending=none:=fun x=>by rw[hrec]
 obtain⟨W1,hW1⟩:∃W1,W1=(w.alloc (.deferred (some []))).alloc (.loop (rec_ .ready)):=⟨_,rfl⟩
 have hL1:W1.heap[w.heap.size+1]? =some (.loop (rec_ .ready)):=by
  rw[hW1];have:=heap_alloc_new (w.alloc (.deferred (some []))) (.loop (rec_ .ready));rwa [World.size_alloc]at this
 have hD1:W1.heap[w.heap.size]? =some (.deferred (some [])):=by
  rw[hW1];exact(Below.heap_alloc _ _ _ (by simp)).trans (heap_alloc_new w _)
 have hb1:Below w.heap.size w W1:=by rw[hW1];exact((Below.refl _ w).alloc (Nat.le_refl _) _).alloc (by simp) _
 have hJ0:Between PN own0 S w (rec_ .ready) (σ 0) W1:=by
  refine⟨hL1,hD1,Jv hb1 fun k hk=>(hP0 k hk).1,S,ψ,?_,fun _ h=>h,fun _ h=>.inl h,fun g hg=>.inl (by rw[hown0];exact hg)⟩;exact H0.re (fun k hk=>hb1.block k (H.lt k hk)) (fun k hk=>hb1.block k (H0.own_lt hk).2.1) _ (fun _ h=>h.elim) none
 refine⟨w.heap.size+1,[HW w.heap.size],W1,{target:=.fn (.func gf) lb,args:=#[.func (.yield (w.heap.size+1)) #[] #[]]},W1,gf,#[.func (.yield (w.heap.size+1)) #[] #[]]++lb,W1,?_,?_,fun _ _=>trivial,?_,fun _=>by omega,?_⟩
 ·rw[hW1,hrec];exact run_enterLoop_outer _ _ _ _ _
 ·simp only[resolve,hgv];simp[go_sem]
 ·simp[invoke,go_sem,Jm hE]
 ·refine(hit w S H.lt (fun k hk=>(hBi.1 k hk).2.2) hBi.2 (w.heap.size+1) (fun k W=>Between PN own0 S w (rec_ .ready) (σ k) W) W1 ⟨hb1.size,fun k hk=>hb1.block k ?_⟩ ?_ hJ0).mono ?_
  ·rcases hk with hk|hk
   ·exact H.lt k hk
   ·exact(hBi.1 k hk).2.2
  ·intro k vs W hkN hev hJ;have hvl:vs.length=ps.size:=by rw[By hev,hps]
   have hy:=run_yield (P:=P) (args:=vs.toArray) hJ.loop (by rw[hrec];simpa using hvl);have hR:=Abg (P:=P) (fn:=fn) (ps:=ps) (tmps:=a.tmps) (body:=body) hst hrst hpe hP0 ho0 H.lt ht (hes k) hlit hSP hev (hmσ k) hJ (hround k hkN);have e1:((rec_ .ready).params.zip vs.toArray).foldl (fun tmps (t,a)=>tmps.setIfInBounds t a) (rec_ .ready).tmps=(ps.toList.zip vs).foldl (fun t p=>t.setIfInBounds p.1 p.2) a.tmps:=by
    rw[hrec,←Array.foldl_toList,Array.toList_zip]
   rw[e1]at hy;rw[show(rec_ .ready).fn=fn by rw[hrec],show(rec_ .ready).assign=assign by rw[hrec],show(rec_ .ready).body=body by rw[hrec]]at hy;refine⟨fn,_,assign,body,hy,hR.mono ?_⟩;rintro e W' ⟨rfl,hB,hK⟩;refine⟨rfl,hB,hK.size,fun g hg=>hK.block g ?_⟩;rcases hg with hg|hg
   ·exact hSP g hg
   ·exact hFP g hg
  ·rintro e W' ⟨⟨v,rfl⟩,hJ⟩;have hend:=run_endLoop (P:=P) hJ.loop (by rw[hrst];simp);rw[hpe]at hend;refine⟨none,_,hend,⟨t,(σ N).set im (.res (BR (w.heap.size::ds)))⟩,hdone _,?_⟩;obtain⟨hlp,hdf,hkp,Sk,ψk,Hk,hs1,hs2,hs3⟩:=hJ;suffices key:∀(W5:World) (ob:Obj),W5=W'.putObj (w.heap.size+1) ob→St.rel C ⟨t,(σ N).set im (.res (BR (w.heap.size::ds)))⟩ {a with defers:=[HW w.heap.size]++a.defers} W5 from key _ _ rfl
   intro W5 ob hW5;have hot:∀g,g≠w.heap.size+1→W5.heap[g]? =W'.heap[g]?:=fun g hg=>by rw[hW5];exact World.putObj_heap_other hg
   have hsz:W5.heap.size=W'.heap.size:=by rw[hW5];simp
   have hlW:w.heap.size+1 < W'.heap.size:=(Array.getElem?_eq_some_iff.1 hlp).1;have hSne:∀g,Sk g→g≠w.heap.size+1:=fun g hg=>by
    rcases hs2 g hg with h1|h1
    ·have:=H.lt g h1;omega
    ·omega
   have hOne:∀g,owns (σ N) ψk g→g≠w.heap.size+1:=fun g hg=>by
    rcases hs3 g hg with h1|h1
    ·have:=ho0 g h1;omega
    ·omega
   have hPne:∀g,PN g→W5.heap[g]? =w.heap[g]?:=fun g hg=>(hot g (by have:=(hP0 g hg).1;omega)).trans (hkp.block g hg)
   have hH5:=Hk.re (W':=W5) (fun k hk=>hot k (hSne k hk)) (fun k hk=>hot k (hOne k hk)) (fun _=>False) (fun _ h=>h.elim) none;have hCN:∀g,C.N g→PN g:=fun g hg=>by
    rw[hPN];refine⟨Nat.lt_of_lt_of_le (H.nlt g hg) H.bel.size,fun ho=>?_⟩;rw[hown0]at ho;exact(H0.own_lt ho).1 hg
   have hkp5:Kp C.N w W5:=⟨by rw[hW5];exact hkp.os,by rw[hW5];exact hkp.tape,by rw[hW5];exact hkp.output,by have:=hkp.size;omega,fun k hk=>hPne k (hCN k hk)⟩
   have hH6:HRel C (σ N) Sk ψk W5:=hH5.to (H.bel.trans hkp5) H.nlt (fun k hk=>hs1 k (H.sub k hk)) (fun k hk=>by
    rcases hs2 k hk with h1|h1
    ·exact H.new k h1
    ·right;have:=H.bel.size;omega) fun g hg hn=>by
     rcases hs3 g hg with h1|h1
     ·exact(hP0 g (hCN g hn)).2 h1
     ·have:=H.nlt g hn;have:=H.bel.size;omega
   refine⟨?_,Sk,ψk,hH6.rise (hσm N) ⟨List.nodup_cons.2 ⟨fun hm=>by have:=(hBm.1 _ hm).2.2;omega,hBm.2.1⟩,fun d hd=>?_⟩ fun g hg=>?_,?_⟩
   ·show [HW w.heap.size]++a.defers=mkD ((σ N).set im _);rw[PB (hσm N) (hmσ N),hd,hmk];rfl
   ·rcases List.mem_cons.1 hd with rfl|hd
    ·exact(hot _ (by omega)).trans hdf
    ·exact(hPne d (hdP d hd)).trans (hBm.2.2 d hd)
   ·rcases List.mem_cons.1 hg with rfl|hg
    ·refine⟨fun hn=>by have:=H.nlt _ hn;have:=H.bel.size;omega,fun hs=>?_,by omega,fun ho=>?_⟩
     ·rcases hs2 _ hs with h1|h1
      ·have:=H.lt _ h1;omega
      ·omega
     ·rcases hs3 _ ho with h1|h1
      ·have:=ho0 _ h1;omega
      ·omega
    ·have hlt:=(hBm.1 g hg).2.2;refine⟨(hBm.1 g hg).1,fun hs=>?_,by omega,fun ho=>?_⟩
     ·rcases hs2 _ hs with h1|h1
      ·exact(hBm.1 g hg).2.1 h1
      ·omega
     ·rcases hs3 _ ho with h1|h1
      ·exact(hP0 g (hdP g hg)).2 h1
      ·omega
   ·exact Bi _ _ ht (Ay (Ext.grow [] ψ0 (fun k hk=>hPne k (hSP k hk)) hs1) _ _ hlit)
end
section
variable{C:Ctx}{h:List ABlk}{S:Nat→Prop}{ψ:Nat→Value}{W:World}
theorem HRel.other(H:HRel C h S ψ W){D:Nat}(o:Obj)(h1:¬C.N D)(h2:¬S D)(h3:¬owns h ψ D):HRel C h S ψ (W.putObj D o):=by
 have hot:∀g,g≠D→(W.putObj D o).heap[g]? =W.heap[g]?:=fun g hg=>World.putObj_heap_other hg
 have hS:∀k,S k→(W.putObj D o).heap[k]? =W.heap[k]?:=fun k hk=>hot k fun e=>h2 (e▸hk)
 refine⟨H.bel.trans ⟨rfl,rfl,rfl,by simp,fun k hk=>hot k fun e=>h1 (e▸hk)⟩,H.nlt,fun k hk=>by simpa using H.lt k hk,H.sub,H.new,fun i b hi=>?_,H.dis⟩;by_cases hl:ABlk.live (some b)=true
 ·exact(H.blk i b hi).keep (Ext.grow h ψ hS fun _ h=>h) fun g hg=>⟨hot g fun e=>h3 ⟨i,by rw[hi];exact hl,by rw[hi];exact e▸hg⟩,fun h=>h⟩
 ·cases b <;> simp[ABlk.live]at hl
  trivial
end
theorem L8{P:Program}{C:Ctx}{fn:Go.Func}{tmps:Array Value}{R:Ending→World→Prop}{v:Value}{x:AV}{n:Nat}(hres:∀W,(results fn tmps).run P W= .ok v W):
 ∀(ds:List Nat) (W:World) (h:List ABlk) (S:Nat→Prop) (ψ:Nat→Value),(∀W S ψ,HRel C (h.set 0 .dead) S ψ W→AV.rel W S (h.set 0 .dead) ψ x v→R (.returned v) W)→h[0]? =some (.res (BR ds))→HRel C h S ψ W→AV.rel W S h ψ x v→
  LeavesInM Fence.wide n P fn tmps R (ds.map HW) .returning W
 | [],W,h,S,ψ,hfin,h0,H,hv=>by
  have hc:Cut h (h.set 0 .dead):=⟨by simp,fun i b hi=>by
   by_cases hi0:i=0
   ·subst hi0;rw[List.getElem?_set_self (List.getElem?_eq_some_iff.1 h0).1]at hi;cases hi;exact .inl rfl
   ·rw[List.getElem?_set_ne (Ne.symm hi0)]at hi;exact .inr hi⟩
  exact⟨v,hres W,hfin W S ψ (H.cute hc (by simp)) (Jy hc (by simp) _ _ hv)⟩
 |D::ds,W,h,S,ψ,hfin,h0,H,hv=>by
  have hB:=H.blk 0 _ h0;have hlen:=(List.getElem?_eq_some_iff.1 h0).1;have hD:=hB.1 D (by show D∈D::ds;simp);refine⟨by simp,.inl ⟨_,_,rfl,run_takeDeferred (hB.2.2 D (by simp)),?_⟩⟩;have X:Ext W S h ψ W S (h.set 0 (.res (BR ds))) (Bo ψ 0 (ψ 0)):=Ext.set (fun _ _=>rfl) h0 (fun c' hc=>by simp[ABlk.ver]at hc) fun h=>by simp[Bj]at h
  have hnd:=List.nodup_cons.1 hB.2.1;have H1:HRel C (h.set 0 (.res (BR ds))) S (Bo ψ 0 (ψ 0)) W:=H.set (v':=ψ 0) h0 rfl ⟨rfl,rfl,rfl,Nat.le_refl _,fun _ _ _=>rfl⟩ X
   ⟨fun g hg=>hB.1 g (List.mem_cons_of_mem _ hg),hnd.2,fun d hd=>hB.2.2 d (List.mem_cons_of_mem _ hd)⟩ fun g hg=>.inl (List.mem_cons_of_mem _ hg)
  have hno:¬owns (h.set 0 (.res (BR ds))) (Bo ψ 0 (ψ 0)) D:=fun⟨j,h1,h2⟩=>by
   by_cases hj:j=0
   ·subst hj;rw[List.getElem?_set_self hlen]at h2;exact hnd.1 h2
   ·rw[List.getElem?_set_ne (Ne.symm hj)]at h1 h2;rw[Bq hj]at h2;exact H.dis j 0 hj h1 (by rw[h0];rfl) D h2 (by rw[h0];show D∈D::ds;simp)
  have hSk:∀k,S k→(W.putObj D (.deferred none)).heap[k]? =W.heap[k]?:=fun k hk=>World.putObj_heap_other fun e=>hD.2.1 (e▸hk)
  refine L8 hres ds _ _ S _ (fun W S ψ h1 h2=>?_) (List.getElem?_set_self hlen) (H1.other _ hD.1 hD.2.1 hno) (GV (Ext.grow _ _ hSk fun _ h=>h) _ _ (GV X _ _ hv));rw[List.set_set]at h1 h2;exact hfin W S ψ h1 h2
def Akj(t:Tmp)(r:AV):Exit→St→Prop:=fun e s=>(e= .normal∨e= .ret)∧∃ds,s.h[0]? =some (.res (BR ds))∧mkD s.h=ds.map HW∧Fin (s.h.set 0 .dead) (evA s.t (.tmp t)) r
theorem OR{P:Program}{f:FuncId}{fn:Go.Func}{c:Code}{args:List AV}{r:AV}{t:Tmp}{n:Nat}(hf:P.funcs[f]? =some fn)(hb:fn.body=some c)(hE:B6 P f=true)(hres:fn.results= #[.tmp t])(hn:fn.ntmps=n)
 (h:∀C:Ctx,C.std→C.rd=none→Awp P C c (Akj t r) ⟨args++List.replicate (n - args.length) (.lit undef),[.res (BR [])]⟩):Fn P f args r:=by
 refine⟨hE,fun w S vs hS hr=>(callsIn_wide (n:=4)).1 (callsIn_of_wp_marks hf hb trivial ?_)⟩;rw[hn];have hst:St.rel ⟨w,S,fun k=>k < w.heap.size,none⟩ ⟨args++List.replicate (n - args.length) (.lit undef),[.res (BR [])]⟩ {tmps:=vs.toArray++Array.replicate (n - vs.toArray.size) undef,defers:=[]} w:=by
  obtain⟨hd,S1,ψ,H,hl⟩:=Dk (n:=n) hS hr;have X:=Ext.push (w:=w) (w':=w) (S:=S1) (h:=[]) (ψ:=ψ) (.res (BR [])) undef fun _ _=>rfl
  exact⟨rfl,S1,_,H.push (b:=.res (BR [])) (v:=undef) (Below.refl _ _) (show Gm _ _ _ _ _ _ (.res (BR []))from⟨fun g hg=>(List.not_mem_nil hg).elim,show([]:List Nat).Nodup∧∀d∈([]:List Nat),w.heap[d]? =some (.deferred (some []))from⟨List.nodup_nil,fun d hd=>(List.not_mem_nil hd).elim⟩⟩) (fun g hg=>(List.not_mem_nil hg).elim),Ay X _ _ hl⟩
 have hw:=h ⟨w,S,fun k=>k < w.heap.size,none⟩ (fun _ h=>h) rfl _ w hst;refine wpIn_mono hw ?_;rintro e a' w' ⟨s,⟨he,ds,h0,hm,hfin⟩,hd,S1,ψ,H,hl⟩;have hv:=BJ hl (.tmp t);rw[hm]at hd;have key:=L8 (P:=P) (C:=⟨w,S,fun k=>k < w.heap.size,none⟩) (fn:=fn) (tmps:=a'.tmps) (R:=fun e w'=>∃v,e= .returned v∧Xm w S [] ψ0 r v w') (n:=4) (x:=evA s.t (.tmp t)) (v:=a'.eval (.tmp t)) (fun W=>results_tmp hres _ _ _) ds w' s.h S1 ψ (fun W S ψ h1 h2=>⟨_,rfl,Es (s:=⟨s.t,s.h.set 0 .dead⟩) h1 hfin h2⟩) h0 H hv;rcases he with rfl|rfl
 ·show LeavesInM Fence.wide 4 P fn a'.tmps _ a'.defers .returning w';rw[hd];exact key
 ·show LeavesInM Fence.wide 4 P fn a'.tmps _ a'.defers .returning w';rw[hd];exact key
end Mu
end
section
namespace Mu
open Go Go.RowKit Go.ChangeShapes Go.WideShapes
def C3(g:Nat)(cells:List AV):Res:=⟨[],fun k=>k=g,fun w S=>∃cs e,w.heap[g]? =some (.cells (List.toArray cs) e (0,0))∧Ah w S [] ψ0 cells cs,
 fun h hk hb hs=>let ⟨cs,e,h1,h2⟩:=h;⟨cs,e,(hk g rfl).trans h1,Ay (Ext.grow [] ψ0 hb hs) _ _ h2⟩⟩
def rowR(v:Value)(e:TypeId){α:Type}(T:Ty α)(l:List α):Res:=⟨[],fun g=>BY v=some g,fun w S=>∃cells,w.ownsRow 0 e T.size v l.length cells∧0 < T.size∧∀i d,l[i]? =some d→T.RS w S ((cells.drop (i * T.size)).take T.size) d,
 fun h hk hb hs=>let ⟨cells,h1,h0,h2⟩:=h;⟨cells,Lt h1 fun g hg=>hk g hg,h0,fun i d hd=>T.keepS (h2 i d hd) hb hs⟩⟩
section
variable{C:Ctx}{h:List ABlk}{S:Nat→Prop}{ψ:Nat→Value}{w:World}
theorem HRel.desc{i:Nat}{b b':ABlk}{v':Value}(H:HRel C h S ψ w)(hi:h[i]? =some b)(hlive:ABlk.live (some b)=true)(hn:∀j c,j≠i→h[j]? =some c→nrB i c=true)
 (hB:Gm C.N w S (h.set i b') (Bo ψ i v') v' b') (hF:∀g,ftp (some b') v' g→ftp (some b) (ψ i) g):HRel C (h.set i b') S (Bo ψ i v') w:=by
 have hil:=(List.getElem?_eq_some_iff.1 hi).1;refine⟨H.bel,H.nlt,H.lt,H.sub,H.new,fun j c hc=>?_,fun j k hjk hj hk g hgj hgk=>?_⟩
 ·by_cases hji:j=i
  ·subst hji;rw[List.getElem?_set_self hil]at hc;cases hc;rw[AZ];exact hB
  ·rw[List.getElem?_set_ne (Ne.symm hji)]at hc;rw[Bq hji];have hBj:=H.blk j c hc;cases c with
   |dead=>trivial
   |box cells=>
    obtain⟨g,cs,e,k1,k2,k3,k4,k5⟩:=hBj;exact⟨g,cs,e,k1,k2,k3,k4,Cu (fun k hk=>Bq hk) _ _ (hn j _ hji hc) k5⟩
   |row ver e T l=>exact hBj
   |res R=>exact hBj
 ·have hold:∀k,ABlk.live (h.set i b')[k]? =true→ftp (h.set i b')[k]? (Bo ψ i v' k) g→ABlk.live h[k]? =true∧ftp h[k]? (ψ k) g:=fun k hk hgk=>by
   by_cases hki:k=i
   ·subst hki;rw[List.getElem?_set_self hil,AZ]at hgk;rw[hi];exact⟨hlive,hF g hgk⟩
   ·rw[List.getElem?_set_ne (Ne.symm hki)]at hk hgk;rw[Bq hki]at hgk;exact⟨hk,hgk⟩
  obtain⟨a1,a2⟩:=hold j hj hgj;obtain⟨b1,b2⟩:=hold k hk hgk;exact H.dis j k hjk a1 b1 g a2 b2
end
inductive Opn (i ver:Nat) (v:Value):List AV→List AV→Prop
 |nil:Opn i ver v [] []
 |any {x:AV} {t t':List AV} (h:Opn i ver v t t'):Opn i ver v (x::t) (.any::t')
 |keep {x:AV} {t t':List AV} (hx:EY i x=true) (h:Opn i ver v t t'):Opn i ver v (x::t) (x::t')
 |own {t t':List AV} (h:Opn i ver v t t'):Opn i ver v (.own i ver::t) (.lit v::t')
inductive OpnB (i g:Nat):List AV→List AV→Prop
 |nil:OpnB i g [] []
 |any {x:AV} {t t':List AV} (h:OpnB i g t t'):OpnB i g (x::t) (.any::t')
 |keep {x:AV} {t t':List AV} (hx:EY i x=true) (h:OpnB i g t t'):OpnB i g (x::t) (x::t')
 |ptr {off:Nat} {t t':List AV} (h:OpnB i g t t'):OpnB i g (.ptr i off::t) (.lit (.pointer (some ⟨g,off,none⟩))::t')
inductive Cls (i ver:Nat) (v:Value):List AV→List AV→Prop
 |nil:Cls i ver v [] []
 |any {x:AV} {t t':List AV} (h:Cls i ver v t t'):Cls i ver v (x::t) (.any::t')
 |keep {x:AV} {t t':List AV} (hx:EY i x=true) (h:Cls i ver v t t'):Cls i ver v (x::t) (x::t')
 |own {t t':List AV} (h:Cls i ver v t t'):Cls i ver v (.lit v::t) (.own i ver::t')
def Wh(i:Nat)(h:List ABlk):Bool:=h.all fun b=>nrB i b
theorem JW{i:Nat}{h:List ABlk}(hn:Wh i h=true):∀(j:Nat) (c:ABlk),j≠i→h[j]? =some c→nrB i c=true:=fun j c _ hc=>List.all_eq_true.1 hn c (List.mem_of_getElem? hc)
theorem OX(φ:Nat→Value)(k:Nat):Bo φ k (φ k)=φ:=funext fun q=>by unfold Bo;split <;> simp_all
section
variable{w:World}{S:Nat→Prop}{h:List ABlk}{ψ:Nat→Value}{i ver g:Nat}{v:Value}{b:ABlk}
theorem Opn.rel{t t':List AV}(ho:Opn i ver v t t')(hv:∀u,AV.rel w S h ψ (.own i ver) u→u=v):∀{cs:List Value},Ah w S h ψ t cs→Ah w S (h.set i b) ψ t' cs:=by
 induction ho with
 |nil=>intro cs H;unfold Ah at H⊢;exact H
 |any _ ih=>
  intro cs H;unfold Ah at H⊢;obtain⟨u,vs,e,_,h2⟩:=H;exact⟨u,vs,e,by unfold AV.rel;trivial,ih h2⟩
 |keep hx _ ih=>
  intro cs H;unfold Ah at H⊢;obtain⟨u,vs,e,h1,h2⟩:=H;exact⟨u,vs,e,FN (fun _ _=>rfl) _ _ hx h1,ih h2⟩
 |own _ ih=>
  intro cs H;unfold Ah at H⊢;obtain⟨u,vs,e,h1,h2⟩:=H;exact⟨u,vs,e,by rw[hv u h1];unfold AV.rel;rfl,ih h2⟩
theorem OpnB.rel{t t':List AV}(ho:OpnB i g t t')(hv:∀off u,AV.rel w S h ψ (.ptr i off) u→u= .pointer (some ⟨g,off,none⟩)):∀{cs:List Value},Ah w S h ψ t cs→Ah w S (h.set i b) ψ t' cs:=by
 induction ho with
 |nil=>intro cs H;unfold Ah at H⊢;exact H
 |any _ ih=>
  intro cs H;unfold Ah at H⊢;obtain⟨u,vs,e,_,h2⟩:=H;exact⟨u,vs,e,by unfold AV.rel;trivial,ih h2⟩
 |keep hx _ ih=>
  intro cs H;unfold Ah at H⊢;obtain⟨u,vs,e,h1,h2⟩:=H;exact⟨u,vs,e,FN (fun _ _=>rfl) _ _ hx h1,ih h2⟩
 |ptr _ ih=>
  intro cs H;unfold Ah at H⊢;obtain⟨u,vs,e,h1,h2⟩:=H;exact⟨u,vs,e,by rw[hv _ u h1];unfold AV.rel;rfl,ih h2⟩
theorem Cls.rel{t t':List AV}(ho:Cls i ver v t t')(hil:i < h.length)(hb:ABlk.ver (some b)=some ver):∀{cs:List Value},Ah w S h ψ t cs→Ah w S (h.set i b) (Bo ψ i v) t' cs:=by
 induction ho with
 |nil=>intro cs H;unfold Ah at H⊢;exact H
 |any _ ih=>
  intro cs H;unfold Ah at H⊢;obtain⟨u,vs,e,_,h2⟩:=H;exact⟨u,vs,e,by unfold AV.rel;trivial,ih h2⟩
 |keep hx _ ih=>
  intro cs H;unfold Ah at H⊢;obtain⟨u,vs,e,h1,h2⟩:=H;exact⟨u,vs,e,FN (fun _ hk=>Bq hk) _ _ hx h1,ih h2⟩
 |own _ ih=>
  intro cs H;unfold Ah at H⊢;obtain⟨u,vs,e,h1,h2⟩:=H;refine⟨u,vs,e,?_,ih h2⟩;unfold AV.rel at h1⊢;subst h1;refine⟨by simpa using hil,fun c hc=>?_⟩;rw[List.getElem?_set_self hil,hb]at hc;cases hc;exact⟨Nat.le_refl _,fun _=>by rw[AZ]⟩
end
section
variable{P:Program}{C:Ctx}{t:List AV}{h:List ABlk}{c:Code}{Q:Exit→St→Prop}
theorem D5(i:Nat){cells:List AV}(hi:h[i]? =some (.box cells))(hc:Bt cells=true)(hn:Wh i h=true)(t':Nat→List AV)(ht:∀g,OpnB i g t (t' g))
 (hK:∀g,Awp P C c Q ⟨t' g,h.set i (.res (C3 g cells))⟩):Awp P C c Q ⟨t,h⟩:=fun a w ⟨hd,S,ψ,H,hl⟩=>by
 obtain⟨g,cs,e,e1,hN,hS,hg,hcs⟩:=H.blk i _ hi;have H':=H.desc (b':=.res (C3 g cells)) (v':=ψ i) hi rfl (JW hn) ⟨fun k hk=>by
  have hk:k=g:=hk;subst hk;exact⟨hN,hS,(Array.getElem?_eq_some_iff.1 hg).1⟩,⟨cs,_,hg,Bi _ _ hc hcs⟩⟩ fun k hk=>by
  have hk:k=g:=hk;subst hk;rw[e1];rfl
 rw[OX]at H';refine hK g a w ⟨by rw[hd];exact(Dc (b':=.res (C3 g cells)) hi rfl).symm,S,ψ,H',(ht g).rel (fun off u hu=>?_) hl⟩;unfold AV.rel at hu;obtain⟨g',h1,rfl⟩:=hu.2 (by rw[hi];rfl);rw[e1]at h1;cases h1;rfl
theorem SC(i:Nat){ver:Nat}{e:TypeId}{α:Type}{T:Ty α}{l:List α}(hi:h[i]? =some (.row ver e T l))(hn:Wh i h=true)(t':Value→List AV)(ht:∀v,Opn i ver v t (t' v))
 (hK:∀v,Awp P C c Q ⟨t' v,h.set i (.res (rowR v e T l))⟩):Awp P C c Q ⟨t,h⟩:=fun a w ⟨hd,S,ψ,H,hl⟩=>by
 have hB:=H.blk i _ hi;have hlt:=hB.lt rfl;obtain⟨cells,h1,h0,h2,h3⟩:=id hB;have H':=H.desc (b':=.res (rowR (ψ i) e T l)) (v':=ψ i) hi rfl (JW hn) ⟨fun k hk=>by
  obtain⟨a1,a2,a3⟩:=hlt k hk;exact⟨a1,a3,a2⟩,⟨cells,h1,h0,h2⟩⟩ fun k hk=>hk
 rw[OX]at H';refine hK (ψ i) a w ⟨by rw[hd];exact(Dc (b':=.res (rowR (ψ i) e T l)) hi rfl).symm,S,ψ,H',(ht (ψ i)).rel (fun u hu=>?_) hl⟩;unfold AV.rel at hu;exact(hu.2 _ (by rw[hi];rfl)).2 rfl
theorem Nz(i:Nat){ver:Nat}{v:Value}{e:TypeId}{α:Type}{T:Ty α}{l:List α}{t':List AV}(hi:h[i]? =some (.res (rowR v e T l)))(hn:Wh i h=true)(ht:Cls i ver v t t'):
 St.le C ⟨t,h⟩ ⟨t',h.set i (.row ver e T l)⟩:=fun a w ⟨hd,S,ψ,H,hl⟩=>by
 have hB:=H.blk i _ hi;obtain⟨cells,h1,h0,h2⟩:=hB.2;have H':=H.desc (b':=.row ver e T l) (v':=v) hi rfl (JW hn) ⟨cells,h1,h0,h2,fun g hg=>by
  obtain⟨a1,a2,_⟩:=hB.1 g (BZ hg);exact⟨a1,a2⟩⟩ fun k hk=>hk
 exact⟨by rw[hd];exact(Dc (b':=.row ver e T l) hi rfl).symm,S,_,H',ht.rel (List.getElem?_eq_some_iff.1 hi).1 rfl hl⟩
end
section
variable{P:Program}{C:Ctx}{t:List AV}{h:List ABlk}{o:Oper}{K:St→Prop}
theorem Ck{ty:TypeId}{x:Operand}{n i g off:Nat}{cells:List AV}{r:AV}[AG P ty false n](ho:o.op= .load ty x)(hx:evA t x= .lit (.pointer (some ⟨g,off,none⟩)))(hi:h[i]? =some (.res (C3 g cells)))(hr:cells[off]? =some r)(hc:AV.cl r=true):AX P C t h o r:=
 Sp ho hx hi hc fun w S ⟨cs,e,h1,h2⟩=>by
  obtain⟨u,h3,h4⟩:=B9 h2 hr;exact⟨u,by simp[World.cell?,h1,h3],h4⟩
theorem Cd{ty:TypeId}{x:Operand}{n i g off:Nat}{cells:List AV}[AG P ty true n](ho:o.op= .load ty x)(hx:evA t x= .lit (.pointer (some ⟨g,off,none⟩)))(hi:h[i]? =some (.res (C3 g cells)))(hc:Bt ((cells.drop off).take n)=true)(hn:((cells.drop off).take n).length=n):AX P C t h o (.agg ((cells.drop off).take n)):=
 Ev ho AG.eq hx (Jw.res (R:=C3 g cells) (rs:=(cells.drop off).take n) hi hc fun w S ⟨cs,e,h1,h2⟩ j r hj=>by
  rw[List.getElem?_take]at hj;split at hj
  ·rw[List.getElem?_drop]at hj;obtain⟨u,h3,h4⟩:=B9 h2 hj;exact⟨u,by simp[World.cell?,h1,h3],h4⟩
  ·cases hj) (by rw[List.take_take,Nat.min_self]) hn
theorem Sq{st:TypeId}{x:Operand}{j n b off:Nat}[FO P st j n](ho:o.op= .fieldAddr st x j)(hx:evA t x= .lit (.pointer (some ⟨b,off,none⟩))):AX P C t h o (.lit (.pointer (some ⟨b,off+n,none⟩))):=
 AX.fieldAddr ho FO.eq hx fun C S ψ w v H hv=>by
  unfold AV.rel at hv⊢;exact⟨b,off,hv,rfl⟩
theorem ON{ty:TypeId}{x y:Operand}{ik:IntKind}{k b len c:Nat}[ES P ty 1](ho:o.op= .indexAddr ty x y)(hx:evA t x= .lit (.slice (some ⟨b,0,none⟩) len c))(hy:evA t y= .lit (.int ik (k:Int)))(hk:k < len):
 AX P C t h o (.lit (.pointer (some ⟨b,k,none⟩))):=by
 have:=Aai (P:=P) (C:=C) (h:=h) (n:=1) ho hx hy hk;rwa [Nat.zero_add,Nat.mul_one]at this
theorem Aau{ty:TypeId}{x y:Operand}{i g off n:Nat}{cells new:List AV}[SZ P ty n](ho:o.op= .store ty x y)(hx:evA t x= .lit (.pointer (some ⟨g,off,none⟩)))(hi:h[i]? =some (.res (C3 g cells)))(hp:Sx h (evA t y) new)(hc:Bt new=true)(hs:n=new.length)(hle:off+new.length≤cells.length)
 (hK:K ⟨BH t o.dst (.lit undef),h.set i (.res (C3 g (cells.take off++new++cells.drop (off+new.length))))⟩):AOp P C o ⟨t,h⟩ K:=by
 refine AOp.turn (ι:=Unit) (Rs:=fun _=>C3 g (cells.take off++new++cells.drop (off+new.length))) (val:=fun _=>undef) hi (fun _=>rfl) (fun S ψ w ρ H hR hlt hρ=>?_) fun _=>hK
 have hx':=hρ x (by rw[ho];simp[Op.operands]);have hy':=hρ y (by rw[ho];simp[Op.operands]);rw[hx]at hx';unfold AV.rel at hx';obtain⟨cs,e,hg,hcs⟩:=hR;obtain⟨hn,h1⟩:=hp C S ψ w _ H hy';have hnl:=By hn;have hcl:=By hcs;have hr:=I8 (P:=P) (ty:=ty) (v:=ρ y) (off:=off) (w:=w) (by rw[SZ.eq (P:=P) (ty:=ty) (n:=n),hnl,hs]) hg (by rw[hnl,List.size_toArray,hcl];exact hle) h1;rw[hnl]at hr;have hgr:=F1 w g (cs.take off++(ρ y).cells.toList++cs.drop (off+new.length)).toArray;have hblk:∀k,S k→(w.setRow g (cs.take off++(ρ y).cells.toList++cs.drop (off+new.length)).toArray).heap[k]? =w.heap[k]?:=fun k hk=>setRow_other _ _ _ _ fun e=>((H.blk i _ hi).1 k (show k=g from e)).2.1 hk
 simp only[execOp,ho,hx',Sem.run_bind,hr,Result.andThen_ok,Sem.run_pure,SR];refine⟨⟨hgr.os,hgr.tape,hgr.output,hgr.size,fun k hk hn=>hgr.block k hk fun e=>hn (by injection e)⟩,(),rfl,⟨_,e,setRow_heap w g _ _ e _ hg,?_⟩,fun k hk=>?_⟩
 ·have hE:Ext w S [] ψ0 (w.setRow g (cs.take off++(ρ y).cells.toList++cs.drop (off+new.length)).toArray) S [] ψ0:=Ext.grow [] ψ0 hblk fun _ h=>h
  exact Ay hE _ _ (B1 (B1 (JN hcs off) (Bi _ _ hc hn)) (JO hcs _))
 ·have hk:k=g:=hk;subst hk;have h5:k < w.heap.size:=(Array.getElem?_eq_some_iff.1 hg).1;exact⟨.inl rfl,Nat.lt_of_lt_of_le h5 hgr.size⟩
theorem Agk{ty:TypeId}{x y:Operand}{k k':IntKind}{n:Nat}{e:TypeId}{z:Value}{bytes:Nat}(ho:o.op= .makeSlice ty x y)(hz:Kx P ty=some (e,z,bytes))
 (hx:evA t x= .lit (.int k (n:Int))) (hy:evA t y= .lit (.int k' (n:Int))) (hb:bytes * n≤281474976710656) (hn:n≤maxLen)
 (hK:∀g,K ⟨BH t o.dst (.lit (.slice (some ⟨g,0,none⟩) n n)),h++[.res (C3 g (List.replicate n (.lit z)))]⟩):AOp P C o ⟨t,h⟩ K:=by
 refine EQ (ι:=Nat) (Rs:=fun g=>C3 g (List.replicate n (.lit z))) (val:=fun g=>.slice (some ⟨g,0,none⟩) n n) (fun _=>rfl) (fun S ψ w ρ H hρ=>?_) hK;have hx':=hρ x (by rw[ho];simp[Op.operands]);have hy':=hρ y (by rw[ho];simp[Op.operands]);rw[hx]at hx';rw[hy]at hy';unfold AV.rel at hx' hy';unfold Kx at hz;split at hz <;> try(cases hz;done)
 rename_i e' h1;obtain⟨i,hi,h2⟩:=Option.bind_eq_some_iff.1 hz;obtain⟨z',hz',h3⟩:=Option.bind_eq_some_iff.1 h2;split at h3 <;> try(cases h3;done)
 rename_i h4;cases h3;have hzc:=Ic h4.2;have hrun:=run_make_row' (P:=P) ty e z i.bytes h1 (by rw[hi];simp[hz',h4.1]) hzc k k' n hb (by unfold maxLen at hn;omega) w;rw[Rj]at hrun;have hbl:=(Below.refl w.heap.size w).alloc (Nat.le_refl _) (.cells (List.replicate n z).toArray e);have he:(execOp ρ o).run P w= .ok (.value (.slice (some ⟨w.heap.size,0,none⟩) n n)) (w.alloc (.cells (List.replicate n z).toArray e)):=by simp[execOp,ho,hx',hy',hrun]
 rw[he];refine⟨⟨hbl.os,hbl.tape,hbl.output,hbl.size,fun k hk _=>hbl.block k hk⟩,w.heap.size,rfl,⟨List.replicate n z,e,heap_alloc_new w _,?_⟩,fun k hk=>?_⟩
 ·refine DS (by simp) fun j x v hx hv=>?_
  rw[List.eq_of_mem_replicate (List.mem_of_getElem? hx),List.eq_of_mem_replicate (List.mem_of_getElem? hv)];unfold AV.rel;rfl
 ·have hk:k=w.heap.size:=hk;subst hk;exact⟨.inr (Nat.le_refl _),by simp⟩
end
def Bnd(d:Nat):Option Value→Nat→Prop
 |none,n=>n=d
 |some v,n=>∃k,v= .int k (n:Int)
section
variable{P:Program}{C:Ctx}{t:List AV}{h:List ABlk}{o:Oper}
theorem QF{ty:TypeId}{sz len cap l m:Nat}{a:Option Addr}{lo hi:Option Value}{w:World}(hs:LB P ty=some sz)(hl:Bnd 0 lo l)(hh:Bnd len hi m)(h1:l≤m)(h2:m≤cap):
 (Instr.sliceAt ty (.slice a len cap) lo hi none).run P w= .ok (.slice (if cap=l then a else a.map (·.add (l * sz))) (m - l) (cap - l)) w:=by
 unfold LB at hs;split at hs <;> try(cases hs;done)
 rename_i e hu;cases hi':P.info? e with
 |none=>rw[hi']at hs;cases hs
 |some i=>
  rw[hi']at hs;simp only[Option.map_some,Option.some.injEq]at hs;have he:P.elem ty=e:=by simp[Program.elem,hu]
  have hu':P.underlying ty=some (.slice (P.elem ty)):=by rw[he];exact hu
  have hz:(Go.sizeOf (P.elem ty)).run P w= .ok sz w:=by rw[he];simp[Go.sizeOf,typeInfo,hi',hs]
  rw[run_sliceAt_slice (h:=hu')];cases lo with
  |none=>
   have hl:l=0:=hl;subst hl;cases hi with
   |none=>
    have hh:m=len:=hh;subst hh;rw[run_slice_all (ht:=hu'),hz];simp[sliced]
   |some v=>
    obtain⟨k,rfl⟩:=hh;rw[run_slice_h (ht:=hu') (h0:=by omega) (h2:=by omega),hz];simp[sliced]
  |some u=>
   obtain⟨ku,rfl⟩:=hl;cases hi with
   |none=>
    have hh:m=len:=hh;subst hh;rw[run_slice_l (ht:=hu') (h0:=by omega) (h1:=by omega),hz];simp[sliced]
   |some v=>
    obtain⟨k,rfl⟩:=hh;rw[run_slice_lh (ht:=hu') (h0:=by omega) (h1:=by omega) (h2:=by omega),hz];simp[sliced]
theorem VK{α:Type}{T:Ty α}{w:World}{S:Nat→Prop}{a:Option Addr}{n c l m:Nat}{ds:List α}(h:T.slice.RS w S [.slice a n c] ds)(h1:l≤m)(h2:m≤ds.length):
 T.slice.RS w S [.slice (if c=l then a else a.map (·.add (l * T.size))) (m - l) (c - l)] ((ds.take m).drop l):=by
 obtain⟨A,c',e,hle,⟨hc,hn⟩,hi⟩:=h;simp only[List.cons.injEq,Value.slice.injEq,and_true]at e;obtain⟨rfl,rfl,rfl⟩:=e;have hlen:((ds.take m).drop l).length=m - l:=by simp;omega
 refine⟨_,c - l,by rw[hlen],by rw[hlen];omega,⟨by omega,fun e=>?_⟩,fun i d hd=>?_⟩
 ·split at e
  ·rename_i hcl;omega
  ·cases a with
   |none=>have:=hn rfl;omega
   |some x=>simp at e
 ·rw[List.getElem?_drop,List.getElem?_take]at hd;split at hd
  ·rename_i hlt;obtain⟨b,off,rfl,hat⟩:=hi _ _ hd;have hne:¬c=l:=by omega
   refine⟨b,off+l * T.size,by rw[if_neg hne];simp[add_plain],?_⟩;rw[show off+l * T.size+i * T.size=off+(l+i) * T.size by rw[Nat.add_mul];omega];exact hat
  ·cases hd
def Aeb(t:List AV)(d:Nat):Option Operand→Nat→Prop
 |none,n=>n=d
 |some x,n=>∃k,evA t x= .lit (.int k (n:Int))
theorem Aeb.val{d n:Nat}{x:Option Operand}(hb:Aeb t d x n){w:World}{S:Nat→Prop}{ψ:Nat→Value}{ρ:Operand→Value}(hρ:∀y,x=some y→AV.rel w S h ψ (evA t y) (ρ y)):Bnd d (x.map ρ) n:=by
 cases x with
 |none=>exact hb
 |some y=>
  obtain⟨k,hk⟩:=hb;have:=hρ y rfl;rw[hk]at this;unfold AV.rel at this;exact⟨k,this⟩
theorem Kq{ty:TypeId}{x:Operand}{lo hi:Option Operand}{n l m:Nat}{α:Type}{T:Ty α}{ds:List α}[ES P ty n](ho:o.op= .slice ty x lo hi none)(hx:evA t x= .bs T ds)(hs:T.size=n)(hl:Aeb t 0 lo l)(hm:Aeb t ds.length hi m)(h1:l≤m)(h2:m≤ds.length):
 AX P C t h o (.bs T ((ds.take m).drop l)):=
 AR fun S ψ w ρ H hρ=>by
  have hx':=hρ x (by rw[ho];simp[Op.operands]);have hlo:=hl.val (h:=h) (w:=w) (S:=S) (ψ:=ψ) (ρ:=ρ) fun y hy=>hρ y (by rw[ho,hy];simp[Op.operands])
  have hhi:=hm.val (h:=h) (w:=w) (S:=S) (ψ:=ψ) (ρ:=ρ) fun y hy=>hρ y (by rw[ho,hy];simp[Op.operands])
  rw[hx]at hx';unfold AV.rel at hx';obtain⟨A,c,e⟩:=Cs hx';have hx2:=hx';rw[e]at hx2;have hle:m≤c:=by
   obtain⟨A',c',e',h3,_⟩:=hx2;simp only[List.cons.injEq,Value.slice.injEq,and_true]at e';omega
  have hr:=QF (P:=P) (w:=w) (a:=A) (cap:=c) (ES.eq (P:=P) (ty:=ty) (n:=n)) hlo hhi h1 hle;refine⟨_,by simp[execOp,ho,e,hr];rfl,?_⟩;unfold AV.rel;rw[←hs];exact VK hx2 h1 h2
theorem OV{ty:TypeId}{x:Operand}{hi':Option Operand}{i ver m n:Nat}{e:TypeId}{α:Type}{T:Ty α}{l:List α}{K:St→Prop}[ES P ty n](ho:o.op= .slice ty x none hi' none)(hx:evA t x= .own i ver)(hi:h[i]? =some (.row ver e T l))(hs:T.size=n)
 (hm:Aeb t l.length hi' m) (h2:m≤l.length) (hK:K ⟨BH t o.dst (.own i (ver+1)),h.set i (.row (ver+1) e T (l.take m))⟩):AOp P C o ⟨t,h⟩ K:=by
 rintro Q' a w ⟨hd,S,ψ,H,hl⟩;refine⟨fun c e=>(by rw[ho]at e;cases e),?_⟩;have hx':=BJ hl x;have hhi:=hm.val (h:=h) (w:=w) (S:=S) (ψ:=ψ) (ρ:=a.eval) fun y hy=>BJ hl y
 rw[hx]at hx';unfold AV.rel at hx';have hv:=(hx'.2 _ (by rw[hi];rfl)).2 rfl;obtain⟨cells,hown,h0,hR,hNS⟩:=H.blk i _ hi;obtain⟨v',hrun,hown',hob,hbk⟩:∃v',(Instr.sliceAt ty (ψ i) none (hi'.map a.eval) none).run P w= .ok v' w∧w.ownsRow 0 e T.size v' m (cells.take (m * T.size))∧(∀g,v'.ownBlock=some g→(ψ i).ownBlock=some g)∧(∀g,BY v'=some g→BY (ψ i)=some g):=by
  obtain⟨hcl,hcase⟩:=hown;rcases hcase with⟨e1,e2⟩|⟨g,cap,cur,e1,e2,e3,e4,e5,e6,e7⟩
  ·have hm0:m=0:=by omega
   subst hm0;have hr:=QF (P:=P) (w:=w) (a:=none) (len:=0) (cap:=0) (l:=0) (m:=0) (lo:=none) (hi:=hi'.map a.eval) (ES.eq (P:=P) (ty:=ty) (n:=n)) rfl (by rw[e2]at hhi;exact hhi) (Nat.le_refl _) (Nat.le_refl _);refine⟨.slice none 0 0,?_,⟨by simp,.inl ⟨rfl,rfl⟩⟩,fun g hg=>by simp[Value.ownBlock]at hg,fun g hg=>by simp[BY]at hg⟩;rw[e1];simpa using hr
  ·have hr:=QF (P:=P) (w:=w) (a:=some ⟨g,0,none⟩) (len:=l.length) (cap:=cap) (l:=0) (m:=m) (lo:=none) (hi:=hi'.map a.eval) (ES.eq (P:=P) (ty:=ty) (n:=n)) rfl hhi (Nat.zero_le _) (by omega);refine⟨.slice (some ⟨g,0,none⟩) m cap,?_,⟨by rw[List.length_take,hcl];exact Nat.min_eq_left (Nat.mul_le_mul_right _ h2),.inr ⟨g,cap,cur,rfl,e2,e3,by omega,e5,e6,?_⟩⟩,fun g' hg=>by rw[e1];exact hg,fun g' hg=>by rw[e1];exact hg⟩
   ·rw[e1,hr];simp[add_plain]
   ·rw[←e7,List.take_take,Nat.min_eq_left (Nat.mul_le_mul_right _ h2)]
 have X:Ext w S h ψ w S (h.set i (.row (ver+1) e T (l.take m))) (Bo ψ i v'):=Ext.set (fun _ _=>rfl) hi (fun c' hc=>by
  simp only[ABlk.ver,Option.some.injEq]at hc;exact⟨ver,rfl,by omega,fun e=>by omega⟩) fun h=>by simp[Bj]at h
 have hB:Gm C.N w S (h.set i (.row (ver+1) e T (l.take m))) (Bo ψ i v') v' (.row (ver+1) e T (l.take m)):=by
  refine⟨cells.take (m * T.size),by rw[List.length_take,Nat.min_eq_left h2];exact hown',h0,fun j d hj=>?_,fun g hg=>hNS g (hob g hg)⟩;rw[List.getElem?_take]at hj;split at hj
  ·rename_i hjm;have:=hR j d hj;have hle:(j+1) * T.size≤m * T.size:=Nat.mul_le_mul_right _ (by omega);rw[Nat.add_mul,Nat.one_mul]at hle;rw[List.drop_take,List.take_take,Nat.min_eq_left (by omega)];exact this
  ·cases hj
 unfold Oper.wp;simp only[execOp,ho,hv,Option.map_none,hrun,Sem.run_bind,Result.andThen_ok,Sem.run_pure,Oper.upon,Functor.map];refine⟨_,hK,JI (s:=⟨t,h⟩) hi hd hl (H.set hi rfl ⟨rfl,rfl,rfl,Nat.le_refl _,fun _ _ _=>rfl⟩ X hB fun g hg=>.inl (hbk g hg)) X ?_⟩;unfold AV.rel;refine⟨by simp[(List.getElem?_eq_some_iff.1 hi).1],fun c' hc'=>?_⟩;rw[List.getElem?_set_self (List.getElem?_eq_some_iff.1 hi).1]at hc';simp only[ABlk.ver,Option.some.injEq]at hc';exact⟨by omega,fun _=>by rw[AZ]⟩
theorem DY{ty:TypeId}{x y:Operand}{k k':IntKind}{n m:Nat}{e:TypeId}{bytes:Nat}{α:Type}{T:Ty α}{K:St→Prop}[RT P ty e m bytes][TyOf P e α T](ho:o.op= .makeSlice ty x y)(hs:T.size=m)(h0:0 < T.size)
 (hx:evA t x= .lit (.int k 0)) (hy:evA t y= .lit (.int k' (n:Int))) (hb:bytes * n≤281474976710656) (hn:n≤maxLen) (hK:K ⟨BH t o.dst (.own h.length 0),h++[.row 0 e T []]⟩):AOp P C o ⟨t,h⟩ K:=by
 rintro Q' a w ⟨hd,S,ψ,H,hl⟩;refine⟨fun c e=>(by rw[ho]at e;cases e),?_⟩;have hx':=BJ hl x;have hy':=BJ hl y;rw[hx]at hx';rw[hy]at hy';unfold AV.rel at hx' hy';obtain⟨h1,ti,z,h2,h3,h4,h5,h6⟩:=DZ (RT.eq (P:=P) (ty:=ty) (e:=e) (n:=m) (bytes:=bytes));have hb':(ti.bytes:Int) *(n:Int)≤281474976710656:=by
  rw[h5];have h:((bytes * n:Nat):Int)≤281474976710656:=by omega
  rwa [Int.natCast_mul]at h
 have hrun:=run_make (P:=P) w ty e ti z h1 h2 h3 k k' 0 n (by omega) (by omega) hb' (by unfold maxLen at hn;omega);simp only[Int.toNat_natCast,Int.toNat_zero,h4]at hrun;unfold Oper.wp;refine AOp.newRow (s:=⟨t,h⟩) (T:=T) (l:=[]) (e:=e) (cells:=[]) (n:=0) (cap:=n) (w':=w.alloc (.cells (madeCells z.cells (n * m)) e)) hd H hl ?_ ((Below.refl _ _).alloc (Nat.le_refl _) _) ?_ h0 ?_ hK
 ·simp[execOp,ho,hx',hy',hrun]
 ·refine⟨by simp,.inr ⟨_,n,_,rfl,Nat.zero_le _,heap_alloc_new w _,Nat.zero_le _,hn,by rw[hs];simp[madeCells],by simp⟩⟩
 ·intro j d hj;simp at hj
theorem Xa{t:List AV}{h:List ABlk}{R:Res}(hR:∀w S,R.R w S)(hF:∀g,¬R.F g)(hm:R.mrk= []):St.le C ⟨t,h⟩ ⟨t,h++[.res R]⟩:=fun a w ⟨hd,S,ψ,H,hl⟩=>by
 have X:Ext w S h ψ w S (h++[.res R]) (Bo ψ h.length undef):=Ext.push _ _ fun _ _=>rfl
 have hH:=H.push (b:=.res R) (v:=undef) (Below.refl _ _) (show Gm _ _ _ _ _ _ (.res R)from⟨fun g hg=>(hF g hg).elim,hR w S⟩) fun g hg=>(hF g hg).elim
 refine⟨?_,S,_,hH,Ay X _ _ hl⟩;show a.defers=mkD (h++[.res R]);rw[FW];show a.defers=R.mrk.map HW++mkD h;rw[hm];exact hd
end
end Mu
end
section
namespace Mu
open Go Go.RowKit
section
variable{P:Program}{C:Ctx}{t t' t'':List AV}{h h' h'':List ABlk}{o:Oper}{r:AV}{ops:Array Oper}{rest:List Oper}{K:St→Prop}
theorem qt (hq:AX P C t h o r:=by(first
 |exact AX.move rfl (by(conv=>lhs;whnf);try rfl)
 |exact AX.assign rfl (by(conv=>lhs;whnf);try rfl)
 |exact BU rfl rfl rfl
 |exact DX rfl rfl
 |exact C1 rfl rfl rfl
 |exact Sq rfl rfl
 |exact Bk rfl rfl rfl rfl
 |exact DE rfl rfl rfl
 |exact Cp rfl rfl rfl (by assumption) rfl
 |exact Bc rfl rfl rfl rfl
 |exact CK rfl rfl rfl
 |exact Hd rfl rfl rfl rfl (by assumption)
 |exact GT rfl rfl rfl rfl (by first|decide|omega) (by assumption)
 |exact Ik rfl rfl rfl rfl rfl (by first|assumption|omega)
 |exact Ex rfl rfl rfl rfl rfl (by first|decide|omega) (by first|assumption|omega)
 |exact ON rfl rfl rfl (by first|assumption|omega)
 |exact Hc rfl rfl
 |exact GP rfl rfl rfl
 |exact Ij rfl rfl
 |exact FM rfl rfl rfl (by omega)
 |exact FK rfl rfl rfl (by omega)
 |exact GU rfl rfl rfl rfl (by assumption)
 |exact CF rfl rfl rfl rfl
 |exact CT rfl rfl
 |exact AX.pick rfl rfl (by(conv=>lhs;whnf);try rfl)
 |exact AX.extract rfl rfl rfl
 |exact Ek rfl rfl rfl (by rfl) (by decide) (by first|exact Fit.bool|exact Fit.bs|exact Fit.int (by assumption))
 |exact AX.max2 rfl rfl rfl
 |exact AX.min2 rfl rfl rfl
 |exact Ck (i:=1) rfl rfl rfl (by first|rfl|assumption) rfl
 |exact Ck (i:=2) rfl rfl rfl (by first|rfl|assumption) rfl
 |exact Ck (i:=3) rfl rfl rfl (by first|rfl|assumption) rfl
 |exact Ck (i:=4) rfl rfl rfl (by first|rfl|assumption) rfl
 |exact Ck (i:=5) rfl rfl rfl (by first|rfl|assumption) rfl
 |exact Ck (i:=6) rfl rfl rfl (by first|rfl|assumption) rfl
 |exact Ck (i:=7) rfl rfl rfl (by first|rfl|assumption) rfl
 |exact Ck (i:=8) rfl rfl rfl (by first|rfl|assumption) rfl
 |exact Cd (i:=1) rfl rfl rfl rfl rfl
 |exact Cd (i:=2) rfl rfl rfl rfl rfl
 |exact Cd (i:=3) rfl rfl rfl rfl rfl
 |exact Cd (i:=4) rfl rfl rfl rfl rfl
 |exact Cd (i:=5) rfl rfl rfl rfl rfl
 |exact Cd (i:=6) rfl rfl rfl rfl rfl
 |exact Cd (i:=7) rfl rfl rfl rfl rfl
 |exact Cd (i:=8) rfl rfl rfl rfl rfl)):AX P C t h o r:=hq
theorem sQ(hk:Dj P C ops K rest ⟨t',h⟩)(hg:gA ops t o=some true:=by rfl)(hq:AX P C t h o r:=by exact qt)(ht:BH t o.dst r=t':=by((try simp only[BH,List.set_cons_zero,List.set_cons_succ]);exact rfl)):Dj P C ops K (o::rest) ⟨t,h⟩:=by
 subst ht;exact Aac hg hq hk
theorem AW(hk:Dj P C ops K rest ⟨t',h⟩)(hg:gA ops t o=some false:=by rfl)(ht:BH t o.dst (.lit undef)=t':=by((try simp only[BH,List.set_cons_zero,List.set_cons_succ]);exact rfl)):Dj P C ops K (o::rest) ⟨t,h⟩:=by
 subst ht;exact Nw hg hk
theorem BQ (hg:gA ops t o=some true:=by rfl) (hq:∀K':St→Prop,K' ⟨t'',h''⟩→AOp P C o ⟨t,h⟩ K':=by(intro K' hK;(first
 |exact AOp.box rfl Vp.agg hK
 |exact Vt rfl hK
 |exact DO rfl rfl rfl (Ez rfl) rfl (Nat.le_of_ble_eq_true rfl) hK
 |exact DO (new:=[_]) rfl rfl rfl (Sx.one (One.lit rfl)) rfl (Nat.le_of_ble_eq_true rfl) hK
 |exact Qb rfl rfl rfl rfl rfl (by first|assumption|(simp[maxLen];done)|(simp[maxLen];omega)) (by first|assumption|(simp;done)|(simp;omega)) hK
 |exact Ku rfl rfl rfl (by assumption) (by first|exact Fit.bool|exact Fit.bs|exact Fit.int (by assumption)) rfl hK))) (ht:t''=t':=by((try simp only[BH,List.set_cons_zero,List.set_cons_succ]);exact rfl)) (hh:h''=h':=by((try simp only[List.nil_append,List.cons_append,List.set_cons_zero,List.set_cons_succ,List.length_nil,List.length_cons,Nat.reduceAdd]);exact rfl)) (hk:Dj P C ops K rest ⟨t',h'⟩):Dj P C ops K (o::rest) ⟨t,h⟩:=by
 subst ht hh;exact Aje hg (hq _ hk)
theorem sNt(hk:Dj P C ops K rest ⟨t',h'⟩)(ht:t=t':=by((try simp only[BH,List.set_cons_zero,List.set_cons_succ]);exact rfl))(hh:h=h':=by((try simp only[List.nil_append,List.cons_append,List.set_cons_zero,List.set_cons_succ,List.length_nil,List.length_cons,Nat.reduceAdd]);exact rfl)):Dj P C ops K rest ⟨t,h⟩:=by
 subst ht hh;exact hk
theorem qQ{K:List AV→Prop}(hk:aQ P C ops h K rest t')(hg:gA ops t o=some true:=by rfl)(hq:AX P C t h o r:=by exact qt)(ht:BH t o.dst r=t':=by((try simp only[BH,List.set_cons_zero,List.set_cons_succ]);exact rfl)):aQ P C ops h K (o::rest) t:=by
 subst ht;exact Aks hg hq hk
theorem HF{K:List AV→Prop}(hk:aQ P C ops h K rest t')(hg:gA ops t o=some false:=by rfl)(ht:BH t o.dst (.lit undef)=t':=by((try simp only[BH,List.set_cons_zero,List.set_cons_succ]);exact rfl)):aQ P C ops h K (o::rest) t:=by
 subst ht;exact Agc hg hk
theorem oQ{K:St→Prop}(hk:K ⟨t',h⟩)(hq:AX P C t h o r:=by exact qt)(ht:BH t o.dst r=t':=by((try simp only[BH,List.set_cons_zero,List.set_cons_succ]);exact rfl)):AOp P C o ⟨t,h⟩ K:=by
 subst ht;exact BD hq hk
theorem Aj6 {K:St→Prop} (hq:∀K':St→Prop,K' ⟨t'',h''⟩→AOp P C o ⟨t,h⟩ K':=by(intro K' hK;(first
 |exact AOp.box rfl Vp.agg hK
 |exact Vt rfl hK
 |exact DO rfl rfl rfl (Ez rfl) rfl (Nat.le_of_ble_eq_true rfl) hK
 |exact DO (new:=[_]) rfl rfl rfl (Sx.one (One.lit rfl)) rfl (Nat.le_of_ble_eq_true rfl) hK
 |exact Qb rfl rfl rfl rfl rfl (by first|assumption|(simp[maxLen];done)|(simp[maxLen];omega)) (by first|assumption|(simp;done)|(simp;omega)) hK
 |exact Ku rfl rfl rfl (by assumption) (by first|exact Fit.bool|exact Fit.bs|exact Fit.int (by assumption)) rfl hK))) (ht:t''=t':=by((try simp only[BH,List.set_cons_zero,List.set_cons_succ]);exact rfl)) (hh:h''=h':=by((try simp only[List.nil_append,List.cons_append,List.set_cons_zero,List.set_cons_succ,List.length_nil,List.length_cons,Nat.reduceAdd]);exact rfl)) (hk:K ⟨t',h'⟩):AOp P C o ⟨t,h⟩ K:=by
 subst ht hh;exact hq _ hk
theorem nT{c:Code}{Q:Exit→St→Prop}(hk:Awp P C c Q ⟨t',h'⟩)(ht:t=t':=by((try simp only[BH,List.set_cons_zero,List.set_cons_succ]);exact rfl))(hh:h=h':=by((try simp only[List.nil_append,List.cons_append,List.set_cons_zero,List.set_cons_succ,List.length_nil,List.length_cons,Nat.reduceAdd]);exact rfl)):Awp P C c Q ⟨t,h⟩:=by
 subst ht hh;exact hk
theorem B7(hb:bdH h=true:=by rfl)(hf:Fgt h.length t t':=by((try simp only[BH,List.set_cons_zero,List.set_cons_succ]);repeat(first|exact Fgt.nil|refine Fgt.keep rfl ?_|refine Fgt.any ?_))):St.le C ⟨t,h⟩ ⟨t',h⟩:=P5 hb hf
theorem PH(hc:Cut h h')(hb:bdH h'=true:=by rfl)(hf:Fgt h'.length t t':=by((try simp only[BH,List.set_cons_zero,List.set_cons_succ]);repeat(first|exact Fgt.nil|refine Fgt.keep rfl ?_|refine Fgt.any ?_)))(hm:mkD h'=mkD h:=by rfl):St.le C ⟨t,h⟩ ⟨t',h'⟩:=Aag hc hb hf hm
theorem LQ{id:Nat}{l l1 l2:List Oper}{Q:Exit→St→Prop}(n:Nat)(hm:P.follows .mixedOrders=true:=by kernel_rfl)(hB:Xw l.toArray n=true:=by kernel_rfl)(h1:l.take n=l1:=by(simp only[List.take_succ_cons,List.take_zero,List.drop_succ_cons,List.drop_zero,List.take_nil,List.drop_nil];exact rfl))(h2:l.drop n=l2:=by(simp only[List.take_succ_cons,List.take_zero,List.drop_succ_cons,List.drop_zero,List.take_nil,List.drop_nil];exact rfl))
 (hh:aQ P C l.toArray h (fun t=>Dj P C l.toArray (Q .normal) l2 ⟨t,h⟩) l1 t):Awp P C (.region id l.toArray true) Q ⟨t,h⟩:=by
 subst h1 h2;exact Mg n hm hB hh
theorem BV{g:Nat}{listed:Array Bool}{s:St}(rs:List Nat)(hh:Aef P C ops K g listed s rs)(hr:Region.ready .any ops listed=rs:=by kernel_rfl)(hne:rs≠[]:=by simp):ST P C .any ops K (g+1) listed s:=JE rs hr hne hh
theorem I4{listed:Array Bool}{s:St}(hh:K s)(hr:Region.ready .any ops listed= []:=by kernel_rfl):ST P C .any ops K 0 listed s:=Qn hr hh
theorem tC{i g:Nat}{listed:Array Bool}{s:St}{rs:List Nat}(h1:AOp P C o s (ST P C .any ops K g (listed.setIfInBounds i true)))(h2:Aef P C ops K g listed s rs)(ho:ops[i]? =some o:=by(simp only[List.getElem?_toArray,List.getElem?_cons_succ,List.getElem?_cons_zero];exact rfl))(hg:gA ops s.t o=some true:=by rfl):Aef P C ops K g listed s (i::rs):=JF ho hg h1 h2
theorem tNt{g:Nat}{listed:Array Bool}(hk:ST P C .any ops K g listed ⟨t',h'⟩)(ht:t=t':=by((try simp only[BH,List.set_cons_zero,List.set_cons_succ]);exact rfl))(hh:h=h':=by((try simp only[List.nil_append,List.cons_append,List.set_cons_zero,List.set_cons_succ,List.length_nil,List.length_cons,Nat.reduceAdd]);exact rfl)):ST P C .any ops K g listed ⟨t,h⟩:=by
 subst ht hh;exact hk
end
section
variable{P:Program}{C:Ctx}
theorem AOp.weak{o:Oper}{s:St}{K K':St→Prop}(hk:∀s,K s→K' s)(h:AOp P C o s K):AOp P C o s K':=fun Q' a w H=>
 let ⟨h1,h2⟩:=h Q' a w H
 ⟨h1,Oper.wp_mono (fun _ _ ⟨s',k1,k2⟩=>⟨s',hk _ k1,k2⟩) h2⟩
theorem Dx{ops:Array Oper}{K K':St→Prop}(hk:∀s,K s→K' s):∀{l:List Oper} {s:St},Dj P C ops K l s→Dj P C ops K' l s
 | [],s,h=>hk s h
 |o::rest,s,h=>by
  obtain⟨b,hg,ht,hf⟩:=h;exact⟨b,hg,fun e=>(ht e).weak fun s h=>Dx hk h,fun e=>Dx hk (hf e)⟩
theorem Gq{ops:Array Oper}{s s':St}(e:s=s'):Dj P C ops (fun x=>x=s') [] s:=e
end
section
variable{P:Program}{C:Ctx}{id:Nat}{l:List Oper}{y:Code}{Q:Exit→St→Prop}{t t':List AV}{h h':List ABlk}
theorem rR(hk:Q .normal ⟨t',h'⟩)(hx:Dj P C l.toArray (fun s=>s=⟨t',h'⟩) l ⟨t,h⟩:=by((repeat(first|refine sQ ?_|refine AW ?_|refine BQ (hk:=?_)));exact Gq rfl)):Awp P C (.region id l.toArray false) Q ⟨t,h⟩:=Awp.region (Dx (fun s e=>by subst e;exact hk) hx)
theorem rRS(hk:Awp P C y Q ⟨t',h'⟩)(hx:Dj P C l.toArray (fun s=>s=⟨t',h'⟩) l ⟨t,h⟩:=by((repeat(first|refine sQ ?_|refine AW ?_|refine BQ (hk:=?_)));exact Gq rfl)):Awp P C (.seq (.region id l.toArray false) y) Q ⟨t,h⟩:=Ad fun _ hK=>Awp.region (Dx (fun s e=>by subst e;exact hK _ hk) hx)
end
end Mu
end
section
namespace Mu
open Go Go.RowKit Go.Proofs
def CN(r:Int):List Ins→Bool×Bool
 | []=>(false,false)
 |x::ds=>if(readsC x).contains r then(true,false)else if AY x&&x.d ==r then(false,true)else CN r ds
theorem Tc(r:Int)(x:Ins)(ds:List Ins):CN r (x::ds)=if(readsC x).contains r then(true,false)else if AY x&&x.d ==r then(false,true)else CN r ds:=rfl
theorem Yu(r:Int)(ds:List Ins):(CN r ds).1=rdB r ds∧((CN r ds).1=false→(!(CN r ds).2)=Aaz r ds):=by
 induction ds with
 |nil=>simp[CN,rdB,Aaz]
 |cons x ds ih=>
  unfold CN rdB Aaz;cases h1:(readsC x).contains r
  ·cases h2:(AY x&&x.d ==r)
   ·simpa using ih
   ·simp
  ·simp
theorem QT(r:Int)(ds:List Ins)(S:Int→Bool):((CN r ds).1||(!(CN r ds).2&&S r))=inS ds S r:=by
 rw[Rw];obtain⟨h1,h2⟩:=Yu r ds;rw[←h1];cases h:(CN r ds).1
 ·rw[←h2 h]
 ·simp
structure smallB(b:Block):Prop where
 ins:b.ins.length≤2097152
 all:∀x∈b.ins,x.args.length+8≤2097152
structure smallF(f:Func):Prop where
 blocks:f.blocks.length≤2097152
 all:∀b∈f.blocks,smallB b
theorem Jd(x:Ins):(readsC x).length≤x.args.length+2:=by
 unfold readsC;simp only[List.length_append];split <;> split <;> split <;> simp <;> omega
theorem KG(b:Block)(i:Nat)(r:Int)(ho:okBlock b)(hs:smallB b)(hi:i≤b.ins.length):Fn Tryz.prog 132 [.agg (Eg b),.lit (.int .i64 (i:Int)),.lit (.int .i64 r)]
 (.tup [.lit (.bool (CN r (b.ins.drop i)).1),.lit (.bool (CN r (b.ins.drop i)).2)]):=by
 have hsl:=hs.ins;refine IE Tryz.func132 rfl (by kernel_rfl) rfl Tryz.ntmps132 fun C hC=>?_
 refine nS ?_;refine rRS ?_;refine Ad fun K2 h2=>?_
 refine rRS ?_;refine Ak ?_;refine AS (fun k:Nat=>⟨(A2 (.lit (.int .i64 r)::.ptr 0 0::A4 (.lit (.int .i64 (k:Int))::A20 (A10 (A3 []))))),[.box (Eg b)]⟩) (fun k=>k≤b.ins.length∧CN r (b.ins.drop k)=CN r (b.ins.drop i)) (fun k=>b.ins.length - k) i ⟨hi,rfl⟩ (B7) ?_;rintro k ⟨hk,he⟩;refine Ad fun K5 h5=>?_
 refine rRS ?_;refine Aj rfl (fun hb7=>?_) (fun hb7=>?_)
 ·refine Am ?_;refine h5 _ ?_;refine nT ?_;have hlt:k < b.ins.length:=by simpa using hb7
  obtain⟨x,hx⟩:∃x,b.ins[k]? =some x:=⟨_,List.getElem?_eq_getElem hlt⟩
  have hxo:=ho.ins x (List.mem_of_getElem? hx);have hxa:=hs.all x (List.mem_of_getElem? hx);have hdr:b.ins.drop k=x::b.ins.drop (k+1):=by
   rw[List.drop_eq_getElem_cons hlt];congr 1;rw[List.getElem?_eq_getElem hlt]at hx;injection hx
  rw[hdr,Tc]at he;refine Ad fun K8 h8=>?_
  refine Ak ?_;refine Ad fun K9 h9=>?_
  refine Ad fun K10 h10=>?_
  (refine Awp.region ?_;(repeat(first|refine sQ (hq:=AX.call rfl (EH x hxo (by omega)) rfl rfl rfl) ?_|refine sQ (hq:=AX.call rfl (TI (readsC x) r (by have:=Jd x;omega)) rfl rfl rfl) ?_|refine sQ ?_|refine AW ?_|refine BQ (hk:=?_)));refine Az ?_)
  refine h10 _ ?_;refine nT ?_;refine Aj rfl (fun hb11=>?_) (fun hb11=>?_)
  ·refine rRS ?_;refine Ar ?_;rw[hb11,if_pos rfl]at he;exact⟨.inr rfl,_,_,Fin.cl rfl,by rw[←he];rfl,by rw[←he];rfl⟩
  ·refine Am ?_;refine h9 _ ?_;refine nT ?_;rw[hb11,if_neg (by simp)]at he;refine Ad fun K13 h13=>?_
   (refine Awp.region ?_;(repeat(first|refine sQ (hq:=AX.call rfl (E2 x hxo) rfl rfl rfl) ?_|refine sQ ?_|refine AW ?_|refine BQ (hk:=?_)));refine Az ?_)
   refine h13 _ ?_;refine nT ?_;refine Ad fun K14 h14=>?_
   rcases hw:AY x with _|_
   ·rw[hw]at he;refine rR ?_;refine h14 _ ?_;refine nT ?_;refine Aj rfl (fun hb15=>by cases hb15) (fun hb15=>?_);refine Am ?_;refine h8 _ ?_;refine nT ?_;refine rR ?_;refine An ⟨k+1,⟨by omega,by simpa using he⟩,by omega,B7⟩
   ·rw[hw]at he;refine rR ?_;refine h14 _ ?_;refine nT ?_;refine Aj rfl (fun hb15=>?_) (fun hb15=>?_)
    ·refine rRS ?_;refine Ar ?_;rw[Bool.true_and,if_pos (by simpa using hb15)]at he;exact⟨.inr rfl,_,_,Fin.cl rfl,by rw[←he];rfl,by rw[←he];rfl⟩
    ·refine Am ?_;refine h8 _ ?_;refine nT ?_;refine rR ?_;refine An ⟨k+1,⟨by omega,by rw[Bool.true_and,if_neg (by simpa using hb15)]at he;exact he⟩,by omega,B7⟩
 ·refine AB ?_;refine h2 _ ?_;refine nT ?_;have:k=b.ins.length:=by
   have:¬k < b.ins.length:=by simpa using hb7
   omega
  subst this;rw[List.drop_length]at he;refine rRS ?_;refine Ar ?_;exact⟨.inr rfl,_,_,Fin.cl rfl,by rw[←he];rfl,by rw[←he];rfl⟩
theorem YR{f:Func}{b:Int}(h:¬(0≤b∧b < f.blocks.length)):G3 f b= []:=by
 unfold G3 El;split
 ·rw[List.getElem?_eq_none (by omega)];rfl
 ·rfl
theorem Abz{f:Func}{k:Nat}{bl:Block}(h:f.blocks[k]? =some bl):G3 f (k:Int)=(MZ f bl).map PV:=by
 unfold G3 El;rw[if_pos (by omega)];simp[h]
theorem YS{f:Func}{bl:Block}(h:bl.ins= []):(MZ f bl).map PV= []:=by
 unfold MZ;rw[h];rfl
def inB(f:Func)(k:Int):Bool:=decide (k≥0)&&decide (k < (f.blocks.length:Int))
def N4(f:Func)(x:Ins):Bool:=((x.op ==8)||(x.op ==9))&&inB f x.l1
def Aa7(f:Func)(x:Ins):Bool:=(x.op ==9)&&(x.l2 !=x.l1)&&inB f x.l2
theorem Zs(f:Func)(l:List Int):(CB f l).map PV=l.filter (inB f):=by
 unfold CB;induction l with
 |nil=>rfl
 |cons k l ih=>
  by_cases h:0≤k∧k < f.blocks.length
  ·obtain⟨m,rfl⟩:=Int.eq_ofNat_of_zero_le h.1;have hm:m < f.blocks.length:=by omega
   rw[List.filterMap_cons,Qk hm,List.map_cons,ih,List.filter_cons_of_pos (by simp[inB];omega)];rfl
  ·rw[List.filterMap_cons,Uw h,ih,List.filter_cons_of_neg (by simp[inB];omega)]
theorem Wi{f:Func}{bl:Block}{x:Ins}(h:bl.ins.getLast? =some x):(MZ f bl).map PV=(if N4 f x then [x.l1]else [])++if Aa7 f x then [x.l2]else []:=by
 unfold MZ;rw[h];simp only;rw[Zs];unfold EU N4 Aa7;have hneg:inB f (-1)=false:=by simp[inB]
 by_cases h9:x.op=9
 ·rw[if_pos h9];by_cases he:x.l2=x.l1
  ·rw[if_pos he];cases h1:inB f x.l1 <;> simp[h9,he,h1,hneg]
  ·rw[if_neg he];cases h1:inB f x.l1 <;> cases h2:inB f x.l2 <;> simp[h9,he,h1,h2]
 ·rw[if_neg h9];by_cases h8:x.op=8
  ·rw[if_pos h8];cases h1:inB f x.l1 <;> simp[h8,h1,hneg]
  ·rw[if_neg h8];simp[h8,h9]
theorem Wj(f:Func)(b:Int)(hout:¬(0≤b∧b < f.blocks.length)):Fn Tryz.prog 168 [.agg (Aq f),.lit (.int .i64 b)] (.bs tInt []):=by
 refine SB (AE Tryz.func168 rfl (by kernel_rfl) rfl Tryz.ntmps168 fun C hC=>?_);refine nS ?_;refine rRS ?_;refine Ad fun K2 h2=>?_
 refine Ad fun K3 h3=>?_
 rcases hb:decide (b < 0)with _|_
 ·have hb2:decide (b≥(f.blocks.length:Int))=true:=by simp at hb⊢;omega
  refine rR ?_;refine h3 _ ?_;refine nT ?_;refine Aj rfl (fun hb4=>?_) (fun hb4=>by cases hb4);refine rRS ?_;refine Ar ?_;exact⟨.inr rfl,Fin.cl rfl⟩
 ·refine rR ?_;refine h3 _ ?_;refine nT ?_;refine Aj rfl (fun hb4=>?_) (fun hb4=>by cases hb4);refine rRS ?_;refine Ar ?_;exact⟨.inr rfl,Fin.cl rfl⟩
theorem Wk(f:Func)(k:Nat)(bl:Block)(hk:f.blocks[k]? =some bl)(hl:f.blocks.length≤2097152)(hn:bl.ins= []):Fn Tryz.prog 168 [.agg (Aq f),.lit (.int .i64 (k:Int))] (.bs tInt []):=by
 have hkl:k < f.blocks.length:=(List.getElem?_eq_some_iff.1 hk).1;have hb:decide ((k:Int) < 0)=false:=by simp
 have hb2:decide ((k:Int)≥(f.blocks.length:Int))=false:=by simp;omega
 have hb3:((bl.ins.length:Int) ==0)=true:=by simp[hn]
 refine SB (AE Tryz.func168 rfl (by kernel_rfl) rfl Tryz.ntmps168 fun C hC=>?_);refine nS ?_;refine rRS ?_;refine Ad fun K2 h2=>?_
 refine rRS ?_;refine Aj rfl (fun hb4=>?_) (fun hb4=>by cases hb4);refine rRS ?_;refine Ar ?_;exact⟨.inr rfl,Fin.cl rfl⟩
theorem YV(f:Func)(k:Nat)(bl:Block)(x:Ins)(hk:f.blocks[k]? =some bl)(hl:f.blocks.length≤2097152)(hi:bl.ins.length≤2097152)(hx:bl.ins.getLast? =some x)(hox:okIns x):
 Fn Tryz.prog 168 [.agg (Aq f),.lit (.int .i64 (k:Int))] (.bs tInt ((if N4 f x then [x.l1]else [])++if Aa7 f x then [x.l2]else [])):=by
 have hkl:k < f.blocks.length:=(List.getElem?_eq_some_iff.1 hk).1;have hpos:0 < bl.ins.length:=by
  cases hz:bl.ins with
  |nil=>rw[hz]at hx;cases hx
  |cons y l=>simp
 have hxa:bl.ins[((bl.ins.length:Int) - 1).toNat]? =some x:=by
  rw[List.getLast?_eq_getElem?]at hx;rw[←hx];congr 1;omega
 have hb:decide ((k:Int) < 0)=false:=by simp
 have hb2:decide ((k:Int)≥(f.blocks.length:Int))=false:=by simp;omega
 have hb3:((bl.ins.length:Int) ==0)=false:=beq_eq_false_iff_ne.2 (by omega);have ho1:=hox.l1;have ho2:=hox.l2;have hm1:(1:Nat)≤maxLen:=by decide
 refine AE Tryz.func168 rfl (by kernel_rfl) rfl Tryz.ntmps168 fun C hC=>?_
 refine nS ?_;refine rRS ?_;refine Ad fun K2 h2=>?_
 refine rRS ?_;refine Aj rfl (fun hb4=>by cases hb4) (fun hb4=>?_);refine Am ?_;refine h2 _ ?_;refine nT ?_;refine Ad fun K6 h6=>?_
 (refine Aar 62 17 16 (by kernel_rfl) (by kernel_rfl) (by decide) rfl rfl ?_;simp only[List.take_succ_cons,List.take_zero,List.drop_succ_cons,List.drop_zero,List.take_nil,List.drop_nil];(repeat((first|(refine Ak0 rfl rfl rfl ?_;(first|refine EA (AX.move rfl (by(conv=>lhs;whnf);try rfl)) ⟨rfl,?_⟩|refine EA (AX.assign rfl (by(conv=>lhs;whnf);try rfl)) ⟨rfl,?_⟩|refine EA (BU rfl rfl rfl) ⟨rfl,?_⟩|refine EA (DX rfl rfl) ⟨rfl,?_⟩|refine EA (C1 rfl rfl rfl) ⟨rfl,?_⟩|refine EA (Bk rfl rfl rfl rfl) ⟨rfl,?_⟩|refine EA (DE rfl rfl rfl) ⟨rfl,?_⟩|refine EA (Cp rfl rfl rfl (by assumption) rfl) ⟨rfl,?_⟩|refine EA (Bc rfl rfl rfl rfl) ⟨rfl,?_⟩|refine EA (CK rfl rfl rfl) ⟨rfl,?_⟩|refine EA (Hd rfl rfl rfl rfl (by assumption)) ⟨rfl,?_⟩|refine EA (GT rfl rfl rfl rfl (by first|decide|omega) (by assumption)) ⟨rfl,?_⟩|refine EA (Ik rfl rfl rfl rfl rfl (by first|assumption|omega)) ⟨rfl,?_⟩|refine EA (Ex rfl rfl rfl rfl rfl (by first|decide|omega) (by first|assumption|omega)) ⟨rfl,?_⟩|refine EA (Hc rfl rfl) ⟨rfl,?_⟩|refine EA (GP rfl rfl rfl) ⟨rfl,?_⟩|refine EA (Ij rfl rfl) ⟨rfl,?_⟩|refine EA (FM rfl rfl rfl (by omega)) ⟨rfl,?_⟩|refine EA (FK rfl rfl rfl (by omega)) ⟨rfl,?_⟩|refine EA (GU rfl rfl rfl rfl (by assumption)) ⟨rfl,?_⟩|refine EA (CF rfl rfl rfl rfl) ⟨rfl,?_⟩|refine EA (CT rfl rfl) ⟨rfl,?_⟩|refine EA (AX.pick rfl rfl (by(conv=>lhs;whnf);try rfl)) ⟨rfl,?_⟩|refine EA (AX.extract rfl rfl rfl) ⟨rfl,?_⟩|refine EA (Ek rfl rfl rfl (by rfl) (by decide) (by first|exact Fit.bool|exact Fit.bs|exact Fit.int (by assumption))) ⟨rfl,?_⟩|refine EA (AX.max2 rfl rfl rfl) ⟨rfl,?_⟩|refine EA (AX.min2 rfl rfl rfl) ⟨rfl,?_⟩))|refine bQ_skip rfl rfl rfl ?_|refine Akc rfl rfl rfl rfl ?_);refine Akb (by(try simp only[BH,List.set_cons_zero,List.set_cons_succ]);exact rfl) ?_));refine Aja ?_;(repeat((first|(refine Bu rfl ?_;(first|refine BD (AX.move rfl (by(conv=>lhs;whnf);try rfl)) ?_|refine BD (AX.assign rfl (by(conv=>lhs;whnf);try rfl)) ?_|refine BD (BU rfl rfl rfl) ?_|refine BD (DX rfl rfl) ?_|refine BD (C1 rfl rfl rfl) ?_|refine BD (Bk rfl rfl rfl rfl) ?_|refine BD (DE rfl rfl rfl) ?_|refine BD (Cp rfl rfl rfl (by assumption) rfl) ?_|refine BD (Bc rfl rfl rfl rfl) ?_|refine BD (CK rfl rfl rfl) ?_|refine BD (Hd rfl rfl rfl rfl (by assumption)) ?_|refine BD (GT rfl rfl rfl rfl (by first|decide|omega) (by assumption)) ?_|refine BD (Ik rfl rfl rfl rfl rfl (by first|assumption|omega)) ?_|refine BD (Ex rfl rfl rfl rfl rfl (by first|decide|omega) (by first|assumption|omega)) ?_|refine BD (Hc rfl rfl) ?_|refine BD (GP rfl rfl rfl) ?_|refine BD (Ij rfl rfl) ?_|refine BD (FM rfl rfl rfl (by omega)) ?_|refine BD (FK rfl rfl rfl (by omega)) ?_|refine BD (GU rfl rfl rfl rfl (by assumption)) ?_|refine BD (CF rfl rfl rfl rfl) ?_|refine BD (CT rfl rfl) ?_|refine BD (AX.pick rfl rfl (by(conv=>lhs;whnf);try rfl)) ?_|refine BD (AX.extract rfl rfl rfl) ?_|refine BD (Ek rfl rfl rfl (by rfl) (by decide) (by first|exact Fit.bool|exact Fit.bs|exact Fit.int (by assumption))) ?_|refine BD (AX.max2 rfl rfl rfl) ?_|refine BD (AX.min2 rfl rfl rfl) ?_|refine AOp.box rfl Vp.agg ?_|refine Vt rfl ?_|refine DO rfl rfl rfl (Ez rfl) rfl (Nat.le_of_ble_eq_true rfl) ?_|refine Qb rfl rfl rfl rfl rfl (by first|assumption|(simp[maxLen];done)|(simp[maxLen];omega)) (by first|assumption|(simp;done)|(simp;omega)) ?_|refine Ku rfl rfl rfl (by assumption) (by first|exact Fit.bool|exact Fit.bs|exact Fit.int (by assumption)) rfl ?_))|refine Nw rfl ?_);refine Aga (by(try simp only[BH,List.set_cons_zero,List.set_cons_succ]);exact rfl) (by(try simp only[List.nil_append,List.cons_append,List.set_cons_zero,List.set_cons_succ,List.length_nil,List.length_cons,Nat.reduceAdd]);exact rfl) ?_));refine Az ?_)
 refine h6 _ ?_;refine nT ?_;refine rRS ?_;refine A1 ⟨(A2 (.ptr 0 0::A2 (.ptr 1 0::.own 2 0::A80 (A10 [])))),[.box (Aq f),.box (BB x),.row 0 3 tInt []]⟩ ((Cx 6 3 tInt rfl Nat.zero_lt_one).trans (B7)) ?_;refine Vq ⟨(A2 (.ptr 0 0::A2 (.ptr 1 0::.own 2 (if N4 f x then 1 else 0)::A80 (A10 [])))),[.box (Aq f),.box (BB x),.row (if N4 f x then 1 else 0) 3 tInt (if N4 f x then [x.l1]else [])]⟩ ?_ ?_
 ·rcases hc1:N4 f x with _|_
  all_goals refine Ad fun K9 h9=>?_
  ·have hcond:((x.op ==8)=false∧(x.op ==9)=false)∨(((x.op ==8)=true∨((x.op ==8)=false∧(x.op ==9)=true))∧(decide (x.l1≥0)=false∨(decide (x.l1≥0)=true∧decide (x.l1 < (f.blocks.length:Int))=false))):=by
    unfold N4 inB at hc1;cases h8:(x.op ==8) <;> cases h9':(x.op ==9) <;> cases ha:decide (x.l1≥0) <;> cases hb':decide (x.l1 < (f.blocks.length:Int)) <;> simp[h8,h9',ha,hb']at hc1⊢
   have hfin:∀s':St,St.le C s' ⟨(A2 (.ptr 0 0::A2 (.ptr 1 0::.own 2 0::A40 (A10 (A5 (.lit (.bool false)::A20 (A10 (A4 [])))))))),[.box (Aq f),.box (BB x),.row 0 3 tInt []]⟩→K9 s':=fun s' hle=>by
    refine h9 _ (A1 _ hle ?_);refine Aj rfl (fun hb=>by cases hb) (fun hb=>?_);refine Am ?_;refine An ?_;exact B7
   rcases hcond with⟨q1,q2⟩|⟨q1|⟨q1,q2⟩,q3|⟨q3,q4⟩⟩
   all_goals
    refine rR ?_;exact An (hfin _ (B7))
  ·have hcond:((x.op ==8)=true∨((x.op ==8)=false∧(x.op ==9)=true))∧decide (x.l1≥0)=true∧decide (x.l1 < (f.blocks.length:Int))=true:=by
    unfold N4 inB at hc1;cases h8:(x.op ==8) <;> cases h9':(x.op ==9) <;> cases ha:decide (x.l1≥0) <;> cases hb':decide (x.l1 < (f.blocks.length:Int)) <;> simp[h8,h9',ha,hb']at hc1⊢
   have hfin:∀s':St,St.le C s' ⟨(A2 (.ptr 0 0::A2 (.ptr 1 0::.own 2 0::A40 (A10 (A5 (.lit (.bool true)::A20 (A10 (A4 [])))))))),[.box (Aq f),.box (BB x),.row 0 3 tInt []]⟩→K9 s':=fun s' hle=>by
    refine h9 _ (A1 _ hle ?_);refine Aj rfl (fun hb=>?_) (fun hb=>by cases hb);refine rR ?_;refine An ?_;exact B7
   obtain⟨q1|⟨q1,q2⟩,q3,q4⟩:=hcond;all_goals
    refine rR ?_;exact An (hfin _ (B7))
 ·refine Vq ⟨(A6 (.own 2 ((if N4 f x then 1 else 0)+if Aa7 f x then 1 else 0)::A80 (A10 []))),[.dead,.dead,.row ((if N4 f x then 1 else 0)+if Aa7 f x then 1 else 0) 3 tInt ((if N4 f x then [x.l1]else [])++if Aa7 f x then [x.l2]else [])]⟩ ?_ ?_
  ·rcases hc2:Aa7 f x with _|_
   all_goals refine Ad fun K9 h9=>?_
   ·have hcond:(x.op ==9)=false∨((x.op ==9)=true∧((x.l2 !=x.l1)=false∨((x.l2 !=x.l1)=true∧(decide (x.l2≥0)=false∨(decide (x.l2≥0)=true∧decide (x.l2 < (f.blocks.length:Int))=false))))):=by
     unfold Aa7 inB at hc2;cases h8:(x.l2 !=x.l1) <;> cases h9':(x.op ==9) <;> cases ha:decide (x.l2≥0) <;> cases hb':decide (x.l2 < (f.blocks.length:Int)) <;> simp only[h8,h9',ha,hb',Bool.and_true,Bool.and_false,Bool.true_eq_false,Bool.false_eq_true,true_and,or_true,true_or,and_true,false_and,or_false]at hc2⊢
    have hfin:∀s':St,St.le C s' ⟨(A2 (.ptr 0 0::A2 (.ptr 1 0::.own 2 (if N4 f x then 1 else 0)::A80 (A3 (.lit (.bool false)::A6 []))))),[.box (Aq f),.box (BB x),.row (if N4 f x then 1 else 0) 3 tInt (if N4 f x then [x.l1]else [])]⟩→K9 s':=fun s' hle=>by
     refine h9 _ (A1 _ hle ?_);refine Aj rfl (fun hb=>by cases hb) (fun hb=>?_);refine Am ?_;refine An ?_;simp only[Bool.false_eq_true,if_false,Nat.add_zero,List.append_nil];exact PH (Cut.dead (Cut.dead (Cut.refl _)))
    rcases hcond with q1|⟨q1,q2|⟨q2,q3|⟨q3,q4⟩⟩⟩
    all_goals
     refine rR ?_;exact An (hfin _ (B7))
   ·have hcond:(x.op ==9)=true∧(x.l2 !=x.l1)=true∧decide (x.l2≥0)=true∧decide (x.l2 < (f.blocks.length:Int))=true:=by
     unfold Aa7 inB at hc2;simpa[Bool.and_eq_true,and_assoc]using hc2
    have hfin:∀s':St,St.le C s' ⟨(A2 (.ptr 0 0::A2 (.ptr 1 0::.own 2 (if N4 f x then 1 else 0)::A80 (A3 (.lit (.bool true)::A6 []))))),[.box (Aq f),.box (BB x),.row (if N4 f x then 1 else 0) 3 tInt (if N4 f x then [x.l1]else [])]⟩→K9 s':=fun s' hle=>by
     refine h9 _ (A1 _ hle ?_);refine Aj rfl (fun hb=>?_) (fun hb=>by cases hb);have hln:(if N4 f x then [x.l1]else []:List Int).length+ [x.l2].length≤maxLen:=by split <;> simp[maxLen]
     have hlb:((if N4 f x then [x.l1]else []:List Int).length+ [x.l2].length) * 8≤140737488355328:=by split <;> simp
     refine rR ?_;refine An ?_;simp only[if_true];exact PH (Cut.dead (Cut.dead (Cut.refl _)))
    obtain⟨q1,q2,q3,q4⟩:=hcond;refine rR ?_;exact An (hfin _ (B7))
  ·refine rRS ?_;refine Ar ?_;exact⟨.inr rfl,Fin.own rfl⟩
def De(f:Func)(ins:List Bool)(b:Int):Bool:=(G3 f b).any fun k=>ins.getD k.toNat false
theorem Aby{f:Func}{b x:Int}(h:x∈G3 f b):0≤x∧x.toNat < f.blocks.length:=by
 unfold G3 at h;obtain⟨y,_,rfl⟩:=List.mem_map.1 h;have:=y.2;simp[PV];exact this
theorem YU(f:Func)(b:Int)(ho:okFunc f)(hs:smallF f):Fn Tryz.prog 168 [.agg (Aq f),.lit (.int .i64 b)] (.bs tInt (G3 f b)):=by
 by_cases hin:0≤b∧b < f.blocks.length
 ·obtain⟨k,rfl⟩:=Int.eq_ofNat_of_zero_le hin.1;have hk:k < f.blocks.length:=by omega
  have hkk:f.blocks[k]? =some f.blocks[k]:=List.getElem?_eq_getElem hk;rw[Abz hkk];cases hz:(f.blocks[k]).ins.getLast? with
  |none=>
   have hn:(f.blocks[k]).ins= []:=List.getLast?_eq_none_iff.1 hz;rw[YS hn];exact Wk f k _ hkk hs.blocks hn
  |some x=>
   rw[Wi hz];have hm:=List.getElem_mem hk;exact YV f k _ x hkk hs.blocks (hs.all _ hm).ins hz ((ho.blocks _ hm).ins x (List.mem_of_getLast? hz))
 ·rw[YR hin];exact Wj f b hin
theorem Ac7{l:List Int}{p:Int→Bool}{k:Nat}{x:Int}(hx:l[k]? =some x)(hn:(l.take k).any p=false)(hp:p x=false):(l.take (k+1)).any p=false:=by
 rw[List.take_add_one,hx,List.any_append,hn];simp[hp]
theorem Eu(f:Func)(ins:List Bool)(b:Int)(ho:okFunc f)(hs:smallF f)(hl:ins.length=f.blocks.length):Fn Tryz.prog 133 [.agg (Aq f),.bs Ty.bool ins,.lit (.int .i64 b)] (.lit (.bool (De f ins b))):=by
 have hnl:(G3 f b).length≤2:=by unfold G3;rw[List.length_map];exact Re f b
 refine AE Tryz.func133 rfl (by kernel_rfl) rfl Tryz.ntmps133 fun C hC=>?_
 refine nS ?_;refine rRS ?_;refine Ad fun K2 h2=>?_
 (refine Awp.region ?_;(repeat(first|refine sQ (hq:=AX.call rfl (YU f b ho hs) rfl rfl rfl) ?_|refine sQ ?_|refine AW ?_|refine BQ (hk:=?_)));refine Az ?_)
 refine h2 _ ?_;refine nT ?_;refine Ad fun K3 h3=>?_
 refine rRS ?_;refine Ak ?_;refine AS (fun k:Nat=>⟨(.any::.bs Ty.bool ins::A5 (.bs tInt (G3 f b)::.lit (.int .i64 (k:Int))::A10 (A6 []))),[]⟩) (fun k=>k≤(G3 f b).length∧((G3 f b).take k).any (fun k=>ins.getD k.toNat false)=false) (fun k=>(G3 f b).length - k) 0 ⟨Nat.zero_le _,by simp⟩ (PH (Cut.nil _)) ?_;rintro k ⟨hk,hno⟩;refine Ad fun K6 h6=>?_
 refine rRS ?_;refine Aj rfl (fun hb8=>?_) (fun hb8=>?_)
 ·have hlt:k < (G3 f b).length:=by simpa using hb8
  obtain⟨x,hx⟩:∃x,(G3 f b)[k]? =some x:=⟨_,List.getElem?_eq_getElem hlt⟩
  have hxi:=Aby (List.mem_of_getElem? hx);have hx0:=hxi.1;obtain⟨q,hq⟩:∃q,ins[x.toNat]? =some q:=⟨_,List.getElem?_eq_getElem (by omega)⟩
  have hqd:ins.getD x.toNat false=q:=by rw[List.getD_eq_getElem?_getD,hq];rfl
  refine Am ?_;refine h6 _ ?_;refine nT ?_;refine Ad fun K9 h9=>?_
  refine Ak ?_;refine rRS ?_;refine Aj rfl (fun hb11=>?_) (fun hb11=>?_)
  ·refine rRS ?_;refine Ar ?_;have hc:De f ins b=true:=List.any_eq_true.2 ⟨x,List.mem_of_getElem? hx,by rw[hqd];exact hb11⟩;rw[hc];exact⟨.inr rfl,Fin.cl rfl⟩
  ·refine Am ?_;refine h9 _ ?_;refine nT ?_;refine rR ?_;refine An ⟨k+1,⟨by omega,Ac7 hx hno (by rw[hqd];exact hb11)⟩,by omega,?_⟩;exact B7
 ·refine AB ?_;refine h3 _ ?_;refine nT ?_;have:k=(G3 f b).length:=by
   have:¬k < (G3 f b).length:=by simpa using hb8
   omega
  have hc:De f ins b=false:=by
   rw[this,List.take_length]at hno;exact hno
  refine rRS ?_;refine Ar ?_;rw[hc];exact⟨.inr rfl,Fin.cl rfl⟩
def goB(f:Func)(r:Int)(out:List Bool)(b:Nat):Bool:=(CN r (Ch f b)).1||(!(CN r (Ch f b)).2&&De f out b)
def KC(f:Func)(r:Int)(out:List Bool)(b:Nat):List Bool:=if goB f r out b then out.set b true else out
def foldI(f:Func)(r:Int)(out:List Bool)(m:Nat):List Bool:=(List.range m).foldl (KC f r) out
def roundsI(f:Func)(r:Int):Nat→List Bool
 |0=>List.replicate f.blocks.length false
 |m+1=>foldI f r (roundsI f r m) f.blocks.length
def JA(f:Func)(r:Int):List Bool:=roundsI f r (f.blocks.length+1)
theorem Et(f:Func)(r:Int)(out:List Bool)(m:Nat):foldI f r out (m+1)=KC f r (foldI f r out m) m:=by unfold foldI;rw[List.range_succ,List.foldl_append];rfl
theorem XW(f:Func)(r:Int)(out:List Bool)(b:Nat):(KC f r out b).length=out.length:=by unfold KC;split <;> simp
theorem RD(f:Func)(r:Int)(out:List Bool)(m:Nat):(foldI f r out m).length=out.length:=by
 induction m with
 |zero=>rfl
 |succ m ih=>rw[Et,XW,ih]
theorem Ja(f:Func)(r:Int)(m:Nat):(roundsI f r m).length=f.blocks.length:=by
 induction m with
 |zero=>simp[roundsI]
 |succ m ih=>unfold roundsI;rw[RD,ih]
theorem U1(f:Func)(r:Int)(ho:okFunc f)(hs:smallF f):Fn Tryz.prog 78 [.agg (Aq f),.lit (.int .i64 r)] (.bs Ty.bool (JA f r)):=by
 have hbl:=hs.blocks;refine AE Tryz.func78 rfl (by kernel_rfl) rfl Tryz.ntmps78 fun C hC=>?_
 refine nS ?_;refine rRS ?_;refine Ad fun K2 h2=>?_
 refine Awp.region ?_
 iterate 3 (first|refine sQ ?_|refine AW ?_|refine BQ (hk:=?_))
 refine Bu rfl ?_;refine Agl (e:=4) (z:=.bool false) (bytes:=1) (T:=Ty.bool) false rfl (by kernel_rfl) rfl (fun _ _=>rfl) rfl rfl (by omega) (by unfold maxLen;omega) ?_;refine sNt ?_
 iterate 1 (first|refine sQ ?_|refine AW ?_|refine BQ (hk:=?_))
 refine Az ?_;refine h2 _ ?_;refine nT ?_;refine Ad fun K3 h3=>?_
 refine rRS ?_;refine Ak ?_;refine AS (fun m:Nat=>⟨(.any::.lit (.int .i64 r)::.ptr 0 0::A2 (.own 1 0::.lit (.int .i64 (m:Int))::A40 (A6 []))),[.box (Aq f),.row 0 4 Ty.bool (roundsI f r m)]⟩) (fun m=>m≤f.blocks.length+1) (fun m=>f.blocks.length+1 - m) 0 (Nat.zero_le _) (B7) ?_;rintro m hm;refine Ad fun K6 h6=>?_
 refine rRS ?_;refine Aj rfl (fun hb8=>?_) (fun hb8=>?_)
 ·have hmlt:m≤f.blocks.length:=by simpa using hb8
  refine Am ?_;refine h6 _ ?_;refine nT ?_;refine Ad fun K9 h9=>?_
  refine Ak ?_;refine rRS ?_;refine Ak ?_;refine AS (fun k:Nat=>⟨(.any::.lit (.int .i64 r)::.ptr 0 0::A2 (.own 1 0::.lit (.int .i64 (m:Int))::.lit (.int .i64 (k:Int))::A40 (A5 []))),[.box (Aq f),.row 0 4 Ty.bool (foldI f r (roundsI f r m) k)]⟩) (fun k=>k≤f.blocks.length) (fun k=>f.blocks.length - k) 0 (Nat.zero_le _) (B7) ?_;rintro k hk;refine Ad fun K12 h12=>?_
  refine rRS ?_;have hol:(foldI f r (roundsI f r m) k).length=f.blocks.length:=by rw[RD,Ja]
  refine Aj rfl (fun hb14=>?_) (fun hb14=>?_)
  ·have hlt:k < f.blocks.length:=by simpa using hb14
   obtain⟨bl,hbk⟩:∃bl,f.blocks[k]? =some bl:=⟨_,List.getElem?_eq_getElem hlt⟩
   have hmem:=List.mem_of_getElem? hbk;have hins:Ch f k=bl.ins:=by unfold Ch;rw[hbk]
   have hgo:goB f r (foldI f r (roundsI f r m) k) k=((CN r bl.ins).1||(!(CN r bl.ins).2&&De f (foldI f r (roundsI f r m) k) k)):=by unfold goB;rw[hins]
   obtain⟨q0,hq0⟩:∃q,(foldI f r (roundsI f r m) k)[k]? =some q:=⟨_,List.getElem?_eq_getElem (by omega)⟩
   have hkl:k < (foldI f r (roundsI f r m) k).length:=by omega
   have hyes:goB f r (foldI f r (roundsI f r m) k) k=true→foldI f r (roundsI f r m) (k+1)=(foldI f r (roundsI f r m) k).set k true:=fun h=>by rw[Et,KC,if_pos h]
   have hno:goB f r (foldI f r (roundsI f r m) k) k=false→foldI f r (roundsI f r m) (k+1)=foldI f r (roundsI f r m) k:=fun h=>by rw[Et,KC,if_neg (by simp[h])]
   refine Am ?_;refine h12 _ ?_;refine nT ?_;refine Ad fun K15 h15=>?_
   refine Ak ?_;refine Ad fun K16 h16=>?_
   (refine Awp.region ?_;(repeat(first|refine sQ (hq:=AX.call rfl (KG bl 0 r (ho.blocks bl hmem) (hs.all bl hmem) (Nat.zero_le _)) rfl rfl rfl) ?_|refine sQ ?_|refine AW ?_|refine BQ (hk:=?_)));refine Az ?_)
   rw[List.drop_zero];refine h16 _ ?_;refine nT ?_;rcases hr1:(CN r bl.ins).1 with _|_
   ·rcases hr2:(CN r bl.ins).2 with _|_
    ·rw[hr1,hr2]at hgo;refine Ad fun K17 h17=>?_
     rcases hbb:De f (foldI f r (roundsI f r m) k) k with _|_
     ·rw[hbb]at hgo
      (refine Awp.region ?_;(repeat(first|refine sQ (hq:=GQ rfl (by have:=Eu f (foldI f r (roundsI f r m) k) k ho hs hol;rw[hbb]at this;exact this) (.cl rfl (.own rfl (.cl rfl .nil)))) ?_|refine sQ ?_|refine AW ?_|refine BQ (hk:=?_)));refine Az ?_)
      refine h17 _ ?_;refine nT ?_;refine Aj rfl (fun hb=>by cases hb) (fun hb18=>?_);refine Am ?_;refine h15 _ ?_;refine nT ?_;refine rR ?_;refine An ⟨k+1,by omega,by omega,?_⟩;rw[hno hgo];exact B7
     ·rw[hbb]at hgo
      (refine Awp.region ?_;(repeat(first|refine sQ (hq:=GQ rfl (by have:=Eu f (foldI f r (roundsI f r m) k) k ho hs hol;rw[hbb]at this;exact this) (.cl rfl (.own rfl (.cl rfl .nil)))) ?_|refine sQ ?_|refine AW ?_|refine BQ (hk:=?_)));refine Az ?_)
      refine h17 _ ?_;refine nT ?_;refine Aj rfl (fun hb18=>?_) (fun hb=>by cases hb);refine rR ?_;refine h15 _ ?_;refine nT ?_;refine rR ?_;refine An ⟨k+1,by omega,by omega,?_⟩;rw[hyes hgo];exact B7
    ·rw[hr1,hr2]at hgo;refine rRS ?_;refine Aj rfl (fun hb=>by cases hb) (fun hb18=>?_);refine Am ?_;refine h15 _ ?_;refine nT ?_;refine rR ?_;refine An ⟨k+1,by omega,by omega,?_⟩;rw[hno hgo];exact B7
   ·rw[hr1]at hgo;refine rRS ?_;refine Aj rfl (fun hb18=>?_) (fun hb=>by cases hb);refine rR ?_;refine h15 _ ?_;refine nT ?_;refine rR ?_;refine An ⟨k+1,by omega,by omega,?_⟩;rw[hyes hgo];exact B7
  ·refine AB ?_;refine h9 _ ?_;refine nT ?_;have hkk:k=f.blocks.length:=by
    have:¬k < f.blocks.length:=by simpa using hb14
    omega
   refine rR ?_;refine An ⟨m+1,by omega,by omega,?_⟩;rw[hkk];exact B7
 ·refine AB ?_;refine h3 _ ?_;refine nT ?_;have hmm:m=f.blocks.length+1:=by
   have:¬m≤f.blocks.length:=by simpa using hb8
   omega
  refine rRS ?_;refine Ar ?_;rw[hmm];exact⟨.inr rfl,Fin.own rfl⟩
def swapL(l:List Int)(q:Nat):List Int:=(l.set q (l.getD (q+1) 0)).set (q+1) (l.getD q 0)
def Mu:Nat→List Int→List Int
 |0,l=>l
 |q+1,l=>if l.getD q 0 > l.getD (q+1) 0 then Mu q (swapL l q)else l
def Hu(l:List Int):List Int:=Mu (l.length - 1) l
theorem Mm(l:List Int)(q:Nat):(swapL l q).length=l.length:=by simp[swapL]
theorem QB:∀(k:Nat) (l:List Int),(Mu k l).length=l.length
 |0,l=>rfl
 |q+1,l=>by
  unfold Mu;split
  ·rw[QB q,Mm]
  ·rfl
theorem Ux{l:List Int}(h:Br l){q:Nat}(hq:q+1 < l.length):Br (swapL l q):=by
 intro x hx;unfold swapL at hx;have hq':q < l.length:=by omega
 have h1:l.getD q 0∈l:=by rw[List.getD_eq_getElem?_getD,List.getElem?_eq_getElem hq'];exact List.getElem_mem _
 have h2:l.getD (q+1) 0∈l:=by rw[List.getD_eq_getElem?_getD,List.getElem?_eq_getElem hq];exact List.getElem_mem _
 rcases List.mem_or_eq_of_mem_set hx with h3|h3
 ·rcases List.mem_or_eq_of_mem_set h3 with h4|h4
  ·exact h x h4
  ·rw[h4];exact h _ h2
 ·rw[h3];exact h _ h1
theorem SW(l:List Int)(ho:Br l)(h0:0 < l.length)(hl:l.length≤4194304):Adg Tryz.prog 131 3 tInt l (Hu l):=by
 refine SA Tryz.func131 rfl (by kernel_rfl) rfl Tryz.ntmps131 (fun _ _ _ _ _ h=>h) fun C=>?_
 refine nS ?_;refine rRS ?_;refine Ad fun K2 h2=>?_
 refine rRS ?_;refine Ak ?_;have he0:((l.length:Int) - 1)=((l.length - 1:Nat):Int):=by omega
 rw[he0];refine AS (fun p:Nat×List Int=>⟨(.own 0 0::A2 (.lit (.int .i64 (p.1:Int))::A20 (A10 (A6 [])))),[.row 0 3 tInt p.2]⟩) (fun p=>p.2.length=l.length∧p.1 < l.length∧Br p.2∧Mu p.1 p.2=Hu l) (fun p=>p.1) (l.length - 1,l) ⟨rfl,by omega,ho,rfl⟩ (B7) ?_;rintro⟨k,m⟩ ⟨hml,hkl,hmo,hsf⟩;dsimp only at hml hkl hmo hsf⊢;refine Ad fun K5 h5=>?_
 refine Ad fun K6 h6=>?_
 cases k with
 |zero=>
  have hb:decide (((0:Nat):Int) > 0)=false:=by decide
  (refine LQ 14 (hh:=?_);(repeat(first|refine qQ ?_|refine HF ?_));refine F8 ?_;(repeat(first|refine sQ ?_|refine AW ?_|refine BQ (hk:=?_)));refine Az ?_)
  refine h6 _ ?_;refine nT ?_;refine Aj rfl (fun hb7=>by cases hb7) (fun hb7=>?_);refine AB ?_;refine h2 _ ?_;refine nT ?_;refine rRS ?_;refine Ar ?_;exact⟨.inr rfl,0,0,rfl,by rw[←hsf];rfl,rfl⟩
 |succ q=>
  have hb:decide (((q+1:Nat):Int) > 0)=true:=by simp
  have hx0:m[(((q+1:Nat):Int) - 1).toNat]? =some (m.getD q 0):=by
   have:(((q+1:Nat):Int) - 1).toNat=q:=by omega
   rw[this,List.getD_eq_getElem?_getD,List.getElem?_eq_getElem (by omega)];rfl
  have hx1:m[q+1]? =some (m.getD (q+1) 0):=by
   rw[List.getD_eq_getElem?_getD,List.getElem?_eq_getElem (by omega)];rfl
  have hw0:=hmo _ (List.mem_of_getElem? hx0);have hw1:=hmo _ (List.mem_of_getElem? hx1);have hql:q+1 < m.length:=by omega
  have hx2:(m.set (((q+1:Nat):Int) - 1).toNat (m.getD (q+1) 0))[q+1]? =some (m.getD (q+1) 0):=by
   rw[List.getElem?_set_ne (by omega)];exact hx1
  have hql2:q+1 < (m.set (((q+1:Nat):Int) - 1).toNat (m.getD (q+1) 0)).length:=by simpa using hql
  rw[Mu]at hsf;rcases hc:decide (m.getD q 0 > m.getD (q+1) 0)with _|_
  ·rw[if_neg (by simpa using hc)]at hsf
   (refine LQ 14 (hh:=?_);(repeat(first|refine qQ ?_|refine HF ?_));refine F8 ?_;(repeat(first|refine sQ ?_|refine AW ?_|refine BQ (hk:=?_)));refine Az ?_)
   refine h6 _ ?_;refine nT ?_;refine Aj rfl (fun hb7=>by cases hb7) (fun hb7=>?_);refine AB ?_;refine h2 _ ?_;refine nT ?_;refine rRS ?_;refine Ar ?_;exact⟨.inr rfl,0,0,rfl,by rw[←hsf];rfl,rfl⟩
  ·rw[if_pos (by simpa using hc)]at hsf
   (refine LQ 14 (hh:=?_);(repeat(first|refine qQ ?_|refine HF ?_));refine F8 ?_;(repeat(first|refine sQ ?_|refine AW ?_|refine BQ (hk:=?_)));refine Az ?_)
   refine h6 _ ?_;refine nT ?_;refine Aj rfl (fun hb7=>?_) (fun hb7=>by cases hb7);refine Am ?_;refine h5 _ ?_;refine nT ?_;refine Ad fun K8 h8=>?_
   refine Ak ?_
   (refine Aaq 15 [3,4] [0,1,2,5,6,7,8,9,10,11,12,13,14] (by kernel_rfl) (by kernel_rfl) (by decide) rfl ?_;refine Ad9 (by(try simp only[BH,evA,List.getElem?_cons_zero,List.getElem?_cons_succ,Option.getD_some,List.set_cons_zero,List.set_cons_succ]);exact rfl) ?_;(repeat(refine Akf (by simp only[List.getElem?_toArray,List.getElem?_cons_succ,List.getElem?_cons_zero];exact rfl) rfl ?_;(first|refine Ey (AX.move rfl (by(conv=>lhs;whnf);try rfl)) ?_|refine Ey (AX.assign rfl (by(conv=>lhs;whnf);try rfl)) ?_|refine Ey (BU rfl rfl rfl) ?_|refine Ey (DX rfl rfl) ?_|refine Ey (C1 rfl rfl rfl) ?_|refine Ey (Bk rfl rfl rfl rfl) ?_|refine Ey (DE rfl rfl rfl) ?_|refine Ey (Cp rfl rfl rfl (by assumption) rfl) ?_|refine Ey (Bc rfl rfl rfl rfl) ?_|refine Ey (CK rfl rfl rfl) ?_|refine Ey (Hd rfl rfl rfl rfl (by assumption)) ?_|refine Ey (GT rfl rfl rfl rfl (by first|decide|omega) (by assumption)) ?_|refine Ey (Ik rfl rfl rfl rfl rfl (by first|assumption|omega)) ?_|refine Ey (Ex rfl rfl rfl rfl rfl (by first|decide|omega) (by first|assumption|omega)) ?_|refine Ey (Hc rfl rfl) ?_|refine Ey (GP rfl rfl rfl) ?_|refine Ey (Ij rfl rfl) ?_|refine Ey (FM rfl rfl rfl (by omega)) ?_|refine Ey (FK rfl rfl rfl (by omega)) ?_|refine Ey (GU rfl rfl rfl rfl (by assumption)) ?_|refine Ey (CF rfl rfl rfl rfl) ?_|refine Ey (CT rfl rfl) ?_|refine Ey (AX.pick rfl rfl (by(conv=>lhs;whnf);try rfl)) ?_|refine Ey (AX.extract rfl rfl rfl) ?_|refine Ey (Ek rfl rfl rfl (by rfl) (by decide) (by first|exact Fit.bool|exact Fit.bs|exact Fit.int (by assumption))) ?_|refine Ey (AX.max2 rfl rfl rfl) ?_|refine Ey (AX.min2 rfl rfl rfl) ?_);refine Ad9 (by(try simp only[BH,List.set_cons_zero,List.set_cons_succ]);exact rfl) ?_));refine Agb ?_)
   have hfin:∀s':St,St.le C s' ⟨(.own 0 0::A2 (.lit (.int .i64 ((q+1:Nat):Int))::A20 (A10 (A6 [])))),[.row 0 3 tInt (swapL m q)]⟩→K8 s':=fun s' hle=>by
    refine h8 _ (A1 _ hle ?_);refine rR ?_;refine An ⟨(q,swapL m q),⟨by rw[Mm];exact hml,by omega,Ux hmo hql,hsf⟩,by simp,?_⟩;have e2:(((q+1:Nat):Int) - 1)=(q:Int):=by omega
    rw[e2];exact B7
   have hgo:∀t:List AV,Fgt 1 t (.own 0 0::A2 (.lit (.int .i64 ((q+1:Nat):Int))::A20 (A10 (A6 []))))→K8 ⟨t,[.row 0 3 tInt ((m.set (((q+1:Nat):Int) - 1).toNat (m.getD (q+1) 0)).set (q+1) (m.getD q 0))]⟩:=fun t ht=>by
    have e1:(((q+1:Nat):Int) - 1).toNat=q:=by omega
    rw[e1];exact hfin _ (P5 rfl ht)
   refine JE [15] (by kernel_rfl) (by simp) (JF (by simp only[List.getElem?_toArray,List.getElem?_cons_succ,List.getElem?_cons_zero];exact rfl) rfl ?_ AI)
   (first|refine oQ ?_|refine Aj6 (hk:=?_))
   refine JE [16] (by kernel_rfl) (by simp) (JF (by simp only[List.getElem?_toArray,List.getElem?_cons_succ,List.getElem?_cons_zero];exact rfl) rfl ?_ AI)
   (first|refine oQ ?_|refine Aj6 (hk:=?_))
   refine JE [17] (by kernel_rfl) (by simp) (JF (by simp only[List.getElem?_toArray,List.getElem?_cons_succ,List.getElem?_cons_zero];exact rfl) rfl ?_ AI)
   (first|refine oQ ?_|refine Aj6 (hk:=?_))
   exact Qn (by kernel_rfl) (hgo _ (by(try simp only[BH,List.set_cons_zero,List.set_cons_succ]);repeat(first|exact Fgt.nil|refine Fgt.keep rfl ?_|refine Fgt.any ?_)))
def Cg(f:Func):List Int:=f.blocks.flatMap fun b=>b.ins.flatMap readsC
def M5(out:List Int)(x:Int):List Int:=if out.contains x then out else Hu (out++[x])
def Cv(l:List Int):List Int:=l.foldl M5 []
def Bw(f:Func):List Int:=Cv (Cg f)
theorem Tb(l:List Int)(x:Int):Cv (l++[x])=M5 (Cv l) x:=by simp[Cv]
theorem Mp(l:List Int):(Hu l).length=l.length:=QB _ _
theorem Uz:∀(k:Nat) (l:List Int),k < l.length→Br l→Br (Mu k l)
 |0,l,_,h=>h
 |q+1,l,hq,h=>by
  unfold Mu;split
  ·exact Uz q _ (by rw[Mm];omega) (Ux h hq)
  ·exact h
theorem Ab9(out:List Int)(x:Int):(M5 out x).length≤out.length+1:=by
 unfold M5;split
 ·omega
 ·rw[Mp];simp
theorem Afe{out:List Int}{x:Int}(h:Br out)(hx:wfI .i64 x):Br (M5 out x):=by
 unfold M5;split
 ·exact h
 ·unfold Hu;refine Uz _ _ (by simp) fun y hy=>?_
  rcases List.mem_append.1 hy with h1|h1
  ·exact h y h1
  ·simp at h1;rw[h1];exact hx
theorem Ol(l:List Int):(Cv l).length≤l.length∧(Br l→Br (Cv l)):=by
 have key:∀(l out:List Int),(l.foldl M5 out).length≤out.length+l.length∧(Br l→Br out→Br (l.foldl M5 out)):=by
  intro l;induction l with
  |nil=>intro out;exact⟨by simp,fun _ h=>h⟩
  |cons x l ih=>
   intro out;obtain⟨h1,h2⟩:=ih (M5 out x);have:=Ab9 out x;refine⟨by simp only[List.foldl_cons,List.length_cons];omega,fun hl ho=>h2 (fun y hy=>hl y (by simp[hy])) (Afe ho (hl x (by simp)))⟩
 obtain⟨h1,h2⟩:=key l [];unfold Cv;exact⟨by simpa using h1,fun h=>h2 h fun y hy=>by cases hy⟩
theorem Zi{l:List Ins}(h:∀x∈l,okIns x):Br (l.flatMap readsC):=fun r hr=>by
 obtain⟨x,hx,h1⟩:=List.mem_flatMap.1 hr;exact Fm (h x hx) r h1
theorem Ns{f:Func}(h:okFunc f):Br (Cg f):=fun r hr=>by
 obtain⟨b,hb,h1⟩:=List.mem_flatMap.1 hr;exact Zi (h.blocks b hb).ins r h1
theorem J7{α:Type}(g:α→List Int)(l:List α)(k:Nat):((l.take k).flatMap g).length≤(l.flatMap g).length:=by
 have:l.flatMap g=(l.take k).flatMap g++(l.drop k).flatMap g:=by rw[←List.flatMap_append,List.take_append_drop]
 rw[this,List.length_append];omega
theorem IS{α:Type}(g:α→List Int){l:List α}{k:Nat}{x:α}(hx:l[k]? =some x):(l.take (k+1)).flatMap g=(l.take k).flatMap g++g x:=by
 rw[List.take_add_one,hx,List.flatMap_append];simp
theorem Yr(f:Func)(ho:okFunc f)(hs:smallF f)(hT:(Cg f).length≤2097152):Fn Tryz.prog 77 [.agg (Aq f)] (.bs tInt (Bw f)):=by
 have hbl:=hs.blocks;refine AE Tryz.func77 rfl (by kernel_rfl) rfl Tryz.ntmps77 fun C hC=>?_
 refine nS ?_;refine rRS ?_;refine rRS ?_;refine Ad fun K3 h3=>?_
 refine rRS ?_;refine Ak ?_;refine AS (fun p:Nat×Nat=>⟨(.any::.ptr 0 0::.any::.own 1 p.2::.lit (.int .i64 (p.1:Int))::A40 (A10 (A3 []))),[.box (Aq f),.row p.2 3 tInt (Cv ((f.blocks.take p.1).flatMap fun b=>b.ins.flatMap readsC))]⟩) (fun p=>p.1≤f.blocks.length) (fun p=>f.blocks.length - p.1) (0,0) (Nat.zero_le _) ((Cx 3 3 tInt rfl Nat.zero_lt_one).trans (B7)) ?_;rintro⟨b,ver⟩ hb;dsimp only at hb⊢;refine Ad fun K6 h6=>?_
 refine rRS ?_;refine Aj rfl (fun hb8=>?_) (fun hb8=>?_)
 ·have hlt:b < f.blocks.length:=by simpa using hb8
  obtain⟨bl,hbk⟩:∃bl,f.blocks[b]? =some bl:=⟨_,List.getElem?_eq_getElem hlt⟩
  have hmem:=List.mem_of_getElem? hbk;have hsb:=(hs.all bl hmem).ins;have hsuc:=IS (fun b:Block=>b.ins.flatMap readsC) hbk;have hcnt:=J7 (fun b:Block=>b.ins.flatMap readsC) f.blocks (b+1);have hokA:Br ((f.blocks.take b).flatMap fun b=>b.ins.flatMap readsC):=fun r hr=>Ns ho r (by
   obtain⟨c,hc,h1⟩:=List.mem_flatMap.1 hr;exact List.mem_flatMap.2 ⟨c,List.mem_of_mem_take hc,h1⟩)
  generalize ((f.blocks.take b).flatMap fun b=>b.ins.flatMap readsC)=A at hsuc hokA⊢;rw[hsuc]at hcnt;have hcnt2:(A++bl.ins.flatMap readsC).length≤2097152:=Nat.le_trans hcnt hT;refine Am ?_;refine h6 _ ?_;refine nT ?_;refine Ad fun K9 h9=>?_
  refine Ak ?_;refine rRS ?_;refine Ak ?_;refine AS (fun p:Nat×Nat=>⟨(.any::.ptr 0 0::.any::.own 1 p.2::.lit (.int .i64 (b:Int))::.lit (.int .i64 (p.1:Int))::A40 (A10 (A2 []))),[.box (Aq f),.row p.2 3 tInt (Cv (A++(bl.ins.take p.1).flatMap readsC))]⟩) (fun p=>p.1≤bl.ins.length) (fun p=>bl.ins.length - p.1) (0,ver) (Nat.zero_le _) (by simp only[List.take_zero,List.flatMap_nil,List.append_nil];exact B7) ?_;rintro⟨i,ver1⟩ hi;dsimp only at hi⊢;refine Ad fun K12 h12=>?_
  refine rRS ?_;refine Aj rfl (fun hb14=>?_) (fun hb14=>?_)
  ·have hlti:i < bl.ins.length:=by simpa using hb14
   obtain⟨x,hx⟩:∃x,bl.ins[i]? =some x:=⟨_,List.getElem?_eq_getElem hlti⟩
   have hxm:=List.mem_of_getElem? hx;have hxo:=(ho.blocks bl hmem).ins x hxm;have hxa:=(hs.all bl hmem).all x hxm;have hsuc2:=IS readsC hx;have hcnt3:=J7 readsC bl.ins (i+1);have hokB:Br (A++(bl.ins.take i).flatMap readsC):=fun r hr=>by
    rcases List.mem_append.1 hr with h1|h1
    ·exact hokA r h1
    ·exact Zi (fun y hy=>(ho.blocks bl hmem).ins y (List.mem_of_mem_take hy)) r h1
   rw[hsuc2]at hcnt3;have hcnt4:(A++(bl.ins.take i).flatMap readsC).length+(readsC x).length≤2097152:=by
    simp only[List.length_append]at hcnt2 hcnt3⊢;omega
   generalize hB:A++(bl.ins.take i).flatMap readsC=B at hokB hcnt4⊢;have hrx:=Fm hxo;have hrl:(readsC x).length≤2097152:=by omega
   refine Am ?_;refine h12 _ ?_;refine nT ?_;refine Ad fun K15 h15=>?_
   refine Ak ?_;refine Ad fun K16 h16=>?_
   (refine Awp.region ?_;(repeat(first|refine sQ (hq:=AX.call rfl (EH x hxo (by omega)) rfl rfl rfl) ?_|refine sQ ?_|refine AW ?_|refine BQ (hk:=?_)));refine Az ?_)
   refine h16 _ ?_;refine nT ?_;refine rRS ?_;refine Ak ?_;refine AS (fun p:Nat×Nat=>⟨(.any::.ptr 0 0::.any::.own 1 p.2::.lit (.int .i64 (b:Int))::.lit (.int .i64 (i:Int))::.bs tInt (readsC x)::.lit (.int .i64 (p.1:Int))::A40 (A10 [])),[.box (Aq f),.row p.2 3 tInt (Cv (B++(readsC x).take p.1))]⟩) (fun p=>p.1≤(readsC x).length) (fun p=>(readsC x).length - p.1) (0,ver1) (Nat.zero_le _) (by simp only[List.take_zero,List.append_nil];exact B7) ?_;rintro⟨k,ver2⟩ hk;dsimp only at hk⊢;refine Ad fun K18 h18=>?_
   refine rRS ?_;refine Aj rfl (fun hb20=>?_) (fun hb20=>?_)
   ·have hltk:k < (readsC x).length:=by simpa using hb20
    obtain⟨r,hr⟩:∃r,(readsC x)[k]? =some r:=⟨_,List.getElem?_eq_getElem hltk⟩
    have hrw:=hrx r (List.mem_of_getElem? hr);have hst:Cv (B++(readsC x).take (k+1))=M5 (Cv (B++(readsC x).take k)) r:=by
     rw[List.take_add_one,hr,←List.append_assoc];exact Tb _ _
    obtain⟨hol,hoo⟩:=Ol (B++(readsC x).take k);have hoo':=hoo fun y hy=>by
     rcases List.mem_append.1 hy with h1|h1
     ·exact hokB y h1
     ·exact hrx y (List.mem_of_mem_take h1)
    have hol':(Cv (B++(readsC x).take k)).length≤2097152:=by
     simp only[List.length_append,List.length_take]at hol hcnt4;omega
    generalize Cv (B++(readsC x).take k)=out at hst hol' hoo'⊢;refine Am ?_;refine h18 _ ?_;refine nT ?_;refine Ad fun K21 h21=>?_
    refine Ak ?_;refine Ad fun K22 h22=>?_
    rcases hc:out.contains r with _|_
    ·have hins:M5 out r=Hu (out++[r]):=by unfold M5;rw[if_neg (by rw[hc];simp)]
     have hn1:out.length+ [r].length≤maxLen:=by simp[maxLen];omega
     have hn2:(out.length+ [r].length) * 8≤140737488355328:=by simp;omega
     (refine Awp.region ?_;(repeat(first|refine sQ (hq:=GQ rfl (by have:=TI out r hol';rw[hc]at this;exact this) (.own rfl (.cl rfl .nil))) ?_|refine sQ ?_|refine AW ?_|refine BQ (hk:=?_)));refine Az ?_)
     refine h22 _ ?_;refine nT ?_;refine Aj rfl (fun hb23=>?_) (fun hb=>by cases hb)
     (refine Awp.region ?_;(repeat(first|(refine Bu rfl (NJ rfl (SW (out++[r]) (fun y hy=>(List.mem_append.1 hy).elim (hoo' y) fun h=>by simp at h;rw[h];exact hrw) (by simp) (by simp;omega)) rfl rfl ?_);refine sNt ?_)|refine sQ ?_|refine AW ?_|refine BQ (hk:=?_)));refine Az ?_)
     refine h21 _ ?_;refine nT ?_;refine rR ?_;refine An ⟨(k+1,ver2+1+1),by omega,by dsimp only;omega,?_⟩;dsimp only;rw[hst,hins];exact B7
    ·have hins:M5 out r=out:=by unfold M5;rw[if_pos hc]
     (refine Awp.region ?_;(repeat(first|refine sQ (hq:=GQ rfl (by have:=TI out r hol';rw[hc]at this;exact this) (.own rfl (.cl rfl .nil))) ?_|refine sQ ?_|refine AW ?_|refine BQ (hk:=?_)));refine Az ?_)
     refine h22 _ ?_;refine nT ?_;refine Aj rfl (fun hb=>by cases hb) (fun hb23=>?_);refine Am ?_;refine h21 _ ?_;refine nT ?_;refine rR ?_;refine An ⟨(k+1,ver2),by omega,by dsimp only;omega,?_⟩;dsimp only;rw[hst,hins];exact B7
   ·refine AB ?_;refine h15 _ ?_;refine nT ?_;have hkk:k=(readsC x).length:=by
     have:¬k < (readsC x).length:=by simpa using hb20
     omega
    refine rR ?_;refine An ⟨(i+1,ver2),by omega,by dsimp only;omega,?_⟩;dsimp only;rw[hsuc2,hkk,List.take_length,←List.append_assoc,hB];exact B7
  ·refine AB ?_;refine h9 _ ?_;refine nT ?_;have hii:i=bl.ins.length:=by
    have:¬i < bl.ins.length:=by simpa using hb14
    omega
   refine rR ?_;refine An ⟨(b+1,ver1),by omega,by dsimp only;omega,?_⟩;dsimp only;rw[hsuc,hii,List.take_length];exact B7
 ·refine AB ?_;refine h3 _ ?_;refine nT ?_;have hbb:b=f.blocks.length:=by
   have:¬b < f.blocks.length:=by simpa using hb8
   omega
  refine rRS ?_;refine Ar ?_;rw[hbb,List.take_length];exact⟨.inr rfl,Fin.own rfl⟩
def EZ(f:Func)(b i:Nat)(r:Int):Bool:=(CN r ((Ch f b).drop i)).1||(!(CN r ((Ch f b).drop i)).2&&De f (JA f r) b)
def Dg(f:Func)(regs:List Int)(b i:Nat):List Int:=regs.filter (EZ f b i)
def BX(f:Func)(b:Nat):List (List Int):=(List.range ((Ch f b).length+1)).map (Dg f (Bw f) b)
def Jq(f:Func):List (List (List Int)):=(List.range f.blocks.length).map (BX f)
theorem DP{p:Int→Bool}{l:List Int}{k:Nat}{x:Int}(hx:l[k]? =some x):(l.take (k+1)).filter p=(l.take k).filter p++if p x then [x]else []:=by
 rw[List.take_add_one,hx,List.filter_append];cases h:p x <;> simp[h]
theorem J1(f:Func)(r:Int):(JA f r).length=f.blocks.length:=Ja f r _
theorem V7(f:Func)(regs:List Int)(b i:Nat)(bl:Block)(ho:okFunc f)(hs:smallF f)(hr:Br regs)(hrl:regs.length≤2097152)(hb:f.blocks[b]? =some bl)(hi:i≤bl.ins.length):
 Fn Tryz.prog 79 [.agg (Aq f),.bs tInt regs,.bs Ty.bool.slice (regs.map (JA f)),.lit (.int .i64 (b:Int)),.lit (.int .i64 (i:Int))] (.bs tInt (Dg f regs b i)):=by
 have hbl:=hs.blocks;have hmem:=List.mem_of_getElem? hb;have hins:Ch f b=bl.ins:=by unfold Ch;rw[hb]
 refine AE Tryz.func79 rfl (by kernel_rfl) rfl Tryz.ntmps79 fun C hC=>?_
 refine nS ?_;refine rRS ?_;refine rRS ?_;refine Ad fun K3 h3=>?_
 refine rRS ?_;refine Ak ?_;refine AS (fun p:Nat×Nat=>⟨(.any::.bs tInt regs::.bs Ty.bool.slice (regs.map (JA f))::.lit (.int .i64 (b:Int))::.lit (.int .i64 (i:Int))::.ptr 0 0::A5 (.own 1 p.2::.lit (.int .i64 (p.1:Int))::A40 (A4 []))),[.box (Aq f),.row p.2 3 tInt ((regs.take p.1).filter (EZ f b i))]⟩) (fun p=>p.1≤regs.length) (fun p=>regs.length - p.1) (0,0) (Nat.zero_le _) ((Cx 11 3 tInt rfl Nat.zero_lt_one).trans (B7)) ?_;rintro⟨k,ver⟩ hk;dsimp only at hk⊢;refine Ad fun K6 h6=>?_
 refine rRS ?_;refine Aj rfl (fun hb8=>?_) (fun hb8=>?_)
 ·have hlt:k < regs.length:=by simpa using hb8
  obtain⟨r,hrk⟩:∃r,regs[k]? =some r:=⟨_,List.getElem?_eq_getElem hlt⟩
  have hrw:=hr r (List.mem_of_getElem? hrk);have hik:(regs.map (JA f))[k]? =some (JA f r):=by rw[List.getElem?_map,hrk];rfl
  have hst:=DP (p:=EZ f b i) hrk;have hol:=List.length_filter_le (EZ f b i) (regs.take k);have hol2:((regs.take k).filter (EZ f b i)).length≤2097152:=by simp only[List.length_take]at hol;omega
  have hlv:EZ f b i r=((CN r (bl.ins.drop i)).1||(!(CN r (bl.ins.drop i)).2&&De f (JA f r) b)):=by unfold EZ;rw[hins]
  have hyes:EZ f b i r=true→(regs.take (k+1)).filter (EZ f b i)=(regs.take k).filter (EZ f b i)++[r]:=fun h=>by rw[hst,if_pos h]
  have hno:EZ f b i r=false→(regs.take (k+1)).filter (EZ f b i)=(regs.take k).filter (EZ f b i):=fun h=>by rw[hst,if_neg (by simp[h]),List.append_nil]
  generalize hout:(regs.take k).filter (EZ f b i)=out at hyes hno hol2⊢;have hn1:out.length+ [r].length≤maxLen:=by simp[maxLen];omega
  have hn2:(out.length+ [r].length) * 8≤140737488355328:=by simp;omega
  refine Am ?_;refine h6 _ ?_;refine nT ?_;refine Ad fun K9 h9=>?_
  refine Ak ?_;refine Ad fun K10 h10=>?_
  (refine LQ 16 (hh:=?_);(repeat(first|refine qQ (hq:=AX.call rfl (KG bl i r (ho.blocks bl hmem) (hs.all bl hmem) hi) rfl rfl rfl) ?_|refine qQ ?_|refine HF ?_));refine F8 ?_;(repeat(first|refine sQ (hq:=AX.call rfl (KG bl i r (ho.blocks bl hmem) (hs.all bl hmem) hi) rfl rfl rfl) ?_|refine sQ ?_|refine AW ?_|refine BQ (hk:=?_)));refine Az ?_)
  refine h10 _ ?_;refine nT ?_;rcases hr1:(CN r (bl.ins.drop i)).1 with _|_
  ·rcases hr2:(CN r (bl.ins.drop i)).2 with _|_
   ·rw[hr1,hr2]at hlv;refine Ad fun K11 h11=>?_
    rcases hbb:De f (JA f r) b with _|_
    ·rw[hbb]at hlv
     (refine LQ 14 (hh:=?_);(repeat(first|refine qQ (hq:=AX.call rfl (by have:=Eu f (JA f r) b ho hs (J1 f r);rw[hbb]at this;exact this) rfl rfl rfl) ?_|refine qQ ?_|refine HF ?_));refine F8 ?_;(repeat(first|refine sQ (hq:=AX.call rfl (by have:=Eu f (JA f r) b ho hs (J1 f r);rw[hbb]at this;exact this) rfl rfl rfl) ?_|refine sQ ?_|refine AW ?_|refine BQ (hk:=?_)));refine Az ?_)
     refine h11 _ ?_;refine nT ?_;refine Aj rfl (fun hb=>by cases hb) (fun hb12=>?_);refine Am ?_;refine h9 _ ?_;refine nT ?_;refine rR ?_;refine An ⟨(k+1,ver),by omega,by dsimp only;omega,?_⟩;dsimp only;rw[hno hlv];exact B7
    ·rw[hbb]at hlv
     (refine LQ 14 (hh:=?_);(repeat(first|refine qQ (hq:=AX.call rfl (by have:=Eu f (JA f r) b ho hs (J1 f r);rw[hbb]at this;exact this) rfl rfl rfl) ?_|refine qQ ?_|refine HF ?_));refine F8 ?_;(repeat(first|refine sQ (hq:=AX.call rfl (by have:=Eu f (JA f r) b ho hs (J1 f r);rw[hbb]at this;exact this) rfl rfl rfl) ?_|refine sQ ?_|refine AW ?_|refine BQ (hk:=?_)));refine Az ?_)
     refine h11 _ ?_;refine nT ?_;refine Aj rfl (fun hb12=>?_) (fun hb=>by cases hb);refine rR ?_;refine h9 _ ?_;refine nT ?_;refine rR ?_;refine An ⟨(k+1,ver+1),by omega,by dsimp only;omega,?_⟩;dsimp only;rw[hyes hlv];exact B7
   ·rw[hr1,hr2]at hlv;refine Ad fun K11 h11=>?_
    (refine LQ 14 (hh:=?_);(repeat(first|refine qQ ?_|refine HF ?_));refine F8 ?_;(repeat(first|refine sQ ?_|refine AW ?_|refine BQ (hk:=?_)));refine Az ?_)
    refine h11 _ ?_;refine nT ?_;refine Aj rfl (fun hb=>by cases hb) (fun hb12=>?_);refine Am ?_;refine h9 _ ?_;refine nT ?_;refine rR ?_;refine An ⟨(k+1,ver),by omega,by dsimp only;omega,?_⟩;dsimp only;rw[hno hlv];exact B7
  ·rw[hr1]at hlv;refine Ad fun K11 h11=>?_
   (refine LQ 14 (hh:=?_);(repeat(first|refine qQ ?_|refine HF ?_));refine F8 ?_;(repeat(first|refine sQ ?_|refine AW ?_|refine BQ (hk:=?_)));refine Az ?_)
   refine h11 _ ?_;refine nT ?_;refine Aj rfl (fun hb12=>?_) (fun hb=>by cases hb);refine rR ?_;refine h9 _ ?_;refine nT ?_;refine rR ?_;refine An ⟨(k+1,ver+1),by omega,by dsimp only;omega,?_⟩;dsimp only;rw[hyes hlv];exact B7
 ·refine AB ?_;refine h3 _ ?_;refine nT ?_;have hkk:k=regs.length:=by
   have:¬k < regs.length:=by simpa using hb8
   omega
  refine rRS ?_;refine Ar ?_;rw[hkk,List.take_length];exact⟨.inr rfl,Fin.own rfl⟩
theorem PC{α β:Type}(g:α→β){l:List α}{k:Nat}{x:α}(hx:l[k]? =some x):(l.take (k+1)).map g=(l.take k).map g++[g x]:=by
 rw[List.take_add_one,hx,List.map_append];simp
theorem IM{β:Type}(g:Nat→β)(k:Nat):(List.range (k+1)).map g=(List.range k).map g++[g k]:=by rw[List.range_succ,List.map_append];rfl
theorem Vl(f:Func)(ho:okFunc f)(hs:smallF f)(hT:(Cg f).length≤2097152):Fn Tryz.prog 35 [.agg (Aq f)] (.bs tInt.slice.slice (Jq f)):=by
 have hbl:=hs.blocks;obtain⟨hrl0,hrk0⟩:=Ol (Cg f);have hrl:(Bw f).length≤2097152:=Nat.le_trans hrl0 hT;have hro:Br (Bw f):=hrk0 (Ns ho);refine AE Tryz.func35 rfl (by kernel_rfl) rfl Tryz.ntmps35 fun C hC=>?_
 refine nS ?_;refine rRS ?_;refine Ad fun K2 h2=>?_
 (refine Awp.region ?_;(repeat(first|refine sQ (hq:=AX.call rfl (Yr f ho hs hT) rfl rfl rfl) ?_|refine sQ ?_|refine AW ?_|refine BQ (hk:=?_)));refine Az ?_)
 refine h2 _ ?_;refine nT ?_;refine rRS ?_;refine Ad fun K4 h4=>?_
 refine rRS ?_;refine Ak ?_;refine AS (fun p:Nat×Nat=>⟨(.any::.ptr 0 0::.any::.bs tInt (Bw f)::.own 1 p.2::.lit (.int .i64 (p.1:Int))::A40 (A10 (A3 []))),[.box (Aq f),.row p.2 118 Ty.bool.slice (((Bw f).take p.1).map (JA f))]⟩) (fun p=>p.1≤(Bw f).length) (fun p=>(Bw f).length - p.1) (0,0) (Nat.zero_le _) ((Cx 4 118 Ty.bool.slice rfl Nat.zero_lt_one).trans (B7)) ?_;rintro⟨k,ver⟩ hk;dsimp only at hk⊢;refine Ad fun K7 h7=>?_
 refine rRS ?_;refine Aj rfl (fun hb9=>?_) (fun hb9=>?_)
 ·have hlt:k < (Bw f).length:=by simpa using hb9
  obtain⟨r,hrk⟩:∃r,(Bw f)[k]? =some r:=⟨_,List.getElem?_eq_getElem hlt⟩
  have hst:=PC (JA f) hrk;have hol:(((Bw f).take k).map (JA f)).length≤2097152:=by simp only[List.length_map,List.length_take];omega
  generalize ((Bw f).take k).map (JA f)=out at hst hol⊢;have hn1:out.length+ [JA f r].length≤maxLen:=by simp[maxLen];omega
  have hn2:(out.length+ [JA f r].length) * 24≤140737488355328:=by simp;omega
  refine Am ?_;refine h7 _ ?_;refine nT ?_;refine Ad fun K10 h10=>?_
  refine Ak ?_
  (refine LQ 8 (hh:=?_);(repeat(first|refine qQ (hq:=AX.call rfl (U1 f r ho hs) rfl rfl rfl) ?_|refine qQ ?_|refine HF ?_));refine F8 ?_;(repeat(first|refine sQ (hq:=AX.call rfl (U1 f r ho hs) rfl rfl rfl) ?_|refine sQ ?_|refine AW ?_|refine BQ (hk:=?_)));refine Az ?_)
  refine h10 _ ?_;refine nT ?_;refine rR ?_;refine An ⟨(k+1,ver+1),by omega,by dsimp only;omega,?_⟩;dsimp only;rw[hst];exact B7
 ·refine AB ?_;refine h4 _ ?_;refine nT ?_;have hkk:k=(Bw f).length:=by
   have:¬k < (Bw f).length:=by simpa using hb9
   omega
  rw[hkk,List.take_length];refine A1 ⟨(.any::.ptr 0 0::.any::.bs tInt (Bw f)::.bs Ty.bool.slice ((Bw f).map (JA f))::A40 (A10 (A4 []))),[.box (Aq f),.dead]⟩ ((Mf hC 1 rfl).trans (by simp only[fzH,Cr,AV.fz,ABlk.fz,List.map_cons,List.map_nil,List.set_cons_zero,List.set_cons_succ,and_self,if_true,Aq];exact B7)) ?_;refine rRS ?_;refine Ad fun K12 h12=>?_
  refine rRS ?_;refine Ak ?_;refine AS (fun p:Nat×Nat=>⟨(.any::.ptr 0 0::.any::.bs tInt (Bw f)::.bs Ty.bool.slice ((Bw f).map (JA f))::.any::.own 2 p.2::.lit (.int .i64 (p.1:Int))::A40 (A10 [.any])),[.box (Aq f),.dead,.row p.2 74 tInt.slice.slice ((List.range p.1).map (BX f))]⟩) (fun p=>p.1≤f.blocks.length) (fun p=>f.blocks.length - p.1) (0,0) (Nat.zero_le _) ((Cx 6 74 tInt.slice.slice rfl Nat.zero_lt_one).trans (B7)) ?_;rintro⟨b,ver⟩ hb;dsimp only at hb⊢;refine Ad fun K15 h15=>?_
  refine rRS ?_;refine Aj rfl (fun hb17=>?_) (fun hb17=>?_)
  ·have hltb:b < f.blocks.length:=by simpa using hb17
   obtain⟨bl,hbk⟩:∃bl,f.blocks[b]? =some bl:=⟨_,List.getElem?_eq_getElem hltb⟩
   have hmem:=List.mem_of_getElem? hbk;have hsi:=(hs.all bl hmem).ins;have hins:Ch f b=bl.ins:=by unfold Ch;rw[hbk]
   have hstb:=IM (BX f) b;have hblk:BX f b=(List.range (bl.ins.length+1)).map (Dg f (Bw f) b):=by unfold BX;rw[hins]
   have holb:((List.range b).map (BX f)).length≤2097152:=by simp;omega
   generalize (List.range b).map (BX f)=out at hstb holb⊢;have hn1:out.length+ [BX f b].length≤maxLen:=by simp[maxLen];omega
   have hn2:(out.length+ [BX f b].length) * 24≤140737488355328:=by simp;omega
   refine Am ?_;refine h15 _ ?_;refine nT ?_;refine Ad fun K18 h18=>?_
   refine Ak ?_;refine rRS ?_;refine Ad fun K20 h20=>?_
   refine rRS ?_;refine Ak ?_;refine AS (fun p:Nat×Nat=>⟨(.any::.ptr 0 0::.any::.bs tInt (Bw f)::.bs Ty.bool.slice ((Bw f).map (JA f))::.any::.own 2 ver::.lit (.int .i64 (b:Int))::.own 3 p.2::.lit (.int .i64 (p.1:Int))::A40 (A9 [])),[.box (Aq f),.dead,.row ver 74 tInt.slice.slice out,.row p.2 25 tInt.slice ((List.range p.1).map (Dg f (Bw f) b))]⟩) (fun p=>p.1≤bl.ins.length+1) (fun p=>bl.ins.length+1 - p.1) (0,0) (Nat.zero_le _) ((Cx 8 25 tInt.slice rfl Nat.zero_lt_one).trans (B7)) ?_;rintro⟨i,ver2⟩ hi;dsimp only at hi⊢;refine Ad fun K22 h22=>?_
   refine rRS ?_;refine Aj rfl (fun hb24=>?_) (fun hb24=>?_)
   ·have hlti:i≤bl.ins.length:=by simpa using hb24
    have hsti:=IM (Dg f (Bw f) b) i;have holi:((List.range i).map (Dg f (Bw f) b)).length≤2097152:=by simp;omega
    generalize (List.range i).map (Dg f (Bw f) b)=l at hsti holi⊢;have hn3:l.length+ [Dg f (Bw f) b i].length≤maxLen:=by simp[maxLen];omega
    have hn4:(l.length+ [Dg f (Bw f) b i].length) * 24≤140737488355328:=by simp;omega
    refine Am ?_;refine h22 _ ?_;refine nT ?_;refine Ad fun K25 h25=>?_
    refine Ak ?_
    (refine Awp.region ?_;(repeat(first|refine sQ (hq:=AX.call rfl (V7 f (Bw f) b i bl ho hs hro hrl hbk hlti) rfl rfl rfl) ?_|refine sQ ?_|refine AW ?_|refine BQ (hk:=?_)));refine Az ?_)
    refine h25 _ ?_;refine nT ?_;refine rR ?_;refine An ⟨(i+1,ver2+1),by omega,by dsimp only;omega,?_⟩;dsimp only;rw[hsti];exact B7
   ·refine AB ?_;refine h20 _ ?_;refine nT ?_;have hii:i=bl.ins.length+1:=by
     have:¬i≤bl.ins.length:=by simpa using hb24
     omega
    rw[hii,←hblk];refine A1 ⟨(.any::.ptr 0 0::.any::.bs tInt (Bw f)::.bs Ty.bool.slice ((Bw f).map (JA f))::.any::.own 2 ver::.lit (.int .i64 (b:Int))::.bs tInt.slice (BX f b)::A40 (A10 [])),[.box (Aq f),.dead,.row ver 74 tInt.slice.slice out,.dead]⟩ ((Mf hC 3 rfl).trans (by simp only[fzH,Cr,AV.fz,ABlk.fz,List.map_cons,List.map_nil,List.set_cons_zero,List.set_cons_succ,and_self,if_true,Aq,Nat.reduceEqDiff,false_and,if_false];exact B7)) ?_;refine rR ?_;refine h18 _ ?_;refine nT ?_;refine rR ?_;refine An ⟨(b+1,ver+1),by omega,by dsimp only;omega,?_⟩;dsimp only;rw[hstb];exact PH (Cut.cons (Cut.cons (Cut.cons (Cut.nil _))))
  ·refine AB ?_;refine h12 _ ?_;refine nT ?_;have hbb:b=f.blocks.length:=by
    have:¬b < f.blocks.length:=by simpa using hb17
    omega
   refine rRS ?_;refine Ar ?_;rw[hbb];exact⟨.inr rfl,Fin.own rfl⟩
theorem SX{b:Block}(h:B3.bulk b≤2097152):smallB b:=⟨Nat.le_trans (Ih b) h,fun x hx=>by
 have h1:=T2 hx;have h2:=PS x;have h3:=D3 Tu x.args;omega⟩
theorem VI{f:Func}(h:CX.bulk f≤2097152):smallF f:=⟨Nat.le_trans (Gh f) h,fun b hb=>SX (Nat.le_trans (E5 hb) h)⟩
theorem Y5{f:Func}(h:CX.bulk f≤2097152):∀b∈f.blocks,b.ins.length+1≤2097152:=fun b hb=>by
 have h1:=E5 hb;have h2:=GK b;have h3:=D3 YI b.ins;omega
theorem Yt(l:List Ins):(l.flatMap readsC).length≤DV Ep.bulk l:=by
 induction l with
 |nil=>simp[DV]
 |cons x l ih=>
  have h1:=Jd x;have h2:=PS x;have h3:=D3 Tu x.args;simp only[List.flatMap_cons,List.length_append,DV];omega
theorem QS(l:List Block):(l.flatMap fun b=>b.ins.flatMap readsC).length≤DV B3.bulk l:=by
 induction l with
 |nil=>simp[DV]
 |cons b l ih=>
  have h1:=Yt b.ins;have h2:=GK b;simp only[List.flatMap_cons,List.length_append,DV];omega
theorem VS{f:Func}(h:CX.bulk f≤2097152):(Cg f).length≤2097152:=by
 have h1:=QS f.blocks;have h2:=Kf f;unfold Cg;omega
theorem Acm{P:Program}{f:FuncId}{args:List AV}{u:Value}{W:World}{vs:List Value}(h:Fn P f args (.lit u))(hr:Ah W (fun k=>k < W.heap.size) [] ψ0 args vs):Calls P f vs.toArray W fun e W'=>e= .returned u∧Below W.heap.size W W':=
 (h.2 W _ vs (fun _ h=>h) hr).mono fun e W' ⟨v,he,hb,_,_,_,_,hv⟩=>by
  unfold AV.rel at hv;exact⟨by rw[he,hv],hb⟩
theorem Abl{W:World}{S:Nat→Prop}{h:List ABlk}{ψ:Nat→Value}{cs:List Value}{f:Func}(hR:CX.RS W S cs f):AV.rel W S h ψ (.agg (Aq f)) (.agg cs.toArray):=by
 unfold AV.rel;exact⟨cs,rfl,EncOf.ok (T:=CX) W S h ψ cs f hR⟩
theorem Abm{W:World}{S:Nat→Prop}{h:List ABlk}{ψ:Nat→Value}{x:AV}{v:Value}(hv:AV.rel W S h ψ x v):Ah W S h ψ [x] [v]:=by
 unfold Ah;exact⟨v,[],rfl,hv,by unfold Ah;rfl⟩
theorem QO{W:World}{S:Nat→Prop}{h:List ABlk}{ψ:Nat→Value}{x:AV}{v:Value}{l:List AV}{vs:List Value}(hv:AV.rel W S h ψ x v)(hl:Ah W S h ψ l vs):Ah W S h ψ (x::l) (v::vs):=by
 unfold Ah;exact⟨v,vs,rfl,hv,hl⟩
end Mu
end
section
namespace Mu
structure M(α:Type) where
 run:Nat→Option α
 mono:∀n a,run n=some a→run (n+1)=some a
namespace M
variable{α β σ ρ:Type}
def to(x:M α)(a:α):Prop:=∃n,x.run n=some a
theorem le(x:M α){n m:Nat}{a:α}(h:n≤m)(hx:x.run n=some a):x.run m=some a:=by
 induction h with
 |refl=>exact hx
 |step _ ih=>exact x.mono _ _ ih
theorem to_inj{x:M α}{a b:α}(h:x.to a)(k:x.to b):a=b:=by
 obtain⟨n,hn⟩:=h;obtain⟨m,hm⟩:=k;have h1:=x.le (Nat.le_max_left n m) hn;have h2:=x.le (Nat.le_max_right n m) hm;rw[h1]at h2;exact Option.some.inj h2
def ok(a:α):M α:=⟨fun _=>some a,fun _ _ h=>h⟩
def no:M α:=⟨fun _=>none,fun _ _ h=>h⟩
def bnd(x:M α)(f:α→M β):M β:=⟨fun n=>(x.run n).bind fun a=>(f a).run n,fun n b h=>by
 cases hx:x.run n with
 |none=>rw[hx]at h;cases h
 |some a=>
  rw[hx]at h;rw[x.mono _ _ hx];exact(f a).mono _ _ h⟩
def chk(p:Bool)(x:M α):M α:=bif p then x else no
def cnd(c:Bool)(x y:M α):M α:=bif c then x else y
def whn(c:Bool)(d:α)(x:M α):M α:=bif c then x else ok d
def els(x:M (α⊕β))(f:α→M β):M β:=bnd x fun| .inl a=>f a| .inr b=>ok b
def loopR(step:σ→M (σ⊕ρ))(n:Nat):Nat→σ→Option ρ
 |0,_=>none
 |k+1,s=>((step s).run n).bind fun| .inl s'=>loopR step n k s'| .inr r=>some r
theorem loopR_mono{step:σ→M (σ⊕ρ)}{n:Nat}{r:ρ}:∀{k:Nat} {s:σ},loopR step n k s=some r→loopR step (n+1) (k+1) s=some r
 |0,_,h=>by cases h
 |k+1,s,h=>by
  unfold loopR at h⊢;cases hx:(step s).run n with
  |none=>rw[hx]at h;cases h
  |some x=>
   rw[hx]at h;rw[(step s).mono _ _ hx];cases x with
   |inl s'=>exact loopR_mono (k:=k) h
   |inr r'=>exact h
def loop(step:σ→M (σ⊕ρ))(s:σ):M ρ:=⟨fun n=>loopR step n n s,fun _ _ h=>loopR_mono h⟩
theorem to_ok{a b:α}:(ok a).to b↔a=b:=⟨fun⟨_,h⟩=>Option.some.inj h,fun h=>⟨0,congrArg some h⟩⟩
theorem ok_to(a:α):(ok a).to a:=to_ok.2 rfl
theorem to_no{a:α}:¬(no:M α).to a:=fun⟨_,h⟩=>by cases h
theorem to_bnd{x:M α}{f:α→M β}{b:β}:(bnd x f).to b↔∃a,x.to a∧(f a).to b:=by
 constructor
 ·rintro⟨n,h⟩;have h:(x.run n).bind (fun a=>(f a).run n)=some b:=h;cases hx:x.run n with
  |none=>rw[hx]at h;cases h
  |some a=>
   rw[hx]at h;exact⟨a,⟨n,hx⟩,⟨n,h⟩⟩
 ·rintro⟨a,⟨n,hn⟩,⟨m,hm⟩⟩;refine⟨max n m,?_⟩;show(x.run (max n m)).bind _=_;rw[x.le (Nat.le_max_left n m) hn];exact(f a).le (Nat.le_max_right n m) hm
theorem bnd_to{x:M α}{f:α→M β}{a:α}{b:β}(h:x.to a)(k:(f a).to b):(bnd x f).to b:=to_bnd.2 ⟨a,h,k⟩
theorem to_chk{p:Bool}{x:M α}{a:α}:(chk p x).to a↔p=true∧x.to a:=by
 cases p
 ·exact⟨fun h=>(to_no h).elim,fun h=>by cases h.1⟩
 ·exact⟨fun h=>⟨rfl,h⟩,fun h=>h.2⟩
theorem chk_to{p:Bool}{x:M α}{a:α}(h:p=true)(k:x.to a):(chk p x).to a:=to_chk.2 ⟨h,k⟩
theorem to_t{c:Bool}{x y:M α}{a:α}(hc:c=true)(h:(cnd c x y).to a):x.to a:=by subst hc;exact h
theorem to_f{c:Bool}{x y:M α}{a:α}(hc:c=false)(h:(cnd c x y).to a):y.to a:=by subst hc;exact h
theorem t_to{c:Bool}{x y:M α}{a:α}(hc:c=true)(h:x.to a):(cnd c x y).to a:=by subst hc;exact h
theorem f_to{c:Bool}{x y:M α}{a:α}(hc:c=false)(h:y.to a):(cnd c x y).to a:=by subst hc;exact h
theorem to_whn{c:Bool}{d:α}{x:M α}{a:α}(h:(whn c d x).to a)(hc:c=true):x.to a:=by subst hc;exact h
theorem whn_t{c:Bool}{d:α}{x:M α}{a:α}(hc:c=true)(h:x.to a):(whn c d x).to a:=by subst hc;exact h
theorem whn_f{c:Bool}{d:α}{x:M α}(hc:c=false):(whn c d x).to d:=by subst hc;exact ok_to d
theorem to_els{x:M (α⊕β)}{f:α→M β}{b:β}(h:(els x f).to b):∃z,x.to z∧(∀a,z= .inl a→(f a).to b)∧∀b',z= .inr b'→b'=b:=by
 obtain⟨z,h1,h2⟩:=to_bnd.1 h;refine⟨z,h1,fun a e=>?_,fun b' e=>?_⟩
 ·subst e;exact h2
 ·subst e;exact to_ok.1 h2
theorem els_l{x:M (α⊕β)}{f:α→M β}{a:α}{b:β}(h:x.to (.inl a))(k:(f a).to b):(els x f).to b:=to_bnd.2 ⟨.inl a,h,k⟩
theorem els_r{x:M (α⊕β)}{f:α→M β}{b:β}(h:x.to (.inr b)):(els x f).to b:=to_bnd.2 ⟨.inr b,h,ok_to b⟩
inductive Rounds (step:σ→M (σ⊕ρ)):Nat→σ→ρ→Prop
 |out {k:Nat} {s:σ} {r:ρ}:(step s).to (.inr r)→Rounds step k s r
 |on {k:Nat} {s s':σ} {r:ρ}:(step s).to (.inl s')→Rounds step k s' r→Rounds step (k+1) s r
theorem rounds_of{step:σ→M (σ⊕ρ)}{n:Nat}{r:ρ}:∀{k:Nat} {s:σ},loopR step n k s=some r→Rounds step k s r
 |0,_,h=>by cases h
 |k+1,s,h=>by
  unfold loopR at h;cases hx:(step s).run n with
  |none=>rw[hx]at h;cases h
  |some x=>
   rw[hx]at h;cases x with
   |inl s'=>exact .on ⟨n,hx⟩ (rounds_of (k:=k) h)
   |inr r'=>cases h;exact .out ⟨n,hx⟩
theorem loop_unf{step:σ→M (σ⊕ρ)}{s:σ}{r:ρ}{x:σ⊕ρ}(h:(step s).to x)(hn:∀s',x= .inl s'→(loop step s').to r)(hr:∀r',x= .inr r'→r'=r):(loop step s).to r:=by
 obtain⟨n,hx⟩:=h;cases x with
 |inr r'=>
  refine⟨n+1,?_⟩;show loopR step (n+1) (n+1) s=some r;unfold loopR;rw[(step s).mono _ _ hx,←hr r' rfl];rfl
 |inl s'=>
  obtain⟨m,hm⟩:=hn s' rfl;have hm:loopR step m m s'=some r:=hm;have up:∀d,loopR step (m+d) (m+d) s'=some r:=fun d=>by
   induction d with
   |zero=>exact hm
   |succ d ih=>exact loopR_mono ih
  refine⟨m+n+1,?_⟩;show loopR step (m+n+1) (m+n+1) s=some r;unfold loopR;rw[(step s).le (by omega) hx];have hw:∀{k q:Nat} {s:σ},loopR step q k s=some r→loopR step (q+1) k s=some r:=by
   intro k;induction k with
   |zero=>intro q s h;cases h
   |succ k ih=>
    intro q s h;unfold loopR at h⊢;cases hx:(step s).run q with
    |none=>rw[hx]at h;cases h
    |some x=>
     rw[hx]at h;rw[(step s).mono _ _ hx];cases x with
     |inl s'=>exact ih h
     |inr r'=>exact h
  exact hw (up n)
theorem loop_in{step:σ→M (σ⊕ρ)}{s s':σ}{r:ρ}(h:(step s).to (.inl s'))(k:(loop step s').to r):(loop step s).to r:=loop_unf h (fun a e=>by cases e;exact k) fun a e=>by cases e
theorem loop_out{step:σ→M (σ⊕ρ)}{s:σ}{r:ρ}(h:(step s).to (.inr r)):(loop step s).to r:=loop_unf h (fun a e=>by cases e) fun a e=>by cases e;rfl
theorem to_loop{step:σ→M (σ⊕ρ)}{s:σ}{r:ρ}:(loop step s).to r↔∃k,Rounds step k s r:=by
 constructor
 ·rintro⟨n,h⟩;exact⟨n,rounds_of h⟩
 ·rintro⟨k,h⟩;induction h with
  |out h=>exact loop_out h
  |on h _ ih=>exact loop_in h ih
theorem loop_for{step:σ→M (σ⊕ρ)}(F:Nat→σ)(n:Nat){r:ρ}(hs:∀k,k < n→(step (F k)).to (.inl (F (k+1))))(ho:(step (F n)).to (.inr r)):∀{j:Nat},j≤n→(loop step (F j)).to r:=by
 intro j hj;obtain⟨d,rfl⟩:∃d,n=j+d:=⟨n - j,by omega⟩
 induction d generalizing j with
 |zero=>exact loop_out ho
 |succ d ih=>
  refine loop_in (hs j (by omega)) (ih (j:=j+1) ?_ ?_ ?_)
  ·intro k hk;exact hs k (by omega)
  ·have e:j+1+d=j+(d+1):=by omega
   rw[e];exact ho
  ·omega
end M
abbrev Ab:=@M.to_chk
abbrev Ac:=@M.to_ok
abbrev Ae:=@M.ok_to
abbrev Af:=@M.chk_to
abbrev Ag:=@M.bnd_to
abbrev Al:=@M.to_bnd
abbrev Ax:=@M.t_to
abbrev Aw:=@M.f_to
abbrev Au:=@M.to_t
abbrev Av:=@M.to_f
abbrev BC:=@M.whn_t
abbrev Sf:=@M.to_loop
abbrev Bz:=@M.loop_for
abbrev Js:=@M.to_inj
abbrev Cc:=@M.to_els
end Mu
end
section
namespace Mu
open Go Go.RowKit Go.ChangeShapes Go.WideShapes
section
variable{P:Program}{C:Ctx}{t:List AV}{h:List ABlk}{o:Oper}
end
end Mu
end
section
namespace Mu
open Go Go.RowKit
section
variable{P:Program}{C:Ctx}{t t':List AV}{h:List ABlk}{o:Oper}{r:AV}{ops:Array Oper}{rest:List Oper}{K:St→Prop}
theorem Ai5{j:Nat}{want q c:Bool}(ho:o.guard=some (j,want))(hd:((ops[j]?).bind (·.dst)).bind (t[·]?)=some (cond q (.lit (.bool c)) (.lit undef))):gA ops t o=some (q&&(c ==want)):=by
 unfold gA;rw[ho];simp only;rw[hd];cases q <;> rfl
theorem Ak2{g:Bool}(hg:gA ops t o=some g)(hq:g=true→AX P C t h o r):FI P C ops h o (cond g r (.lit undef)) t:=by
 cases g with
 |true=>exact .inl ⟨hg,hq rfl⟩
 |false=>exact .inr ⟨hg,rfl⟩
theorem sG{g:Bool}(hk:Dj P C ops K rest ⟨t',h⟩)(hg:gA ops t o=some g:=by first|rfl|exact Ai5 rfl rfl)(hq:g=true→AX P C t h o r:=by(intro hg;(try simp only[Bool.and_eq_true,beq_iff_eq]at hg);(try simp only[hg,cond_true,Bool.true_and,beq_self_eq_true]);(first|exact Ap rfl rfl rfl rfl|exact Ao rfl rfl rfl rfl|exact AX.pickOr' rfl rfl rfl rfl|exact AX.pickAnd' rfl rfl rfl rfl|exact qt)))(ht:BH t o.dst (cond g r (.lit undef))=t':=by((try simp only[BH,List.set_cons_zero,List.set_cons_succ]);exact rfl)):Dj P C ops K (o::rest) ⟨t,h⟩:=by
 subst ht;cases g with
 |true=>exact Aac hg (hq rfl) hk
 |false=>exact Nw hg hk
theorem qG{K:List AV→Prop}{g:Bool}(hk:aQ P C ops h K rest t')(hg:gA ops t o=some g:=by first|rfl|exact Ai5 rfl rfl)(hq:g=true→AX P C t h o r:=by(intro hg;(try simp only[Bool.and_eq_true,beq_iff_eq]at hg);(try simp only[hg,cond_true,Bool.true_and,beq_self_eq_true]);(first|exact Ap rfl rfl rfl rfl|exact Ao rfl rfl rfl rfl|exact AX.pickOr' rfl rfl rfl rfl|exact AX.pickAnd' rfl rfl rfl rfl|exact qt)))(ht:BH t o.dst (cond g r (.lit undef))=t':=by((try simp only[BH,List.set_cons_zero,List.set_cons_succ]);exact rfl)):aQ P C ops h K (o::rest) t:=by
 subst ht;exact⟨_,Ak2 hg hq,hk⟩
theorem Ap{c a b:Operand}{q e:Bool}(ho:o.op= .pick c a b)(hc:evA t c= .lit (.bool q))(ha:evA t a= .lit (.bool true))(hb:evA t b=cond (q ==false) (.lit (.bool e)) (.lit undef)):AX P C t h o (.lit (.bool (q||e))):=by
 refine AX.pick ho hc ?_;cases q
 ·exact hb
 ·exact ha
theorem Ao{c a b:Operand}{q e:Bool}(ho:o.op= .pick c a b)(hc:evA t c= .lit (.bool q))(ha:evA t a=cond (q ==true) (.lit (.bool e)) (.lit undef))(hb:evA t b= .lit (.bool false)):AX P C t h o (.lit (.bool (q&&e))):=by
 refine AX.pick ho hc ?_;cases q
 ·exact hb
 ·exact ha
end
section
variable{P:Program}{C:Ctx}{id:Nat}{l:List Oper}{y:Code}{Q:Exit→St→Prop}{t t':List AV}{h h':List ABlk}
theorem rC(hk:Q .normal ⟨t',h'⟩)(hx:Dj P C l.toArray (fun s=>s=⟨t',h'⟩) l ⟨t,h⟩:=by((repeat(first|refine sQ (hq:=Ap rfl rfl rfl rfl) ?_|refine sQ (hq:=Ao rfl rfl rfl rfl) ?_|refine sQ ?_|refine AW ?_|refine sG ?_|refine BQ (hk:=?_)));exact Gq rfl)):Awp P C (.region id l.toArray false) Q ⟨t,h⟩:=Awp.region (Dx (fun s e=>by subst e;exact hk) hx)
theorem rCS(hk:Awp P C y Q ⟨t',h'⟩)(hx:Dj P C l.toArray (fun s=>s=⟨t',h'⟩) l ⟨t,h⟩:=by((repeat(first|refine sQ (hq:=Ap rfl rfl rfl rfl) ?_|refine sQ (hq:=Ao rfl rfl rfl rfl) ?_|refine sQ ?_|refine AW ?_|refine sG ?_|refine BQ (hk:=?_)));exact Gq rfl)):Awp P C (.seq (.region id l.toArray false) y) Q ⟨t,h⟩:=Ad fun _ hK=>Awp.region (Dx (fun s e=>by subst e;exact hK _ hk) hx)
end
end Mu
end
section
namespace Mu
open Go Go.RowKit Go.Proofs
section
variable{P:Program}{C:Ctx}{o:Oper}{t:List AV}{h:List ABlk}
end
end Mu
end
section
namespace Mu
open Go Go.RowKit Go.ChangeShapes Go.WideShapes Go.Proofs
class IntT(P:Program)(ty:TypeId)(k:outParam IntKind):Prop where
 eq:P.underlying ty=some (.int k)
class BoolT(P:Program)(ty:TypeId):Prop where
 eq:P.underlying ty=some .bool
section
variable{P:Program}{C:Ctx}{o:Oper}{t:List AV}{h:List ABlk}
theorem NA{xt yt:TypeId}{x y:Operand}{a b q:Bool}[BoolT P xt](ho:o.op= .binOp .neq xt x y yt)(hx:evA t x= .lit (.bool a))(hy:evA t y= .lit (.bool b))(hq:(a !=b)=q):AX P C t h o (.lit (.bool q)):=
 AR fun S ψ w ρ _ hρ=>by
  have h1:=hρ x (by simp[ho,Op.operands]);have h2:=hρ y (by simp[ho,Op.operands]);rw[hx]at h1;rw[hy]at h2;unfold AV.rel at h1 h2;refine⟨.bool (a !=b),?_,by rw[hq];unfold AV.rel;rfl⟩;simp[execOp,ho,h1,h2,eqGuard,binOp,run_equal_bool _ _ _ _ (BoolT.eq (P:=P) (ty:=xt)),bne]
end
instance Ahy:BoolT Tryz.prog 4:=⟨by kernel_rfl⟩
instance Ahx:IntT Tryz.prog 3 .i64:=⟨by kernel_rfl⟩
end Mu
end
section
namespace Mu
open Go Go.RowKit Go.Proofs
end Mu
end
