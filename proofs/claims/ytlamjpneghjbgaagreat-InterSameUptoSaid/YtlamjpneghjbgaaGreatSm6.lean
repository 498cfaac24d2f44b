/-
  Own texts laid together, part 6: MuCross, ShelfB, MuLaw17A, MuHint, MuReads2, MuRef14A, MuRef14B, MuOwnC, MuRef14C, MuRef12, MuLaw17B, MuLaw17C, MuRef14D, MuRef14E, MuRef14P, MuChkP, MuOpen, MuRowN, MuRowP, MuLaw17P, MuChkQ, MuRef14F, MuRef14G, MuBound, MuBound2, MuRef18A, MuRef18B, MuRef21P, MuCross18P, MuRef18C, MuEdgeP, MuEdgeM, MuSmP, MuPut, MuEdges, ShelfP, MuSortP, MuListP, MuEdgesF, MuWrapF, MuR18S, MuWrapE, MuHead18, MuLaw17D, MuBound3, MuOfP, MuLaw18M, MuInterS.
  Conditions: as each part says.
-/
import Derived.Test.YtlamjpneghjbgaaGreatSm5
import Derived.Shelf.Small.Bits
import Derived.Shelf.Small.Wraps
import Derived.Shelf.Strconv.Itoa0
import Derived.Shelf.Strconv.Itoa1
import Derived.Shelf.LaysM
import Derived.Shelf.Strconv.Itoa2
import Derived.Shelf.Strconv.Itoa3
import Derived.Ground.Names2Prog
import Derived.Shelf.Slices.SearchI
import Derived.Shelf.Slices.Empties
import Derived.Test.YtlamjpneghjbgaaGreatProg
import Derived.Test.YtlamjpneghjbgaaGreatRows
import Derived.Carry
import Derived.OpenShut
import Derived.ProofKit
import Derived.Shelf.SlSortCmp.WholeK
import Derived.Shelf.SlSortCmp.NoneTotal
import Derived.Shelf.SlicesG.Cmp
import Derived.Ground.SlsfProg
import Derived.Ground.SlgcProg
import Derived.StillTailTactics
import Derived.WalkKit
set_option maxRecDepth 100000
set_option maxHeartbeats 4000000
set_option linter.unusedSimpArgs false
set_option linter.unusedVariables false
section
namespace Mu
open Go Go.RowKit Go.Proofs Go.Maps
instance Aj6:AG Tryz.prog 152 false 1:=⟨by kernel_rfl⟩
instance Aj5:SZ Tryz.prog 152 1:=⟨by kernel_rfl⟩
instance Aj4:ZC Tryz.prog 152 [.map none]:=⟨by kernel_rfl⟩
def J8(q:Ins×List Int):List Int:=if q.1.op !=5&&q.1.op !=7 then []else q.2.filter fun r=>q.1.op ==7||r !=q.1.d
def FC(f:Func)(k:Nat):Int→Bool:=addL (fun _=>false) (((stepsL f).take k).flatMap J8)
def Aca(f:Func):List Int:=(Bg f).filter (FC f (stepsL f).length)
theorem R6(S:Int→Bool)(l m:List Int):addL S (l++m)=addL (addL S l) m:=by
 funext x;simp only[addL,List.contains_eq_mem,List.mem_append,Bool.decide_or,Bool.or_assoc]
theorem RN{f:Func}{k:Nat}{q:Ins×List Int}(h:(stepsL f)[k]? =some q):FC f (k+1)=addL (FC f k) (J8 q):=by
 unfold FC;rw[List.take_add_one,h,Option.toList_some,List.flatMap_append,R6];simp
theorem Fp{f:Func}{q:Ins×List Int}(h:q∈stepsL f):(∃b∈f.blocks,q.1∈b.ins)∧(∀r∈q.2,r∈Bg f)∧q.2.length≤(Bg f).length:=by
 unfold stepsL at h;obtain⟨b,hb,hq⟩:=List.mem_flatMap.1 h;have hb:=List.mem_range.1 hb;unfold Fq at hq;have h1:=(List.of_mem_zip (a:=q.1) (b:=q.2) hq)
 obtain⟨bl,hbl⟩:∃bl,f.blocks[b]? =some bl:=⟨_,List.getElem?_eq_getElem hb⟩
 have hins:BW f b=bl.ins:=by unfold BW;rw[hbl]
 have h2:=List.mem_of_mem_drop h1.2;unfold BU at h2;obtain⟨i,_,e⟩:=List.mem_map.1 h2;refine⟨⟨bl,List.mem_of_getElem? hbl,by rw[←hins];exact h1.1⟩,fun r hr=>?_,by rw[←e];exact List.length_filter_le _ _⟩;rw[←e]at hr;unfold Cg at hr;exact(List.mem_filter.1 hr).1
theorem UL{q:Ins×List Int}{L:List Int}(h:∀r∈q.2,r∈L):∀r∈J8 q,r∈L:=fun r hr=>by
 unfold J8 at hr;split at hr
 ·cases hr
 ·exact h r (List.mem_filter.1 hr).1
theorem Qb(f:Func)(k:Nat):InR (Bg f) (FC f k):=⟨fun x _ hx=>by
 unfold FC addL at hx;simp only[Bool.false_or,List.contains_iff_mem]at hx;obtain⟨q,hq,hx⟩:=List.mem_flatMap.1 hx;exact UL (Fp (List.mem_of_mem_take hq)).2.1 x hx⟩
def Gg(S:Int→Bool)(q:Ins×List Int)(i:Nat):Int→Bool:=addL S ((q.2.take i).filter fun r=>q.1.op ==7||r !=q.1.d)
theorem RO(S:Int→Bool)(q:Ins×List Int):Gg S q 0=S:=by
 unfold Gg;rw[List.take_zero,List.filter_nil,KQ]
theorem UK{S:Int→Bool}{q:Ins×List Int}{i:Nat}{r:Int}(h:q.2[i]? =some r)(hq:(q.1.op ==7||r !=q.1.d)=true):Gg S q (i+1)=Aag (Gg S q i) r:=by
 unfold Gg;rw[List.take_add_one,h,Option.toList_some,List.filter_append,List.filter_cons,hq,List.filter_nil];simp only[if_true];exact L6 _ _ _
theorem XL{S:Int→Bool}{q:Ins×List Int}{i:Nat}{r:Int}(h:q.2[i]? =some r)(hq:(q.1.op ==7||r !=q.1.d)=false):Gg S q (i+1)=Gg S q i:=by
 unfold Gg;rw[List.take_add_one,h,Option.toList_some,List.filter_append,List.filter_cons,hq,List.filter_nil];simp
theorem XM{S:Int→Bool}{q:Ins×List Int}{L:List Int}(h:InR L S)(hq:∀r∈q.2,r∈L)(i:Nat):InR L (Gg S q i):=h.addL fun r hr=>hq r (List.mem_of_mem_take (List.mem_filter.1 hr).1)
theorem ZY(f:Func)(ho:okFunc f)(hs:smallF f)(hT:(B3 f).length≤2097152)(hi1:∀b∈f.blocks,b.ins.length+1≤2097152):Fn Tryz.prog 75 [.agg (Ak f)] (.bs tInt (Aca f)):=by
 have hbl:=hs.blocks;have hRR:=NS f ho hT;have hLl:(Bg f).length≤2097152:=Nat.le_trans (Gy _) hT;refine FK Tryz.func75 rfl (by kernel_rfl) rfl Tryz.ntmps75 fun C hC hrd=>?_
 refine nS ?_;refine Ac fun K1 h1=>?_
 refine rC ?_;refine h1 _ ?_;refine nT ?_;refine Ac fun K2 h2=>?_
 (refine Awp.region ?_;(repeat(first|refine sQ ?_ (AH rfl rfl rfl rfl)|refine sQ ?_ (Ay rfl rfl rfl rfl)|refine sQ ?_|refine AO ?_|refine sG ?_|refine B6 ?_)))
 refine Ao rfl (QO rfl fun m=>?_);refine sNt ?_
 (repeat(first|refine sQ ?_ (AH rfl rfl rfl rfl)|refine sQ ?_ (Ay rfl rfl rfl rfl)|refine sQ ?_|refine AO ?_|refine sG ?_|refine B6 ?_))
 refine Ar ?_;refine h2 _ ?_;refine nT ?_;refine Bv 3 rfl rfl rfl (fun g=>(.agg (Ak f)::.ptr 1 0::.any::.lit (.pointer (some ⟨g,0,none⟩))::A4 (.lit (.map (some m))::A20 (A10 (A3 []))))) (fun g=>(by(repeat(first|exact OpnB.nil|refine OpnB.ptr ?_|refine OpnB.any ?_|refine OpnB.keep rfl ?_)))) fun g3=>?_
 refine Ac fun K3 h3=>?_
 refine Ac fun K4 h4=>?_
 (refine Awp.region ?_;(repeat(first|refine sQ ?_ (AH rfl rfl rfl rfl)|refine sQ ?_ (Ay rfl rfl rfl rfl)|refine sQ ?_|refine AO ?_|refine sG ?_|refine B6 ?_)))
 refine Ao rfl (Co rfl (KY f) (fun _=>rfl) rfl rfl fun p=>?_);refine sNt ?_;refine Ar ?_;refine h4 _ ?_;refine nT ?_;refine Af ?_;refine As ⟨(.agg (Ak f)::A2 (.lit (.pointer (some ⟨g3,0,none⟩))::A6 (.lit (stF p)::A20 (A10 [.any])))),[.res (Bq []),.dead,.res (G3 (FC f 0) m),.res (Bn g3 [.lit (.map (some m))]),.res (Bn p (Ak f))]⟩ (Fb (.cons (.dead (.cons (.cons (.cons (Cut.nil _))))))) ?_;refine FN 4 0 (fun k=>[.dead,.dead,.res (G3 (FC f k) m),.res (Bn g3 [.lit (.map (some m))]),.dead]) hrd (by kernel_rfl) (by decide) rfl rfl rfl ?hdrop rfl (fun _=>rfl) (fun _=>rfl) rfl (VV f) (Q8 f) (Jl f ho hs hT hi1 p) ?hround ?hdone
 case hdrop=>
  exact⟨Cut.dead (Cut.cons (Cut.cons (Cut.cons (Cut.dead (Cut.nil _))))),fun b hb=>List.all_eq_true.1 (show bdH [.dead,.dead,.res (G3 (FC f 0) m),.res (Bn g3 [.lit (.map (some m))]),.dead]=true from rfl) b hb⟩
 case hround=>
  intro k hk C' hr';obtain⟨q,hq⟩:∃q,(stepsL f)[k]? =some q:=⟨_,List.getElem?_eq_getElem hk⟩
  obtain⟨⟨bl,hbm,hxb⟩,hqr,hql⟩:=Fp (List.mem_of_getElem? hq);have hox:=(ho.blocks bl hbm).ins q.1 hxb;have hcs:=RN hq;have hin:=Qb f k;dsimp only;rw[SF hq];generalize hS0:FC f k=S0 at hcs hin⊢;refine Dr (t':=(.agg (Ak f)::A2 (.lit (.pointer (some ⟨g3,0,none⟩))::A6 (.lit (stF p)::.agg (AL q.1)::.bs tInt q.2::A20 (A9 []))))) rfl rfl ?_;refine Ac fun K6 h6=>?_
  refine rC ?_;refine h6 _ ?_;refine nT ?_;refine rC ?_;refine athen_n fun C'' hr''=>?_
  refine nT ?_;refine Af ?_;refine Ac fun K8 h8=>?_
  refine Ac fun K9 h9=>?_
  refine rC ?_;refine h9 _ ?_;refine nT ?_;refine Ae rfl (fun hb10=>?_) (fun hb10=>?_)
  ·have e:J8 q= []:=by unfold J8;rw[if_pos hb10]
   rw[hcs,e,KQ];refine Aq ?_;exact⟨rfl,⟨.cons (.cons (.cons (.cons (.cons (Cut.nil _))))),fun b hb=>List.all_eq_true.1 (show bdH [.dead,.dead,.res (G3 S0 m),.res (Bn g3 [.lit (.map (some m))]),.dead]=true from rfl) b hb⟩⟩
  ·have e:J8 q=q.2.filter fun r=>q.1.op ==7||r !=q.1.d:=by unfold J8;rw[if_neg (by rw[hb10];simp)]
   have hqi:=fun i=>XM hin hqr i
   refine Ag ?_;refine h8 _ ?_;refine nT ?_;refine Ac fun K11 h11=>?_
   refine rC ?_;refine h11 _ ?_;refine nT ?_;refine Af ?_;refine Au (fun i:Nat=>⟨(A3 (.lit (.pointer (some ⟨g3,0,none⟩))::.ptr 5 0::A10 (A6 (.bs tInt q.2::.lit (.int .i64 (q.2.length:Int))::.lit (.int .i64 (i:Int))::A10 (A8 []))))),[.dead,.dead,.res (G3 (Gg S0 q i) m),.res (Bn g3 [.lit (.map (some m))]),.dead,.box (AL q.1)]⟩) (fun i=>i≤q.2.length) (fun i=>q.2.length - i) 0 (Nat.zero_le _) (by rw[RO];exact Ce) ?_;intro i hi
   (try dsimp only at hi);(try dsimp only)
   refine Ac fun K13 h13=>?_
   refine rC ?_;refine h13 _ ?_;refine nT ?_;refine Ac fun K14 h14=>?_
   refine Ae rfl (fun hb15=>?_) (fun hb15=>?_)
   ·have hlt:i < q.2.length:=by simpa using hb15
    obtain⟨r,hr⟩:∃r,q.2[i]? =some r:=⟨_,List.getElem?_eq_getElem hlt⟩
    have hrw:=hRR.wf r (hqr r (List.mem_of_getElem? hr));refine Ag ?_;refine h14 _ ?_;refine nT ?_;refine Ac fun K16 h16=>?_
    refine Af ?_;refine Ac fun K17 h17=>?_
    refine rC ?_;refine h17 _ ?_;refine nT ?_;refine Ac fun K18 h18=>?_
    refine rC ?_;refine h18 _ ?_;refine nT ?_;refine Ae rfl (fun hb19=>?_) (fun hb19=>?_)
    ·have e2:=UK (S:=S0) hr hb19
     (refine Awp.region ?_;(repeat(first|refine sQ ?_ (AH rfl rfl rfl rfl)|refine sQ ?_ (Ay rfl rfl rfl rfl)|refine sQ ?_|refine AO ?_|refine sG ?_|refine B6 ?_)))
     refine Ao rfl (Aay 2 rfl Tryz.underlying152 rfl rfl rfl rfl hRR (hqi i) hrw ?_);refine sNt ?_;refine Ar ?_;refine h16 _ ?_;refine nT ?_;refine rC ?_;refine athen_n ⟨i+1,by omega,by omega,?_⟩;rw[e2];exact Ce
    ·have e2:=XL (S:=S0) hr hb19;refine Ag ?_;refine h16 _ ?_;refine nT ?_;refine rC ?_;refine athen_n ⟨i+1,by omega,by omega,?_⟩;rw[e2];exact Ce
   ·have hie:i=q.2.length:=by
     have:¬i < q.2.length:=by simpa using hb15
     omega
    subst hie;have e3:Gg S0 q q.2.length=FC f (k+1):=by rw[hcs,e];unfold Gg;rw[List.take_length]
    rw[e3];refine Aq ?_;exact⟨rfl,⟨.cons (.cons (.cons (.cons (.cons (Cut.nil _))))),fun b hb=>List.all_eq_true.1 (show bdH [.dead,.dead,.res (G3 (FC f (k+1)) m),.res (Bn g3 [.lit (.map (some m))]),.dead]=true from rfl) b hb⟩⟩
 case hdone=>
  intro D;refine h3 _ ?_;refine Dr (t':=(.agg (Ak f)::A2 (.lit (.pointer (some ⟨g3,0,none⟩))::A6 (.lit (stF p)::A20 (A10 [.any]))))) (h':=[.res (Bq [D]),.dead,.res (G3 (FC f (stepsL f).length) m),.res (Bn g3 [.lit (.map (some m))]),.dead]) rfl rfl ?_;refine Ac fun K20 h20=>?_
  (refine Awp.region ?_;(repeat(first|refine sQ ?_ (AH rfl rfl rfl rfl)|refine sQ ?_ (Ay rfl rfl rfl rfl)|refine sQ ?_|refine AO ?_|refine sG ?_|refine B6 ?_)))
  refine Ao rfl (Co rfl (WW m) (fun _=>rfl) rfl rfl fun p2=>?_);refine sNt ?_
  (repeat(first|refine sQ ?_ (Qx 5 2 rfl rfl rfl (TW p2 m _ _ hRR (Qb f _)) rfl rfl rfl)|refine sQ ?_ (AH rfl rfl rfl rfl)|refine sQ ?_ (Ay rfl rfl rfl rfl)|refine sQ ?_|refine AO ?_|refine sG ?_|refine B6 ?_))
  refine Ar ?_;refine h20 _ ?_;refine nT ?_;refine Aj ?_;exact⟨.inr rfl,[D],rfl,rfl,Fin.cl rfl⟩
end Mu
end
section
namespace Go.Proofs
open Go.Shelf
end Go.Proofs
end
section
namespace Mu
open Go Go.RowKit Go.Proofs
def Wz:ByteArray:=⟨#[]⟩
theorem Wy:Wz.size≤maxLen:=by decide
section
variable{P:Program}{C:Ctx}{t:List AV}{h:List ABlk}{o:Oper}
theorem Cc{ty:TypeId}{parts:Array (Nat×Operand)}{zs:List Value}{pl:List (Nat×Nat)}{rs:List AV}[ZC P ty zs](ho:o.op= .build ty parts)(hpl:Cf P ty=some pl)
 (hr:putCells pl (zs.map .lit) (parts.toList.map fun p=>(p.1,evA t p.2))=some rs) (h1:(parts.toList.all fun p=>Us (evA t p.2))=true):Av P C t h o (.agg rs):=
 Av.build ho ZC.eq hpl hr fun p hp=>Jf (List.all_eq_true.1 h1 p hp)
theorem Fit.agg{α:Type}{T:Ty α}{enc:α→List AV}{x:α}(hp:∀w S cs ψ,Ad w S h ψ (enc x) cs→T.RS w S cs x):Fit h T (.agg (enc x)) x:=fun C S ψ w v H hv=>by
 unfold AV.rel at hv;obtain⟨cs,rfl,hl⟩:=hv;exact hp w S cs ψ hl
end
def GJ(x:Ins):List AV:=[.lit (.int .u8 x.op),.lit (.int .i64 x.d),.lit (.int .i64 x.a),.lit (.int .i64 x.b),.lit (.int .u32 x.n),.lit (.int .i64 x.f),.lit (.slice none 0 0),.lit (.int .i64 x.l1),.lit (.int .i64 x.l2)]
theorem GZ{w:World}{S:Nat→Prop}{cs:List Value}{h:List ABlk}{ψ:Nat→Value}{x:Ins}(ho:okIns x)(ha:x.args= [])(H:Ad w S h ψ (GJ x) cs):Dj.RS w S cs x:=by
 refine F1 (h:=h) (ψ:=ψ) ho ?_;simp only[GJ,AL,Ad,AV.rel]at H⊢;obtain⟨_,_,rfl,rfl,_,_,rfl,rfl,_,_,rfl,rfl,_,_,rfl,rfl,_,_,rfl,rfl,_,_,rfl,rfl,_,_,rfl,rfl,_,_,rfl,rfl,_,_,rfl,rfl,rfl⟩:=H;rw[ha];exact⟨_,_,rfl,rfl,_,_,rfl,rfl,_,_,rfl,rfl,_,_,rfl,rfl,_,_,rfl,rfl,_,_,rfl,rfl,_,_,rfl,tInt.slice_nilS _ _,_,_,rfl,rfl,_,_,rfl,rfl,rfl⟩
theorem Rt:Cf Tryz.prog 40=some [(0,1),(1,1),(2,1),(3,1),(4,1),(5,1),(6,1),(7,1),(8,1)]:=by kernel_rfl
theorem Ada:Cf Tryz.prog 48=some [(0,1),(1,1)]:=by kernel_rfl
theorem Akr:Cf Tryz.prog 45=some [(0,1),(1,1),(2,1),(3,1)]:=by kernel_rfl
end Mu
end
section
namespace Mu
open Go Go.RowKit Go.Proofs Go.Shelf
section
variable{N S:Nat→Prop}{w:World}{h:List ABlk}{ψ:Nat→Value}{v:Value}{ver:Nat}{l:List Int}
theorem YT(H:Ho N w S h ψ v (.row ver 3 tInt l)):Ks w 0 v l∧Bo l:=by
 obtain⟨cells,h1,_,h2,_⟩:=H;have hl:cells.length=l.length:=by have:=h1.1;rw[show tInt.size=1 from rfl,Nat.mul_one]at this;exact this
 have hget:∀i d,l[i]? =some d→cells[i]? =some (Value.int .i64 d)∧wfI .i64 d:=fun i d hd=>by
  obtain⟨e,hw⟩:=JX.1 (h2 i d hd);rw[show tInt.size=1 from rfl,Nat.mul_one,List.take_one,List.head?_drop]at e;cases hc:cells[i]? with
  |none=>rw[hc]at e;cases e
  |some c=>
   rw[hc]at e;simp only[Option.toList_some,List.cons.injEq,and_true]at e;exact⟨by rw[e],hw⟩
 have hc:cells=l.map (Value.int .i64):=by
  apply List.ext_getElem?;intro i;by_cases hi:i < l.length
  ·rw[List.getElem?_map,List.getElem?_eq_getElem hi];exact(hget i _ (List.getElem?_eq_getElem hi)).1
  ·rw[List.getElem?_eq_none (by omega),List.getElem?_eq_none (by simp;omega)]
 refine⟨.of h1 rfl hc,fun r hr=>?_⟩;obtain⟨i,hi⟩:=List.mem_iff_getElem?.1 hr;exact(hget i r hi).2
theorem Zc{base:Nat}(hO:Ks w base v l)(hw:Bo l)(hN:∀g,v.ownBlock=some g→¬N g∧¬S g):Ho N w S h ψ v (.row ver 3 tInt l):=by
 refine⟨_,hO.mono (Nat.zero_le _),by decide,fun i d hd=>?_,hN⟩;show tInt.RS w S (((l.map (Value.int .i64)).drop (i * 1)).take 1) d;have hi:(l.map (Value.int .i64))[i]? =some (.int .i64 d):=by rw[List.getElem?_map,hd];rfl
 rw[Nat.mul_one,List.take_one,List.head?_drop,hi];exact JX.2 ⟨rfl,hw d (List.mem_of_getElem? hd)⟩
end
theorem Rz{l:List Int}(h:Bo l):Bo (l.mergeSort fun x y=>decide (x≤y)):=fun r hr=>h r ((List.mergeSort_perm l _).mem_iff.1 hr)
section
variable{C:Ctx}{t:List AV}{h:List ABlk}{o:Oper}{K:St→Prop}
theorem Sr{x:Operand}{tys:Array TypeId}{i ver:Nat}{l:List Int}(ho:o.op= .call {callee:=.value (.func 88),args:=#[x],argTypes:=tys})(hx:evA t x= .own i ver)(hi:h[i]? =some (.row ver 3 tInt l))(hl:l.length≤2147483648)
 (hK:K ⟨AJ t o.dst .any,h.set i (.row ver 3 tInt (l.mergeSort fun x y=>decide (x≤y)))⟩):AOp Tryz.prog C o ⟨t,h⟩ K:=by
 rintro Q' a w ⟨hd,S,ψ,H,hl'⟩;refine⟨fun c e=>(by rw[ho]at e;cases e),?_⟩;have hx':=Ba hl' x;rw[show evA (St.mk t h).t x= .own i ver from hx]at hx';unfold AV.rel at hx';have hv:=(hx'.2 _ (by rw[hi];rfl)).2 rfl;have hBi:=H.blk i _ hi;have hlt:=hBi.lt rfl;obtain⟨hO,hw⟩:=YT hBi;unfold Oper.wp;rw[CJ ho (by kernel_rfl) a.eval w rfl];simp only[Oper.upon];rw[show(#[x].map a.eval)= #[ψ i]from by simp[hv]];refine(YR hO hl).mono ?_;rintro r w' ⟨rfl,hO',hgr⟩;have hgr':w.grownBy w' (BX (ψ i)):=by
  have e:BX (ψ i)=(ψ i).ownBlock:=by
   rcases hO.2 with⟨e,_⟩|⟨g,cap,cur,e,_⟩ <;> rw[e] <;> rfl
  rw[e];exact hgr
 have hblk:∀k,S k→w'.heap[k]? =w.heap[k]?:=fun k hk=>hgr'.block k (H.lt k hk) fun e=>(hlt k e.symm).2.2 hk
 have X:Ext w S h ψ w' S (h.set i (.row ver 3 tInt (l.mergeSort fun x y=>decide (x≤y)))) (Bk ψ i (ψ i)):=Ext.set hblk hi (fun c' hc=>by
  simp only[ABlk.ver,Option.some.injEq]at hc;exact⟨ver,rfl,by omega,fun _=>⟨rfl,rfl⟩⟩) fun h=>by simp[AN]at h
 exact⟨_,hK,JZ (s:=⟨t,h⟩) hi hd hl' (H.set hi rfl (BC hgr') X (Zc hO' (Rz hw) fun g hg=>⟨(hlt g (AR hg)).1,(hlt g (AR hg)).2.2⟩) fun g hg=>.inl hg) X (by unfold AV.rel;trivial)⟩
end
theorem Sc{C:Ctx}{t:List AV}{h:List ABlk}(j:Nat){α:Type}(T:Ty α)(hj:t[j]? =some (.lit (.slice none 0 0))):St.le C ⟨t,h⟩ ⟨t.set j (.bs T []),h⟩:=fun a w ⟨hd,S,ψ,H,hl⟩=>by
 refine⟨hd,S,ψ,H,?_⟩;obtain⟨v,hv,hr⟩:=Bl hl hj;unfold AV.rel at hr;subst hr;have:=DE hl j (x:=.bs T []) (v:=.slice none 0 0) (by unfold AV.rel;exact T.slice_nilS _ _);rwa [show a.tmps.toList.set j (.slice none 0 0)=a.tmps.toList from List.ext_getElem? fun k=>by
  by_cases hk:j=k
  ·subst hk;rw[List.getElem?_set_self (List.getElem?_eq_some_iff.1 hv).1,hv]
  ·rw[List.getElem?_set_ne hk]]at this
end Mu
end
section
namespace Mu
open Go Go.RowKit Go.Proofs
section
variable{w w':World}{cs:List Value}{T:TypeId}
end
def BL(x:Ins):List Int:=readsC x++if Az x then [x.d]else []
theorem KC{x:Ins}(h:okIns x):Bo (BL x):=fun r hr=>by
 rcases List.mem_append.1 hr with hr|hr
 ·exact Ep h r hr
 ·split at hr
  ·simp only[List.mem_singleton]at hr;subst hr;exact h.d
  ·cases hr
instance:StrT Tryz.prog 9:=⟨by kernel_rfl⟩
instance:AG Tryz.prog 71 false 1:=⟨by kernel_rfl⟩
instance:SZ Tryz.prog 71 1:=⟨by kernel_rfl⟩
instance:ES Tryz.prog 71 1:=⟨by kernel_rfl⟩
instance:SL Tryz.prog 71:=⟨by kernel_rfl⟩
instance:RT Tryz.prog 71 78 1 24:=⟨by kernel_rfl⟩
section
variable{P:Program}{C:Ctx}{t:List AV}{h:List ABlk}{o:Oper}
end
end Mu
end
section
namespace Mu
open Go Go.RowKit Go.ChangeShapes Go.WideShapes Go.Proofs
theorem Zv:laidOutB Tryz.prog=true:=by kernel_rfl
mutual
theorem RX{H:Type}:∀d:DataW H,Ez d≤YtlamjpneghjbgaaGreat.Rows.uptoBulk d
 | .lit (.string _)=>Nat.le_refl _
 | .lit (.bool _)=>Nat.le_refl _
 | .lit (.int _ _)=>Nat.le_refl _
 | .lit (.float _ _)=>Nat.le_refl _
 | .lit .nil=>Nat.le_refl _
 | .nil=>Nat.le_refl _
 | .ptr d=>by show 1≤YtlamjpneghjbgaaGreat.Rows.uptoBulk d+1;omega
 | .slice e s=>by
  have h1:=KN e;have h2:=KN s;show Ez.go e+Ez.go s+1≤YtlamjpneghjbgaaGreat.Rows.uptoBulkAll e+YtlamjpneghjbgaaGreat.Rows.uptoBulkAll s+1;omega
 | .agg p=>by
  have h1:=KN p;show Ez.go p+1≤YtlamjpneghjbgaaGreat.Rows.uptoBulkAll p+1;omega
 | .iface _ d=>by show 1≤YtlamjpneghjbgaaGreat.Rows.uptoBulk d+1;omega
 | .map m=>by show 1≤YtlamjpneghjbgaaGreat.Rows.uptoBulkEntries m+1;omega
 | .held _=>Nat.le_refl _
theorem KN{H:Type}:∀l:List (DataW H),Ez.go l≤YtlamjpneghjbgaaGreat.Rows.uptoBulkAll l
 | []=>Nat.le_refl _
 |d::r=>by
  have h1:=RX d;have h2:=KN r;show Ez d+Ez.go r≤YtlamjpneghjbgaaGreat.Rows.uptoBulk d+YtlamjpneghjbgaaGreat.Rows.uptoBulkAll r;omega
end
theorem Wo{α:Type}{t:TypeId}{T:Ty α}{H:Type}{enc:TypeId×Value→H}{W:World}{v:Value}{d:DataW H}{p:List MemPlace}(ho:Opens Tryz.prog t T)(hs:1 < T.size)
 (h:DataW.Trod enc Tryz.prog W 0 (fun _=>true) true t v d p) (hp:∀x∈p,x.block < W.heap.size):
 ∃cs x,v= .agg cs.toArray∧T.R W W.heap.size cs x∧T.bulk x≤YtlamjpneghjbgaaGreat.Rows.uptoBulk d:=by
 obtain⟨fuel,hf⟩:=h;obtain⟨x,hR,hb⟩:=ho.go H enc W 0 _ true fuel _ (d,p) W.heap.size hf hp;have hl:=T.len hR;refine⟨v.cells.toList,x,?_,hR,Nat.le_trans hb (RX d)⟩;cases v <;> first
  |(simp[Value.cells]at hl;omega)
  |simp[Value.cells]
theorem Zf{α:Type}{t:TypeId}{T:Ty α}{H:Type}{enc:TypeId×Value→H}{W:World}{v:Value}{d:DataW H}{p:List MemPlace}(ho:Opens Tryz.prog t T)
 (h:DataW.Trod enc Tryz.prog W 0 (fun _=>true) true t v d p) (hp:∀x∈p,x.block < W.heap.size) (hv:v.cells= #[v]):
 ∃x,T.R W W.heap.size [v] x∧T.bulk x≤YtlamjpneghjbgaaGreat.Rows.uptoBulk d:=by
 obtain⟨fuel,hf⟩:=h;obtain⟨x,hR,hb⟩:=ho.go H enc W 0 _ true fuel _ (d,p) W.heap.size hf hp;rw[hv]at hR;exact⟨x,hR,Nat.le_trans hb (RX d)⟩
theorem Akk{t:TypeId}{H:Type}{enc:TypeId×Value→H}{W W':World}{v:Value}{d:DataW H}{p:List MemPlace}(hr:Tryz.prog.readableRec t=true)(ht:t < Tryz.prog.types.size)
 (h:DataW.Trod enc Tryz.prog W 0 (fun _=>true) true t v d p) (hb:Below W.heap.size W W') (hp:∀x∈p,x.block < W.heap.size):
 DataW.Trod enc Tryz.prog W' 0 (fun b=>decide (b < W.heap.size)) true t v d p:=Below.trod Zv hr ht h hb hp
end Mu
end
section
namespace Mu
open Go Go.RowKit Go.Proofs
theorem ZM{P:Program}{f:FuncId}{args:List AV}{u:Value}{W:World}{vs:List Value}(h:Fn P f args (.lit u))(hr:Ad W (fun k=>k < W.heap.size) [] ψ0 args vs):Calls P f vs.toArray W fun e W'=>e= .returned u∧Below W.heap.size W W':=
 (h.2 W _ vs (fun _ h=>h) hr).mono fun e W' ⟨v,he,hb,_,_,_,_,hv⟩=>by
  unfold AV.rel at hv;exact⟨by rw[he,hv],hb⟩
theorem Y1{W:World}{S:Nat→Prop}{h:List ABlk}{ψ:Nat→Value}{x:AV}{v:Value}(hv:AV.rel W S h ψ x v):Ad W S h ψ [x] [v]:=by
 unfold Ad;exact⟨v,[],rfl,hv,by unfold Ad;rfl⟩
theorem We{W:World}{S:Nat→Prop}{h:List ABlk}{ψ:Nat→Value}{x:AV}{v:Value}{l:List AV}{vs:List Value}(hv:AV.rel W S h ψ x v)(hl:Ad W S h ψ l vs):Ad W S h ψ (x::l) (v::vs):=by
 unfold Ad;exact⟨v,vs,rfl,hv,hl⟩
theorem Z4{P:Program}{W:World}{r:Reach}{base:Nat}{t e:TypeId}{v:Value}(ht:P.underlying t=some (.slice e))(hv:Value.okWide P W r base t v):v.cells= #[v]:=by
 unfold Value.okWide at hv;rw[ht]at hv;cases v <;> first|rfl|(exfalso;simp[Cell.okWide,Cell.ok,ht]at hv)
theorem Ade{w:World}{S:Nat→Prop}{cs:List Value}{p:Prog}(h:Dl.RS w S cs p):∀f∈p.funcs,okFunc f:=by
 obtain⟨A,c,A',c',_,_,_,hf⟩:=KV.1 h;exact KH (T:=B4) (p:=okFunc) (fun _ _ h=>Adg h) hf
theorem Y0{W:World}{S:Nat→Prop}{h:List ABlk}{ψ:Nat→Value}{cs:List Value}{p:Prog}(hR:Dl.RS W S cs p):AV.rel W S h ψ (.agg (AU p)) (.agg cs.toArray):=by
 unfold AV.rel;exact⟨cs,rfl,EncOf.ok (T:=Dl) W S h ψ cs p hR⟩
theorem Xc{w:World}{S:Nat→Prop}{cs:List Value}{p:Prog}(h:Dl.RS w S cs p):wfI .i64 p.heap:=by
 obtain⟨A,c,A',c',_,h1,_,_⟩:=KV.1 h;exact h1
theorem Ze:Opens Tryz.prog 26 (Ty.int .u32).slice:=Eu Tryz.underlying26 (by kernel_rfl) (by decide) (IG Tryz.underlying38)
theorem Ako{W:World}{S:Nat→Prop}{h:List ABlk}{ψ:Nat→Value}{v:Value}{l:List Int}(hR:(Ty.int .u32).slice.RS W S [v] l):AV.rel W S h ψ (.bs (Ty.int .u32) l) v:=by
 unfold AV.rel;exact hR
theorem Aqk{W:World}{S:Nat→Prop}{v:Value}{l:List Int}(hR:(Ty.int .u32).slice.RS W S [v] l):∀x∈l,wfI .u32 x:=fun x hx=>by
 obtain⟨j,hj⟩:=List.mem_iff_getElem?.1 hx;obtain⟨A,c,_,_,_,hi⟩:=hR;obtain⟨b,off,_,hat⟩:=hi j x hj;obtain⟨_,cs,hcs,_⟩:=hat;exact hcs.2
theorem Ak1(l:List Int):(Ty.int .u32).slice.bulk l=l.length+1:=by
 show CK (fun _=>1) l+1=_;have:∀l:List Int,CK (fun _=>1) l=l.length:=fun l=>by
  induction l with
  |nil=>rfl
  |cons a l ih=>simp only[CK,ih,List.length_cons];omega
 rw[this]
theorem Ra{b:Block}(h:Bs.bulk b≤2097152):smallB b:=⟨Nat.le_trans (GL b) h,fun x hx=>by
 have h1:=LZ hx;have h2:=KO x;have h3:=Ci Ls x.args;omega⟩
theorem TZ{f:Func}(h:B4.bulk f≤2097152):smallF f:=⟨Nat.le_trans (E9 f) h,fun b hb=>Ra (Nat.le_trans (D6 hb) h)⟩
theorem W8{f:Func}(h:B4.bulk f≤2097152):∀b∈f.blocks,b.ins.length+1≤2097152:=fun b hb=>by
 have h1:=D6 hb;have h2:=Ee b;have h3:=Ci Wq b.ins;omega
theorem Wi(l:List Ins):(l.flatMap readsC).length≤CK Dj.bulk l:=by
 induction l with
 |nil=>simp[CK]
 |cons x l ih=>
  have h1:=H9 x;have h2:=KO x;have h3:=Ci Ls x.args;simp only[List.flatMap_cons,List.length_append,CK];omega
theorem Po(l:List Block):(l.flatMap fun b=>b.ins.flatMap readsC).length≤CK Bs.bulk l:=by
 induction l with
 |nil=>simp[CK]
 |cons b l ih=>
  have h1:=Wi b.ins;have h2:=Ee b;simp only[List.flatMap_cons,List.length_append,CK];omega
theorem T9{f:Func}(h:B4.bulk f≤2097152):(B3 f).length≤2097152:=by
 have h1:=Po f.blocks;have h2:=GK f;unfold B3;omega
end Mu
end
section
namespace Mu
open Go
theorem ZS{f:Func}{k c:Nat}:Edge f k c↔∃bl x,f.blocks[k]? =some bl∧bl.ins.getLast? =some x∧c < f.blocks.length∧(c:Int)∈Eq x:=by
 unfold Edge F4;rw[if_pos (by omega),Int.toNat_natCast];constructor
 ·rintro⟨y,hy,rfl⟩;split at hy
  ·cases hy
  ·rename_i bl hbl;unfold Kn at hy;split at hy
   ·cases hy
   ·rename_i x hx;unfold Xu at hy;obtain⟨w,hw,hty⟩:=List.mem_filterMap.1 hy;unfold TP at hty;split at hty
    ·rename_i hr;cases hty;refine⟨bl,x,hbl,hx,(show w.toNat < f.blocks.length by omega),?_⟩;rw[show((w.toNat:Nat):Int)=w by omega];exact hw
    ·cases hty
 ·rintro⟨bl,x,hbl,hx,hc,hm⟩;refine⟨⟨c,hc⟩,?_,rfl⟩;rw[hbl];show(⟨c,hc⟩:Blk f)∈Kn f bl;unfold Kn;rw[hx];exact List.mem_filterMap.2 ⟨(c:Int),hm,OS hc⟩
section
variable{f:Func}{b:Nat}{bl:Block}{x:Ins}(hb:f.blocks[b]? =some bl)
include hb
end
theorem Wn(f:Func)(b:Nat):Sub (Bg f) (MW f b):=NZ (fun _ hb x hx _ hr=>DL.2 ⟨_,hb,x,hx,hr⟩) b
theorem Of(f:Func)(b i:Nat):Sub (Bg f) (inS ((BW f b).drop i) (MW f b)):=
 (Wn f b).inS fun x hx=>S6 (fun _ hb x hx _ hr=>DL.2 ⟨_,hb,x,hx,hr⟩) b x (List.mem_of_mem_drop hx)
end Mu
end
section
namespace Mu
open Go Go.RowKit Go.Proofs
instance:AG Tryz.prog 54 true 2:=⟨by kernel_rfl⟩
instance:SZ Tryz.prog 54 2:=⟨by kernel_rfl⟩
instance:ZC Tryz.prog 54 [.int .i64 0,.int .i64 0]:=⟨by kernel_rfl⟩
section
variable{P:Program}{C:Ctx}{t:List AV}{h:List ABlk}{o:Oper}
end
theorem IW{h:List ABlk}:∀l:List Int,Bo l→Fits h tInt (l.map fun n=>.lit (.int .i64 n)) l
 | [],_=>.nil
 |n::l,hw=>.cons (Fit.int (hw n (by simp))) (IW l fun x hx=>hw x (by simp[hx]))
theorem N4{l:List Int}(h:(l.all fun n=>(Lit.int .i64 n).wf)=true):Bo l:=fun r hr=>List.all_eq_true.1 h r hr
theorem Gq(x:Ins)(ho:okIns x):Fn Tryz.prog 120 [.agg (AL x)] (.tup [.lit (.int .i64 (if Az x then x.d else 0)),.lit (.bool (Az x))]):=
 JP (by kernel_rfl) fun w vs hr=>by
  obtain⟨v,rfl,hv⟩:=Aaa hr;obtain⟨cs,rfl,hc⟩:=H7 hv;refine(Gs x w cs (F1 ho hc)).mono fun e w' ⟨he,hb⟩=>⟨?_,hb⟩
  rw[he];unfold FQ;cases Az x <;> rfl
theorem IV{α β:Type}{g:α→List β}{l:List α}{k:Nat}{x:α}(hx:l[k]? =some x):(l.take (k+1)).flatMap g=(l.take k).flatMap g++g x:=by
 rw[List.take_add_one,hx,List.flatMap_append];simp
theorem Xo{α β:Type}(g:α→List β)(l:List α)(k:Nat):((l.take k).flatMap g).length≤(l.flatMap g).length:=by
 conv=>rhs;rw[←List.take_append_drop k l]
 rw[List.flatMap_append,List.length_append];omega
theorem ZN{β:Type}{g:Ins→List β}{bs:List Block}{b i:Nat}{bl:Block}{x:Ins}(hb:bs[b]? =some bl)(hx:bl.ins[i]? =some x):
 ((bs.take b).flatMap fun c=>c.ins.flatMap g).length+((bl.ins.take i).flatMap g).length+(g x).length≤(bs.flatMap fun c=>c.ins.flatMap g).length:=by
 have h1:=Xo (fun c:Block=>c.ins.flatMap g) bs (b+1);rw[IV hb,List.length_append]at h1;have h2:=Xo g bl.ins (i+1);rw[IV hx,List.length_append]at h2;omega
def Vz(b:Block):List Int:=b.ins.flatMap BL
def Ng(f:Func):List Int:=f.blocks.flatMap Vz
theorem Afn(l:List Int)(n:Int)(hl:l.length≤2097152):Fn Tryz.prog 179 [.bs tInt l,.lit (.int .i64 n)] (.lit (.bool (l.contains n))):=by
 refine Ax Tryz.func179 rfl (by kernel_rfl) rfl Tryz.ntmps179 fun C hC=>?_
 refine nS ?_;refine rCS ?_;refine Ac fun K2 h2=>?_
 refine rCS ?_;refine Af ?_;refine Au (fun i:Nat=>⟨(.bs tInt l::.lit (.int .i64 n)::A3 (.lit (.int .i64 (i:Int))::A10 (A2 []))),[]⟩) (fun i=>i≤l.length∧(l.take i).contains n=false) (fun i=>l.length - i) 0 ⟨Nat.zero_le _,rfl⟩ (Ce) ?_;rintro i ⟨hi,hc⟩;refine Ac fun K4 h4=>?_
 refine rCS ?_;refine Ae rfl (fun hb=>?_) (fun hb=>?_)
 ·have hlt:i < l.length:=by simpa using hb
  obtain⟨x,hx⟩:∃x,l[i]? =some x:=⟨_,List.getElem?_eq_getElem hlt⟩
  refine Ag ?_;refine h4 _ ?_;refine nT ?_;refine Ac fun K6 h6=>?_
  refine Af ?_;refine rCS ?_;refine Ae rfl (fun hb2=>?_) (fun hb2=>?_)
  ·have hxn:x=n:=by simpa using hb2
   have hcn:l.contains n=true:=by rw[←hxn];exact List.contains_iff_mem.2 (List.mem_of_getElem? hx)
   refine rCS ?_;refine Aj ?_;rw[hcn];exact⟨.inr rfl,Fin.cl rfl⟩
  ·have hxn:¬x=n:=by simpa using hb2
   refine Ag ?_;refine h6 _ ?_;refine nT ?_;refine rC ?_;refine athen_n ⟨i+1,⟨by omega,?_⟩,by omega,Ce⟩;rw[List.take_add_one,hx,List.contains_eq_mem]at *;simp only[Option.toList_some,List.mem_append,List.mem_cons,List.not_mem_nil,or_false,decide_eq_false_iff_not,not_or]at hc⊢;exact⟨by simpa[List.contains_eq_mem]using hc,fun e=>hxn e.symm⟩
 ·have hie:i=l.length:=by
   have:¬i < l.length:=by simpa using hb
   omega
  rw[hie,List.take_length]at hc;refine Aq ?_;refine h2 _ ?_;refine nT ?_;refine rCS ?_;refine Aj ?_;rw[hc];exact⟨.inr rfl,Fin.cl rfl⟩
def Fs(n:Int)(s:List Int×Bool)(x:Int):List Int×Bool:=if(!s.2&&decide (x > n))=true then(s.1++[n]++[x],true)else(s.1++[x],s.2)
def D1(n:Int)(l:List Int):List Int×Bool:=l.foldl (Fs n) ([],false)
def Cm(l:List Int)(n:Int):List Int:=if l.contains n then l else if(!(D1 n l).2)=true then(D1 n l).1++[n]else(D1 n l).1
theorem UD{n:Int}{l:List Int}{i:Nat}{x:Int}(h:l[i]? =some x):D1 n (l.take (i+1))=Fs n (D1 n (l.take i)) x:=by
 unfold D1;rw[List.take_add_one,h,List.foldl_append];rfl
theorem PZ(n:Int)(l:List Int):(D1 n l).1.length+(if(D1 n l).2 then 0 else 1)=l.length+1∧(wfI .i64 n→Bo l→Bo (D1 n l).1):=by
 suffices h:∀(l:List Int) (s:List Int×Bool),(l.foldl (Fs n) s).1.length+(if(l.foldl (Fs n) s).2 then 0 else 1)=s.1.length+(if s.2 then 0 else 1)+l.length∧(wfI .i64 n→Bo s.1→Bo l→Bo (l.foldl (Fs n) s).1)by
  obtain⟨h1,h2⟩:=h l ([],false);refine⟨?_,fun a b=>h2 a (fun r hr=>by cases hr) b⟩;unfold D1;rw[h1];simp;omega
 intro l;induction l with
 |nil=>exact fun s=>⟨rfl,fun _ h _=>h⟩
 |cons x l ih=>
  intro s;obtain⟨h1,h2⟩:=ih (Fs n s x);rw[List.foldl_cons];refine⟨?_,fun a b c=>h2 a ?_ fun r hr=>c r (List.mem_cons_of_mem _ hr)⟩
  ·rw[h1];unfold Fs;obtain⟨o,d⟩:=s;cases d
   ·by_cases hx:x > n <;> simp[hx] <;> omega
   ·simp;omega
  ·unfold Fs;have hx:=c x (List.mem_cons_self ..);split
   ·intro r hr;simp only[List.mem_append,List.mem_cons,List.not_mem_nil,or_false]at hr;rcases hr with(hr|rfl)|rfl
    ·exact b r hr
    ·exact a
    ·exact hx
   ·intro r hr;simp only[List.mem_append,List.mem_cons,List.not_mem_nil,or_false]at hr;rcases hr with hr|rfl
    ·exact b r hr
    ·exact hx
theorem VF(l:List Int)(n:Int):(Cm l n).length≤l.length+1∧(wfI .i64 n→Bo l→Bo (Cm l n)):=by
 have h:=PZ n l;unfold Cm;split
 ·exact⟨by omega,fun _ h=>h⟩
 ·split
  ·rename_i hd;have hd:(D1 n l).2=false:=by simpa using hd
   rw[hd]at h;have h1:=h.1;simp only[Bool.false_eq_true,if_false]at h1;refine⟨by simp;omega,fun a b r hr=>?_⟩;rcases List.mem_append.1 hr with hr|hr
   ·exact h.2 a b r hr
   ·rw[List.mem_singleton.1 hr];exact a
  ·refine⟨?_,fun a b=>h.2 a b⟩;have h1:=h.1;omega
theorem Ip(l:List Int)(n:Int)(hl:l.length≤2097152)(ho:Bo l)(hn:wfI .i64 n):Fn Tryz.prog 136 [.bs tInt l,.lit (.int .i64 n)] (.bs tInt (Cm l n)):=by
 have hin:=Afn l n hl;refine Ax Tryz.func136 rfl (by kernel_rfl) rfl Tryz.ntmps136 fun C hC=>?_
 refine nS ?_;refine rCS ?_;refine Ac fun K2 h2=>?_
 refine Ac fun K3 h3=>?_
 (refine Awp.region ?_;(repeat(first|refine sQ ?_ (Av.call rfl hin rfl rfl rfl)|refine sQ ?_ (AH rfl rfl rfl rfl)|refine sQ ?_ (Ay rfl rfl rfl rfl)|refine sQ ?_|refine AO ?_|refine sG (hq:=by(intro hg;(try simp only[Bool.and_eq_true,beq_iff_eq]at hg);(try simp only[hg,cond_true,Bool.true_and,beq_self_eq_true]);exact Av.call rfl hin rfl rfl rfl)) ?_|refine sG ?_|refine B6 ?_));refine Ar ?_)
 refine h3 _ ?_;refine nT ?_;refine Ae rfl (fun hb4=>?_) (fun hb4=>?_)
 ·refine rCS ?_;refine Aj ?_;rw[show Cm l n=l from by unfold Cm;rw[hb4];rfl];exact⟨.inr rfl,Fin.cl rfl⟩
 ·refine Ag ?_;refine h2 _ ?_;refine nT ?_;refine rCS ?_;refine rCS ?_;refine Ac fun K8 h8=>?_
  refine rCS ?_;refine Af ?_;refine Au (fun p:Nat×Nat=>⟨(.bs tInt l::.lit (.int .i64 n)::A3 (.own 0 p.2::.lit (.bool (D1 n (l.take p.1)).2)::.lit (.int .i64 (p.1:Int))::A20 (A10 (A8 [])))),[.row p.2 3 tInt (D1 n (l.take p.1)).1]⟩) (fun p=>p.1≤l.length) (fun p=>l.length - p.1) (0,0) (Nat.zero_le _) ((Cz 5 3 tInt rfl (by decide)).trans (Ce)) ?_;rintro⟨i,ver⟩ hi;dsimp only at hi⊢;have hfl:=(PZ n (l.take i)).1;rw[List.length_take]at hfl;have hnx:∀x,l[i]? =some x→D1 n (l.take (i+1))=Fs n (D1 n (l.take i)) x:=fun x hx=>UD hx
  have hfin:i=l.length→D1 n l=D1 n (l.take i):=fun e=>by rw[e,List.take_length]
  generalize D1 n (l.take i)=s at hfl hnx hfin⊢;obtain⟨o,d⟩:=s;dsimp only at hfl hnx hfin⊢;have hol:o.length≤2097154:=by omega
  refine Ac fun K11 h11=>?_
  refine rCS ?_;refine Ae rfl (fun hb13=>?_) (fun hb13=>?_)
  ·have hlt:i < l.length:=by simpa using hb13
   obtain⟨x,hx⟩:∃x,l[i]? =some x:=⟨_,List.getElem?_eq_getElem hlt⟩
   have hxw:=ho x (List.mem_of_getElem? hx);have hnx:=hnx x hx;refine Ag ?_;refine h11 _ ?_;refine nT ?_;refine Ac fun K14 h14=>?_
   refine Af ?_;refine Ac fun K15 h15=>?_
   refine rCS ?_;refine Ae rfl (fun hb17=>?_) (fun hb17=>?_)
   ·have e1:Fs n (o,d) x=(o++[n]++[x],true):=if_pos hb17;rw[e1]at hnx;refine rCS ?_;refine rC ?_;refine h15 _ ?_;refine nT ?_;refine rC ?_;refine h14 _ ?_;refine nT ?_;refine rC ?_;refine athen_n ⟨(i+1,ver+2),by dsimp only;omega,by dsimp only;omega,?_⟩;dsimp only;rw[hnx];exact Ce
   ·have e1:Fs n (o,d) x=(o++[x],d):=if_neg (by rw[show(!(o,d).2&&decide (x > n))=false from hb17];simp);rw[e1]at hnx;refine Ag ?_;refine h15 _ ?_;refine nT ?_;refine rC ?_;refine h14 _ ?_;refine nT ?_;refine rC ?_;refine athen_n ⟨(i+1,ver+1),by dsimp only;omega,by dsimp only;omega,?_⟩;dsimp only;rw[hnx];exact Ce
  ·have hie:i=l.length:=by
    have:¬i < l.length:=by simpa using hb13
    omega
   have hfin:=hfin hie;have hc:l.contains n=false:=hb4;refine Aq ?_;refine h8 _ ?_;refine nT ?_;refine Ac fun K19 h19=>?_
   refine rCS ?_;refine Ae rfl (fun hb21=>?_) (fun hb21=>?_)
   ·have e2:Cm l n=o++[n]:=by unfold Cm;rw[hc,if_neg (by simp),hfin,if_pos hb21]
    refine rC ?_;refine h19 _ ?_;refine nT ?_;refine rCS ?_;refine Aj ?_;rw[e2];exact⟨.inr rfl,Fin.own rfl⟩
   ·have e2:Cm l n=o:=by unfold Cm;rw[hc,if_neg (by simp),hfin,if_neg (by rw[show(!(o,d).2)=false from hb21];simp)]
    refine Ag ?_;refine h19 _ ?_;refine nT ?_;refine rCS ?_;refine Aj ?_;rw[e2];exact⟨.inr rfl,Fin.own rfl⟩
def BM(f:Func):List Int:=(Ng f).foldl Cm []
theorem G7(l:List Int):(l.foldl Cm []).length≤l.length∧(Bo l→Bo (l.foldl Cm [])):=by
 suffices h:∀(l s:List Int),(l.foldl Cm s).length≤s.length+l.length∧(Bo s→Bo l→Bo (l.foldl Cm s))by
  obtain⟨h1,h2⟩:=h l [];exact⟨by simpa using h1,fun a=>h2 (fun r hr=>by cases hr) a⟩
 intro l;induction l with
 |nil=>exact fun s=>⟨Nat.le_refl _,fun h _=>h⟩
 |cons x l ih=>
  intro s;obtain⟨h1,h2⟩:=ih (Cm s x);have h3:=VF s x;rw[List.foldl_cons,List.length_cons];exact⟨by omega,fun a b=>h2 (h3.2 (b x (List.mem_cons_self ..)) a) fun r hr=>b r (List.mem_cons_of_mem _ hr)⟩
theorem LO{l:List Int}{k:Nat}{r:Int}(P:List Int)(h:l[k]? =some r):(P++l.take (k+1)).foldl Cm []=Cm ((P++l.take k).foldl Cm []) r:=by
 rw[List.take_add_one,h,←List.append_assoc,List.foldl_append];rfl
theorem Wf(f:Func)(ho:okFunc f)(hs:smallF f)(hX:(Ng f).length≤2097152):Fn Tryz.prog 78 [.agg (Ak f)] (.bs tInt (BM f)):=by
 have hbl:=hs.blocks;refine Ax Tryz.func78 rfl (by kernel_rfl) rfl Tryz.ntmps78 fun C hC=>?_
 refine nS ?_;refine rCS ?_;refine rCS ?_;refine Ac fun K3 h3=>?_
 refine rCS ?_;refine Af ?_;refine Au (fun b:Nat=>⟨(.any::.ptr 0 0::.any::.bs tInt (((f.blocks.take b).flatMap Vz).foldl Cm [])::.lit (.int .i64 (b:Int))::A40 (A20 [])),[.box (Ak f)]⟩) (fun b=>b≤f.blocks.length) (fun b=>f.blocks.length - b) 0 (Nat.zero_le _) ((Sc 3 tInt rfl).trans (Ce)) ?_;intro b hb
 (try dsimp only at hb);(try dsimp only)
 refine Ac fun K6 h6=>?_
 refine rCS ?_;refine Ae rfl (fun hb8=>?_) (fun hb8=>?_)
 ·have hlt:b < f.blocks.length:=by simpa using hb8
  obtain⟨bl,hblk⟩:∃bl,f.blocks[b]? =some bl:=⟨_,List.getElem?_eq_getElem hlt⟩
  have hmem:=List.mem_of_getElem? hblk;have hob:=ho.blocks bl hmem;have hsb:=hs.all bl hmem;have hil:=hsb.ins;have hfn:=IV (g:=Vz) hblk;refine Ag ?_;refine h6 _ ?_;refine nT ?_;refine Ac fun K9 h9=>?_
  refine Af ?_;refine rCS ?_;refine Af ?_;refine Au (fun i:Nat=>⟨(.any::.ptr 0 0::.any::.bs tInt (((f.blocks.take b).flatMap Vz++(bl.ins.take i).flatMap BL).foldl Cm [])::.lit (.int .i64 (b:Int))::.lit (.int .i64 (i:Int))::A40 (A10 (A9 []))),[.box (Ak f)]⟩) (fun i=>i≤bl.ins.length) (fun i=>bl.ins.length - i) 0 (Nat.zero_le _) (by rw[show(f.blocks.take b).flatMap Vz++(bl.ins.take 0).flatMap BL=(f.blocks.take b).flatMap Vz by simp];exact Ce) ?_;intro i hi
  (try dsimp only at hi);(try dsimp only)
  refine Ac fun K12 h12=>?_
  refine rCS ?_;refine Ae rfl (fun hb14=>?_) (fun hb14=>?_)
  ·have hil2:i < bl.ins.length:=by simpa using hb14
   obtain⟨x,hx⟩:∃x,bl.ins[i]? =some x:=⟨_,List.getElem?_eq_getElem hil2⟩
   have hxm:=List.mem_of_getElem? hx;have hox:=hob.ins x hxm;have hxl:x.args.length≤2097152:=by have:=hsb.all x hxm;omega
   have hxn:=IV (g:=BL) hx;have hle:=ZN (g:=BL) hblk hx;have hX':(f.blocks.flatMap fun c=>c.ins.flatMap BL).length≤2097152:=hX;obtain⟨P,hP⟩:∃P,(f.blocks.take b).flatMap Vz++(bl.ins.take i).flatMap BL=P:=⟨_,rfl⟩
   have hPl:P.length+(BL x).length≤2097152:=by
    rw[←hP,List.length_append];have:((f.blocks.take b).flatMap Vz).length=((f.blocks.take b).flatMap fun c=>c.ins.flatMap BL).length:=rfl;omega
   have hPo:Bo P:=by
    rw[←hP];intro r hr;rcases List.mem_append.1 hr with hr|hr
    ·obtain⟨c,hc,hr⟩:=List.mem_flatMap.1 hr;obtain⟨y,hy,hr⟩:=List.mem_flatMap.1 hr;exact KC ((ho.blocks c (List.mem_of_mem_take hc)).ins y hy) r hr
    ·obtain⟨y,hy,hr⟩:=List.mem_flatMap.1 hr;exact KC (hob.ins y (List.mem_of_mem_take hy)) r hr
   have hnx:(f.blocks.take b).flatMap Vz++(bl.ins.take (i+1)).flatMap BL=P++BL x:=by rw[hxn,←hP,List.append_assoc]
   rw[hP];have hrx:BL x=readsC x++if Az x then [x.d]else []:=rfl
   have hxo:=KC hox;have hrl:(readsC x).length≤(BL x).length:=by rw[hrx,List.length_append];omega
   have hn1:([]:List Int).length+(readsC x).length≤maxLen:=by simp[maxLen];omega
   have hn2:(([]:List Int).length+(readsC x).length) * 8≤140737488355328:=by simp;omega
   refine Ag ?_;refine h12 _ ?_;refine nT ?_;refine Ac fun K15 h15=>?_
   refine Af ?_;refine rCS ?_;refine Ac fun K17 h17=>?_
   (refine Awp.region ?_;(repeat(first|(refine Ao rfl (AOp.lit (s:=⟨_,_⟩) (T:=tInt) (xs:=[]) (ds:=[]) (e:=3) (bytes:=8) rfl rfl rfl (by kernel_rfl) (by decide) (by decide) .nil ?_);refine sNt ?_)|refine sQ ?_ (Av.call rfl (EV x hox hxl) rfl rfl rfl)|refine sQ ?_ (AH rfl rfl rfl rfl)|refine sQ ?_ (Ay rfl rfl rfl rfl)|refine sQ ?_|refine AO ?_|refine sG (hq:=by(intro hg;(try simp only[Bool.and_eq_true,beq_iff_eq]at hg);(try simp only[hg,cond_true,Bool.true_and,beq_self_eq_true]);exact Av.call rfl (EV x hox hxl) rfl rfl rfl)) ?_|refine sG ?_|refine B6 ?_));refine Ar ?_)
   refine h17 _ ?_;refine nT ?_;refine Ac fun K18 h18=>?_
   (refine Awp.region ?_;(repeat(first|refine sQ ?_ (Av.call rfl (FZ x hox) rfl rfl rfl)|refine sQ ?_ (AH rfl rfl rfl rfl)|refine sQ ?_ (Ay rfl rfl rfl rfl)|refine sQ ?_|refine AO ?_|refine sG (hq:=by(intro hg;(try simp only[Bool.and_eq_true,beq_iff_eq]at hg);(try simp only[hg,cond_true,Bool.true_and,beq_self_eq_true]);exact Av.call rfl (FZ x hox) rfl rfl rfl)) ?_|refine sG ?_|refine B6 ?_));refine Ar ?_)
   refine h18 _ ?_;refine nT ?_;refine Ac fun K19 h19=>?_
   refine rCS ?_;refine Ae rfl (fun hb21=>?_) (fun hb21=>?_)
   ·rw[hb21,if_pos rfl]at hrx;have e1:(if Az x=true then x.d else 0)=x.d:=if_pos hb21;have hwd:=hox.d;rw[e1];have hn3:(readsC x).length+ [x.d].length≤maxLen:=by simp[maxLen];omega
    have hn4:((readsC x).length+ [x.d].length) * 8≤140737488355328:=by simp;omega
    refine rC ?_;refine h19 _ ?_;refine nT ?_;refine rCS ?_;refine Af ?_;refine Au (fun k:Nat=>⟨(.any::.ptr 0 0::.any::.bs tInt ((P++(BL x).take k).foldl Cm [])::.lit (.int .i64 (b:Int))::.lit (.int .i64 (i:Int))::.any::.own 2 2::A2 (.lit (.int .i64 (k:Int))::A40 (A10 (A4 [])))),[.box (Ak f),.dead,.row 2 3 tInt (BL x)]⟩) (fun k=>k≤(BL x).length) (fun k=>(BL x).length - k) 0 (Nat.zero_le _) (by rw[show P++(BL x).take 0=P by simp,hrx];exact Fb (.cons (.dead (.cons (Cut.nil _))))) ?_;intro k hk;have hkl:(P++(BL x).take k).length≤2097152:=by rw[List.length_append,List.length_take];omega
    have hko:Bo (P++(BL x).take k):=fun r hr=>by
     rcases List.mem_append.1 hr with hr|hr
     ·exact hPo r hr
     ·exact hxo r (List.mem_of_mem_take hr)
    obtain⟨hl1,hl2⟩:=G7 (P++(BL x).take k);have hl2:=hl2 hko;have hknx:∀r,(BL x)[k]? =some r→(P++(BL x).take (k+1)).foldl Cm []=Cm ((P++(BL x).take k).foldl Cm []) r:=fun r hr=>LO P hr
    have hkfin:k=(BL x).length→(P++(BL x).take k).foldl Cm []=(P++BL x).foldl Cm []:=fun e=>by rw[e,List.take_length]
    (try dsimp only at hk);(try dsimp only)
    generalize (P++(BL x).take k).foldl Cm []=O at hl1 hl2 hknx hkfin⊢;refine Ac fun K24 h24=>?_
    refine rCS ?_;refine Ae rfl (fun hb26=>?_) (fun hb26=>?_)
    ·have hklt:k < (BL x).length:=by simpa using hb26
     obtain⟨r,hr⟩:∃r,(BL x)[k]? =some r:=⟨_,List.getElem?_eq_getElem hklt⟩
     have hrw:=hxo r (List.mem_of_getElem? hr);have hknx:=hknx r hr;refine Ag ?_;refine h24 _ ?_;refine nT ?_;refine Ac fun K27 h27=>?_
     refine Af ?_
     (refine Awp.region ?_;(repeat(first|refine sQ ?_ (Av.call rfl (Ip O r (by omega) hl2 hrw) rfl rfl rfl)|refine sQ ?_ (AH rfl rfl rfl rfl)|refine sQ ?_ (Ay rfl rfl rfl rfl)|refine sQ ?_|refine AO ?_|refine sG (hq:=by(intro hg;(try simp only[Bool.and_eq_true,beq_iff_eq]at hg);(try simp only[hg,cond_true,Bool.true_and,beq_self_eq_true]);exact Av.call rfl (Ip O r (by omega) hl2 hrw) rfl rfl rfl)) ?_|refine sG ?_|refine B6 ?_));refine Ar ?_)
     refine h27 _ ?_;refine nT ?_;refine rC ?_;refine athen_n ⟨k+1,by omega,by omega,?_⟩;rw[hknx];exact Ce
    ·have hke:k=(BL x).length:=by
      have:¬k < (BL x).length:=by simpa using hb26
      omega
     have hkfin:=hkfin hke;refine Aq ?_;refine h15 _ ?_;refine nT ?_;refine rC ?_;refine athen_n ⟨i+1,by omega,by omega,?_⟩;rw[hnx,←hkfin];exact Fb (.cons (Cut.nil _))
   ·rw[hb21,if_neg (by simp),List.append_nil]at hrx;refine Ag ?_;refine h19 _ ?_;refine nT ?_;refine rCS ?_;refine Af ?_;refine Au (fun k:Nat=>⟨(.any::.ptr 0 0::.any::.bs tInt ((P++(BL x).take k).foldl Cm [])::.lit (.int .i64 (b:Int))::.lit (.int .i64 (i:Int))::.any::.own 2 1::A2 (.lit (.int .i64 (k:Int))::A40 (A10 (A4 [])))),[.box (Ak f),.dead,.row 1 3 tInt (BL x)]⟩) (fun k=>k≤(BL x).length) (fun k=>(BL x).length - k) 0 (Nat.zero_le _) (by rw[show P++(BL x).take 0=P by simp,hrx];exact Fb (.cons (.dead (.cons (Cut.nil _))))) ?_;intro k hk;have hkl:(P++(BL x).take k).length≤2097152:=by rw[List.length_append,List.length_take];omega
    have hko:Bo (P++(BL x).take k):=fun r hr=>by
     rcases List.mem_append.1 hr with hr|hr
     ·exact hPo r hr
     ·exact hxo r (List.mem_of_mem_take hr)
    obtain⟨hl1,hl2⟩:=G7 (P++(BL x).take k);have hl2:=hl2 hko;have hknx:∀r,(BL x)[k]? =some r→(P++(BL x).take (k+1)).foldl Cm []=Cm ((P++(BL x).take k).foldl Cm []) r:=fun r hr=>LO P hr
    have hkfin:k=(BL x).length→(P++(BL x).take k).foldl Cm []=(P++BL x).foldl Cm []:=fun e=>by rw[e,List.take_length]
    (try dsimp only at hk);(try dsimp only)
    generalize (P++(BL x).take k).foldl Cm []=O at hl1 hl2 hknx hkfin⊢;refine Ac fun K24 h24=>?_
    refine rCS ?_;refine Ae rfl (fun hb26=>?_) (fun hb26=>?_)
    ·have hklt:k < (BL x).length:=by simpa using hb26
     obtain⟨r,hr⟩:∃r,(BL x)[k]? =some r:=⟨_,List.getElem?_eq_getElem hklt⟩
     have hrw:=hxo r (List.mem_of_getElem? hr);have hknx:=hknx r hr;refine Ag ?_;refine h24 _ ?_;refine nT ?_;refine Ac fun K27 h27=>?_
     refine Af ?_
     (refine Awp.region ?_;(repeat(first|refine sQ ?_ (Av.call rfl (Ip O r (by omega) hl2 hrw) rfl rfl rfl)|refine sQ ?_ (AH rfl rfl rfl rfl)|refine sQ ?_ (Ay rfl rfl rfl rfl)|refine sQ ?_|refine AO ?_|refine sG (hq:=by(intro hg;(try simp only[Bool.and_eq_true,beq_iff_eq]at hg);(try simp only[hg,cond_true,Bool.true_and,beq_self_eq_true]);exact Av.call rfl (Ip O r (by omega) hl2 hrw) rfl rfl rfl)) ?_|refine sG ?_|refine B6 ?_));refine Ar ?_)
     refine h27 _ ?_;refine nT ?_;refine rC ?_;refine athen_n ⟨k+1,by omega,by omega,?_⟩;rw[hknx];exact Ce
    ·have hke:k=(BL x).length:=by
      have:¬k < (BL x).length:=by simpa using hb26
      omega
     have hkfin:=hkfin hke;refine Aq ?_;refine h15 _ ?_;refine nT ?_;refine rC ?_;refine athen_n ⟨i+1,by omega,by omega,?_⟩;rw[hnx,←hkfin];exact Fb (.cons (Cut.nil _))
  ·have hie:i=bl.ins.length:=by
    have:¬i < bl.ins.length:=by simpa using hb14
    omega
   subst hie;refine Aq ?_;refine h9 _ ?_;refine nT ?_;refine rC ?_;refine athen_n ⟨b+1,by omega,by omega,?_⟩;rw[hfn,show(bl.ins.take bl.ins.length).flatMap BL=Vz bl by rw[List.take_length];rfl];exact Ce
 ·have hbe:b=f.blocks.length:=by
   have:¬b < f.blocks.length:=by simpa using hb8
   omega
  subst hbe;rw[List.take_length];refine Aq ?_;refine h3 _ ?_;refine nT ?_;refine rCS ?_;refine Aj ?_;exact⟨.inr rfl,Fin.cl rfl⟩
def Afq(f:Func):Bool:=JE f||decide (((BM f).length:Int) > 60)
theorem UB(f:Func)(ho:okFunc f)(hs:smallF f)(hX:(Ng f).length≤2097152):Fn Tryz.prog 28 [.agg (Ak f)] (.lit (.bool (Afq f))):=by
 have hgr:=UC f hs;have hrg:=Wf f ho hs hX;refine Ax Tryz.func28 rfl (by kernel_rfl) rfl Tryz.ntmps28 fun C hC=>?_
 refine nS ?_;refine rCS ?_;refine Ac fun K2 h2=>?_
 (refine Awp.region ?_;(repeat(first|refine sQ ?_ (Av.call rfl hgr rfl rfl rfl)|refine sQ ?_ (Av.call rfl hrg rfl rfl rfl)|refine sQ ?_ (AH rfl rfl rfl rfl)|refine sQ ?_ (Ay rfl rfl rfl rfl)|refine sQ ?_|refine AO ?_|refine sG (hq:=by(intro hg;(try simp only[Bool.and_eq_true,beq_iff_eq]at hg);(try simp only[hg,cond_true,Bool.true_and,beq_self_eq_true]);exact Av.call rfl hgr rfl rfl rfl)) ?_|refine sG (hq:=by(intro hg;(try simp only[Bool.and_eq_true,beq_iff_eq]at hg);(try simp only[hg,cond_true,Bool.true_and,beq_self_eq_true]);exact Av.call rfl hrg rfl rfl rfl)) ?_|refine sG ?_|refine B6 ?_));refine Ar ?_)
 refine h2 _ ?_;refine nT ?_;refine Aj ?_;exact⟨.inr rfl,Fin.cl rfl⟩
theorem LN{n:Int}:∀(l:List Int) (s:List Int×Bool),Asc (s.1++l)→(s.2=false→∀y∈s.1,y < n)→n∉l→
 Asc (l.foldl (Fs n) s).1∧(∀y,y∈(l.foldl (Fs n) s).1↔(y∈s.1∨y∈l)∨(y=n∧(l.foldl (Fs n) s).2=true∧s.2=false))∧((l.foldl (Fs n) s).2=false→∀y∈(l.foldl (Fs n) s).1,y < n)
 | [],s,ha,hb,_=>by
  refine⟨by simpa using ha,fun y=>?_,hb⟩;simp only[List.foldl_nil,List.not_mem_nil,or_false];constructor
  ·exact fun h=>.inl h
  ·rintro(h|⟨_,h1,h2⟩)
   ·exact h
   ·rw[h1]at h2;cases h2
 |x::l,s,ha,hb,hn=>by
  have hnx:n≠x:=fun e=>hn (by rw[e];exact List.mem_cons_self ..)
  have hnl:n∉l:=fun e=>hn (List.mem_cons_of_mem _ e)
  unfold Asc at ha;rw[List.pairwise_append]at ha;obtain⟨a1,a2,a3⟩:=ha;rw[List.pairwise_cons]at a2;rw[List.foldl_cons];by_cases hc:(!s.2&&decide (x > n))=true
  ·have hs:s.2=false:=by
    simp only[Bool.and_eq_true,Bool.not_eq_true']at hc;exact hc.1
   have hxn:x > n:=by
    simp only[Bool.and_eq_true,decide_eq_true_eq]at hc;exact hc.2
   have e:Fs n s x=(s.1++[n]++[x],true):=if_pos hc;rw[e];obtain⟨i1,i2,i3⟩:=LN l (s.1++[n]++[x],true) (by
    unfold Asc;rw[List.append_assoc,List.append_assoc,List.pairwise_append];refine⟨a1,?_,fun a hay b hbz=>?_⟩
    ·simp only[List.cons_append,List.nil_append,List.pairwise_cons];refine⟨fun b hbm=>?_,a2.1,a2.2⟩;rcases List.mem_cons.1 hbm with rfl|hbm
     ·omega
     ·have:=a2.1 b hbm;omega
    ·have h1:=hb hs a hay;simp only[List.cons_append,List.nil_append,List.mem_cons]at hbz;rcases hbz with rfl|rfl|hbz
     ·exact h1
     ·omega
     ·have:=a2.1 b hbz;omega) (fun h=>by cases h) hnl
   have ht:(l.foldl (Fs n) (s.1++[n]++[x],true)).2=true:=by
    by_cases h:(l.foldl (Fs n) (s.1++[n]++[x],true)).2=true
    ·exact h
    ·have h:=i3 (by simpa using h) n ((i2 n).2 (.inl (.inl (by simp))));omega
   refine⟨i1,fun y=>?_,fun h=>by rw[ht]at h;cases h⟩;rw[i2,ht,hs];simp only[List.mem_append,List.mem_cons,List.not_mem_nil,or_false,and_true,reduceCtorEq,and_false];constructor
   ·rintro((h|h)|h)
    ·rcases h with h|h
     ·exact .inl (.inl h)
     ·exact .inr h
    ·exact .inl (.inr (.inl h))
    ·exact .inl (.inr (.inr h))
   ·rintro((h|h|h)|h)
    ·exact .inl (.inl (.inl h))
    ·exact .inl (.inr h)
    ·exact .inr h
    ·exact .inl (.inl (.inr h))
  ·have e:Fs n s x=(s.1++[x],s.2):=if_neg hc;rw[e];obtain⟨i1,i2,i3⟩:=LN l (s.1++[x],s.2) (by
    unfold Asc;rw[List.append_assoc,List.pairwise_append];refine⟨a1,?_,fun a hay b hbz=>a3 a hay b (by simpa using hbz)⟩;simp only[List.cons_append,List.nil_append,List.pairwise_cons];exact a2) (fun h y hy=>by
    rcases List.mem_append.1 hy with hy|hy
    ·exact hb h y hy
    ·rw[List.mem_singleton.1 hy];have h:s.2=false:=h;rw[h]at hc;have:¬x > n:=by simpa using hc
     omega) hnl
   refine⟨i1,fun y=>?_,i3⟩;rw[i2];simp only[List.mem_append,List.mem_cons,List.not_mem_nil,or_false,or_assoc]
theorem VG{l:List Int}(h:Asc l)(n:Int):Asc (Cm l n)∧∀y,y∈Cm l n↔y=n∨y∈l:=by
 unfold Cm;split
 ·rename_i hc;have hc:=List.contains_iff_mem.1 hc;exact⟨h,fun y=>⟨.inr,fun hy=>by
   rcases hy with rfl|hy
   ·exact hc
   ·exact hy⟩⟩
 ·rename_i hc;have hn:n∉l:=fun e=>hc (List.contains_iff_mem.2 e)
  obtain⟨i1,i2,i3⟩:=LN (n:=n) l ([],false) (by simpa using h) (fun _ y hy=>by cases hy) hn;have i1:Asc (D1 n l).1:=i1;have i2:∀y,y∈(D1 n l).1↔(y∈([]:List Int)∨y∈l)∨(y=n∧(D1 n l).2=true∧false=false):=i2;have i3:(D1 n l).2=false→∀y∈(D1 n l).1,y < n:=i3;simp only[List.not_mem_nil,false_or,and_true]at i2;split
  ·rename_i hd;have hd:(D1 n l).2=false:=by simpa using hd
   refine⟨?_,fun y=>?_⟩
   ·unfold Asc;rw[List.pairwise_append];refine⟨i1,List.pairwise_singleton ..,fun a ha b hb=>?_⟩;rw[List.mem_singleton.1 hb];exact i3 hd a ha
   ·rw[List.mem_append,i2,hd,List.mem_singleton];simp only[Bool.false_eq_true,and_false,or_false];exact or_comm
  ·rename_i hd;have hd:(D1 n l).2=true:=by simpa using hd
   refine⟨i1,fun y=>?_⟩;rw[i2,hd];simp only[and_true];exact or_comm
theorem UE(l:List Int):Asc (l.foldl Cm [])∧∀y,y∈l.foldl Cm []↔y∈l:=by
 suffices h:∀(l s:List Int),Asc s→Asc (l.foldl Cm s)∧∀y,y∈l.foldl Cm s↔y∈s∨y∈l by
  obtain⟨h1,h2⟩:=h l [] List.Pairwise.nil;exact⟨h1,fun y=>by rw[h2];simp⟩
 intro l;induction l with
 |nil=>exact fun s hs=>⟨hs,fun y=>by simp⟩
 |cons x l ih=>
  intro s hs;obtain⟨a1,a2⟩:=VG hs x;obtain⟨h1,h2⟩:=ih (Cm s x) a1;rw[List.foldl_cons];refine⟨h1,fun y=>?_⟩;rw[h2,a2,List.mem_cons];constructor
  ·rintro((h|h)|h)
   ·exact .inr (.inl h)
   ·exact .inl h
   ·exact .inr (.inr h)
  ·rintro(h|h|h)
   ·exact .inl (.inr h)
   ·exact .inl (.inl h)
   ·exact .inr h
theorem Fy(f:Func):Asc (BM f)∧∀y,y∈BM f↔y∈Ng f:=UE _
def ltP(x y:Pair):Prop:=x.a < y.a∨(x.a=y.a∧x.b < y.b)
theorem Od(x:Pair):¬ltP x x:=fun h=>by rcases h with h|h <;> omega
theorem Abj{x y z:Pair}(h1:ltP x y)(h2:ltP y z):ltP x z:=by unfold ltP at *;omega
theorem WT{x y:Pair}(h1:ltP x y):¬ltP y x:=fun h2=>Od x (Abj h1 h2)
abbrev Aph(l:List Pair):Prop:=l.Pairwise ltP
theorem Tw:∀{l m:List Pair},Aph l→Aph m→(∀x,x∈l↔x∈m)→l=m
 | [],[],_,_,_=>rfl
 | [],y::m,_,_,h=>by have:=(h y).2 (by simp);cases this
 |x::l,[],_,_,h=>by have:=(h x).1 (by simp);cases this
 |x::l,y::m,hl,hm,h=>by
  have hl:=List.pairwise_cons.1 hl;have hm:=List.pairwise_cons.1 hm;have e:x=y:=by
   rcases List.mem_cons.1 ((h x).1 (by simp))with e|e
   ·exact e
   ·rcases List.mem_cons.1 ((h y).2 (by simp))with e2|e2
    ·exact e2.symm
    ·exact absurd (hl.1 y e2) (WT (hm.1 x e))
  subst e;refine congrArg _ (Tw hl.2 hm.2 fun z=>⟨fun hz=>?_,fun hz=>?_⟩)
  ·rcases List.mem_cons.1 ((h z).1 (by simp[hz]))with e|e
   ·subst e;exact absurd (hl.1 _ hz) (Od _)
   ·exact e
  ·rcases List.mem_cons.1 ((h z).2 (by simp[hz]))with e|e
   ·subst e;exact absurd (hm.1 _ hz) (Od _)
   ·exact e
theorem F6:∀{R:List Int} {x:Pair},Asc R→(x∈DZ R↔x.a∈R∧x.b∈R∧x.a < x.b)
 | [],x,_=>by simp[DZ]
 |a::R,x,h=>by
  have h:=List.pairwise_cons.1 h;unfold DZ;rw[List.mem_append,F6 h.2,List.mem_map];constructor
  ·rintro(⟨b,hb,rfl⟩|⟨h1,h2,h3⟩)
   ·exact⟨by simp,by simp[hb],h.1 b hb⟩
   ·exact⟨by simp[h1],by simp[h2],h3⟩
  ·rintro⟨h1,h2,h3⟩;rcases List.mem_cons.1 h1 with e|e
   ·rcases List.mem_cons.1 h2 with e2|e2
    ·omega
    ·exact .inl ⟨x.b,e2,by rw[←e]⟩
   ·rcases List.mem_cons.1 h2 with e2|e2
    ·have:=h.1 x.a e;omega
    ·exact .inr ⟨e,e2,h3⟩
theorem Lp:∀{R:List Int},Asc R→Aph (DZ R)
 | [],_=>List.Pairwise.nil
 |a::R,h=>by
  have h:=List.pairwise_cons.1 h;unfold DZ;refine List.pairwise_append.2 ⟨List.pairwise_map.2 (h.2.imp fun h=>.inr ⟨rfl,h⟩),Lp h.2,fun x hx y hy=>?_⟩;obtain⟨b,hb,rfl⟩:=List.mem_map.1 hx;exact .inl (h.1 _ ((F6 h.2).1 hy).1)
theorem Lo:∀(R:List Int),(DZ R).length≤R.length * R.length
 | []=>Nat.le_refl _
 |a::R=>by
  unfold DZ;rw[List.length_append,List.length_map,List.length_cons];have:=Lo R;have e:(R.length+1) *(R.length+1)=R.length * R.length+2 * R.length+1:=by rw[Nat.add_mul,Nat.mul_add];omega
  omega
def Dy(S:Pair→Bool)(l:List Pair):Pair→Bool:=fun x=>S x||l.contains x
theorem CN(S:Pair→Bool):Dy S []=S:=by funext x;simp[Dy]
theorem DR(S:Pair→Bool)(l m:List Pair):Dy S (l++m)=Dy (Dy S l) m:=by
 funext x;simp only[Dy,List.contains_eq_mem,List.mem_append,Bool.decide_or,Bool.or_assoc]
theorem X8(S:Pair→Bool)(q:Pair):Dy S [q]=Aah S q:=by
 funext x;simp only[Dy,Aah,List.contains_eq_mem,List.mem_cons,List.not_mem_nil,or_false]
theorem L5{S:Pair→Bool}{l:List Pair}{x:Pair}:Dy S l x=true↔S x=true∨x∈l:=by
 simp only[Dy,Bool.or_eq_true,List.contains_iff_mem]
def Cr(a b:Int):List Pair:=if a=b then []else [⟨min a b,max a b⟩]
def InP(R:List Int)(S:Pair→Bool):Prop:=∀x,S x=true→x.a∈R∧x.b∈R∧x.a < x.b
theorem TB(R:List Int):InP R fun _=>false:=fun _ h=>by cases h
theorem Pz{R:List Int}{a b:Int}(ha:a∈R)(hb:b∈R):∀x∈Cr a b,x.a∈R∧x.b∈R∧x.a < x.b:=fun x hx=>by
 unfold Cr at hx;split at hx
 ·cases hx
 ·simp only[List.mem_cons,List.not_mem_nil,or_false]at hx;subst hx;try dsimp only
  rcases Int.lt_or_lt_of_ne (by assumption)with h|h
  ·rw[Int.min_eq_left (by omega),Int.max_eq_right (by omega)];exact⟨ha,hb,h⟩
  ·rw[Int.min_eq_right (by omega),Int.max_eq_left (by omega)];exact⟨hb,ha,h⟩
theorem InP.addL{R:List Int}{S:Pair→Bool}{l:List Pair}(h:InP R S)(hl:∀x∈l,x.a∈R∧x.b∈R∧x.a < x.b):InP R (Dy S l):=fun x hx=>by
 rcases L5.1 hx with hx|hx
 ·exact h x hx
 ·exact hl x hx
def Gb(R:List Int)(S:Pair→Bool):List Pair:=(DZ R).filter S
theorem Ly{R:List Int}{S:Pair→Bool}{x:Pair}(hR:Asc R)(h:InP R S):x∈Gb R S↔S x=true:=by
 unfold Gb;rw[List.mem_filter,F6 hR];exact⟨fun h=>h.2,fun hx=>⟨h x hx,hx⟩⟩
theorem R5{R:List Int}{S:Pair→Bool}(hR:Asc R):Aph (Gb R S):=(Lp hR).filter S
def LT(q:Ins×List Int)(r:Int):Bool:=Az q.1&&(q.1.op !=2||r !=q.1.a)
def RM(q:Ins×List Int):List Pair:=(q.2.filter (LT q)).flatMap (Cr q.1.d)
def FA(f:Func)(k:Nat):Pair→Bool:=Dy (fun _=>false) (((stepsL f).take k).flatMap RM)
def edgeF(l:List Int):List Pair:=(List.range l.length).flatMap fun i=>(l.take i).flatMap (Cr (l[i]?.getD 0))
def EZ(f:Func):List Int:=if f.blocks.length=0 then []else((BU f 0)[0]?).getD []
def CW(f:Func):Pair→Bool:=Dy (FA f (stepsL f).length) (edgeF (EZ f))
def LS(f:Func):List Pair:=Gb (BM f) (CW f)
def mvA(q:Ins×List Int):List Pair:=if q.1.op=2 then Cr q.1.d q.1.a else []
def mvK(f:Func)(k:Nat):Pair→Bool:=Dy (fun _=>false) (((stepsL f).take k).flatMap mvA)
def mvL(f:Func):List Pair:=Gb (BM f) (mvK f (stepsL f).length)
def GD(r:Int)(x:Pair):List Int:=if r=x.a then [x.b]else if r=x.b then [x.a]else []
def WD(f:Func)(r:Int):List Int:=(BM f).filter fun y=>r !=y&&CW f ⟨min r y,max r y⟩
theorem M9{f:Func}{k:Nat}{q:Ins×List Int}(h:(stepsL f)[k]? =some q):FA f (k+1)=Dy (FA f k) (RM q):=by
 unfold FA;rw[List.take_add_one,h,Option.toList_some,List.flatMap_append,DR];simp
theorem UF(f:Func):FA f 0=fun _=>false:=by
 unfold FA;rw[List.take_zero,List.flatMap_nil,CN]
theorem Lx{f:Func}{k:Nat}{q:Ins×List Int}(h:(stepsL f)[k]? =some q):mvK f (k+1)=Dy (mvK f k) (mvA q):=by
 unfold mvK;rw[List.take_add_one,h,Option.toList_some,List.flatMap_append,DR];simp
theorem RC(f:Func):mvK f 0=fun _=>false:=by
 unfold mvK;rw[List.take_zero,List.flatMap_nil,CN]
def Gk(S:Pair→Bool)(q:Ins×List Int)(i:Nat):Pair→Bool:=Dy S (((q.2.take i).filter (LT q)).flatMap (Cr q.1.d))
theorem UG(S:Pair→Bool)(q:Ins×List Int):Gk S q 0=S:=by
 unfold Gk;rw[List.take_zero,List.filter_nil,List.flatMap_nil,CN]
theorem XC{S:Pair→Bool}{q:Ins×List Int}{i:Nat}{r:Int}(h:q.2[i]? =some r)(hq:LT q r=true):Gk S q (i+1)=Dy (Gk S q i) (Cr q.1.d r):=by
 unfold Gk;rw[List.take_add_one,h,Option.toList_some,List.filter_append,List.filter_cons,hq,List.filter_nil,List.flatMap_append,DR];simp
theorem ZT{S:Pair→Bool}{q:Ins×List Int}{i:Nat}{r:Int}(h:q.2[i]? =some r)(hq:LT q r=false):Gk S q (i+1)=Gk S q i:=by
 unfold Gk;rw[List.take_add_one,h,Option.toList_some,List.filter_append,List.filter_cons,hq,List.filter_nil];simp
theorem P9(S:Pair→Bool)(q:Ins×List Int):Gk S q q.2.length=Dy S (RM q):=by
 unfold Gk RM;rw[List.take_length]
def I0(S:Pair→Bool)(l:List Int)(i k:Nat):Pair→Bool:=Dy (Dy S ((List.range i).flatMap fun j=>(l.take j).flatMap (Cr (l[j]?.getD 0)))) ((l.take k).flatMap (Cr (l[i]?.getD 0)))
theorem UH(S:Pair→Bool)(l:List Int):I0 S l 0 0=S:=by
 unfold I0;rw[List.range_zero,List.flatMap_nil,List.take_zero,List.flatMap_nil,CN,CN]
theorem UI{S:Pair→Bool}{l:List Int}{i k:Nat}{a b:Int}(ha:l[i]? =some a)(hb:l[k]? =some b):I0 S l i (k+1)=Dy (I0 S l i k) (Cr a b):=by
 unfold I0;rw[List.take_add_one,hb,ha,Option.toList_some,List.flatMap_append,DR];simp
theorem UJ(S:Pair→Bool)(l:List Int)(i:Nat):I0 S l i i=I0 S l (i+1) 0:=by
 unfold I0;rw[List.range_succ,List.flatMap_append,List.take_zero,List.flatMap_nil,CN,DR];simp
theorem Qa(S:Pair→Bool)(l:List Int):I0 S l l.length 0=Dy S (edgeF l):=by
 unfold I0 edgeF;rw[List.take_zero,List.flatMap_nil,CN]
theorem Jx{f:Func}{r:Int}:r∈BM f↔∃b∈f.blocks,∃x∈b.ins,r∈BL x:=by
 rw[(Fy f).2];unfold Ng Vz;simp only[List.mem_flatMap]
theorem Lj{f:Func}{r:Int}(h:r∈Bg f):r∈BM f:=by
 obtain⟨b,hb,x,hx,hr⟩:=DL.1 h;exact Jx.2 ⟨b,hb,x,hx,List.mem_append.2 (.inl hr)⟩
theorem Iu{f:Func}{q:Ins×List Int}(h:q∈stepsL f):(∃b∈f.blocks,q.1∈b.ins)∧∀r∈q.2,r∈BM f:=
 ⟨(Fp h).1,fun r hr=>Lj ((Fp h).2.1 r hr)⟩
theorem KD{f:Func}{q:Ins×List Int}(h:q∈stepsL f)(hw:Az q.1=true):q.1.d∈BM f:=by
 obtain⟨b,hb,hx⟩:=(Iu h).1;exact Jx.2 ⟨b,hb,q.1,hx,List.mem_append.2 (.inr (by rw[hw];simp))⟩
theorem Jw{x:Ins}(h:x.op=2):Az x=true∧x.a∈readsC x:=by
 unfold Az readsC;rw[h];exact⟨by rfl,List.mem_append.2 (.inl (List.mem_append.2 (.inl (by rw[if_pos (by rfl)];simp))))⟩
theorem SM{f:Func}{q:Ins×List Int}(h:q∈stepsL f)(hw:q.1.op=2):q.1.a∈BM f:=by
 obtain⟨b,hb,hx⟩:=(Iu h).1;exact Jx.2 ⟨b,hb,q.1,hx,List.mem_append.2 (.inl (Jw hw).2)⟩
theorem F8{R:List Int}{a:Int}{l:List Int}(ha:a∈R)(hl:∀r∈l,r∈R):∀x∈l.flatMap (Cr a),x.a∈R∧x.b∈R∧x.a < x.b:=fun x hx=>by
 obtain⟨r,hr,hx⟩:=List.mem_flatMap.1 hx;exact Pz ha (hl r hr) x hx
theorem Tm{f:Func}{S:Pair→Bool}{q:Ins×List Int}(hS:InP (BM f) S)(h:q∈stepsL f)(i:Nat):InP (BM f) (Gk S q i):=by
 unfold Gk;by_cases hw:Az q.1=true
 ·exact hS.addL (F8 (KD h hw) fun r hr=>(Iu h).2 r (List.mem_of_mem_take (List.mem_filter.1 hr).1))
 ·rw[show(q.2.take i).filter (LT q)= []from List.filter_eq_nil_iff.2 fun r _=>by unfold LT;simp[hw],List.flatMap_nil,CN];exact hS
theorem IZ(f:Func):∀k,InP (BM f) (FA f k)
 |0=>by rw[UF];exact TB _
 |k+1=>by
  by_cases hk:k < (stepsL f).length
  ·have hq:=List.getElem?_eq_getElem hk;rw[M9 hq,←P9];exact Tm (IZ f k) (List.mem_of_getElem? hq) _
  ·have:FA f (k+1)=FA f k:=by
    unfold FA;rw[List.take_of_length_le (by omega),List.take_of_length_le (by omega)]
   rw[this];exact IZ f k
theorem P3(f:Func):∀r∈EZ f,r∈BM f:=fun r hr=>by
 unfold EZ at hr;split at hr
 ·cases hr
 ·unfold BU at hr;cases h:((List.range ((BW f 0).length+1)).map (Cg f (Bg f) 0))[0]? with
  |none=>rw[h]at hr;cases hr
  |some l=>
   rw[h]at hr;obtain⟨i,_,e⟩:=List.mem_map.1 (List.mem_of_getElem? h);rw[←e]at hr;exact Lj (List.mem_filter.1 hr).1
theorem Tn{R:List Int}{S:Pair→Bool}{l:List Int}(hS:InP R S)(hl:∀r∈l,r∈R){i k:Nat}(hi:i≤l.length)(hik:k=0∨i < l.length):InP R (I0 S l i k):=by
 have hg:∀j,j < l.length→(l[j]?.getD 0)∈R:=fun j hj=>by
  rw[List.getElem?_eq_getElem hj];exact hl _ (List.getElem_mem hj)
 unfold I0;refine InP.addL (InP.addL hS fun x hx=>?_) ?_
 ·obtain⟨j,hj,hx⟩:=List.mem_flatMap.1 hx;exact F8 (hg j (by have:=List.mem_range.1 hj;omega)) (fun r hr=>hl r (List.mem_of_mem_take hr)) x hx
 ·rcases hik with rfl|hik
  ·intro x hx;simp at hx
  ·exact F8 (hg i hik) fun r hr=>hl r (List.mem_of_mem_take hr)
theorem Fz(f:Func):InP (BM f) (CW f):=by
 unfold CW;rw[←Qa];exact Tn (IZ f _) (P3 f) (Nat.le_refl _) (.inl rfl)
theorem II(f:Func):∀k,InP (BM f) (mvK f k)
 |0=>by rw[RC];exact TB _
 |k+1=>by
  by_cases hk:k < (stepsL f).length
  ·have hq:=List.getElem?_eq_getElem hk;have hm:=List.mem_of_getElem? hq;rw[Lx hq];refine(II f k).addL fun x hx=>?_
   unfold mvA at hx;split at hx
   ·rename_i h2;exact Pz (KD hm (Jw h2).1) (SM hm h2) x hx
   ·cases hx
  ·have:mvK f (k+1)=mvK f k:=by
    unfold mvK;rw[List.take_of_length_le (by omega),List.take_of_length_le (by omega)]
   rw[this];exact II f k
theorem IJ{f:Func}{b i:Nat}{r:Int}:r∈Cg f (Bg f) b i↔inS ((BW f b).drop i) (MW f b) r=true:=by
 unfold Cg;rw[List.mem_filter,PP f (MW f b) b i (fun r=>F3)];exact⟨fun h=>h.2,fun h=>⟨Of f b i r h,h⟩⟩
theorem WN{f:Func}{q:Ins×List Int}:q∈stepsL f↔∃b i,b < f.blocks.length∧(BW f b)[i]? =some q.1∧q.2=Cg f (Bg f) b (i+1):=by
 constructor
 ·intro h;unfold stepsL at h;obtain⟨b,hb,hq⟩:=List.mem_flatMap.1 h;obtain⟨i,hi⟩:=List.mem_iff_getElem?.1 hq;unfold Fq at hi;obtain⟨h1,h2⟩:=List.getElem?_zip_eq_some.1 hi;rw[List.getElem?_drop,Nat.add_comm]at h2;unfold BU at h2;rw[List.getElem?_map]at h2;obtain⟨k,h3,h4⟩:=Option.map_eq_some_iff.1 h2;have h5:=(List.getElem?_eq_some_iff.1 h3).1;rw[List.length_range]at h5;rw[List.getElem?_range h5]at h3;cases h3;exact⟨b,i,List.mem_range.1 hb,h1,h4.symm⟩
 ·rintro⟨b,i,hb,hx,hl⟩;have hi:=(List.getElem?_eq_some_iff.1 hx).1;refine List.mem_of_getElem? (OX hb hx (l:=q.2) ?_);unfold BU;rw[List.getElem?_map,List.getElem?_range (by omega),hl];rfl
theorem WP{q:Ins×List Int}{x:Pair}:x∈RM q↔∃r∈q.2,LT q r=true∧x∈Cr q.1.d r:=by
 unfold RM;simp only[List.mem_flatMap,List.mem_filter,and_assoc]
theorem Rv(a:Int):Cr a a= []:=if_pos rfl
theorem Rw(a b:Int):Cr a b=Cr b a:=by
 unfold Cr;rw[Int.min_comm,Int.max_comm];by_cases h:a=b
 ·rw[if_pos h,if_pos h.symm]
 ·rw[if_neg h,if_neg (Ne.symm h)]
theorem WO{l:List Int}{x:Pair}:x∈edgeF l↔∃a∈l,∃b∈l,x∈Cr a b:=by
 have key:∀(i j:Nat) (a b:Int),j < i→l[i]? =some a→l[j]? =some b→x∈Cr a b→x∈edgeF l:=fun i j a b hji ha hb hx=>by
  unfold edgeF;refine List.mem_flatMap.2 ⟨i,List.mem_range.2 (List.getElem?_eq_some_iff.1 ha).1,List.mem_flatMap.2 ⟨b,?_,by rw[ha];exact hx⟩⟩;exact List.mem_of_getElem? (i:=j) (by rw[List.getElem?_take,if_pos hji];exact hb)
 constructor
 ·intro h;unfold edgeF at h;obtain⟨i,hi,h⟩:=List.mem_flatMap.1 h;obtain⟨b,hb,h⟩:=List.mem_flatMap.1 h;have hi:=List.mem_range.1 hi;rw[List.getElem?_eq_getElem hi]at h;exact⟨_,List.getElem_mem hi,b,List.mem_of_mem_take hb,h⟩
 ·rintro⟨a,ha,b,hb,hx⟩;obtain⟨i,hi⟩:=List.mem_iff_getElem?.1 ha;obtain⟨j,hj⟩:=List.mem_iff_getElem?.1 hb;rcases Nat.lt_trichotomy i j with h|h|h
  ·exact key j i b a h hj hi (by rw[Rw];exact hx)
  ·subst h;rw[hi]at hj;cases hj;rw[Rv]at hx;cases hx
  ·exact key i j a b h hi hj hx
theorem M8{f:Func}{x:Pair}:CW f x=true↔(∃q∈stepsL f,x∈RM q)∨x∈edgeF (EZ f):=by
 unfold CW FA;rw[L5,L5,List.take_length,List.mem_flatMap];simp
theorem Uo{f:Func}{x:Pair}:x∈LS f↔CW f x=true:=Ly (Fy f).1 (Fz f)
section
variable{f:Func}{b:Nat}{bl:Block}{x:Ins}(hb:f.blocks[b]? =some bl)(hne:bl.ins≠[])(hw:Az x=false)
include hb hne hw
end
end Mu
end
section
namespace Mu
open Go
def LvF(p:Prog)(r:Fr)(q:Int):Prop:=inS ((BW (BS p r.f) r.b).drop r.i) (MW (BS p r.f) r.b) q=true
def Yf(p:Prog)(r:Fr):Prop:=∀a b,LvF p r a→LvF p r b→a≠b→CW (BS p r.f) ⟨min a b,max a b⟩=false→regA r a=regA r b
theorem G5{p:Prog}{r:Fr}(h:r.b < (BS p r.f).blocks.length):BW (BS p r.f) r.b=ON p r:=by
 unfold BW ON;rw[List.getElem?_eq_getElem h,List.getD_eq_getElem?_getD,List.getElem?_eq_getElem h];rfl
theorem XH{p:Prog}{r:Fr}(hr:FrOk p r):(BW (BS p r.f) r.b).drop r.i=Cu p r::(BW (BS p r.f) r.b).drop (r.i+1):=by
 have h:=hr.i;rw[G5 hr.b,List.drop_eq_getElem_cons h];unfold Cu;rw[List.getD_eq_getElem?_getD,List.getElem?_eq_getElem h];rfl
theorem KJ{p:Prog}{r:Fr}{q:Int}:q∈Cg (BS p r.f) (Bg (BS p r.f)) r.b r.i↔LvF p r q:=IJ
theorem PL{p:Prog}(hp:ProgOk p){r:Fr}(hr:FrOk p r){q:Int}(h:LvF p r q):0≤q∧q < (BS p r.f).regs:=by
 have h1:=Of (BS p r.f) r.b r.i q h;obtain⟨b,hb,x,hx,hq⟩:=DL.1 h1;exact(((LM hp hr.f).ins b hb).2.1 x hx).reads q hq
theorem Oc{p:Prog}{r q:Fr}(hr:FrOk p r)(hf:q.f=r.f)(hb:q.b=r.b)(hi:q.i=r.i+1){a:Int}(ha:LvF p q a)(hn:Az (Cu p r)=false∨a≠(Cu p r).d):LvF p r a:=by
 unfold LvF at ha⊢;rw[hf,hb,hi]at ha;rw[XH hr];show Id _ _ _=true;rw[KP];have h1:(Az (Cu p r)&&(Cu p r).d ==a)=false:=by
  rcases hn with h|h
  ·rw[h,Bool.false_and]
  ·rw[show((Cu p r).d ==a)=false by simpa using Ne.symm h,Bool.and_false]
 have ha':inS ((BW (BS p r.f) r.b).drop (r.i+1)) (MW (BS p r.f) r.b) a=true:=ha;unfold inS at ha';rw[h1,ha'];simp
theorem Acx{p:Prog}{r:Fr}(hr:FrOk p r):(Cu p r,Cg (BS p r.f) (Bg (BS p r.f)) r.b (r.i+1))∈stepsL (BS p r.f):=by
 refine WN.2 ⟨r.b,r.i,hr.b,?_,rfl⟩;rw[G5 hr.b];unfold Cu;rw[List.getD_eq_getElem?_getD,List.getElem?_eq_getElem hr.i];rfl
theorem ST{p:Prog}{r:Fr}(hr:FrOk p r)(hw:Az (Cu p r)=true){a:Int}(ha:a∈Cg (BS p r.f) (Bg (BS p r.f)) r.b (r.i+1))(hd:a≠(Cu p r).d)(he:CW (BS p r.f) ⟨min (Cu p r).d a,max (Cu p r).d a⟩=false):(Cu p r).op=2∧a=(Cu p r).a:=by
 by_cases h:(Cu p r).op=2∧a=(Cu p r).a
 ·exact h
 ·exfalso;have h1:LT (Cu p r,Cg (BS p r.f) (Bg (BS p r.f)) r.b (r.i+1)) a=true:=by
   unfold LT;rw[hw,Bool.true_and,Bool.or_eq_true];by_cases h2:(Cu p r).op=2
   ·exact .inr (by simpa using fun e=>h ⟨h2,e⟩)
   ·exact .inl (by simpa using h2)
  have h2:=M8.2 (.inl ⟨_,Acx hr,WP.2 ⟨a,ha,h1,(by
   unfold Cr;rw[if_neg (Ne.symm hd)];exact List.mem_singleton.2 rfl:(⟨min (Cu p r).d a,max (Cu p r).d a⟩:Pair)∈Cr (Cu p r).d a)⟩⟩)
  rw[he]at h2;cases h2
theorem KE{r q:Fr}{d w a:Int}(hq:q.regs=r.regs.set d.toNat w)(ha:0≤a)(hd:0≤d)(hne:a≠d):regA q a=regA r a:=by
 unfold regA;rw[hq,List.getD_eq_getElem?_getD,List.getElem?_set_ne (by omega),List.getD_eq_getElem?_getD]
theorem Pn{r q:Fr}{d w:Int}(hq:q.regs=r.regs.set d.toNat w)(hd:d.toNat < r.regs.length):regA q d=w:=by
 unfold regA;rw[hq,List.getD_eq_getElem?_getD,List.getElem?_set_self hd];rfl
theorem SH{p:Prog}(hp:ProgOk p){k:Nat}{args:List Int}(hk:k < p.funcs.length):Yf p (newFr p k args):=fun a b ha hb hne he=>by
 exfalso;have hF:=LM hp hk;have hpl:EZ (BS p k)=Cg (BS p k) (Bg (BS p k)) 0 0:=by
  unfold EZ;rw[if_neg (by have:=List.length_pos_iff.2 hF.blocks;omega)];unfold BU;rw[List.getElem?_map,List.getElem?_range (by omega)];rfl
 have h:=M8.2 (.inr (WO.2 ⟨a,by rw[hpl];exact IJ.2 ha,b,by rw[hpl];exact IJ.2 hb,(by
  unfold Cr;rw[if_neg hne];exact List.mem_singleton.2 rfl:(⟨min a b,max a b⟩:Pair)∈Cr a b)⟩))
 have he:CW (BS p k) ⟨min a b,max a b⟩=false:=he;rw[he]at h;cases h
theorem Ac2{p:Prog}(hp:ProgOk p){r q:Fr}(hr:FrOk p r)(hm:FrMv p r q)(hG:Yf p r):Yf p q:=fun a b ha hb hne he=>by
 obtain⟨hf,hgo⟩:=hm;rw[hf]at he;obtain⟨_,hx,hend⟩:=Ka hp hr;rcases hgo with⟨hqb,hqi,h8,hw⟩|⟨hqi,hqr,hop⟩
 ·rcases hw with⟨hqr,hw⟩|⟨hw,w,hqr,hmv⟩
  ·have:=hG a b (Oc hr hf hqb hqi ha (.inl hw)) (Oc hr hf hqb hqi hb (.inl hw)) hne he;unfold regA at this⊢;rw[hqr];exact this
  ·have hd:=hx.dst hw;have hdl:(Cu p r).d.toNat < r.regs.length:=by rw[hr.regs];omega
   have hnn:∀z,LvF p q z→0≤z:=fun z hz=>by
    have h1:=Of (BS p q.f) q.b q.i z hz;rw[hf]at h1;obtain⟨c,hc,y,hy,hq⟩:=DL.1 h1;exact((((LM hp hr.f).ins c hc).2.1 y hy).reads z hq).1
   have hpl:∀z,LvF p q z→z∈Cg (BS p r.f) (Bg (BS p r.f)) r.b (r.i+1):=fun z hz=>by
    unfold LvF at hz;rw[hf,hqb,hqi]at hz;exact IJ.2 hz
   by_cases ea:a=(Cu p r).d
   ·have eb:b≠(Cu p r).d:=fun e=>hne (ea.trans e.symm)
    obtain⟨h2,e⟩:=ST hr hw (hpl b hb) eb (by rw[←ea];exact he);rw[KE hqr (hnn b hb) hd.1 eb,ea,Pn hqr hdl,hmv h2,e]
   ·by_cases eb:b=(Cu p r).d
    ·obtain⟨h2,e⟩:=ST hr hw (hpl a ha) ea (by rw[←eb,Int.min_comm,Int.max_comm];exact he);rw[KE hqr (hnn a ha) hd.1 ea,eb,Pn hqr hdl,hmv h2,e]
    ·rw[KE hqr (hnn a ha) hd.1 ea,KE hqr (hnn b hb) hd.1 eb];exact hG a b (Oc hr hf hqb hqi ha (.inr ea)) (Oc hr hf hqb hqi hb (.inr eb)) hne he
 ·have hlast:r.i+1=(ON p r).length:=hend.1 (by rcases hop with⟨h,_⟩|⟨h,_⟩ <;> omega);have hnw:Az (Cu p r)=false:=by
   unfold Az;rcases hop with⟨h,_⟩|⟨h,_⟩ <;> rw[h] <;> decide
  have hql:q.b < (BS p r.f).blocks.length:=by
   rcases hop with⟨h,e⟩|⟨h,e|e⟩
   ·rw[e];exact(hx.l1 (.inl h)).2
   ·rw[e];exact(hx.l1 (.inr h)).2
   ·rw[e];exact(hx.l2 h).2
  have hrb:=hr.b;have hE:Edge (BS p r.f) r.b q.b:=by
   refine ZS.2 ⟨_,Cu p r,List.getElem?_eq_getElem hrb,?_,hql,?_⟩
   ·have e:(BS p r.f).blocks[r.b].ins=ON p r:=by
     unfold ON;rw[List.getD_eq_getElem?_getD,List.getElem?_eq_getElem hr.b];rfl
    rw[e,List.getLast?_eq_getElem?,←hlast,Nat.add_sub_cancel];unfold Cu;rw[List.getD_eq_getElem?_getD,List.getElem?_eq_getElem hr.i];rfl
   ·unfold Eq;rcases hop with⟨h,e⟩|⟨h,e|e⟩
    ·have h0:=(hx.l1 (.inl h)).1;rw[if_neg (by omega),if_pos h,e,Int.toNat_of_nonneg h0];simp
    ·have h0:=(hx.l1 (.inr h)).1;rw[if_pos h,e,Int.toNat_of_nonneg h0];simp
    ·have h0:=(hx.l2 h).1;rw[if_pos h,e,Int.toNat_of_nonneg h0];by_cases e2:(Cu p r).l2=(Cu p r).l1
     ·rw[e2];simp
     ·rw[if_neg e2];simp
  have hlv:∀z,LvF p q z→LvF p r z:=fun z hz=>by
   unfold LvF at hz;rw[hf,hqi,List.drop_zero,M2]at hz;have hin:LIn (BS p r.f) q.b z:=by
    rcases Bool.or_eq_true_iff.1 hz with h|h
    ·exact .inl h
    ·rw[Bool.and_eq_true]at h;exact .inr ⟨h.1,F3.1 h.2⟩
   have hout:=F3.2 (SX.2 ⟨_,hE,hin⟩);unfold LvF;rw[XH hr,List.drop_of_length_le (by rw[G5 hr.b];omega)];show Id _ _ _=true;rw[KP,hnw];simp only[Bool.false_and,Bool.not_false,Bool.true_and,Bool.or_eq_true];exact .inr hout
  have:=hG a b (hlv a ha) (hlv b hb) hne he;unfold regA at this⊢;rw[hqr];exact this
end Mu
end
section
namespace Mu
open Go Go.RowKit Go.Proofs Go.Maps
def Ln(p:Pair→Bool)(a:Int)(b:Int):M (Pair→Bool):=M.cnd (!(((if b < a then b else a) ==(if b > a then b else a))&&(((if b > a then b else a) ==(if b < a then b else a))&&true))) (M.chk (Ju ⟨(if b < a then b else a),(if b > a then b else a)⟩) (M.ok (Aah p ⟨(if b < a then b else a),(if b > a then b else a)⟩))) (M.ok p)
theorem Ru{p:Pair→Bool}{a:Int}{b:Int}{m:Nat}{r:Pair→Bool}{L:List Pair}(hL:∀x,okPair x→p x=true→x∈L)(hl:L.length < maxLen)(H:(Ln p a b).to r):Gh Tryz.prog 132 (CY p m) [.lit (.map (some m)),.lit (.int .i64 a),.lit (.int .i64 b)] (fun _:Unit=>CY r m) (fun _=>.tuple #[]):=by
 delta Ln at H;try dsimp only at H
 refine My Tryz.func132 rfl (by kernel_rfl) rfl Tryz.ntmps132 rfl (fun _ _ _ _ h=>h) fun C=>?_
 simp only[List.length_cons,List.length_nil,Nat.reduceAdd,Nat.reduceSub,List.replicate_succ,List.replicate_zero,List.cons_append,List.nil_append];refine wS (sT (sT ?_));refine sA ?_ (Av.min2 rfl QU (AT Tb)) (Bf T3);refine sT (sT ?_);refine sA ?_ (Av.max2 rfl (AT Aft) (AT Ab6)) (Bf Ac0);refine sA ?_ (B9 (rs:=[.lit (.int .i64 (if b < a then b else a)),.lit (.int .i64 (if b > a then b else a))]) rfl IE rfl rfl) (Bf Agz);refine sA0 ?_;refine sW ?_;refine wN ?_;refine wS (sT (sT (sT (sT (sT ?_)))));refine sA ?_ (B9 (rs:=[.lit (.int .i64 (if b > a then b else a)),.lit (.int .i64 (if b < a then b else a))]) rfl IE rfl rfl) (Bf (Bf Ag0));refine sA ?_ (Mf (bs:=[true,true]) (vs:=[(.int .i64 (if b < a then b else a)),(.int .i64 (if b > a then b else a))]) (ws:=[(.int .i64 (if b > a then b else a)),(.int .i64 (if b < a then b else a))]) (by kernel_rfl) rfl (AT OM) (AT (AT Ab6)) rfl) (Bf (Bf Ac0));refine wN ?_;refine Ae rfl (fun hb1=>?_) (fun hb1=>?_)
 ·have H:=BN hb1 H;obtain⟨c2,H⟩:=AM.1 H;refine wSE (sT (sT ?_));(refine Ao rfl (Aax (q:=⟨(if b < a then b else a),(if b > a then b else a)⟩) 0 rfl Tryz.underlying131 rfl rfl rfl rfl hL hl (MY c2) ?_);refine Apk ?_ Arl);refine wN ?_;repeat(first|refine abN ?_|refine asN ?_)
  obtain rfl:=Am.1 H;exact⟨.inl rfl,(),rfl,rfl⟩
 ·have H:=BO hb1 H;refine Ag ?_;repeat(first|refine abN ?_|refine asN ?_)
  obtain rfl:=Am.1 H;exact⟨.inl rfl,(),rfl,rfl⟩
instance Aj0:AG Tryz.prog 131 false 1:=⟨by kernel_rfl⟩
instance Ajz:SZ Tryz.prog 131 1:=⟨by kernel_rfl⟩
instance Ajy:ZC Tryz.prog 131 [.map none]:=⟨by kernel_rfl⟩
section
variable{C:Ctx}{t:List AV}{h:List ABlk}{o:Oper}{K:St→Prop}
theorem Mt{ty:TypeId}(ho:o.op= .makeMap ty none)(hK:∀m,K ⟨AJ t o.dst (.lit (.map (some m))),h++[.res (CY (fun _=>false) m)]⟩):AOp Tryz.prog C o ⟨t,h⟩ K:=by
 refine Cj (ι:=Nat) (Rs:=CY fun _=>false) (val:=fun m=>.map (some m)) (fun _=>rfl) (fun S ψ w ρ H hρ=>?_) hK;have he:(execOp ρ o).run Tryz.prog w= .ok (.value (.map (some w.heap.size))) (w.alloc (.map #[] 0)):=by simp[execOp,ho,run_makeMap]
 rw[he];have hbl:=(Below.refl w.heap.size w).alloc (Nat.le_refl _) (.map #[] 0);refine⟨⟨hbl.os,hbl.tape,hbl.output,hbl.size,fun k hk _=>hbl.block k hk⟩,w.heap.size,rfl,⟨.map [],MV (World.ownsMap_made w Tryz.prog 127 (plainElem Tryz.prog 3)),fun x _=>by simp[has_eq]⟩,fun k hk=>?_⟩;have hk:k=w.heap.size:=hk;subst hk;exact⟨.inr (Nat.le_refl _),by simp⟩
end
theorem Gz{f:Func}(hX:(Ng f).length≤2097152):(BM f).length≤2097152:=Nat.le_trans (G7 _).1 hX
theorem Iy{f:Func}(ho:okFunc f):∀r∈BM f,Jj r:=fun r hr=>by
 refine(G7 (Ng f)).2 (fun q hq=>?_) r hr;unfold Ng Vz at hq;obtain⟨b,hb,hq⟩:=List.mem_flatMap.1 hq;obtain⟨x,hx,hq⟩:=List.mem_flatMap.1 hq;exact KC ((ho.blocks b hb).ins x hx) q hq
theorem NU{R:List Int}{S:Pair→Bool}{m:Nat}{a b:Int}(hR:R.length≤2097152)(hin:InP R S)(ha:Jj a)(hb:Jj b):
 Gh Tryz.prog 132 (CY S m) [.lit (.map (some m)),.lit (.int .i64 a),.lit (.int .i64 b)] (fun _:Unit=>CY (Dy S (Cr a b)) m) (fun _=>.tuple #[]):=by
 have hL:∀x,okPair x→S x=true→x∈R.flatMap fun a=>R.map fun b=>(⟨a,b⟩:Pair):=fun x _ hx=>by
  obtain⟨h1,h2,_⟩:=hin x hx;exact List.mem_flatMap.2 ⟨x.a,h1,List.mem_map.2 ⟨x.b,h2,rfl⟩⟩
 have hlen:∀l:List Int,(l.flatMap fun a=>R.map fun b=>(⟨a,b⟩:Pair)).length=l.length * R.length:=fun l=>by
  induction l with
  |nil=>simp
  |cons a l ih=>rw[List.flatMap_cons,List.length_append,ih,List.length_map,List.length_cons,Nat.add_mul,Nat.one_mul,Nat.add_comm]
 have hl:(R.flatMap fun a=>R.map fun b=>(⟨a,b⟩:Pair)).length < maxLen:=by
  rw[hlen];have:R.length * R.length≤2097152 * 2097152:=Nat.mul_le_mul hR hR;unfold maxLen;omega
 refine Ru hL hl ?_;unfold Ln Cr;by_cases h:a=b
 ·subst h;rw[if_pos rfl,CN];refine Bc ?_ (An _);simp
 ·rw[if_neg h,X8];have e1:(if b < a then b else a)=min a b:=by rw[Int.min_def];split <;> split <;> omega
  have e2:(if b > a then b else a)=max a b:=by rw[Int.max_def];split <;> split <;> omega
  rw[e1,e2];refine BT ?_ (AA ?_ (An _))
  ·have:min a b≠max a b:=by rw[Int.min_def,Int.max_def];split <;> omega
   simp[this]
  ·unfold Ju;rw[Bool.and_eq_true];constructor
   ·show wfB .i64 (min a b)=true;rw[Int.min_def];split
    ·exact ha
    ·exact hb
   ·show wfB .i64 (max a b)=true;rw[Int.max_def];split
    ·exact hb
    ·exact ha
theorem P8(f:Func)(ho:okFunc f)(hs:smallF f)(hT:(B3 f).length≤2097152)(hA:(Ng f).length≤2097152)(hi1:∀b∈f.blocks,b.ins.length+1≤2097152):QE Tryz.prog 79 [.agg (Ak f)] (fun m=>CY (CW f) m) (fun m=>.map (some m)):=by
 have hbl:=hs.blocks;have hRl:(BM f).length≤2097152:=Gz hA;have hLl:(Bg f).length≤2097152:=Nat.le_trans (Gy _) hT;have hRw:∀r∈BM f,Jj r:=Iy ho;refine OD Tryz.func79 rfl (by kernel_rfl) rfl Tryz.ntmps79 (fun _ _ _ _ h=>h) fun C hC hrd=>?_
 refine nS ?_;refine Ac fun K1 h1=>?_
 refine rC ?_;refine h1 _ ?_;refine nT ?_;refine Ac fun K2 h2=>?_
 (refine Awp.region ?_;(repeat(first|refine sQ ?_ (AH rfl rfl rfl rfl)|refine sQ ?_ (Ay rfl rfl rfl rfl)|refine sQ ?_|refine AO ?_|refine sG ?_|refine B6 ?_)))
 refine Ao rfl (Mt rfl fun m=>?_);refine sNt ?_
 (repeat(first|refine sQ ?_ (AH rfl rfl rfl rfl)|refine sQ ?_ (Ay rfl rfl rfl rfl)|refine sQ ?_|refine AO ?_|refine sG ?_|refine B6 ?_))
 refine Ar ?_;refine h2 _ ?_;refine nT ?_;refine Bv 1 rfl rfl rfl (fun g=>(.any::.lit (.pointer (some ⟨g,0,none⟩))::.lit (.map none)::.ptr 3 0::A40 (A20 (A10 (A4 []))))) (fun g=>(by(repeat(first|exact OpnB.nil|refine OpnB.ptr ?_|refine OpnB.any ?_|refine OpnB.keep rfl ?_)))) fun g1=>?_
 refine Bv 3 rfl rfl rfl (fun g=>(.any::.lit (.pointer (some ⟨g1,0,none⟩))::.any::.lit (.pointer (some ⟨g,0,none⟩))::A40 (A20 (A10 (A4 []))))) (fun g=>(by(repeat(first|exact OpnB.nil|refine OpnB.ptr ?_|refine OpnB.any ?_|refine OpnB.keep rfl ?_)))) fun g3=>?_
 refine Ac fun K3 h3=>?_
 refine Ac fun K4 h4=>?_
 (refine Awp.region ?_;(repeat(first|refine sQ ?_ (AH rfl rfl rfl rfl)|refine sQ ?_ (Ay rfl rfl rfl rfl)|refine sQ ?_|refine AO ?_|refine sG ?_|refine B6 ?_)))
 (repeat(first|refine sQ ?_ (AH rfl rfl rfl rfl)|refine sQ ?_ (Ay rfl rfl rfl rfl)|refine sQ ?_|refine AO ?_|refine sG ?_|refine B6 ?_))
 refine Ao rfl (Co rfl (KY f) (fun _=>rfl) rfl rfl fun p=>?_);refine sNt ?_;refine Ar ?_;refine h4 _ ?_;refine nT ?_;refine Af ?_;refine As ⟨(.any::.lit (.pointer (some ⟨g1,0,none⟩))::.any::.lit (.pointer (some ⟨g3,0,none⟩))::A10 (A3 (.lit (stF p)::A40 (A20 [])))),[.res (Bq []),.res (Bn g1 (Ak f)),.res (CY (FA f 0) m),.res (Bn g3 [.lit (.map (some m))]),.res (Bn p (Ak f))]⟩ (Fb (.cons (.cons (.cons (.cons (.cons (Cut.nil _))))))) ?_;refine FN 4 0 (fun k=>[.dead,.res (Bn g1 (Ak f)),.res (CY (FA f k) m),.res (Bn g3 [.lit (.map (some m))]),.dead]) hrd (by kernel_rfl) (by decide) rfl rfl rfl ?hdrop rfl (fun _=>rfl) (fun _=>rfl) rfl (VV f) (Q8 f) (Jl f ho hs hT hi1 p) ?hround ?hdone
 case hdrop=>
  exact⟨Cut.dead (Cut.cons (Cut.cons (Cut.cons (Cut.dead (Cut.nil _))))),fun b hb=>List.all_eq_true.1 (show bdH [.dead,.res (Bn g1 (Ak f)),.res (CY (FA f 0) m),.res (Bn g3 [.lit (.map (some m))]),.dead]=true from rfl) b hb⟩
 case hround=>
  intro k hk C' hr';obtain⟨q,hq⟩:∃q,(stepsL f)[k]? =some q:=⟨_,List.getElem?_eq_getElem hk⟩
  have hqm:=List.mem_of_getElem? hq;obtain⟨⟨bl,hbm,hxb⟩,hqr⟩:=Iu hqm;have hql:=(Fp hqm).2.2;have hox:=(ho.blocks bl hbm).ins q.1 hxb;have hcs:=M9 hq;have hin:=IZ f k;try dsimp only
  rw[SF hq];generalize hS0:FA f k=S0 at hcs hin⊢;refine Dr (t':=(.any::.lit (.pointer (some ⟨g1,0,none⟩))::.any::.lit (.pointer (some ⟨g3,0,none⟩))::A10 (A3 (.lit (stF p)::.agg (AL q.1)::.bs tInt q.2::A40 (A10 (A8 [])))))) rfl rfl ?_;refine Ac fun K6 h6=>?_
  refine rC ?_;refine h6 _ ?_;refine nT ?_;refine rC ?_;refine athen_n fun C'' hr''=>?_
  refine nT ?_;refine Af ?_;refine Ac fun K8 h8=>?_
  (refine Awp.region ?_;(repeat(first|refine sQ ?_ (Av.call rfl (Gq q.1 hox) rfl rfl rfl)|refine sQ ?_ (AH rfl rfl rfl rfl)|refine sQ ?_ (Ay rfl rfl rfl rfl)|refine sQ ?_|refine AO ?_|refine sG (hq:=by(intro hg;(try simp only[Bool.and_eq_true,beq_iff_eq]at hg);(try simp only[hg,cond_true,Bool.true_and,beq_self_eq_true]);exact Av.call rfl (Gq q.1 hox) rfl rfl rfl)) ?_|refine sG ?_|refine B6 ?_));refine Ar ?_)
  refine h8 _ ?_;refine nT ?_;refine Ac fun K9 h9=>?_
  refine rC ?_;refine h9 _ ?_;refine nT ?_;refine Af ?_;have hqi:=fun i=>Tm hin hqm i
  refine Au (fun i:Nat=>⟨(.any::.lit (.pointer (some ⟨g1,0,none⟩))::.any::.lit (.pointer (some ⟨g3,0,none⟩))::.ptr 5 0::.any::.lit (.int .i64 (if Az q.1 then q.1.d else 0))::.lit (.bool (Az q.1))::A10 (A7 (.bs tInt q.2::.lit (.int .i64 (q.2.length:Int))::.lit (.int .i64 (i:Int))::A40 (A10 [])))),[.dead,.res (Bn g1 (Ak f)),.res (CY (Gk S0 q i) m),.res (Bn g3 [.lit (.map (some m))]),.dead,.box (AL q.1)]⟩) (fun i=>i≤q.2.length) (fun i=>q.2.length - i) 0 (Nat.zero_le _) (by rw[UG];exact Ce) ?_;intro i hi
  (try dsimp only at hi);(try dsimp only)
  refine Ac fun K13 h13=>?_
  refine rC ?_;refine h13 _ ?_;refine nT ?_;refine Ac fun K14 h14=>?_
  refine Ae rfl (fun hb15=>?_) (fun hb15=>?_)
  ·have hlt:i < q.2.length:=by simpa using hb15
   obtain⟨r,hr⟩:∃r,q.2[i]? =some r:=⟨_,List.getElem?_eq_getElem hlt⟩
   have hrw:=hRw r (hqr r (List.mem_of_getElem? hr));refine Ag ?_;refine h14 _ ?_;refine nT ?_;refine Ac fun K16 h16=>?_
   refine Af ?_;refine Ac fun K17 h17=>?_
   refine rC ?_;refine h17 _ ?_;refine nT ?_;refine Ac fun K18 h18=>?_
   refine rC ?_;refine h18 _ ?_;refine nT ?_;refine Ae rfl (fun hb19=>?_) (fun hb19=>?_)
   ·have hbe:LT q r=true:=hb19;have hw:Az q.1=true:=by unfold LT at hbe;rw[Bool.and_eq_true]at hbe;exact hbe.1
    have hd:(if Az q.1 then q.1.d else 0)=q.1.d:=if_pos hw;have e2:Gk S0 q (i+1)=Dy (Gk S0 q i) (Cr (if Az q.1 then q.1.d else 0) r):=by rw[hd];exact XC hr hbe
    have hdw:Jj (if Az q.1 then q.1.d else 0):=by rw[hd];exact hRw _ (KD hqm hw)
    (refine Awp.region ?_;(repeat(first|refine sQ ?_ (AH rfl rfl rfl rfl)|refine sQ ?_ (Ay rfl rfl rfl rfl)|refine sQ ?_|refine AO ?_|refine sG ?_|refine B6 ?_)))
    (repeat(first|refine sQ ?_ (AH rfl rfl rfl rfl)|refine sQ ?_ (Ay rfl rfl rfl rfl)|refine sQ ?_|refine AO ?_|refine sG ?_|refine B6 ?_))
    refine Ao rfl (BR (i:=2) rfl rfl (NU hRl (hqi i) hdw hrw) (fun _=>rfl) rfl rfl fun _=>?_);refine sNt ?_;refine Ar ?_;refine h16 _ ?_;refine nT ?_;refine rC ?_;refine athen_n ⟨i+1,by omega,by omega,?_⟩;rw[e2];exact Ce
   ·have e2:Gk S0 q (i+1)=Gk S0 q i:=ZT hr hb19;refine Ag ?_;refine h16 _ ?_;refine nT ?_;refine rC ?_;refine athen_n ⟨i+1,by omega,by omega,?_⟩;rw[e2];exact Ce
  ·have hie:i=q.2.length:=by
    have:¬i < q.2.length:=by simpa using hb15
    omega
   subst hie;have e3:Gk S0 q q.2.length=FA f (k+1):=by rw[hcs,P9]
   rw[e3];refine Aq ?_;exact⟨rfl,⟨.cons (.cons (.cons (.cons (.cons (Cut.nil _))))),fun b hb=>List.all_eq_true.1 (show bdH [.dead,.res (Bn g1 (Ak f)),.res (CY (FA f (k+1)) m),.res (Bn g3 [.lit (.map (some m))]),.dead]=true from rfl) b hb⟩⟩
 case hdone=>
  intro D;refine h3 _ ?_;refine Dr (t':=(.any::.lit (.pointer (some ⟨g1,0,none⟩))::.any::.lit (.pointer (some ⟨g3,0,none⟩))::A10 (A3 (.lit (stF p)::A40 (A20 []))))) (h':=[.res (Bq [D]),.res (Bn g1 (Ak f)),.res (CY (FA f (stepsL f).length) m),.res (Bn g3 [.lit (.map (some m))]),.dead]) rfl rfl ?_;have hin:=IZ f (stepsL f).length;have hes:CW f=Dy (FA f (stepsL f).length) (edgeF (EZ f)):=rfl;generalize hS1:FA f (stepsL f).length=S1 at hin hes⊢;refine Ac fun K20 h20=>?_
  refine Ac fun K21 h21=>?_
  refine rC ?_;refine h21 _ ?_;refine nT ?_;refine Ae rfl (fun hb22=>?_) (fun hb22=>?_)
  ·have hne:0 < f.blocks.length:=by simpa using hb22
   have hat:(atF f 0)[0]? =some (EZ f):=by
    unfold atF EZ;rw[if_pos ⟨by decide,by omega⟩,if_neg (by omega),show(0:Int).toNat=0 from rfl,J9];rfl
   have hlin:=P3 f;have hfl:(EZ f).length≤2097152:=by
    unfold EZ;rw[if_neg (by omega),J9];exact Nat.le_trans (List.length_filter_le _ _) hLl
   generalize hl0:EZ f=l at hat hes hlin hfl;refine Ac fun K23 h23=>?_
   (refine Awp.region ?_;(repeat(first|refine sQ ?_ (Av.call rfl (Af9 f 0 ho hs hT) rfl rfl rfl)|refine sQ ?_ (AH rfl rfl rfl rfl)|refine sQ ?_ (Ay rfl rfl rfl rfl)|refine sQ ?_|refine AO ?_|refine sG (hq:=by(intro hg;(try simp only[Bool.and_eq_true,beq_iff_eq]at hg);(try simp only[hg,cond_true,Bool.true_and,beq_self_eq_true]);exact Av.call rfl (Af9 f 0 ho hs hT) rfl rfl rfl)) ?_|refine sG ?_|refine B6 ?_));refine Ar ?_)
   refine h23 _ ?_;refine nT ?_;refine Ac fun K24 h24=>?_
   refine rC ?_;refine h24 _ ?_;refine nT ?_;refine Af ?_;refine Au (fun i:Nat=>⟨(A3 (.lit (.pointer (some ⟨g3,0,none⟩))::A6 (.bs tInt l::A40 (A5 (.bs tInt l::.lit (.int .i64 (l.length:Int))::.lit (.int .i64 (i:Int))::A10 (A9 [])))))),[.res (Bq [D]),.res (Bn g1 (Ak f)),.res (CY (I0 S1 l i 0) m),.res (Bn g3 [.lit (.map (some m))]),.dead]⟩) (fun i=>i≤l.length) (fun i=>l.length - i) 0 (Nat.zero_le _) (by rw[UH];exact Ce) ?_;intro i hi
   (try dsimp only at hi);(try dsimp only)
   refine Ac fun K26 h26=>?_
   refine rC ?_;refine h26 _ ?_;refine nT ?_;refine Ac fun K27 h27=>?_
   refine Ae rfl (fun hb28=>?_) (fun hb28=>?_)
   ·have hlt:i < l.length:=by simpa using hb28
    obtain⟨a,ha⟩:∃a,l[i]? =some a:=⟨_,List.getElem?_eq_getElem hlt⟩
    have haw:=hRw a (hlin a (List.mem_of_getElem? ha));have htk:(l.take i).length=i:=by rw[List.length_take];omega
    refine Ag ?_;refine h27 _ ?_;refine nT ?_;refine Ac fun K29 h29=>?_
    refine Af ?_;refine Ac fun K30 h30=>?_
    refine rC ?_;refine h30 _ ?_;refine nT ?_;refine Ac fun K31 h31=>?_
    (refine Awp.region ?_;(repeat(first|refine sQ ?_ (Md (l:=0) (m:=i) rfl rfl rfl rfl ⟨_,rfl⟩ (Nat.zero_le _) (by omega))|refine sQ ?_ (AH rfl rfl rfl rfl)|refine sQ ?_ (Ay rfl rfl rfl rfl)|refine sQ ?_|refine AO ?_|refine sG (hq:=by(intro hg;(try simp only[Bool.and_eq_true,beq_iff_eq]at hg);(try simp only[hg,cond_true,Bool.true_and,beq_self_eq_true]);exact Md (l:=0) (m:=i) rfl rfl rfl rfl ⟨_,rfl⟩ (Nat.zero_le _) (by omega))) ?_|refine sG ?_|refine B6 ?_));refine Ar ?_)
    refine h31 _ ?_;refine nT ?_;refine Af ?_;refine Au (fun k:Nat=>⟨(A3 (.lit (.pointer (some ⟨g3,0,none⟩))::A6 (.bs tInt l::.any::.lit (.int .i64 a)::A40 (A3 (.bs tInt l::.lit (.int .i64 (l.length:Int))::.lit (.int .i64 (i:Int))::A6 (.bs tInt (l.take i)::.lit (.int .i64 ((l.take i).length:Int))::.lit (.int .i64 (k:Int))::A10 [])))))),[.res (Bq [D]),.res (Bn g1 (Ak f)),.res (CY (I0 S1 l i k) m),.res (Bn g3 [.lit (.map (some m))]),.dead]⟩) (fun k=>k≤i) (fun k=>i - k) 0 (Nat.zero_le _) (Ce) ?_;intro k hk
    (try dsimp only at hk);(try dsimp only)
    refine Ac fun K33 h33=>?_
    refine rC ?_;refine h33 _ ?_;refine nT ?_;refine Ac fun K34 h34=>?_
    refine Ae rfl (fun hb35=>?_) (fun hb35=>?_)
    ·have hlk:k < i:=by
      have:(k:Int) < ((l.take i).length:Int):=of_decide_eq_true hb35;omega
     obtain⟨b,hbk⟩:∃b,l[k]? =some b:=⟨_,List.getElem?_eq_getElem (by omega)⟩
     have hbt:(l.take i)[k]? =some b:=by rw[List.getElem?_take,if_pos hlk];exact hbk
     have hbw:=hRw b (hlin b (List.mem_of_getElem? hbk));have e2:=UI (S:=S1) ha hbk;refine Ag ?_;refine h34 _ ?_;refine nT ?_;refine Ac fun K36 h36=>?_
     refine Af ?_;refine Ac fun K37 h37=>?_
     refine rC ?_;refine h37 _ ?_;refine nT ?_
     (refine Awp.region ?_;(repeat(first|refine sQ ?_ (AH rfl rfl rfl rfl)|refine sQ ?_ (Ay rfl rfl rfl rfl)|refine sQ ?_|refine AO ?_|refine sG ?_|refine B6 ?_)))
     (repeat(first|refine sQ ?_ (AH rfl rfl rfl rfl)|refine sQ ?_ (Ay rfl rfl rfl rfl)|refine sQ ?_|refine AO ?_|refine sG ?_|refine B6 ?_))
     refine Ao rfl (BR (i:=2) rfl rfl (NU hRl (Tn hin hlin hi (.inr hlt)) haw hbw) (fun _=>rfl) rfl rfl fun _=>?_);refine sNt ?_;refine Ar ?_;refine h36 _ ?_;refine nT ?_;refine rC ?_;refine athen_n ⟨k+1,by omega,by omega,?_⟩;rw[e2];exact Ce
    ·have hke:k=i:=by
      have:¬(k:Int) < ((l.take i).length:Int):=of_decide_eq_false hb35;omega
     subst hke;rw[UJ];refine Aq (Ga (Ga (exN (abN (athen_n (h29 _ ?_))))));refine nT ?_;refine rC ?_;refine athen_n ⟨k+1,by omega,by omega,?_⟩;exact Ce
   ·have hie:i=l.length:=by
     have:¬i < l.length:=by simpa using hb28
     omega
    subst hie;rw[Qa,←hes];refine Aq (Ga (Ga (exN (athen_n (h20 _ ?_)))));refine nT ?_;refine Ac fun K41 h41=>?_
    refine rC ?_;refine h41 _ ?_;refine nT ?_;exact Aj ⟨.inr rfl,[D],2,m,rfl,rfl,by decide,rfl,rfl⟩
  ·have hne:f.blocks.length=0:=by
    have:¬0 < f.blocks.length:=by simpa using hb22
    omega
   have hfl:EZ f= []:=by unfold EZ;rw[if_pos hne]
   have he0:CW f=S1:=by rw[hes,hfl];exact CN _
   rw[←he0];refine Ag ?_;refine h20 _ ?_;refine nT ?_;refine Ac fun K41 h41=>?_
   refine rC ?_;refine h41 _ ?_;refine nT ?_;exact Aj ⟨.inr rfl,[D],2,m,rfl,rfl,by decide,rfl,rfl⟩
end Mu
end
section
namespace Go.Proofs
open Go.Shelf
def Tryz.sortP_ren:Go.Shelf.Ren:=⟨fun|6=>181|15=>148|14=>210|28=>194|29=>195|20=>240|21=>241|22=>242|23=>243|24=>244|25=>245|26=>246|27=>247|46=>252|47=>212|48=>213|49=>253|50=>254|57=>255|n=>n,fun|22=>69|24=>127|25=>194|3=>3|39=>202|0=>0|53=>38|55=>237|4=>4|46=>230|45=>229|50=>160|5=>5|9=>9|66=>259|70=>263|76=>278|77=>279|n=>n,fun|n=>n⟩
theorem Tryz.sortP:Go.Proofs.SlLaysF0.n6 Tryz.prog Tryz.sortP_ren:={
 mixed:=by kernel_rfl
 f6:=⟨Tryz.f181.name,by decide,Tryz.func181.trans (congrArg some (by kernel_rfl))⟩
 f14:=⟨Tryz.f210.name,by decide,Tryz.func210.trans (congrArg some (by kernel_rfl))⟩
 f15:=Tryz.func148.trans (congrArg some (by kernel_rfl))
 f20:=⟨Tryz.f240.name,by decide,Tryz.func240.trans (congrArg some (by kernel_rfl))⟩
 f21:=⟨Tryz.f241.name,by decide,Tryz.func241.trans (congrArg some (by kernel_rfl))⟩
 f22:=⟨Tryz.f242.name,by decide,Tryz.func242.trans (congrArg some (by kernel_rfl))⟩
 f23:=⟨Tryz.f243.name,by decide,Tryz.func243.trans (congrArg some (by kernel_rfl))⟩
 f24:=⟨Tryz.f244.name,by decide,Tryz.func244.trans (congrArg some (by kernel_rfl))⟩
 f25:=⟨Tryz.f245.name,by decide,Tryz.func245.trans (congrArg some (by kernel_rfl))⟩
 f26:=⟨Tryz.f246.name,by decide,Tryz.func246.trans (congrArg some (by kernel_rfl))⟩
 f27:=⟨Tryz.f247.name,by decide,Tryz.func247.trans (congrArg some (by kernel_rfl))⟩
 f28:=Tryz.func194.trans (congrArg some (by kernel_rfl))
 f29:=Tryz.func195.trans (congrArg some (by kernel_rfl))
 f46:=⟨Tryz.f252.name,by decide,Tryz.func252.trans (congrArg some (by kernel_rfl))⟩
 f47:=Tryz.func212.trans (congrArg some (by kernel_rfl))
 f48:=Tryz.func213.trans (congrArg some (by kernel_rfl))
 f49:=⟨Tryz.f253.name,by decide,Tryz.func253.trans (congrArg some (by kernel_rfl))⟩
 f50:=⟨Tryz.f254.name,by decide,Tryz.func254.trans (congrArg some (by kernel_rfl))⟩
 f57:=⟨Tryz.f255.name,by decide,Tryz.func255.trans (congrArg some (by kernel_rfl))⟩
 t0:=Tryz.underlying0
 a0:=Tryz.isAgg0
 z0:=Tryz.sizeOf0
 v0:=Tryz.zeroValue0
 t3:=Tryz.underlying3
 a3:=Tryz.isAgg3
 z3:=Tryz.sizeOf3
 v3:=Tryz.zeroValue3
 t4:=Tryz.underlying4
 a4:=Tryz.isAgg4
 z4:=Tryz.sizeOf4
 v4:=Tryz.zeroValue4
 t5:=Tryz.underlying5
 a5:=Tryz.isAgg5
 z5:=Tryz.sizeOf5
 v5:=Tryz.zeroValue5
 t9:=Tryz.underlying9
 a9:=Tryz.isAgg9
 z9:=Tryz.sizeOf9
 v9:=Tryz.zeroValue9
 t22:=Tryz.underlying69
 a22:=Tryz.isAgg69
 z22:=Tryz.sizeOf69
 v22:=Tryz.zeroValue69
 t25:=Tryz.underlying194
 a25:=Tryz.isAgg194
 z25:=Tryz.sizeOf194
 v25:=Tryz.zeroValue194
 t39:=Tryz.underlying202
 a39:=Tryz.isAgg202
 z39:=Tryz.sizeOf202
 v39:=Tryz.zeroValue202
 t45:=Tryz.underlying229
 a45:=Tryz.isAgg229
 z45:=Tryz.sizeOf229
 v45:=Tryz.zeroValue229
 t46:=Tryz.underlying230
 a46:=Tryz.isAgg230
 z46:=Tryz.sizeOf230
 v46:=Tryz.zeroValue230
 t50:=Tryz.underlying160
 a50:=Tryz.isAgg160
 z50:=Tryz.sizeOf160
 v50:=Tryz.zeroValue160
 t53:=Tryz.underlying38
 a53:=Tryz.isAgg38
 z53:=Tryz.sizeOf38
 v53:=Tryz.zeroValue38
 t55:=Tryz.underlying237
 a55:=Tryz.isAgg237
 z55:=Tryz.sizeOf237
 v55:=Tryz.zeroValue237
 t66:=Tryz.underlying259
 a66:=Tryz.isAgg259
 z66:=Tryz.sizeOf259
 v66:=Tryz.zeroValue259
 t70:=Tryz.underlying263
 a70:=Tryz.isAgg263
 z70:=Tryz.sizeOf263
 v70:=Tryz.zeroValue263
 t76:=Tryz.underlying278
 a76:=Tryz.isAgg278
 z76:=Tryz.sizeOf278
 v76:=Tryz.zeroValue278
 t77:=Tryz.underlying279
 a77:=Tryz.isAgg279
 z77:=Tryz.sizeOf279
 v77:=Tryz.zeroValue279}
def Tryz.cmpIntP_ren:Go.Shelf.Ren:=⟨fun|5=>141|7=>183|n=>n,fun|22=>3|3=>3|4=>4|n=>n,fun|n=>n⟩
theorem Tryz.cmpIntP:Go.Proofs.SlLaysC2.n5 Tryz.prog Tryz.cmpIntP_ren:={
 mixed:=by kernel_rfl
 f5:=⟨Tryz.f141.name,by decide,Tryz.func141.trans (congrArg some (by kernel_rfl))⟩
 f7:=⟨Tryz.f183.name,by decide,Tryz.func183.trans (congrArg some (by kernel_rfl))⟩
 t3:=Tryz.underlying3
 a3:=Tryz.isAgg3
 z3:=Tryz.sizeOf3
 v3:=Tryz.zeroValue3
 t4:=Tryz.underlying4
 a4:=Tryz.isAgg4
 z4:=Tryz.sizeOf4
 v4:=Tryz.zeroValue4
 t22:=Tryz.underlying3
 a22:=Tryz.isAgg3
 z22:=Tryz.sizeOf3
 v22:=Tryz.zeroValue3}
end Go.Proofs
end
section
namespace Mu
open Go Go.RowKit Go.Proofs Go.Shelf Go.Lib Go.Sort
theorem Akt(a b:Int)(g:Nat)(ty:TypeId)(W:World)(h:W.heap[g]? =some (.cells #[.int .i64 a,.int .i64 b] ty)):
 Calls Tryz.prog 140 #[.slice (some ⟨g,0,none⟩) 2 2] W fun e w'=>e= .returned (.int .i64 (if a≠0 then a else b))∧w'=W:=by
 have c0:W.cell? ⟨g,0,none⟩=some (.int .i64 a):=by simp[World.cell?,h]
 have c1:W.cell? ⟨g,1,none⟩=some (.int .i64 b):=by simp[World.cell?,h]
 go_enter Tryz.func140,Tryz.ntmps140
 go_wp2
 refine wp_loop_rounds 3 ?_;rw[rounds_succ];by_cases ha:a=0
 ·subst ha
  go_wp2
  rw[rounds_succ];by_cases hb:b=0
  ·subst hb
   go_wp2
   rw[rounds_succ]
   go_wp2
   go_ret
   exact⟨rfl,rfl⟩
  ·go_wp2
   go_ret
   exact⟨rfl,rfl⟩
 ·go_wp2
  go_ret
  exact⟨by simp,rfl⟩
theorem VK(W:World)(o1 o2:Obj):∃W2,W2=((W.alloc o1).alloc o2).drew∧W2.heap[W.heap.size]? =some o1∧W2.heap[W.heap.size+1]? =some o2∧∃n os,W2=grow (W.drewN n) os:=by
 refine⟨_,rfl,?_,?_,1,#[o1,o2],?_⟩
 ·show((W.heap.push o1).push o2)[W.heap.size]? =_;simp[Array.getElem?_push]
 ·show((W.heap.push o1).push o2)[W.heap.size+1]? =_;have:W.heap.size+1=(W.heap.push o1).size:=by simp
  rw[this];exact Array.getElem?_push_size
 ·rw[alloc_eq_grow,alloc_eq_grow,grow_grow];rfl
def cfP(x y:Pair):Int:=if compareInt x.a y.a≠0 then compareInt x.a y.a else compareInt x.b y.b
def F9(x:Pair):List Value:=[.int .i64 x.a,.int .i64 x.b]
theorem Z1(x y:Pair)(W:World):Calls Tryz.prog 139 #[.agg (F9 x).toArray,.agg (F9 y).toArray] W fun e w'=>e= .returned (.int .i64 (cfP x y))∧∃q os,w'=grow (W.drewN q) os:=by
 have hA:=fun W=>AnyG.cmp_Compare_int Tryz.cmpIntP x.a y.a W
 have hB:=fun W=>AnyG.cmp_Compare_int Tryz.cmpIntP x.b y.b W
 change∀W,Calls Tryz.prog 141 _ _ _ at hA;change∀W,Calls Tryz.prog 141 _ _ _ at hB;obtain⟨r,hr⟩:∃r,compareInt x.a y.a=r:=⟨_,rfl⟩
 obtain⟨s,hs⟩:∃s,compareInt x.b y.b=s:=⟨_,rfl⟩
 have hu:cfP x y=if r≠0 then r else s:=by unfold cfP;rw[hr,hs]
 rw[hr]at hA;rw[hs]at hB;clear hr hs;have hO:=fun W=>Akt r s W.heap.size 3 (W.alloc (.cells #[.int .i64 r,.int .i64 s] 3)) (heap_alloc_new W _)
 rw[←hu]at hO;generalize cfP x y=u at hO⊢;clear hu;unfold F9
 go_enter Tryz.func139,Tryz.ntmps139
 go_wp2
 refine wp_region_still_tail 10 (by kernel_rfl) (by kernel_rfl) ?_;simp only[List.take_succ_cons,List.take_zero,List.drop_succ_cons,List.drop_zero];change wpStill _ _ (World.drew ((W.alloc (Obj.cells #[Value.int IntKind.i64 x.a,Value.int IntKind.i64 x.b] 127)).alloc (Obj.cells #[Value.int IntKind.i64 y.a,Value.int IntKind.i64 y.b] 127))) (fun a'=>wpList _ _ _ _ a' (World.drew ((W.alloc (Obj.cells #[Value.int IntKind.i64 x.a,Value.int IntKind.i64 x.b] 127)).alloc (Obj.cells #[Value.int IntKind.i64 y.a,Value.int IntKind.i64 y.b] 127)))) _ _;obtain⟨W2,hW2,g1,g2,hg⟩:=VK W (Obj.cells #[Value.int IntKind.i64 x.a,Value.int IntKind.i64 x.b] 127) (Obj.cells #[Value.int IntKind.i64 y.a,Value.int IntKind.i64 y.b] 127);rw[←hW2];have c1:W2.cell? ⟨W.heap.size,0,none⟩=some (.int .i64 x.a):=by simp[World.cell?,g1]
 have c2:W2.cell? ⟨W.heap.size,1,none⟩=some (.int .i64 x.b):=by simp[World.cell?,g1]
 have c3:W2.cell? ⟨W.heap.size+1,0,none⟩=some (.int .i64 y.a):=by simp[World.cell?,g2]
 have c4:W2.cell? ⟨W.heap.size+1,1,none⟩=some (.int .i64 y.b):=by simp[World.cell?,g2]
 clear hW2 g1 g2
 iterate 4 still_step
 still_call (hA _)
 iterate 4 still_step
 still_call (hB _)
 refine wpStill_nil ?_
 go_wp2_with (go_at_call 140;refine(hO W2).mono ?_;rintro e w' ⟨rfl,rfl⟩)
 go_ret
 obtain⟨n,os,rfl⟩:=hg;exact⟨rfl,n,_,by rw[alloc_eq_grow,grow_grow]⟩
theorem Oe{x y:Pair}:ltOf cfP x y=true↔ltP x y:=by
 unfold ltOf cfP compareInt ltP;by_cases h1:x.a < y.a
 ·simp[h1]
 ·by_cases h2:y.a < x.a
  ·have:x.a≠y.a:=by omega
   simp[h1,h2,this]
  ·have e:x.a=y.a:=by omega
   by_cases h3:x.b < y.b
   ·simp[e,h3]
   ·by_cases h4:y.b < x.b <;> simp[e,h3,h4]
theorem Lz{x y:Pair}:ltOf cfP x y=false↔¬ltP x y:=by
 rw[←Oe,Bool.not_eq_true]
theorem Arj:SWO (ltOf cfP) where
 irrefl x:=Lz.2 (Od x)
 trans x y z h1 h2:=Oe.2 (Abj (Oe.1 h1) (Oe.1 h2))
 ntrans x y z h1 h2:=by
  have h1:=Lz.1 h1;have h2:=Lz.1 h2;refine Lz.2 ?_;unfold ltP at *;omega
theorem Ari(x y:Pair)(h1:ltOf cfP x y=false)(h2:ltOf cfP y x=false):x=y:=by
 have h1:=Lz.1 h1;have h2:=Lz.1 h2;unfold ltP at h1 h2;obtain⟨a,b⟩:=x;obtain⟨c,d⟩:=y
 (try dsimp only at h1);(try dsimp only at h2)
 have e1:a=c:=by omega
 have e2:b=d:=by omega
 rw[e1,e2]
def Fu(l:List Pair):List Pair:=l.mergeSort fun x y=>!(ltOf cfP) y x
theorem JF{x y:Pair}:(!(ltOf cfP) y x)=true↔¬ltP y x:=by
 rw[Bool.not_eq_true',Lz]
theorem FR(l:List Pair):(Fu l).Perm l:=List.mergeSort_perm _ _
theorem TY{l:List Pair}(hn:l.Nodup):Aph (Fu l):=by
 have h:=List.pairwise_mergeSort (le:=fun x y:Pair=>!(ltOf cfP) y x) (fun a b c h1 h2=>by
  have h1:=JF.1 h1;have h2:=JF.1 h2;refine JF.2 ?_;unfold ltP at *;omega) (fun a b=>by
  rw[Bool.or_eq_true,JF,JF];unfold ltP;omega) l
 have hd:(Fu l).Nodup:=(FR l).nodup_iff.2 hn;refine(h.and hd).imp fun{x y} hxy=>?_
 obtain⟨h1,h2⟩:=hxy;have h1:=JF.1 h1;unfold ltP at h1;obtain⟨a,b⟩:=x;obtain⟨c,d⟩:=y;unfold ltP
 (try dsimp only at h1);(try dsimp only)
 rcases Int.lt_trichotomy a c with h|h|h
 ·exact .inl h
 ·rcases Int.lt_trichotomy b d with k|k|k
  ·exact .inr ⟨h,k⟩
  ·exact absurd (by rw[h,k]) h2
  ·omega
 ·omega
theorem VW{R:List Int}{S:Pair→Bool}{l:List Pair}(hR:Asc R)(hin:InP R S)(hn:l.Nodup)(h1:∀x∈l,S x=true)(h2:∀x,S x=true→x∈l):Fu l=Gb R S:=
 Tw (TY hn) (R5 hR) fun x=>by
  rw[(FR l).mem_iff,Ly hR hin];exact⟨h1 x,h2 x⟩
theorem Xp{l:List Pair}{i:Nat}{d:Pair}(hd:l[i]? =some d):((flatK F9 2 l.toArray).toList.drop (i * 2)).take 2=F9 d:=by
 have hil:=(List.getElem?_eq_some_iff.1 hd).1;have hdd:l.toArray[i]! =d:=by simp[getElem!_def,hd]
 refine List.ext_getElem? fun j=>?_
 by_cases hj:j < 2
 ·rw[List.getElem?_take_of_lt hj,List.getElem?_drop,Array.getElem?_toList];have hlt:i * 2+j < (flatK F9 2 l.toArray).size:=by simp;omega
  have e:=get_flatK F9 2 l.toArray (i * 2+j) (by simpa using hlt);rw[getElem!_pos (flatK F9 2 l.toArray) _ hlt]at e;rw[Array.getElem?_eq_getElem hlt,e,show(i * 2+j) / 2=i by omega,show(i * 2+j) % 2=j by omega,hdd];have hj2:j < (F9 d).length:=hj;rw[getElem!_pos (F9 d) _ hj2,List.getElem?_eq_getElem hj2]
 ·rw[List.getElem?_take_eq_none (by omega),List.getElem?_eq_none (by show 2≤j;omega)]
theorem Mw(cur F:Array Value)(h:F.size≤cur.size):(Go.Sort.putCells id 0 F cur).toList.take F.size=F.toList:=by
 apply List.ext_getElem?;intro j;by_cases hj:j < F.size
 ·rw[List.getElem?_take_of_lt hj,Array.getElem?_toList];simp[Go.Sort.putCells,hj,show j < cur.size by omega]
 ·rw[List.getElem?_take_eq_none (by omega),List.getElem?_eq_none (by simp;omega)]
theorem LJ{w:World}{g n:Nat}{os:Array Obj}(d:Array Value):w.grownBy (grow (putRow id (Sort.ahead w n) g 0 d) os) (some g):=by
 refine⟨rfl,rfl,rfl,by simp,fun k hk hne=>?_⟩;rw[heap_grow_old _ _ (by simpa using hk)];have:g≠k:=fun e=>hne (by rw[e])
 simp[putRow,mapBlock,Sort.ahead,Array.getElem?_modify,this]
theorem J7{w:World}{g n:Nat}{os:Array Obj}{cur:Array Value}{e:TypeId}{fr:Nat×Nat}(d:Array Value)(hb:w.heap[g]? =some (.cells cur e fr)):
 (grow (putRow id (Sort.ahead w n) g 0 d) os).heap[g]? =some (.cells (Go.Sort.putCells id 0 d cur) e fr):=by
 have hg:g < w.heap.size:=(Array.getElem?_eq_some_iff.1 hb).1;rw[heap_grow_old _ _ (by simpa using hg)];simp[putRow,mapBlock,Sort.ahead,Array.getElem?_modify,hb,onCells]
theorem T7{w:World}{S:Nat→Prop}{h:List ABlk}{ψ:Nat→Value}{u v:Value}{vs:List Value}(H:Ad w S h ψ [.lit u,.lit v] vs):vs= [u,v]:=by
 obtain⟨a,b,rfl,h1,h2⟩:=Apa H;unfold AV.rel at h1 h2;rw[h1,h2]
theorem TX{v:Value}{l:List Pair}(hl:l.length < 4611686018427387904):Gh Tryz.prog 181 (rowR v 127 CF l) [.lit v,.lit (.func (.func 139) #[] #[])] (fun _:Unit=>rowR v 127 CF (Fu l)) (fun _=>.tuple #[]):=by
 refine⟨by kernel_rfl,fun w S vs hS hF hR hr=>?_⟩;obtain⟨cells,hown,h0,hc⟩:=hR;rw[T7 hr];rcases hown.2 with⟨rfl,hn⟩|⟨g,cap,cur,rfl,_,hb,h1,h2,h3,h4⟩
 ·have hz:l= []:=List.eq_nil_of_length_eq_zero hn;subst hz;rw[show Fu []= []by simp[Fu]];refine(AnyF.slices_SortFunc_none Tryz.sortP none 0 _ w).mono fun e w' ⟨he,hw⟩=>?_
  subst hw;exact⟨_,he,⟨⟨rfl,rfl,rfl,Nat.le_refl _,fun _ _ _=>rfl⟩,(),rfl,⟨cells,hown,h0,hc⟩,fun k hk=>⟨.inl hk,hF k hk⟩⟩⟩
 ·have hgl:g < w.heap.size:=(Array.getElem?_eq_some_iff.1 hb).1;have hcl:cells.length=l.length * 2:=hown.1;have h4':cur.toList.take (l.length * 2)=cells:=h4;have h3':cur.size=cap * 2:=h3;have hcell:∀i d,l[i]? =some d→(cells.drop (i * 2)).take 2=F9 d∧wfI .i64 d.a∧wfI .i64 d.b:=fun i d hd=>HV.1 (hc i d hd)
  have hH:HoldsK F9 2 w g 0 l.toArray:=fun j hj=>by
   have hj':j < l.length * 2:=by simpa using hj
   obtain⟨d,hd⟩:∃d,l[j / 2]? =some d:=⟨_,List.getElem?_eq_getElem (by omega)⟩
   have hdd:l.toArray[j / 2]! =d:=by simp[getElem!_def,hd]
   have e1:=congrArg (fun(l:List Value)=>l[j % 2]?) (hcell _ d hd).1;rw[List.getElem?_take_of_lt (by omega),List.getElem?_drop,←h4',List.getElem?_take_of_lt (by omega),Array.getElem?_toList,show j / 2 * 2+j % 2=j by omega]at e1;refine⟨?_,by simp[World.frozen?,hb]⟩;rw[get_flatK _ _ _ _ (by simpa using hj'),hdd];have hj2:j % 2 < (F9 d).length:=by show j % 2 < 2;omega
   rw[getElem!_pos (F9 d) _ hj2];rw[List.getElem?_eq_getElem hj2]at e1;simp[World.cell?,hb,e1]
  have eg:∀args w,(callFunc 139 args).run Tryz.prog w= .ok (.enter 139 args) w:=enters_of Tryz.func139 (by kernel_rfl) rfl;have hS':=AnyQ.slices_SortFunc_total Tryz.sortP 2 (fun w=>by kernel_rfl) (fun w=>by kernel_rfl) F9 (fun _=>rfl) (fun x v hv=>by
   simp only[F9,List.mem_cons,List.not_mem_nil,or_false]at hv;rcases hv with rfl|rfl <;> rfl) cfP Arj 139 #[] g 0 cap l.toArray w eg (fun m os dk _ x y=>Z1 x y _) hH hgl (by simpa using hl) Ari
  refine hS'.mono ?_;rintro e w' ⟨he,n,os,rfl⟩;have hts:(l.toArray.toList.mergeSort fun x y=>!(ltOf cfP) y x)=Fu l:=rfl;rw[hts];have hlen:(Fu l).length=l.length:=(FR l).length_eq;have hsz:(flatK F9 2 (Fu l).toArray).size=l.length * 2:=by simp[hlen]
  refine⟨_,he,⟨BC (LJ _) |> fun G=>⟨G.os,G.tape,G.output,G.size,fun k hk hn=>G.block k hk fun e=>hn e⟩,(),rfl,⟨(flatK F9 2 (Fu l).toArray).toList,?_,h0,fun i d hd=>?_⟩,fun k hk=>⟨.inl hk,?_⟩⟩⟩
  ·rw[hlen];refine⟨by rw[Array.length_toList,hsz];rfl,.inr ⟨g,cap,_,rfl,Nat.zero_le _,J7 _ hb,h1,h2,by simp[Go.Sort.putCells,h3],?_⟩⟩;have e2:=Mw cur (flatK F9 2 (Fu l).toArray) (by rw[hsz,h3'];omega);rw[hsz]at e2;exact e2
  ·have hdl:d∈l:=(FR l).mem_iff.1 (List.mem_of_getElem? hd);obtain⟨i',hi'⟩:=List.mem_iff_getElem?.1 hdl;exact HV.2 ⟨Xp hd,(hcell _ _ hi').2⟩
  ·have hk:BX (.slice (some ⟨g,0,none⟩) l.length cap)=some k:=hk;have hk:g=k:=by simpa[BX]using hk
   subst hk;exact(Array.getElem?_eq_some_iff.1 (J7 _ hb)).1
end Mu
end
section
namespace Mu
open Go Go.RowKit Go.Proofs Go.Maps Go.Shelf
instance Ai3:AG Tryz.prog 131 false 1:=⟨by kernel_rfl⟩
attribute [local go_sem] Oper.semAt_some
theorem DG{P:Program}{C:Ctx}{t:List AV}{h:List ABlk}{o:Oper}{x:Operand}{j:Nat}{xs:Array Value}{v:Value}(ho:o.op= .extract x j)(hx:evA t x= .lit (.tuple xs))(hr:xs[j]? =some v):Av P C t h o (.lit v):=
 Ap fun S ψ w ρ _ hρ=>by
  have h1:=hρ x (by simp[ho,Op.operands]);rw[hx]at h1;unfold AV.rel at h1;exact⟨v,by simp[execOp,ho,h1,Instr.extract,hr],by unfold AV.rel;rfl⟩
theorem So{h:List ABlk}{v:Value}{cells:List Value}(e:v.cells.toList=cells):Qz h (.lit v) (cells.map .lit):=fun C S ψ w u _ hv=>by
 unfold AV.rel at hv;subst hv;rw[e];exact DK cells
def WV(S:Pair→Bool)(g m:Nat):Res:=⟨[],fun k=>k=g∨k=m,fun w T=>(Bn g [.lit (.map (some m))]).R w T∧(CY S m).R w T∧g≠m,
 fun h hk hb hs=>⟨(Bn g [.lit (.map (some m))]).keep h.1 (fun k hf=>hk k (.inl hf)) hb hs,(CY S m).keep h.2.1 (fun k hf=>hk k (.inr hf)) hb hs,h.2.2⟩⟩
def YA(g:Nat):Value:=.func (.func 182) #[] #[.pointer (some ⟨g,0,none⟩)]
theorem Zx(F:Fence)(n:Nat)(hF:F.fn 138)(hro:F.round=none)(m:Nat)(w:World):
 CallsIn F n Tryz.prog 138 #[.map (some m)] w fun e w'=>e= .returned (YA w.heap.size)∧w'=w.alloc (.cells #[.map (some m)] 131):=by
 refine callsIn_of_wp Tryz.func138 rfl hF ?_ hro;simp only[Tryz.ntmps138,List.size_toArray,List.length_cons,List.length_nil,Nat.reduceAdd,Nat.reduceSub,Array.replicate_succ,Array.replicate_zero,List.push_toArray,List.append_toArray,List.nil_append,List.cons_append]
 gi_wp2
 go_ret
 exact⟨rfl,rfl⟩
theorem Uv(S:Pair→Bool)(m:Nat):Gh Tryz.prog 138 (CY S m) [.lit (.map (some m))] (fun g=>WV S g m) YA:=by
 refine⟨by kernel_rfl,fun w T vs hT hF hR hr=>?_⟩;obtain⟨us,rfl,h0⟩:=D5 hr;unfold Ad at h0;subst h0;refine((callsIn_wide (n:=4)).1 (Zx Fence.wide 4 trivial rfl m w)).mono ?_;rintro e w' ⟨rfl,rfl⟩;have hm:m < w.heap.size:=hF m rfl;have hb:Below w.heap.size w (w.alloc (.cells #[.map (some m)] 131)):=(Below.refl _ _).alloc (Nat.le_refl _) _;refine⟨_,rfl,⟨hb.os,hb.tape,hb.output,hb.size,fun k hk _=>hb.block k hk⟩,w.heap.size,rfl,⟨⟨[.map (some m)],131,heap_alloc_new w _,Gx [.map (some m)]⟩,(show Ack w m S from hR).keep (hb.block m hm),by omega⟩,fun k hk=>?_⟩;rcases(show k=w.heap.size∨k=m from hk)with rfl|rfl
 ·exact⟨.inr (Nat.le_refl _),by simp⟩
 ·exact⟨.inl rfl,by simp;omega⟩
def NL(S:Pair→Bool)(ks:List Pair):Prop:=ks.Nodup∧∀x∈ks,okPair x∧S x=true
def stK(S:Pair→Bool)(ks:List Pair)(es:List AV)(ks':List Pair):Prop:=NL S ks∧∃q,okPair q∧S q=true∧q∉ks∧es= [.agg (Ca q)]∧ks'=ks++[q]
def Ap8(S:Pair→Bool)(ks:List Pair):Prop:=NL S ks∧∀x,okPair x→S x=true→x∈ks
theorem NL.add{S:Pair→Bool}{ks:List Pair}{q:Pair}(h:NL S ks)(h1:okPair q)(h2:S q=true)(h3:q∉ks):NL S (ks++[q]):=by
 refine⟨List.nodup_append.2 ⟨h.1,by simp,fun a ha b hb=>?_⟩,fun x hx=>?_⟩
 ·simp only[List.mem_cons,List.not_mem_nil,or_false]at hb;subst hb;exact fun e=>h3 (e▸ha)
 ·rcases List.mem_append.1 hx with hx|hx
  ·exact h.2 x hx
  ·simp only[List.mem_cons,List.not_mem_nil,or_false]at hx;subst hx;exact⟨h1,h2⟩
theorem Uw(S:Pair→Bool)(g m:Nat)(L:List Pair)(hL:∀x,okPair x→S x=true→x∈L):Aap Tryz.prog 182 [.pointer (some ⟨g,0,none⟩)] (WV S g m) (stK S) [] (Ap8 S):=by
 refine Kj Tryz.func182 rfl (by kernel_rfl) rfl Tryz.ntmps182 rfl fun C hrd ι l Jr hm hY q0=>?_
 simp only[List.map_cons,List.map_nil,List.length_cons,List.length_nil,Nat.reduceAdd,Nat.reduceSub,List.replicate_succ,List.replicate_zero,List.cons_append,List.nil_append];refine As _ (Gc (i:=1) (R1:=Bn g [.lit (.map (some m))]) (R2:=CY S m) rfl rfl rfl rfl (fun _ h=>h) fun w T h=>⟨h.1,h.2.1,fun k h1 h2=>h.2.2 (h1.symm.trans h2)⟩) ?_;refine nT ?_;refine Ac fun K1 h1=>?_
 (refine Awp.region ?_;(repeat(first|refine sQ ?_|refine AO ?_|refine B6 ?_)))
 refine Ao rfl (NA 2 rfl Tryz.underlying131 rfl rfl fun r=>?_);refine sNt ?_;refine Ar ?_;refine h1 _ ?_;refine nT ?_;refine Af ?_;refine Au (fun p:List Pair×ι=>⟨(.lit (.func (.yield l) #[] #[])::.lit (.pointer (some ⟨g,0,none⟩))::A3 (.lit (.pointer (some ⟨r,0,none⟩))::A8 [])),[.res (Jr p.1 p.2),.res (Bn g [.lit (.map (some m))]),.res (YX S p.1 m r)]⟩) (fun p=>NL S p.1) (fun p=>L.length - p.1.length) ([],q0) ⟨List.nodup_nil,fun _ h=>by cases h⟩ (Ce) ?_;rintro⟨ks,q0⟩ hI
 (try dsimp only at hI);(try dsimp only)
 refine Ac fun K3 h3=>?_
 refine Awp.region ?_;refine Ao rfl (QN 2 rfl rfl rfl (fun hall=>?_) (fun q c hq hS hnk=>?_))
 ·refine sNt ?_
  (repeat(first|refine sQ ?_ (DG rfl rfl rfl)|refine sQ ?_|refine AO ?_|refine B6 ?_))
  refine Ar ?_;refine h3 _ ?_;refine nT ?_;refine Ac fun K4 h4=>?_
  refine Ae rfl (fun hb5=>by cases hb5) (fun hb5=>?_);refine Aq ?_;exact⟨.inl rfl,ks,⟨hI,hall⟩,q0,rfl,by simp[mkD,ABlk.mrk,hm];exact⟨rfl,rfl⟩⟩
 ·refine sNt ?_
  (repeat(first|refine sQ ?_ (DG rfl rfl rfl)|refine sQ ?_|refine AO ?_|refine B6 ?_))
  refine Ar ?_;refine h3 _ ?_;refine nT ?_;refine Ac fun K4 h4=>?_
  refine Ae rfl (fun hb5=>?_) (fun hb5=>by cases hb5);refine Ag ?_;refine h4 _ ?_;refine nT ?_;refine Af ?_;refine Ac fun K6 h6=>?_
  (refine Awp.region ?_;(repeat(first|refine sQ ?_ (Kh 2 rfl rfl rfl)|refine sQ ?_|refine AO ?_|refine B6 ?_));refine Ar ?_)
  refine h6 _ ?_;refine nT ?_;refine Ac fun K7 h7=>?_
  refine Mo ?_;refine Ou rfl (BG (Av.move rfl (by(conv=>lhs;whnf);try rfl)) ?_);refine I6 (by(try simp only[AJ,List.set_cons_zero,List.set_cons_succ]);exact rfl) (by(try simp only[List.nil_append,List.cons_append,List.set_cons_zero,List.set_cons_succ,List.length_nil,List.length_cons,Nat.reduceAdd]);exact rfl) ?_;refine Ou rfl (BG (Bt rfl rfl rfl rfl) ?_);refine I6 (by(try simp only[AJ,List.set_cons_zero,List.set_cons_succ]);exact rfl) (by(try simp only[List.nil_append,List.cons_append,List.set_cons_zero,List.set_cons_succ,List.length_nil,List.length_cons,Nat.reduceAdd]);exact rfl) ?_;refine R7 rfl (Api.yield (i:=0) hrd rfl (fun p=>by rw[hm,hm]) rfl rfl rfl rfl (hY ks _ (ks++[q]) ⟨hI,q,hq,hS,hnk,rfl,rfl⟩ q0) fun q'=>?_);refine I6 (by(try simp only[AJ,List.set_cons_zero,List.set_cons_succ]);exact rfl) (by(try simp only[List.nil_append,List.cons_append,List.set_cons_zero,List.set_cons_succ,List.length_nil,List.length_cons,Nat.reduceAdd]);exact rfl) ?_;refine Ou rfl (BG (CE rfl rfl) ?_);refine I7 ?_;refine h7 _ ?_;refine nT ?_;refine Ae rfl (fun hb17=>by cases hb17) (fun hb17=>?_);refine Ag ?_;have hlen:=Ev (hI.add hq hS hnk).1 fun x hx=>hL x ((hI.add hq hS hnk).2 x hx).1 ((hI.add hq hS hnk).2 x hx).2
  refine abN (athen_n ⟨(ks++[q],q'),hI.add hq hS hnk,by simp only[List.length_append,List.length_cons,List.length_nil]at hlen⊢;omega,?_⟩);refine St.le.trans (DS (i:=2) (R':=YX S (ks++[q]) m r) rfl (fun _ h=>h) (fun _ _ h=>h.1) rfl) ?_;exact Fb (.cons (.cons (.cons (Cut.nil _))))
theorem KB{v:Value}{l:List Pair}{w:World}{S S':Nat→Prop}(h:(rowR v 127 CF l).R w S):(rowR v 127 CF l).R w S':=by
 obtain⟨cells,h1,h0,h2⟩:=h;exact⟨cells,h1,h0,fun i d hd=>HV.2 (HV.1 (h2 i d hd))⟩
def Arg(S:Pair→Bool):Type:={p:Value×List Pair // Ap8 S p.2}
theorem Acy{S:Pair→Bool}{L:List Pair}(hL:∀x,okPair x→S x=true→x∈L){ks ks':List Pair}{es:List AV}(h:stK S ks es ks'):ks.length+1≤L.length:=by
 obtain⟨hI,q,hq,hS,hnk,_,_⟩:=h;have:=Ev (hI.add hq hS hnk).1 fun x hx=>hL x ((hI.add hq hS hnk).2 x hx).1 ((hI.add hq hS hnk).2 x hx).2
 simpa using this
theorem Qm(S:Pair→Bool)(g m:Nat)(L:List Pair)(hL:∀x,okPair x→S x=true→x∈L)(hl:L.length≤4398046511104):
 Gh Tryz.prog 209 (WV S g m) [.lit (.slice none 0 0),.lit (YA g)] (fun p:Arg S=>rowR p.1.1 127 CF p.1.2) (fun p=>p.1.1):=by
 refine DH Tryz.func209 rfl (by kernel_rfl) rfl Tryz.ntmps209 rfl (fun _ _ _ _ h=>KB h) fun C hrd=>?_
 refine nS ?_;refine Ac fun K1 h1=>?_
 refine Awp.region ?_;refine Ao rfl (AOp.box (cells:=[.lit (.slice none 0 0)]) rfl (So (cells:=[.slice none 0 0]) rfl) ?_);refine sNt ?_
 (repeat(first|refine sQ ?_|refine AO ?_|refine B6 ?_))
 refine Ar ?_;refine h1 _ ?_;refine nT ?_;refine Bv 2 rfl rfl rfl (fun g2=>(.any::.lit (YA g)::.lit (.pointer (some ⟨g2,0,none⟩))::A10 [])) (fun g=>(by(repeat(first|exact OpnB.nil|refine OpnB.ptr ?_|refine OpnB.any ?_|refine OpnB.keep rfl ?_)))) fun g2=>?_
 refine As _ (JM 127 CF (by decide)) ?_;refine nT ?_;refine Ac fun K2 h2=>?_
 refine Ac fun K3 h3=>?_
 refine rR ?_;refine h3 _ ?_;refine nT ?_;refine Af ?_;refine JS (J:=Value) 1 0 (fun ks v=>[.dead,.dead,.res (Bn g2 [.lit v]),.res (rowR v 127 CF ks)]) (.slice none 0 0) hrd rfl (by decide) rfl rfl rfl ?hdrop rfl (fun _ _=>rfl) (fun _ _=>rfl) rfl ?hes (Uw S g m L hL) ?hround ?hdone
 case hdrop=>
  exact⟨Cut.dead (Cut.dead (Cut.cons (Cut.cons (Cut.nil _)))),fun b hb=>List.all_eq_true.1 (show bdH [.dead,.dead,.res (Bn g2 [.lit (.slice none 0 0)]),.res (rowR (.slice none 0 0) 127 CF [])]=true from rfl) b hb⟩
 case hes=>
  rintro ks es ks' ⟨_,q,_,_,_,rfl,rfl⟩;exact⟨rfl,rfl⟩
 case hround=>
  intro ks v es ks' hst C' hr';have hlen:=Acy hL hst;obtain⟨_,q,hq,hS,hnk,rfl,rfl⟩:=hst;refine Dr (t':=(.any::.lit (YA g)::.lit (.pointer (some ⟨g2,0,none⟩))::A3 (.lit (YA g)::.agg (Ca q)::A5 []))) rfl rfl ?_;refine rR ?_;refine athen_n fun C'' hr''=>?_
  refine nT ?_;refine Af ?_;have hfit:Fit [.dead,.dead,.res (Bn g2 [.lit v]),.res (rowR v 127 CF ks),.box (Ca q)] CF (.agg (Ca q)) q:=OE (enc:=Ca) fun _ _ _ _ H=>NW hq H
  (refine Awp.region ?_;(repeat(first|refine sQ ?_ (CB rfl rfl rfl rfl (by decide) hfit)|refine sQ ?_|refine AO ?_|refine B6 ?_)))
  refine Ao rfl (Gf (i:=3) rfl (by kernel_rfl) rfl rfl rfl PF (by show ks.length+1≤_;unfold maxLen;omega) (by show(ks.length+1) * 16≤_;omega) fun v'=>?_);refine sNt ?_;refine Ao rfl (Mr (i:=2) (new:=[.lit v']) rfl rfl rfl (OC.one (Aao (i:=3) rfl)) rfl rfl (Nat.le_of_ble_eq_true rfl) ?_);refine sNt ?_;refine Ar ?_;exact⟨rfl,v',⟨.cons (.cons (.cons (.cons (Cut.nil _)))),fun b hb=>List.all_eq_true.1 (show bdH [.dead,.dead,.res (Bn g2 [.lit v']),.res (rowR v' 127 CF (ks++[q]))]=true from rfl) b hb⟩⟩
 case hdone=>
  intro ks hfin v D;refine h2 _ ?_;refine Dr (t':=(.any::.lit (YA g)::.lit (.pointer (some ⟨g2,0,none⟩))::A3 (.lit (YA g)::A6 []))) (h':=[.res (Bq [D]),.dead,.res (Bn g2 [.lit v]),.res (rowR v 127 CF ks)]) rfl rfl ?_;refine Ac fun K6 h6=>?_
  refine rR ?_;refine h6 _ ?_;refine nT ?_;exact Aj ⟨.inr rfl,[D],3,⟨(v,ks),hfin⟩,rfl,rfl,by decide,rfl,rfl⟩
theorem Ok(S:Pair→Bool)(g m:Nat)(L:List Pair)(hL:∀x,okPair x→S x=true→x∈L)(hl:L.length≤4398046511104):
 Gh Tryz.prog 180 (WV S g m) [.lit (YA g)] (fun p:Arg S=>rowR p.1.1 127 CF p.1.2) (fun p=>p.1.1):=by
 refine DH Tryz.func180 rfl (by kernel_rfl) rfl Tryz.ntmps180 rfl (fun _ _ _ _ h=>KB h) fun C hrd=>?_
 refine nS ?_;refine Ac fun K1 h1=>?_
 refine rR ?_;refine h1 _ ?_;refine nT ?_;refine Ac fun K2 h2=>?_
 (refine Awp.region ?_;(repeat(first|refine sQ ?_|refine AO ?_|refine B6 ?_)))
 refine Ao rfl (BR (i:=1) rfl rfl (Qm S g m L hL hl) (fun _=>rfl) rfl rfl fun p=>?_);refine sNt ?_
 (repeat(first|refine sQ ?_|refine AO ?_|refine B6 ?_))
 refine Ar ?_;refine h2 _ ?_;refine nT ?_;exact Aj ⟨.inr rfl,[],1,p,rfl,rfl,by decide,rfl,rfl⟩
structure InRow(R:List Int)(S:Pair→Bool):Prop where
 asc:Asc R
 len:R.length≤2097152
 mem:InP R S
theorem InRow.sub{R:List Int}{S:Pair→Bool}(h:InRow R S):∀x,okPair x→S x=true→x∈DZ R:=fun x _ hx=>(F6 h.asc).2 (h.mem x hx)
theorem InRow.lens{R:List Int}{S:Pair→Bool}(h:InRow R S):(DZ R).length≤4398046511104:=
 Nat.le_trans (Lo R) (Nat.le_trans (Nat.mul_le_mul h.len h.len) (by decide))
theorem InRow.sort{R:List Int}{S:Pair→Bool}(h:InRow R S)(hw:∀r∈R,Jj r){ks:List Pair}(hk:Ap8 S ks):Fu ks=Gb R S:=
 VW h.asc h.mem hk.1.1 (fun x hx=>(hk.1.2 x hx).2) fun x hx=>hk.2 x ⟨hw _ (h.mem x hx).1,hw _ (h.mem x hx).2.1⟩ hx
theorem O4{R:List Int}{S:Pair→Bool}(h:InRow R S)(hw:∀r∈R,Jj r)(g m:Nat):
 Gh Tryz.prog 137 (WV S g m) [.lit (YA g),.lit (.func (.func 139) #[] #[])] (fun v:Value=>rowR v 127 CF (Gb R S)) (fun v=>v):=by
 refine DH Tryz.func137 rfl (by kernel_rfl) rfl Tryz.ntmps137 rfl (fun _ _ _ _ h=>KB h) fun C hrd=>?_
 refine nS ?_;refine Ac fun K1 h1=>?_
 refine rR ?_;refine h1 _ ?_;refine nT ?_;refine Ac fun K2 h2=>?_
 (refine Awp.region ?_;(repeat(first|refine sQ ?_|refine AO ?_|refine B6 ?_)))
 refine Ao rfl (BR (i:=1) rfl rfl (Ok S g m _ h.sub h.lens) (fun _=>rfl) rfl rfl fun p=>?_);refine sNt ?_
 (repeat(first|refine sQ ?_|refine AO ?_|refine B6 ?_))
 refine Ar ?_;refine h2 _ ?_;refine nT ?_;obtain⟨⟨v,ks⟩,hk⟩:=p
 (try dsimp only at hk);(try dsimp only)
 have hs:=h.sort hw hk;have hkl:ks.length < 4611686018427387904:=by
  have h1:=Ev hk.1.1 fun x hx=>h.sub x (hk.1.2 x hx).1 (hk.1.2 x hx).2
  have h2:=h.lens;omega
 refine Ac fun K3 h3=>?_
 (refine Awp.region ?_;(repeat(first|refine sQ ?_|refine AO ?_|refine B6 ?_)))
 refine Ao rfl (BR (i:=1) rfl rfl (TX hkl) (fun _=>rfl) rfl rfl fun _=>?_);refine sNt ?_;refine Ar ?_;refine h3 _ ?_;refine nT ?_;rw[hs];refine Ac fun K4 h4=>?_
 refine rR ?_;refine h4 _ ?_;refine nT ?_;exact Aj ⟨.inr rfl,[],1,v,rfl,rfl,by decide,rfl,rfl⟩
theorem M0{R:List Int}{S:Pair→Bool}(h:InRow R S)(hw:∀r∈R,Jj r)(m:Nat):
 Gh Tryz.prog 80 (CY S m) [.lit (.map (some m))] (fun v:Value=>rowR v 127 CF (Gb R S)) (fun v=>v):=by
 refine DH Tryz.func80 rfl (by kernel_rfl) rfl Tryz.ntmps80 rfl (fun _ _ _ _ h=>KB h) fun C hrd=>?_
 refine nS ?_;refine Ac fun K1 h1=>?_
 refine rR ?_;refine h1 _ ?_;refine nT ?_;refine Ac fun K2 h2=>?_
 (refine Awp.region ?_;(repeat(first|refine sQ ?_|refine AO ?_|refine B6 ?_)))
 refine Ao rfl (BR (i:=1) rfl rfl (Uv S m) (fun _=>rfl) rfl rfl fun g=>?_);refine sNt ?_
 (repeat(first|refine sQ ?_|refine AO ?_|refine B6 ?_))
 refine Ao rfl (BR (i:=1) rfl rfl (O4 h hw g m) (fun _=>rfl) rfl rfl fun v=>?_);refine sNt ?_
 (repeat(first|refine sQ ?_|refine AO ?_|refine B6 ?_))
 refine Ar ?_;refine h2 _ ?_;refine nT ?_;exact Aj ⟨.inr rfl,[],1,v,rfl,rfl,by decide,rfl,rfl⟩
end Mu
end
section
namespace Mu
open Go Go.RowKit Go.Proofs Go.Maps
instance Afh:AG Tryz.prog 131 false 1:=⟨by kernel_rfl⟩
instance Afg:SZ Tryz.prog 131 1:=⟨by kernel_rfl⟩
instance Aff:ZC Tryz.prog 131 [.map none]:=⟨by kernel_rfl⟩
theorem LR{f:Func}(hA:(Ng f).length≤2097152):InRow (BM f) (CW f):=⟨(Fy f).1,Gz hA,Fz f⟩
theorem WK{f:Func}(hA:(Ng f).length≤2097152):InRow (BM f) (mvK f (stepsL f).length):=⟨(Fy f).1,Gz hA,II f _⟩
theorem Tl(f:Func)(ho:okFunc f)(hs:smallF f)(hT:(B3 f).length≤2097152)(hA:(Ng f).length≤2097152)(hi1:∀b∈f.blocks,b.ins.length+1≤2097152):Fn Tryz.prog 29 [.agg (Ak f)] (.bs CF (LS f)):=by
 refine Ax Tryz.func29 rfl (by kernel_rfl) rfl Tryz.ntmps29 fun C hC=>?_
 refine nS ?_;refine Ac fun K1 h1=>?_
 refine rR ?_;refine h1 _ ?_;refine nT ?_;refine Ac fun K2 h2=>?_
 (refine Awp.region ?_;(repeat(first|refine sQ ?_|refine AO ?_|refine B6 ?_)))
 refine Ao rfl (Co rfl (P8 f ho hs hT hA hi1) (fun _=>rfl) rfl rfl fun m=>?_);refine sNt ?_;refine Ao rfl (BR (i:=1) rfl rfl (M0 (LR hA) (Iy ho) m) (fun _=>rfl) rfl rfl fun v=>?_);refine sNt ?_
 (repeat(first|refine sQ ?_|refine AO ?_|refine B6 ?_))
 refine Ar ?_;refine h2 _ ?_;refine nT ?_;refine As _ (Ig 1 (ver:=0) (t':=(A2 (.own 1 0::A3 []))) rfl rfl (by(try simp only[AJ,List.set_cons_zero,List.set_cons_succ]);(repeat(first|exact Cls.nil|refine Cls.own ?_|refine Cls.any ?_|refine Cls.keep rfl ?_)))) ?_;refine nT ?_;exact Aj ⟨.inr rfl,Fin.own rfl⟩
theorem Zs(f:Func)(ho:okFunc f)(hs:smallF f)(hT:(B3 f).length≤2097152)(hA:(Ng f).length≤2097152)(hi1:∀b∈f.blocks,b.ins.length+1≤2097152):Fn Tryz.prog 74 [.agg (Ak f)] (.bs CF (mvL f)):=by
 have hbl:=hs.blocks;have hRl:(BM f).length≤2097152:=Gz hA;have hRw:∀r∈BM f,Jj r:=Iy ho;refine FK Tryz.func74 rfl (by kernel_rfl) rfl Tryz.ntmps74 fun C hC hrd=>?_
 refine nS ?_;refine Ac fun K1 h1=>?_
 refine rR ?_;refine h1 _ ?_;refine nT ?_;refine Ac fun K2 h2=>?_
 (refine Awp.region ?_;(repeat(first|refine sQ ?_|refine AO ?_|refine B6 ?_)))
 refine Ao rfl (Mt rfl fun m=>?_);refine sNt ?_
 (repeat(first|refine sQ ?_|refine AO ?_|refine B6 ?_))
 refine Ar ?_;refine h2 _ ?_;refine nT ?_;refine Bv 1 rfl rfl rfl (fun g=>(.any::.lit (.pointer (some ⟨g,0,none⟩))::.any::.ptr 3 0::A10 (A7 []))) (fun g=>(by(repeat(first|exact OpnB.nil|refine OpnB.ptr ?_|refine OpnB.any ?_|refine OpnB.keep rfl ?_)))) fun g1=>?_
 refine Bv 3 rfl rfl rfl (fun g=>(.any::.lit (.pointer (some ⟨g1,0,none⟩))::.any::.lit (.pointer (some ⟨g,0,none⟩))::A10 (A7 []))) (fun g=>(by(repeat(first|exact OpnB.nil|refine OpnB.ptr ?_|refine OpnB.any ?_|refine OpnB.keep rfl ?_)))) fun g3=>?_
 refine Ac fun K3 h3=>?_
 refine Ac fun K4 h4=>?_
 (refine Awp.region ?_;(repeat(first|refine sQ ?_|refine AO ?_|refine B6 ?_)))
 (repeat(first|refine sQ ?_|refine AO ?_|refine B6 ?_))
 refine Ao rfl (Co rfl (KY f) (fun _=>rfl) rfl rfl fun p=>?_);refine sNt ?_;refine Ar ?_;refine h4 _ ?_;refine nT ?_;refine Af ?_;refine As ⟨(.any::.lit (.pointer (some ⟨g1,0,none⟩))::.any::.lit (.pointer (some ⟨g3,0,none⟩))::A3 (.lit (stF p)::A10 (A3 []))),[.res (Bq []),.res (Bn g1 (Ak f)),.res (CY (mvK f 0) m),.res (Bn g3 [.lit (.map (some m))]),.res (Bn p (Ak f))]⟩ (Fb (.cons (.cons (.cons (.cons (.cons (Cut.nil _))))))) ?_;refine FN 4 0 (fun k=>[.dead,.res (Bn g1 (Ak f)),.res (CY (mvK f k) m),.res (Bn g3 [.lit (.map (some m))]),.dead]) hrd (by kernel_rfl) (by decide) rfl rfl rfl ?hdrop rfl (fun _=>rfl) (fun _=>rfl) rfl (VV f) (Q8 f) (Jl f ho hs hT hi1 p) ?hround ?hdone
 case hdrop=>
  exact⟨Cut.dead (Cut.cons (Cut.cons (Cut.cons (Cut.dead (Cut.nil _))))),fun b hb=>List.all_eq_true.1 (show bdH [.dead,.res (Bn g1 (Ak f)),.res (CY (mvK f 0) m),.res (Bn g3 [.lit (.map (some m))]),.dead]=true from rfl) b hb⟩
 case hround=>
  intro k hk C' hr';obtain⟨q,hq⟩:∃q,(stepsL f)[k]? =some q:=⟨_,List.getElem?_eq_getElem hk⟩
  have hqm:=List.mem_of_getElem? hq;have hcs:=Lx hq;have hin:=II f k;try dsimp only
  rw[SF hq];generalize hS0:mvK f k=S0 at hcs hin⊢;refine Dr (t':=(.any::.lit (.pointer (some ⟨g1,0,none⟩))::.any::.lit (.pointer (some ⟨g3,0,none⟩))::A3 (.lit (stF p)::.agg (AL q.1)::.bs tInt q.2::A10 [.any]))) rfl rfl ?_;refine rR ?_;refine athen_n fun C'' hr''=>?_
  refine nT ?_;refine Af ?_;refine Ac fun K8 h8=>?_
  refine rR ?_;refine h8 _ ?_;refine nT ?_;refine Ae rfl (fun hb19=>?_) (fun hb19=>?_)
  ·have h2:q.1.op=2:=by simpa using hb19
   have e2:mvK f (k+1)=Dy S0 (Cr q.1.d q.1.a):=by rw[hcs];unfold mvA;rw[if_pos h2]
   have hdw:Jj q.1.d:=hRw _ (KD hqm (Jw h2).1);have haw:Jj q.1.a:=hRw _ (SM hqm h2)
   (refine Awp.region ?_;(repeat(first|refine sQ ?_|refine AO ?_|refine B6 ?_)))
   (repeat(first|refine sQ ?_|refine AO ?_|refine B6 ?_))
   refine Ao rfl (BR (i:=2) rfl rfl (NU hRl hin hdw haw) (fun _=>rfl) rfl rfl fun _=>?_);refine sNt ?_;refine Ar ?_;rw[←e2];exact⟨rfl,⟨.cons (.cons (.cons (.cons (.cons (Cut.nil _))))),fun b hb=>List.all_eq_true.1 (show bdH [.dead,.res (Bn g1 (Ak f)),.res (CY (mvK f (k+1)) m),.res (Bn g3 [.lit (.map (some m))]),.dead]=true from rfl) b hb⟩⟩
  ·have e2:mvK f (k+1)=S0:=by
    rw[hcs];unfold mvA;rw[if_neg (by simpa using hb19),CN]
   refine Ag ?_;rw[e2];exact⟨rfl,⟨.cons (.cons (.cons (.cons (.cons (Cut.nil _))))),fun b hb=>List.all_eq_true.1 (show bdH [.dead,.res (Bn g1 (Ak f)),.res (CY S0 m),.res (Bn g3 [.lit (.map (some m))]),.dead]=true from rfl) b hb⟩⟩
 case hdone=>
  intro D;refine h3 _ ?_;refine Dr (t':=(.any::.lit (.pointer (some ⟨g1,0,none⟩))::.any::.lit (.pointer (some ⟨g3,0,none⟩))::A3 (.lit (stF p)::A10 (A3 [])))) (h':=[.res (Bq [D]),.res (Bn g1 (Ak f)),.res (CY (mvK f (stepsL f).length) m),.res (Bn g3 [.lit (.map (some m))]),.dead]) rfl rfl ?_;refine Ac fun K20 h20=>?_
  (refine Awp.region ?_;(repeat(first|refine sQ ?_|refine AO ?_|refine B6 ?_)))
  refine Ao rfl (BR (i:=2) rfl rfl (M0 (WK hA) hRw m) (fun _=>rfl) rfl rfl fun v=>?_);refine sNt ?_
  (repeat(first|refine sQ ?_|refine AO ?_|refine B6 ?_))
  refine Ar ?_;refine h20 _ ?_;refine nT ?_;refine As _ (Ig 2 (ver:=0) (t':=(A2 (.own 2 0::A10 (A8 [])))) rfl rfl (by(try simp only[AJ,List.set_cons_zero,List.set_cons_succ]);(repeat(first|exact Cls.nil|refine Cls.own ?_|refine Cls.any ?_|refine Cls.keep rfl ?_)))) ?_;refine nT ?_;exact Aj ⟨.inr rfl,[D],rfl,rfl,Fin.own rfl⟩
theorem IK{r y:Int}{x:Pair}:y∈GD r x↔(r=x.a∧y=x.b)∨(r≠x.a∧r=x.b∧y=x.a):=by
 unfold GD;by_cases h:r=x.a
 ·rw[if_pos h];simp[h]
 ·rw[if_neg h];by_cases h2:r=x.b
  ·rw[if_pos h2];simp only[List.mem_cons,List.not_mem_nil,or_false];refine⟨fun e=>.inr ⟨h,h2,e⟩,fun e=>?_⟩;rcases e with⟨e,_⟩|⟨_,_,e⟩
   ·exact absurd e h
   ·exact e
  ·rw[if_neg h2];simp[h,h2]
theorem PJ{f:Func}{r:Int}{ks:List Pair}(hk:NL (CW f) ks):∀y∈ks.flatMap (GD r),y∈WD f r:=fun y hy=>by
 obtain⟨x,hx,hy⟩:=List.mem_flatMap.1 hy;have hS:=(hk.2 x hx).2;obtain⟨ha,hb,hab⟩:=Fz f x hS;unfold WD;rcases IK.1 hy with⟨rfl,rfl⟩|⟨_,rfl,rfl⟩
 ·refine List.mem_filter.2 ⟨hb,?_⟩;have e:(⟨min x.a x.b,max x.a x.b⟩:Pair)=x:=by rw[Int.min_eq_left (by omega),Int.max_eq_right (by omega)]
  rw[e,hS];have:x.a≠x.b:=by omega
  simp[this]
 ·refine List.mem_filter.2 ⟨ha,?_⟩;have e:(⟨min x.b x.a,max x.b x.a⟩:Pair)=x:=by rw[Int.min_eq_right (by omega),Int.max_eq_left (by omega)]
  rw[e,hS];have:x.b≠x.a:=by omega
  simp[this]
theorem Lw{f:Func}{r:Int}{ks:List Pair}(hk:NL (CW f) ks):(ks.flatMap (GD r)).Nodup:=by
 refine List.pairwise_flatMap.2 ⟨fun x _=>?_,?_⟩
 ·unfold GD;split
  ·simp
  ·split <;> simp
 ·refine hk.1.imp_of_mem fun{x y} hx hy hne u hu v hv huv=>hne ?_
  have h1:=(Fz f x (hk.2 x hx).2).2.2;have h2:=(Fz f y (hk.2 y hy).2).2.2;subst huv;obtain⟨a,b⟩:=x;obtain⟨c,d⟩:=y;have e:a=c∧b=d:=by
   rcases IK.1 hu with⟨e1,e2⟩|⟨_,e1,e2⟩ <;> rcases IK.1 hv with⟨e3,e4⟩|⟨_,e3,e4⟩ <;> dsimp only at e1 e2 e3 e4 h1 h2 <;> omega
  rw[e.1,e.2]
theorem PK{f:Func}{r:Int}{ks:List Pair}(hk:NL (CW f) ks)(hA:(Ng f).length≤2097152):(ks.flatMap (GD r)).length≤2097152:=
 Nat.le_trans (Ev (Lw hk) fun y hy=>(List.mem_filter.1 (PJ hk y hy)).1) (Gz hA)
theorem WE{f:Func}{r:Int}{ks:List Pair}(hk:Ap8 (CW f) ks)(hw:∀r∈BM f,Jj r):(ks.flatMap (GD r)).mergeSort (fun x y=>decide (x≤y))=WD f r:=
 R4 (Oq (Lw hk.1)) ((Fy f).1.filter _) fun y=>by
  rw[(List.mergeSort_perm _ _).mem_iff];refine⟨PJ hk.1 y,fun hy=>?_⟩;obtain⟨hy,hp⟩:=List.mem_filter.1 hy;rw[Bool.and_eq_true]at hp;obtain⟨hne,hS⟩:=hp;have hne:r≠y:=by simpa using hne
  obtain⟨h1,h2,_⟩:=Fz f _ hS;refine List.mem_flatMap.2 ⟨_,hk.2 _ ⟨hw _ h1,hw _ h2⟩ hS,IK.2 ?_⟩;try dsimp only
  rcases Int.lt_or_lt_of_ne hne with h|h
  ·rw[Int.min_eq_left (by omega),Int.max_eq_right (by omega)];exact .inl ⟨rfl,rfl⟩
  ·rw[Int.min_eq_right (by omega),Int.max_eq_left (by omega)];exact .inr ⟨by omega,rfl,rfl⟩
theorem WF{r:Int}{ks:List Pair}{q:Pair}:(ks++[q]).flatMap (GD r)=ks.flatMap (GD r)++GD r q:=by simp
theorem Adm(f:Func)(r:Int)(ho:okFunc f)(hs:smallF f)(hT:(B3 f).length≤2097152)(hA:(Ng f).length≤2097152)(hi1:∀b∈f.blocks,b.ins.length+1≤2097152):Fn Tryz.prog 76 [.agg (Ak f),.lit (.int .i64 r)] (.bs tInt (WD f r)):=by
 have hRw:∀r∈BM f,Jj r:=Iy ho;have hIR:=LR hA;refine Ax Tryz.func76 rfl (by kernel_rfl) rfl Tryz.ntmps76 fun C hC=>?_
 refine nS ?_;refine Ac fun K1 h1=>?_
 refine rR ?_;refine h1 _ ?_;refine nT ?_;refine Ac fun K2 h2=>?_
 refine rR ?_;refine h2 _ ?_;refine nT ?_;refine Ac fun K3 h3=>?_
 refine Ac fun K4 h4=>?_
 (refine Awp.region ?_;(repeat(first|refine sQ ?_|refine AO ?_|refine B6 ?_)))
 refine Ao rfl (Co rfl (P8 f ho hs hT hA hi1) (fun _=>rfl) rfl rfl fun m=>?_);refine sNt ?_;refine Ao rfl (NA 1 rfl Tryz.underlying131 rfl rfl fun rr=>?_);refine sNt ?_;refine Ar ?_;refine h4 _ ?_;refine nT ?_;refine Af ?_;refine Au (fun p:List Pair×Nat=>⟨(.any::.lit (.int .i64 r)::A3 (.own 2 p.2::A3 (.lit (.pointer (some ⟨rr,0,none⟩))::A20 (A6 [])))),[.box (Ak f),.res (YX (CW f) p.1 m rr),.row p.2 3 tInt (p.1.flatMap (GD r))]⟩) (fun p=>NL (CW f) p.1) (fun p=>(DZ (BM f)).length - p.1.length) ([],0) ⟨List.nodup_nil,fun _ h=>by cases h⟩ ((Cz 5 3 tInt rfl (by decide)).trans (Ce)) ?_;rintro⟨ks,ver⟩ hI
 (try dsimp only at hI);(try dsimp only)
 refine Ac fun K6 h6=>?_
 refine Awp.region ?_;refine Ao rfl (QN 1 rfl rfl rfl (fun hall=>?_) (fun q c hq hS hnk=>?_))
 ·refine sNt ?_
  (repeat(first|refine sQ ?_ (DG rfl rfl rfl)|refine sQ ?_|refine AO ?_|refine B6 ?_))
  refine Ar ?_;refine h6 _ ?_;refine nT ?_;refine Ac fun K7 h7=>?_
  refine Ae rfl (fun hb8=>by cases hb8) (fun hb8=>?_);refine Aq ?_;refine h3 _ ?_;refine nT ?_;refine Ac fun K15 h15=>?_
  (refine Awp.region ?_;(repeat(first|refine sQ ?_|refine AO ?_|refine B6 ?_)))
  refine Ao rfl (Sr rfl rfl rfl (Nat.le_trans (PK hI hA) (by decide)) ?_);refine sNt ?_;refine Ar ?_;refine h15 _ ?_;rw[WE ⟨hI,hall⟩ hRw];refine nT ?_;refine Ac fun K16 h16=>?_
  refine rR ?_;refine h16 _ ?_;refine nT ?_;exact Aj ⟨.inr rfl,Fin.own rfl⟩
 ·have hadd:=hI.add hq hS hnk;have hlen:=Ev hadd.1 fun x hx=>hIR.sub x (hadd.2 x hx).1 (hadd.2 x hx).2
  simp only[List.length_append,List.length_cons,List.length_nil]at hlen;have hl1:=PK (r:=r) hadd hA;have hwa:wfI .i64 q.a:=hq.a;have hwb:wfI .i64 q.b:=hq.b;have hadd2:=WF (r:=r) (ks:=ks) (q:=q);rw[hadd2,List.length_append]at hl1;refine sNt ?_
  (repeat(first|refine sQ ?_ (DG rfl rfl rfl)|refine sQ ?_|refine AO ?_|refine B6 ?_))
  refine Ar ?_;refine h6 _ ?_;refine nT ?_;refine Ac fun K7 h7=>?_
  refine Ae rfl (fun hb8=>?_) (fun hb8=>by cases hb8);refine Ag ?_;refine h7 _ ?_;refine nT ?_;refine Af ?_;refine Ac fun K9 h9=>?_
  (refine Awp.region ?_;(repeat(first|refine sQ ?_ (Kh 1 rfl rfl rfl)|refine sQ ?_|refine AO ?_|refine B6 ?_));refine Ar ?_)
  refine h9 _ ?_;refine nT ?_;refine As _ (DS (i:=1) (R':=YX (CW f) (ks++[q]) m rr) rfl (fun _ h=>h) (fun _ _ h=>h.1) rfl) ?_;refine nT ?_;refine Ac fun K10 h10=>?_
  refine rR ?_;refine h10 _ ?_;refine nT ?_;refine Af ?_;refine Ac fun K11 h11=>?_
  refine rR ?_;refine h11 _ ?_;refine nT ?_;generalize hL0:ks.flatMap (GD r)=L0 at hadd2 hl1⊢;refine Ae rfl (fun hb12=>?_) (fun hb12=>?_)
  ·have e:r=q.a:=by simpa using hb12
   have en:GD r q= [q.b]:=if_pos e;rw[en]at hadd2 hl1;have hl2:L0.length+1≤2097152:=hl1;refine rR ?_;refine abN (abN (athen_n ⟨(ks++[q],ver+1),hadd,by dsimp only;simp only[List.length_append,List.length_cons,List.length_nil];omega,?_⟩));try dsimp only
   rw[hadd2];exact Fb (.cons (.cons (.cons (Cut.nil _))))
  ·have e:r≠q.a:=by simpa using hb12
   refine Ac fun K13 h13=>?_
   refine rR ?_;refine h13 _ ?_;refine nT ?_;refine Ae rfl (fun hb14=>?_) (fun hb14=>?_)
   ·have e2:r=q.b:=by simpa using hb14
    have en:GD r q= [q.a]:=by unfold GD;rw[if_neg e,if_pos e2]
    rw[en]at hadd2 hl1;have hl2:L0.length+1≤2097152:=hl1;refine rR ?_;refine abN (abN (athen_n ⟨(ks++[q],ver+1),hadd,by dsimp only;simp only[List.length_append,List.length_cons,List.length_nil];omega,?_⟩));try dsimp only
    rw[hadd2];exact Fb (.cons (.cons (.cons (Cut.nil _))))
   ·have e2:r≠q.b:=by simpa using hb14
    have en:GD r q= []:=by unfold GD;rw[if_neg e,if_neg e2]
    rw[en,List.append_nil]at hadd2;refine Ag ?_;refine abN (abN (athen_n ⟨(ks++[q],ver),hadd,by dsimp only;simp only[List.length_append,List.length_cons,List.length_nil];omega,?_⟩));try dsimp only
    rw[hadd2];exact Fb (.cons (.cons (.cons (Cut.nil _))))
end Mu
end
section
namespace Mu
open Go Go.RowKit Go.Proofs
def SS(x:Ins):Bool:=wfB .u8 x.op&&wfB .i64 x.d&&wfB .i64 x.a&&wfB .i64 x.b&&wfB .u32 x.n&&wfB .i64 x.f&&wfB .i64 x.l1&&wfB .i64 x.l2&&x.args.all (wfB .i64)
def N5(b:Block):Bool:=Aqf b.name&&b.ins.all SS
def RA(f:Func):Bool:=Aqf f.name&&wfB .i64 f.args&&wfB .i64 f.regs&&f.blocks.all N5
def VY(b:Block):Bool:=decide (b.ins.length+1≤2097152)&&b.ins.all fun x=>decide (x.args.length+8≤2097152)
def VX(f:Func):Bool:=decide (f.blocks.length≤2097152)&&f.blocks.all VY
def Aov(f:Func):Bool:=RA f&&VX f&&decide ((B3 f).length≤2097152)&&decide ((Ng f).length≤2097152)
theorem Jv{x:Ins}:SS x=true↔okIns x:=by
 unfold SS;simp only[Bool.and_eq_true,List.all_eq_true];exact⟨fun⟨⟨⟨⟨⟨⟨⟨⟨a,b⟩,c⟩,d⟩,e⟩,f⟩,g⟩,i⟩,j⟩=>⟨a,b,c,d,e,f,g,i,j⟩,fun h=>⟨⟨⟨⟨⟨⟨⟨⟨h.op,h.d⟩,h.a⟩,h.b⟩,h.n⟩,h.f⟩,h.l1⟩,h.l2⟩,h.args⟩⟩
theorem J4{b:Block}:N5 b=true↔okBlock b:=by
 unfold N5;simp only[Bool.and_eq_true,List.all_eq_true];exact⟨fun⟨a,b⟩=>⟨VQ a,fun x hx=>Jv.1 (b x hx)⟩,fun h=>⟨decide_eq_true h.name,fun x hx=>Jv.2 (h.ins x hx)⟩⟩
theorem Lt{f:Func}:RA f=true↔okFunc f:=by
 unfold RA;simp only[Bool.and_eq_true,List.all_eq_true];exact⟨fun⟨⟨⟨a,b⟩,c⟩,d⟩=>⟨VQ a,b,c,fun x hx=>J4.1 (d x hx)⟩,fun h=>⟨⟨⟨decide_eq_true h.name,h.args⟩,h.regs⟩,fun x hx=>J4.2 (h.blocks x hx)⟩⟩
structure FineF(f:Func):Prop where
 ok:okFunc f
 small:smallF f
 reads:(B3 f).length≤2097152
 all:(Ng f).length≤2097152
 ins:∀b∈f.blocks,b.ins.length+1≤2097152
theorem Xs{f:Func}:Aov f=true↔FineF f:=by
 unfold Aov VX VY;simp only[Bool.and_eq_true,List.all_eq_true,decide_eq_true_eq];exact⟨fun⟨⟨⟨a,b,c⟩,d⟩,e⟩=>⟨Lt.1 a,⟨b,fun x hx=>⟨Nat.le_of_succ_le (c x hx).1,(c x hx).2⟩⟩,d,e,fun x hx=>(c x hx).1⟩,
  fun h=>⟨⟨⟨Lt.2 h.ok,h.small.blocks,fun x hx=>⟨h.ins x hx,(h.small.all x hx).all⟩⟩,h.reads⟩,h.all⟩⟩
def Er(a:List Pair)(b:List Pair):Int→M (Int⊕((Unit)⊕(Bool))):=fun i3=>M.cnd (decide (i3 < (a.length:Int))) (M.chk (EJ a i3) (M.chk (EJ b i3) (M.cnd (!((((ixD a i3).a) ==((ixD b i3).a))&&((((ixD a i3).b) ==((ixD b i3).b))&&true))) (M.ok (.inr (.inr false))) (M.ok (.inl (IntKind.i64.wrap (i3+1))))))) (M.ok (.inr (.inl ())))
def KF(a:List Pair)(b:List Pair):M Bool:=M.cnd ((a.length:Int) !=(b.length:Int)) (M.ok false) (M.els (M.loop (Er a b) 0) fun _=>M.ok true)
theorem MR{a:List Pair}{b:List Pair}{r:Bool}(H:(KF a b).to r):Fn Tryz.prog 73 [.bs CF a,.bs CF b] (.lit (.bool r)):=by
 delta KF at H;try dsimp only at H
 refine Ax Tryz.func73 rfl (by kernel_rfl) rfl Tryz.ntmps73 fun C hC=>?_
 simp only[List.length_cons,List.length_nil,Nat.reduceAdd,Nat.reduceSub,List.replicate_succ,List.replicate_zero,List.cons_append,List.nil_append];refine wS (sT (wN ?_));refine Ac fun Khs1 hs1=>?_
 refine wS (sT (sT (sT (sT (sT (wN ?_))))));refine Ae rfl (fun hb2=>?_) (fun hb2=>?_)
 ·have H:=BN hb2 H;refine wS (sT (wN ?_));obtain rfl:=Am.1 H;exact Aj ⟨.inr rfl,Fin.cl rfl⟩
 ·have H:=BO hb2 H;refine Ag ?_;refine hs1 _ ?_;refine nT ?_;obtain⟨z4,HX4,Hl4,Hq4⟩:=L4 H;refine D8 (β:=(Unit)×(Unit)) (fun q4=>z4= .inl q4.1) (fun q4=>⟨A20 (A6 []),[]⟩) ?_ ?_
  ·refine wS (sT (wN ?_));refine Af ?_;refine GS HX4 (fun s4 b4=>⟨.bs CF a::.bs CF b::A3 (.lit (.int .i64 s4)::A20 []),[]⟩) () (?_) ?_
   ·try dsimp only
    exact Ew
   ·rintro i3 _ x4 H Hr4;try dsimp only
    dsimp only[Er]at H;refine Ac fun Khs5 hs5=>?_
    refine wS (sT (sT (sT (sT (wN ?_)))));refine Ae rfl (fun hb6=>?_) (fun hb6=>?_)
    ·have H:=BN hb6 H;refine Ag ?_;refine hs5 _ ?_;refine nT ?_;refine Ac fun Khs7 hs7=>?_
     refine Af ?_;obtain⟨c8,H⟩:=AM.1 H;obtain⟨c9,H⟩:=AM.1 H;refine dS 9 (hq:=?_);refine qT (qT (qX c8 (qT (qT (qT (qX c9 (qT ?_)))))));refine qA ?_ (Mf (bs:=[true,true]) (vs:=[(.int .i64 ((ixD a i3).a)),(.int .i64 ((ixD a i3).b))]) (ws:=[(.int .i64 ((ixD b i3).a)),(.int .i64 ((ixD b i3).b))]) (by kernel_rfl) rfl (AT (AT ZI)) (AT (AT (AT Tb))) rfl) (Bf (Bf (Bf T3)));refine qN (wN ?_);refine Ae rfl (fun hb10=>?_) (fun hb10=>?_)
     ·have H:=BN hb10 H;refine wS (sT (wN ?_));have H:=Am.2 (Hq4 _ (Hr4 _ (Am.1 H).symm).symm);obtain rfl:=Am.1 H;exact Aj ⟨.inr rfl,Fin.cl rfl⟩
     ·have H:=BO hb10 H;refine Ag ?_;refine hs7 _ ?_;refine nT ?_;refine wSE (sT (sT (sT (wN ?_))));have e4:=Am.1 H;repeat(first|refine abN ?_|refine asN ?_)
      refine athen_n ⟨_,(),e4.symm,?_⟩;try dsimp only
      exact Ew
    ·have H:=BO hb6 H;refine Aq ?_;repeat(first|refine Ga ?_|refine exO (by decide) ?_|refine asE ?_)
     refine exN ?_;have e4:=Hr4 _ (Am.1 H).symm;repeat(first|refine abN ?_|refine asN ?_)
     refine athen_n ⟨(_,()),e4.symm,?_⟩;try dsimp only
     exact Ew
  ·rintro⟨_,_⟩ hz4;try dsimp only at hz4
   have H:=Hl4 _ hz4;try dsimp only
   refine wS (sT (wN ?_));obtain rfl:=Am.1 H;exact Aj ⟨.inr rfl,Fin.cl rfl⟩
def DO(l:List Pair)(a:Int)(b:Int):Int→M (Int⊕((Unit)⊕(Bool))):=fun i1=>M.cnd (decide (i1 < (l.length:Int))) (M.chk (EJ l i1) (M.cnd ((((ixD l i1).a) ==(if b < a then b else a))&&((((ixD l i1).b) ==(if b > a then b else a))&&true)) (M.ok (.inr (.inr true))) (M.ok (.inl (IntKind.i64.wrap (i1+1)))))) (M.ok (.inr (.inl ())))
def IM(l:List Pair)(a:Int)(b:Int):M Bool:=M.els (M.loop (DO l a b) 0) fun _=>M.ok false
theorem RF{l:List Pair}{a:Int}{b:Int}{r:Bool}(H:(IM l a b).to r):Fn Tryz.prog 33 [.bs CF l,.lit (.int .i64 a),.lit (.int .i64 b)] (.lit (.bool r)):=by
 delta IM at H;try dsimp only at H
 refine Ax Tryz.func33 rfl (by kernel_rfl) rfl Tryz.ntmps33 fun C hC=>?_
 simp only[List.length_cons,List.length_nil,Nat.reduceAdd,Nat.reduceSub,List.replicate_succ,List.replicate_zero,List.cons_append,List.nil_append];refine wS (sT (wN ?_));obtain⟨z2,HX2,Hl2,Hq2⟩:=L4 H;refine D8 (β:=(Unit)×(Unit)) (fun q2=>z2= .inl q2.1) (fun q2=>⟨A20 (A6 []),[]⟩) ?_ ?_
 ·refine wS (sT (wN ?_));refine Af ?_;refine GS HX2 (fun s2 b2=>⟨.bs CF l::.lit (.int .i64 a)::.lit (.int .i64 b)::A4 (.lit (.int .i64 s2)::A10 (A8 [])),[]⟩) () (?_) ?_
  ·try dsimp only
   exact Ew
  ·rintro i1 _ x2 H Hr2;try dsimp only
   dsimp only[DO]at H;refine Ac fun Khs3 hs3=>?_
   refine wS (sT (sT (sT (sT (wN ?_)))));refine Ae rfl (fun hb4=>?_) (fun hb4=>?_)
   ·have H:=BN hb4 H;refine Ag ?_;refine hs3 _ ?_;refine nT ?_;refine Ac fun Khs5 hs5=>?_
    refine Af ?_;obtain⟨c6,H⟩:=AM.1 H;refine wS (sT (sT (sX c6 (sT (sT (sT ?_))))));refine sA ?_ (Av.min2 rfl (AT (AT Aft)) (AT (AT Ab6))) (Bf (Bf Ac0));refine sT (sT ?_);refine sA ?_ (Av.max2 rfl (AT (AT Oh)) (AT (AT OM))) (Bf (Bf Vw));refine sA ?_ (B9 (rs:=[.lit (.int .i64 (if b < a then b else a)),.lit (.int .i64 (if b > a then b else a))]) rfl IE rfl rfl) (Bf (Bf (Bf V3)));refine sA ?_ (Sj (bs:=[true,true]) (vs:=[(.int .i64 ((ixD l i1).a)),(.int .i64 ((ixD l i1).b))]) (ws:=[(.int .i64 (if b < a then b else a)),(.int .i64 (if b > a then b else a))]) (by kernel_rfl) rfl (AT (AT Afu)) (AT (AT (AT Tb))) rfl) (Bf (Bf (Bf T3)));refine wN ?_;refine Ae rfl (fun hb7=>?_) (fun hb7=>?_)
    ·have H:=BN hb7 H;refine wS (sT (wN ?_));have H:=Am.2 (Hq2 _ (Hr2 _ (Am.1 H).symm).symm);obtain rfl:=Am.1 H;exact Aj ⟨.inr rfl,Fin.cl rfl⟩
    ·have H:=BO hb7 H;refine Ag ?_;refine hs5 _ ?_;refine nT ?_;refine wSE (sT (sT (sT (wN ?_))));have e2:=Am.1 H;repeat(first|refine abN ?_|refine asN ?_)
     refine athen_n ⟨_,(),e2.symm,?_⟩;try dsimp only
     exact Ew
   ·have H:=BO hb4 H;refine Aq ?_;repeat(first|refine Ga ?_|refine exO (by decide) ?_|refine asE ?_)
    refine exN ?_;have e2:=Hr2 _ (Am.1 H).symm;repeat(first|refine abN ?_|refine asN ?_)
    refine athen_n ⟨(_,()),e2.symm,?_⟩;try dsimp only
    exact Ew
 ·rintro⟨_,_⟩ hz2;try dsimp only at hz2
  have H:=Hl2 _ hz2;try dsimp only
  refine wS (sT (wN ?_));obtain rfl:=Am.1 H;exact Aj ⟨.inr rfl,Fin.cl rfl⟩
def Ao1:Ins:=⟨0,0,0,0,1,0,[],0,0⟩
def Ao0:Ins:=⟨0,1,0,0,2,0,[],0,0⟩
def Aoz:Ins:=⟨2,2,0,0,0,0,[],0,0⟩
def ZX:Ins:=⟨5,3,0,0,0,0,[2],0,0⟩
def Aoy:Ins:=⟨1,4,1,3,0,0,[],0,0⟩
def Aox:Ins:=⟨1,4,4,0,0,0,[],0,0⟩
def Aow:Ins:=⟨10,0,4,0,0,0,[],0,0⟩
def Arc:List Ins:=[Ao1,Ao0,Aoz,ZX,Aoy,Aox,Aow]
def Aqq:Block:=⟨Wz,Arc⟩
def XG:Func:=⟨Wz,0,5,[Aqq]⟩
theorem ZW:okIns ZX:=⟨Iq (k:=.u8) (by decide),Iq (k:=.i64) (by decide),Iq (k:=.i64) (by decide),Iq (k:=.i64) (by decide),Iq (k:=.u32) (by decide),Iq (k:=.i64) (by decide),Iq (k:=.i64) (by decide),Iq (k:=.i64) (by decide),fun y hy=>by
 simp only[ZX,List.mem_cons,List.not_mem_nil,or_false]at hy;subst hy;exact Iq (k:=.i64) (by decide)⟩
theorem ZV:FineF XG:=Xs.1 (by decide+kernel)
theorem Ug{x:Ins}(h:SS x=true):okIns x:=Jv.1 h
theorem P6:Fn Tryz.prog 72 [] (.agg (Ak XG)):=by
 refine FL Tryz.func72 rfl (by kernel_rfl) rfl (show OO Tryz.prog 45=some (true,4)by kernel_rfl) Tryz.ntmps72 fun C hC=>?_
 simp only[List.length_nil,Nat.sub_zero,List.replicate_succ,List.replicate_zero,List.nil_append];refine rRS ?_;refine Ac fun K2 h2=>?_
 refine Awp.region ?_;refine Ao rfl (BG (r:=.agg (GJ Ao1)) (Cc rfl Rt rfl rfl) ?_);refine sNt ?_;refine Ao rfl (BG (r:=.agg (GJ Ao0)) (Cc rfl Rt rfl rfl) ?_);refine sNt ?_;refine Ao rfl (BG (r:=.agg (GJ Aoz)) (Cc rfl Rt rfl rfl) ?_);refine sNt ?_;refine Ao rfl (BG (Av.lt (xs:=[.const (.int .i64 2)]) (T:=tInt) (ds:=[2]) rfl rfl rfl (by rfl) (by decide) (IW [2] (N4 (by decide)))) ?_);refine sNt ?_;refine Ao rfl (BG (r:=.agg (AL ZX)) (Cc rfl Rt rfl rfl) ?_);refine sNt ?_;refine Ao rfl (BG (r:=.agg (GJ Aoy)) (Cc rfl Rt rfl rfl) ?_);refine sNt ?_;refine Ao rfl (BG (r:=.agg (GJ Aox)) (Cc rfl Rt rfl rfl) ?_);refine sNt ?_;refine Ao rfl (BG (r:=.agg (GJ Aow)) (Cc rfl Rt rfl rfl) ?_);refine sNt ?_;refine Ao rfl (BG (Av.lt (xs:=[.tmp 1,.tmp 2,.tmp 3,.tmp 5,.tmp 6,.tmp 7,.tmp 8]) (T:=Dj) (ds:=Arc) rfl rfl rfl (by rfl) (by decide) (.cons (Fit.agg fun _ _ _ _ h=>GZ (Ug (by decide+kernel)) rfl h) (.cons (Fit.agg fun _ _ _ _ h=>GZ (Ug (by decide+kernel)) rfl h) (.cons (Fit.agg fun _ _ _ _ h=>GZ (Ug (by decide+kernel)) rfl h) (.cons (Fit.agg fun _ _ _ _ h=>F1 ZW h) (.cons (Fit.agg fun _ _ _ _ h=>GZ (Ug (by decide+kernel)) rfl h) (.cons (Fit.agg fun _ _ _ _ h=>GZ (Ug (by decide+kernel)) rfl h) (.cons (Fit.agg fun _ _ _ _ h=>GZ (Ug (by decide+kernel)) rfl h) .nil)))))))) ?_);refine sNt ?_;refine Ao rfl (BG (r:=.agg (BZ Aqq)) (Cc rfl Ada rfl rfl) ?_);refine sNt ?_;refine Ao rfl (BG (Av.lt (xs:=[.tmp 10]) (T:=Bs) (ds:=[Aqq]) rfl rfl rfl (by rfl) (by decide) (.cons (Fit.agg fun _ _ _ _ h=>Pt Wy h) .nil)) ?_);refine sNt ?_;refine Ao rfl (BG (r:=.agg (Ak XG)) (Cc rfl Akr rfl rfl) ?_);refine sNt ?_
 (first|refine sQ ?_|refine AO ?_|refine B6 ?_)
 refine Ar ?_;refine h2 _ ?_;refine nT ?_;refine Aj ?_;refine⟨⟨.inr rfl,0,_,rfl,rfl,Fin.cl rfl⟩,fun i cells h1 h2=>?_⟩;have:i=0:=by injection h1 with h1;exact h1.symm
 subst this;injection h2 with h2
 injection h2 with h2
 rw[←h2];rfl
theorem XY(x:Pair):((x.a ==x.a)&&((x.b ==x.b)&&true))=true:=by simp
theorem KL{α:Type}{l:List α}{k:Nat}(h:k < l.length):EJ l (k:Int)=true:=B8.2 ⟨by omega,by rw[Int.toNat_natCast];exact h⟩
theorem Arb{k n:Nat}(hk:k < n)(hn:n≤4611686018427387904):IntKind.i64.wrap ((k:Int)+1)=((k+1:Nat):Int):=by rw[IntWalk.i64_in _ ⟨by omega,by omega⟩];omega
theorem Ld(l:List Pair)(hn:l.length≤4611686018427387904):(KF l l).to true:=by
 unfold KF;refine Bc (by simp) (M.els_l (a:=()) ?_ (An _));refine Or (step:=Er l l) (fun k=>(k:Int)) l.length (fun k hk=>?_) ?_ (j:=0) (Nat.zero_le _)
 ·unfold Er;refine BT (decide_eq_true (by omega)) (AA (KL hk) (AA (KL hk) (Bc ?_ ?_)))
  ·rw[XY];rfl
  ·rw[Arb hk hn];exact An _
 ·unfold Er;exact Bc (decide_eq_false (by omega)) (An _)
theorem UA{l:List Pair}{a b:Int}(hn:l.length≤4611686018427387904):∀(d k:Nat),k+d=l.length→(⟨min a b,max a b⟩:Pair)∈l.drop k→(M.loop (DO l a b) (k:Int)).to (.inr true):=by
 have e1:(if b < a then b else a)=min a b:=by rw[Int.min_def];split <;> split <;> omega
 have e2:(if b > a then b else a)=max a b:=by rw[Int.max_def];split <;> split <;> omega
 intro d;induction d with
 |zero=>
  intro k hk hm;rw[List.drop_of_length_le (by omega)]at hm;cases hm
 |succ d ih=>
  intro k hk hm;have hkl:k < l.length:=by omega
  obtain⟨x,hx⟩:∃x,l[k]? =some x:=⟨_,List.getElem?_eq_getElem hkl⟩
  have hix:ixD l (k:Int)=x:=PR hx;rw[List.drop_eq_getElem_cons hkl]at hm;have hxe:l[k]=x:=by rw[List.getElem?_eq_getElem hkl]at hx;exact Option.some.inj hx
  rw[hxe]at hm;by_cases he:x=⟨min a b,max a b⟩
  ·refine M.loop_out ?_;unfold DO;rw[hix,e1,e2];refine BT (decide_eq_true (by omega)) (AA (KL hkl) (BT ?_ (An _)));rw[he];simp
  ·refine M.loop_in (s':=((k+1:Nat):Int)) ?_ (ih (k+1) (by omega) ?_)
   ·unfold DO;rw[hix,e1,e2,Arb hkl hn];refine BT (decide_eq_true (by omega)) (AA (KL hkl) (Bc ?_ (An _)));rw[Bool.eq_false_iff];intro h;simp only[Bool.and_true,Bool.and_eq_true,beq_iff_eq]at h;obtain⟨xa,xb⟩:=x;exact he (by rw[←h.1,←h.2])
   ·rcases List.mem_cons.1 hm with e|e
    ·exact absurd e.symm he
    ·exact e
theorem ZF{l:List Pair}{a b:Int}(hn:l.length≤4611686018427387904)(h:(⟨min a b,max a b⟩:Pair)∈l):(IM l a b).to true:=by
 unfold IM;exact M.els_r (UA hn l.length 0 (by omega) h)
def Aqp:List Pair:=[⟨0,1⟩,⟨0,3⟩,⟨0,4⟩,⟨1,2⟩,⟨1,3⟩]
theorem XE:LS XG=Aqp:=by decide+kernel
theorem XD:mvL XG= [⟨0,2⟩]:=by decide+kernel
theorem XF:Aca XG= [0,1]:=by decide+kernel
theorem ZU:WD XG 1= [0,2,3]:=by decide+kernel
theorem Akb{h:List ABlk}{x:Pair}(hk:Ju x=true):Fit h CF (.agg (Ca x)) x:=ZO hk
theorem Ex:Fn Tryz.prog 27 [] (.lit (.bool true)):=by
 have c:=ZV;have hE:=Tl XG c.ok c.small c.reads c.all c.ins;have hM:=Zs XG c.ok c.small c.reads c.all c.ins;have hC':=ZY XG c.ok c.small c.reads c.ins;have hN:=Adm XG 1 c.ok c.small c.reads c.all c.ins;rw[XE]at hE;rw[XD]at hM;rw[XF]at hC';rw[ZU]at hN;have hs1:=MR (Ld Aqp (by decide));have hs2:=MR (Ld [⟨0,2⟩] (by decide));have hs3:=V6 [0,1] [0,1] (by decide);have hs4:=V6 [0,2,3] [0,2,3] (by decide);rw[decide_eq_true rfl]at hs3 hs4;refine Ax Tryz.func27 rfl (by kernel_rfl) rfl Tryz.ntmps27 fun C hC=>?_
 simp only[List.length_nil,Nat.sub_zero,List.replicate_succ,List.replicate_zero,List.nil_append];refine rRS ?_;refine Ac fun K2 h2=>?_
 (refine Awp.region ?_;(repeat(first|refine sQ ?_ (Av.call rfl P6 rfl rfl rfl)|refine sQ ?_|refine AO ?_|refine B6 ?_));refine Ar ?_)
 refine h2 _ ?_;refine nT ?_;refine Ac fun K3 h3=>?_
 (refine Awp.region ?_;(repeat(first|refine sQ ?_ (Av.call rfl hE rfl rfl rfl)|refine sQ ?_ (Av.call rfl hs1 rfl rfl rfl)|refine sQ ?_ (Av.call rfl hM rfl rfl rfl)|refine sQ ?_ (Av.call rfl hs2 rfl rfl rfl)|refine sQ ?_ (Av.call rfl hC' rfl rfl rfl)|refine sQ ?_ (Av.call rfl hs3 rfl rfl rfl)|refine sQ ?_ (Av.call rfl hN rfl rfl rfl)|refine sQ ?_ (Av.call rfl hs4 rfl rfl rfl)|refine sQ (hq:=Av.lt (xs:=[.tmp 5,.tmp 6,.tmp 7,.tmp 8,.tmp 9]) (T:=CF) (ds:=Aqp) rfl rfl rfl (by rfl) (by decide) (.cons (Akb (by decide)) (.cons (Akb (by decide)) (.cons (Akb (by decide)) (.cons (Akb (by decide)) (.cons (Akb (by decide)) .nil)))))) (hk:=?_)|refine sQ ?_ (Av.lt (xs:=[.tmp 15]) (T:=CF) (ds:=[⟨0,2⟩]) rfl rfl rfl (by rfl) (by decide) (.cons (Akb (by decide)) .nil))|refine sQ ?_ (Av.lt (xs:=[.const (.int .i64 0),.const (.int .i64 1)]) (T:=tInt) (ds:=[0,1]) rfl rfl rfl (by rfl) (by decide) (IW [0,1] (N4 (by decide))))|refine sQ ?_ (Av.lt (xs:=[.const (.int .i64 0),.const (.int .i64 2),.const (.int .i64 3)]) (T:=tInt) (ds:=[0,2,3]) rfl rfl rfl (by rfl) (by decide) (IW [0,2,3] (N4 (by decide))))|refine sQ ?_ (Cc (rs:=Ca ⟨0,1⟩) rfl IE rfl rfl)|refine sQ ?_ (Cc (rs:=Ca ⟨0,3⟩) rfl IE rfl rfl)|refine sQ ?_ (Cc (rs:=Ca ⟨0,4⟩) rfl IE rfl rfl)|refine sQ ?_ (Cc (rs:=Ca ⟨1,2⟩) rfl IE rfl rfl)|refine sQ ?_ (Cc (rs:=Ca ⟨1,3⟩) rfl IE rfl rfl)|refine sQ ?_ (Cc (rs:=Ca ⟨0,2⟩) rfl IE rfl rfl)|refine sQ ?_|refine AO ?_|refine B6 ?_));refine Ar ?_)
 refine h3 _ ?_;refine nT ?_;refine Aj ?_;exact⟨.inr rfl,Fin.cl rfl⟩
section
variable{P:Program}{C:Ctx}{t:List AV}{h:List ABlk}{o:Oper}
end
theorem Y2(l:List Ins):(l.flatMap BL).length≤CK Dj.bulk l:=by
 induction l with
 |nil=>simp[CK]
 |cons x l ih=>
  have h1:=H9 x;have h2:=KO x;have h3:=Ci Ls x.args;have h4:(BL x).length≤(readsC x).length+1:=by
   unfold BL;rw[List.length_append];split <;> simp
  simp only[List.flatMap_cons,List.length_append,CK];omega
theorem Ri(l:List Block):(l.flatMap fun b=>b.ins.flatMap BL).length≤CK Bs.bulk l:=by
 induction l with
 |nil=>simp[CK]
 |cons b l ih=>
  have h1:=Y2 b.ins;have h2:=Ee b;simp only[List.flatMap_cons,List.length_append,CK];omega
theorem X7{f:Func}(h:B4.bulk f≤2097152):(Ng f).length≤2097152:=by
 have h1:=Ri f.blocks;have h2:=GK f;have e:(Ng f).length=(f.blocks.flatMap fun b=>b.ins.flatMap BL).length:=rfl;omega
theorem Xr{f:Func}(ho:okFunc f)(h:B4.bulk f≤2097152):FineF f:=⟨ho,TZ h,T9 h,X7 h,W8 h⟩
theorem XA{f:Func}(hA:(Ng f).length≤2097152):(LS f).length≤4398046511104:=Nat.le_trans (List.length_filter_le _ _) (LR hA).lens
theorem Agc{f:Func}{b:Nat}(hb:b < f.blocks.length):ixD (Agd f) (b:Int)=BU f b:=PR (by unfold Agd;rw[List.getElem?_map,List.getElem?_range hb];rfl)
def Oa(f:Func):Met:=⟨LS f,Agd f⟩
def Aam(p:Prog)(m:MdA):Prop:=∀t∈m.ths,∀r∈t.l,Yf p r.fr
theorem V7{p:Prog}{r:Fr}(hG:Yf p r){a b:Int}(ha:a∈Cg (BS p r.f) (Bg (BS p r.f)) r.b r.i)(hb:b∈Cg (BS p r.f) (Bg (BS p r.f)) r.b r.i)(hne:a≠b)(hd:regA r a≠regA r b):(⟨min a b,max a b⟩:Pair)∈LS (BS p r.f):=by
 refine Uo.2 ?_;cases he:CW (BS p r.f) ⟨min a b,max a b⟩with
 |true=>rfl
 |false=>exact absurd (hG a b (KJ.1 ha) (KJ.1 hb) hne he) hd
theorem Za{f:Func}{b i x y:Nat}{u v:Int}(hxy:y < x)(hx:(Cg f (Bg f) b i)[x]? =some u)(hy:(Cg f (Bg f) b i)[y]? =some v):u≠v:=fun e=>by
 have h:(Cg f (Bg f) b i).Pairwise (· < ·):=(Pm f).filter _;have hx2:=(List.getElem?_eq_some_iff.1 hx)
 have hy2:=(List.getElem?_eq_some_iff.1 hy)
 have:=List.pairwise_iff_getElem.1 h y x hy2.1 hx2.1 hxy;rw[hx2.2,hy2.2]at this;omega
theorem Z8{f:Func}{b i:Nat}(hi:i≤(BW f b).length):(BU f b)[i]? =some (Cg f (Bg f) b i):=by
 unfold BU;rw[List.getElem?_map,List.getElem?_range (by omega)];rfl
theorem TS{p:Prog}{m0:MdA}{ch:List Int}(hP:ProgOk p)(hN0:m0.Nrm)(habs:m0.abs=JY p ch)(hcw:∀c∈ch,wfI .u32 c):0≤150∧RunM p 0 m0∧m0.at_ < m0.ths.length∧Aam p m0:=by
 have hths:(m0.ths.map fun t=>t.l.map FrA.fr)=p.threads.map fun z=>[newFr p z.toNat []]:=congrArg Mdl.ths habs
 have hlen:=congrArg List.length hths;rw[List.length_map,List.length_map]at hlen;have hpos:=List.length_pos_iff.2 hP.threads.1;have hat:m0.at_=0:=congrArg Mdl.at_ habs;refine⟨Nat.zero_le _,⟨hN0,by rw[habs];exact YQ hP ch,by rw[habs];exact VU hcw⟩,by omega,fun t ht r hr=>?_⟩;have h1:t.l.map FrA.fr∈p.threads.map fun z=>[newFr p z.toNat []]:=by
  rw[←hths];exact List.mem_map.2 ⟨t,ht,rfl⟩
 obtain⟨z,hz,e⟩:=List.mem_map.1 h1;have h2:r.fr∈[newFr p z.toNat []]:=by
  rw[e];exact List.mem_map.2 ⟨r,hr,rfl⟩
 rw[List.mem_singleton.1 h2];exact SH hP (hP.threads.2 z hz).2.1
theorem PS{p:Prog}{ch:List Int}(hh:wfI .i64 p.heap)(hb:Dl.bulk p≤2097152)(ho:∀f∈p.funcs,okFunc f)(hcl:ch.length≤1073741824)(hcw:∀c∈ch,wfI .u32 c):Fn Tryz.prog 7 [.agg (AU p),.bs (Ty.int .u32) ch] (.lit (.bool true)):=by
 have hsz:=Akp hb hh ho;have hI:=Aqs hsz;have hok:∀f∈p.funcs,okFunc f∧f.blocks.length≤1073741824∧∀b∈f.blocks,b.ins.length≤1073741824∧∀x∈b.ins,x.args.length≤1073741824:=fun f hf=>⟨ho f hf,Nat.le_trans (hsz.bl f hf) (by decide),fun b hb=>⟨Nat.le_trans (hsz.il f hf b hb) (by decide),fun x hx=>Nat.le_trans (hsz.al f hf b hb x hx) (by decide)⟩⟩
 have hn:=Akz (ch:=ch) hI hok hcl;have hg:=Xi hh hb;have hFf:∀f∈p.funcs,FineF f:=fun f hf=>Xr (ho f hf) (Nat.le_trans (GB hf) hb)
 refine Ax Tryz.func7 rfl (by kernel_rfl) rfl Tryz.ntmps7 fun C hC=>?_
 simp only[List.length_cons,List.length_nil,Nat.reduceAdd,Nat.reduceSub,List.replicate_succ,List.replicate_zero,List.cons_append,List.nil_append];refine wS (sB (sT (wN ?_)));refine wS (sT (sT ?_));refine Ao rfl (C6 rfl hn Zo rfl rfl (fun q=>by cases q <;> rfl) fun q=>?_);refine sNt ?_;rcases q with⟨e,he⟩|⟨m0,hN0,habs,hS⟩
 ·dsimp only[newR,Aqm];refine sT (sT (sT (sT (sT (wN ?_)))));refine Ac fun K8 h8=>?_
  refine wS (sT (sT (sT ?_)));rw[show(e !=0)=true from by simpa using he];refine AO ?_;refine AO ?_;refine sH (Av.pick rfl rfl rfl) (sT ?_);refine AO ?_;refine AO ?_;refine sH (Av.pick rfl rfl rfl) (sT ?_);refine AO ?_;refine AO ?_;refine AO ?_;refine sH (Av.pick rfl rfl rfl) (wN ?_);refine Ae rfl (fun hb5=>?_) (fun hb5=>?_)
  ·refine wS (sC Ex (sT (wN ?_)));exact Aj ⟨.inr rfl,Fin.cl rfl⟩
  ·cases hb5
 dsimp only[newR,Aqm];refine sT (sT (sT (sT (sT (wN ?_)))));refine Ac fun K3 h3=>?_
 refine wS (sT (sT (sT ?_)));refine sTg ?_;refine sHg (Nu rfl rfl rfl) ?_;refine sH (r:=.lit (.bool false)) (Av.pick rfl rfl rfl) (sT ?_);refine sHg (Bt rfl rfl rfl rfl) ?_;refine Ao rfl (C6 rfl hg (fun _=>rfl) rfl rfl (fun _=>rfl) fun gb=>?_);refine sNt ?_;refine sH (r:=.lit (.bool gb)) (Av.pick rfl rfl rfl) (sT ?_);rcases gb with _|_
 rotate_left
 ·refine AO ?_;refine AO ?_;refine AO ?_;refine sH (Av.pick rfl rfl rfl) (wN ?_);refine Ae rfl (fun hb5=>?_) (fun hb5=>?_)
  ·refine wS (sC Ex (sT (wN ?_)));exact Aj ⟨.inr rfl,Fin.cl rfl⟩
  ·cases hb5
 refine sTg (sTg (sTg ?_));refine sH (Av.pick rfl rfl rfl) (wN ?_);refine Ae rfl (fun hb5=>?_) (fun hb5=>?_)
 ·refine wS (sC Ex (sT (wN ?_)));exact Aj ⟨.inr rfl,Fin.cl rfl⟩
 ·refine Ag ?_;refine h3 _ ?_;refine nT ?_;refine wR ?_;refine As ⟨(A2 (.ptr 0 0::.any::.lit (.bool false)::.lit (ptV m0.g 0)::.any::.lit (.slice none 0 0)::A80 (A40 (A10 (A5 []))))),[.box (AU p),.res (modR p m0)]⟩ (Fb (hc:=.cons (.cons (.nil _)))) ?_;refine As _ (Cz 7 74 Q3 rfl (by decide)) ?_;refine nT ?_;have hP:=Abe hsz hS;have hPB:=Aro hsz hS;have htop:=hS.top;unfold Vv at htop;simp only[Bool.and_eq_true,Bool.not_eq_true',Bool.or_eq_false_iff,decide_eq_false_iff_not,List.any_eq_false]at htop;have hH:p.heap≤1024:=by omega
  have hfl:=hsz.fl;refine Ac fun K9 h9=>?_
  refine wR ?_;refine Af ?_;refine Au (fun b:Nat×Nat=>⟨(A2 (.ptr 0 0::A2 (.lit (ptV m0.g 0)::.any::.own 2 b.2::.lit (.int .i64 (b.1:Int))::A80 (A40 (A10 (A4 [])))))),[.box (AU p),.res (modR p m0),.row b.2 74 Q3 ((p.funcs.take b.1).map Oa)]⟩) (fun b=>b.1≤p.funcs.length) (fun b=>p.funcs.length - b.1) (0,0) (Nat.zero_le _) (Fb (hc:=.cons (.cons (.cons (.nil _))))) ?_;rintro⟨k,ver⟩ hk;have hk:k≤p.funcs.length:=hk;refine Ac fun K12 h12=>?_
  refine wS (sT (sT (sT (sT (sT (wN ?_))))));refine Ae rfl (fun hb14=>?_) (fun hb14=>?_)
  ·have hlt:k < p.funcs.length:=by
    have:=of_decide_eq_true hb14;omega
   obtain⟨f,hf⟩:∃f,p.funcs[k]? =some f:=⟨_,List.getElem?_eq_getElem hlt⟩
   have hfm:=List.mem_of_getElem? hf;have c:=hFf f hfm;have hfI:ixD p.funcs (k:Int)=f:=by
    show p.funcs.getD ((k:Int).toNat) default=_;rw[Int.toNat_natCast,List.getD_eq_getElem?_getD,hf];rfl
   refine Ag ?_;refine h12 _ ?_;refine nT ?_;refine Ac fun K15 h15=>?_
   refine Af ?_;refine Ac fun K16 h16=>?_
   refine wS (sT (sT (sT ?_)));refine sX (Ed hlt) (sT ?_);rw[hfI];refine sC (UB f c.ok c.small c.all) (wN ?_);refine Ae rfl (fun hb18=>?_) (fun hb18=>?_)
   ·refine wS (sC Ex (sT (wN ?_)));exact Aj ⟨.inr rfl,Fin.cl rfl⟩
   ·refine Ag ?_;refine h16 _ ?_;refine nT ?_;refine dSE 15 (hq:=qT (qT (qT (qT ?_))));refine qX (Ed hlt) (qT ?_);rw[hfI];refine qC (Tl f c.ok c.small c.reads c.all c.ins) (qT (qT (qT ?_)));refine qX (Ed hlt) (qT ?_);rw[hfI];refine qC (Aaf f c.ok c.small c.reads) ?_;refine qH (B9 (rs:=IX (Oa f)) rfl Aqj rfl rfl) ?_;refine qH (CB (T:=Q3) (d:=Oa f) rfl rfl rfl rfl (by decide) (Afz rfl)) (qN ?_);refine sP (by rw[List.length_map];have:=List.length_take_le k p.funcs;unfold H5 maxLen;simp;omega) (sT (wN ?_));refine h15 _ ?_;refine nT ?_;refine wSE (sT (sT (sT (wN ?_))));have e3:(p.funcs.take (k+1)).map Oa=(p.funcs.take k).map Oa++[Oa f]:=by
     rw[List.take_add_one,hf,List.map_append];rfl
    refine athen_n ⟨(k+1,ver+1),hlt,by show p.funcs.length - (k+1) < p.funcs.length - k;omega,?_⟩;try rw[Cq (by omega)]
    show St.le _ _ ⟨_,[_,_,.row (ver+1) 74 Q3 ((p.funcs.take (k+1)).map Oa)]⟩;rw[e3];exact Fb (hc:=.cons (.cons (.cons (.nil _))))
  ·have hkn:(p.funcs.take k).map Oa=p.funcs.map Oa:=by
    have:=of_decide_eq_false hb14;rw[List.take_of_length_le (by omega)]
   rw[hkn];refine Aq ?_;refine h9 _ ?_;refine nT ?_;refine As _ (Oy hC 2 rfl) ?_;simp only[fzH,Gj,AV.fz,ABlk.fz,List.map_cons,List.map_nil,List.set_cons_succ,List.set_cons_zero,and_self,and_true,true_and,if_true,Nat.reduceEqDiff,false_and,if_false];refine Ac fun K23 h23=>?_
   refine wR ?_;refine Af ?_;refine Au (fun b:Nat×MdA=>⟨(A5 (.lit (ptV b.2.g 0)::.any::.bs Q3 (p.funcs.map Oa)::.any::.lit (.int .i64 (b.1:Int))::A80 (A40 (A10 (A3 []))))),[.box (AU p),.res (modR p b.2)]⟩) (fun b=>b.1≤150∧RunM p b.1 b.2∧b.2.at_ < b.2.ths.length∧Aam p b.2) (fun b=>150 - b.1) (0,m0) (TS hP hN0 habs hcw) (Fb (hc:=.cons (.cons (.nil _)))) ?_;rintro⟨i,m⟩ ⟨hi,hR,hat,hG⟩;have hi:i≤150:=hi;have hR:RunM p i m:=hR;have hat:m.at_ < m.ths.length:=hat;have hG:Aam p m:=hG;refine Ac fun K26 h26=>?_
   refine wS (sT (sT (wN ?_)));refine Ae rfl (fun hb28=>?_) (fun hb28=>?_)
   ·have hilt:i < 150:=by
     have:=of_decide_eq_true hb28;omega
    obtain⟨t0,ht⟩:∃t0,m.ths[m.at_]? =some t0:=⟨_,List.getElem?_eq_getElem hat⟩
    have htm:=List.mem_of_getElem? ht;have hbig:=hR.big (by omega) hH (by have:=hsz.thr;omega);have htl:=hbig.frs t0 htm;have hw:=YH (p:=p) hR.nrm ht htl;have hfrs:=(hR.ok.frs m.at_ (t0.l.map FrA.fr) (by show(m.ths.map _)[m.at_]? =_;rw[List.getElem?_map,ht];rfl)).1;refine Ag ?_;refine h26 _ ?_;refine nT ?_;refine Ac fun K29 h29=>?_
    refine Af ?_;rcases hq:t0.l.getLast? with _|q
    ·rw[show whA t0.l= .tup [.lit (.int .i64 (-1)),.lit (.int .i64 (-1)),.lit (.int .i64 (-1))]by unfold whA;rw[hq]]at hw;refine wS (sT (sH (DV (i:=1) rfl rfl hw rfl rfl rfl) ?_));refine sT (sT (sT (sT (sT (sT (sT (wN ?_)))))));refine Ac fun K31 h31=>?_
     refine wS (sT (sT (wN ?_)));refine Ae rfl (fun hb33=>?_) (fun hb33=>?_)
     ·refine wS (sC Ex (sT (wN ?_)));exact Aj ⟨.inr rfl,Fin.cl rfl⟩
     ·cases hb33
    rw[show whA t0.l= .tup [.lit (.int .i64 (q.fr.f:Int)),.lit (.int .i64 (q.fr.b:Int)),.lit (.int .i64 (q.fr.i:Int))]by unfold whA;rw[hq]]at hw;refine wS (sT (sH (DV (i:=1) rfl rfl hw rfl rfl rfl) ?_));refine sT (sT (sT (sT (sT (sT (sT (wN ?_)))))));refine Ac fun K31 h31=>?_
    refine wS (sT (sT (wN ?_)));refine Ae rfl (fun hb33=>?_) (fun hb33=>?_)
    ·exfalso;have:=of_decide_eq_true hb33;omega
    ·refine Ag ?_;refine h31 _ ?_;refine nT ?_;have hqm:q∈t0.l:=List.mem_of_getLast? hq;have hF:FrOk p q.fr:=hfrs q.fr (List.mem_map.2 ⟨q,hqm,rfl⟩);have hGq:=hG t0 htm q hqm;have hfl2:=hF.f;have hFA:BS p q.fr.f∈p.funcs:=by
      unfold BS;rw[List.getD_eq_getElem?_getD,List.getElem?_eq_getElem hfl2];exact List.getElem_mem hfl2
     have c:=hFf _ hFA;have hrl:q.fr.regs.length≤1073741824:=by
      have h1:=hF.regs;have h2:=hPB.regs _ hFA;omega
     have hrg:=Ac5 (p:=p) hR.nrm ht htl hq hrl;have hins:BW (BS p q.fr.f) q.fr.b=ON p q.fr:=G5 hF.b;have hpl:(BU (BS p q.fr.f) q.fr.b)[q.fr.i]? =some (Cg (BS p q.fr.f) (Bg (BS p q.fr.f)) q.fr.b q.fr.i):=Z8 (by rw[hins];exact Nat.le_of_lt hF.i);obtain⟨L,hL⟩:∃L,L=Cg (BS p q.fr.f) (Bg (BS p q.fr.f)) q.fr.b q.fr.i:=⟨_,rfl⟩
     have hLl:L.length≤2097152:=by
      rw[hL];exact Nat.le_trans (List.length_filter_le _ _) (Nat.le_trans (Gy _) c.reads)
     have e1:ixD (p.funcs.map Oa) (q.fr.f:Int)=Oa (BS p q.fr.f):=by
      show(p.funcs.map Oa).getD ((q.fr.f:Int).toNat) default=_;rw[Int.toNat_natCast,List.getD_eq_getElem?_getD,List.getElem?_map];unfold BS;rw[List.getD_eq_getElem?_getD,List.getElem?_eq_getElem hfl2];rfl
     have e2:ixD (Oa (BS p q.fr.f)).all (q.fr.b:Int)=BU (BS p q.fr.f) q.fr.b:=Agc hF.b;have e3:ixD (BU (BS p q.fr.f) q.fr.b) (q.fr.i:Int)=L:=by
      rw[hL];exact PR hpl
     have b1:EJ (p.funcs.map Oa) (q.fr.f:Int)=true:=Ed (by rw[List.length_map];exact hfl2);have b2:EJ (Oa (BS p q.fr.f)).all (q.fr.b:Int)=true:=Ed (by show q.fr.b < (Agd _).length;rw[Aae];exact hF.b);have b3:EJ (BU (BS p q.fr.f) q.fr.b) (q.fr.i:Int)=true:=Ed (List.getElem?_eq_some_iff.1 hpl).1;refine wS (sT (sH (DV (i:=1) rfl rfl hrg rfl rfl rfl) (sT (wN ?_))));refine wS (sT (sT (sX b1 ?_)));rw[e1];refine sT (sT (sT (sX b2 (sT ?_))));rw[e2];refine sT (sX b3 (sT ?_));rw[e3];refine sT (wN ?_);refine Ac fun K38 h38=>?_
     refine wR ?_;refine Af ?_;refine Au (fun x:Nat=>⟨(A5 (.lit (ptV m.g 0)::.any::.bs Q3 (p.funcs.map Oa)::.any::.lit (.int .i64 (i:Int))::.lit (.int .i64 (q.fr.f:Int))::A2 (.bs tW q.fr.regs::.bs tInt L::.lit (.int .i64 (x:Int))::A80 (A40 (A7 []))))),[.box (AU p),.res (modR p m)]⟩) (fun x=>x≤L.length) (fun x=>L.length - x) 0 (Nat.zero_le _) (Fb (hc:=.cons (.cons (.nil _)))) ?_;intro x hx;have hx:x≤L.length:=hx;refine Ac fun K41 h41=>?_
     refine wS (sT (sT (sT (sT (wN ?_)))));refine Ae rfl (fun hb43=>?_) (fun hb43=>?_)
     ·have hxl:x < L.length:=by
       have:=of_decide_eq_true hb43;omega
      obtain⟨u,hu⟩:∃u,L[x]? =some u:=⟨_,List.getElem?_eq_getElem hxl⟩
      have hum:=List.mem_of_getElem? hu;have hu0:=PL hP hF (KJ.1 (by rw[←hL];exact hum));have eu:ixD L (x:Int)=u:=PR hu;have hreg:=hF.regs;have bu:EJ q.fr.regs u=true:=B8.2 ⟨hu0.1,by omega⟩;refine Ag ?_;refine h41 _ ?_;refine nT ?_;refine Ac fun K44 h44=>?_
      refine Af ?_;refine wR ?_;refine Af ?_;refine Au (fun y:Nat=>⟨(A5 (.lit (ptV m.g 0)::.any::.bs Q3 (p.funcs.map Oa)::.any::.lit (.int .i64 (i:Int))::.lit (.int .i64 (q.fr.f:Int))::A2 (.bs tW q.fr.regs::.bs tInt L::.lit (.int .i64 (x:Int))::.lit (.int .i64 (y:Int))::A80 (A40 (A6 []))))),[.box (AU p),.res (modR p m)]⟩) (fun y=>y≤x) (fun y=>x - y) 0 (Nat.zero_le _) (Fb (hc:=.cons (.cons (.nil _)))) ?_;intro y hy;have hy:y≤x:=hy;refine Ac fun K47 h47=>?_
      refine wS (sT (sT (sT (wN ?_))));refine Ae rfl (fun hb49=>?_) (fun hb49=>?_)
      ·have hyx:y < x:=by
        have:=of_decide_eq_true hb49;omega
       obtain⟨v,hv⟩:∃v,L[y]? =some v:=⟨_,List.getElem?_eq_getElem (by omega)⟩
       have hvm:=List.mem_of_getElem? hv;have hv0:=PL hP hF (KJ.1 (by rw[←hL];exact hvm));have ev:ixD L (y:Int)=v:=PR hv;have bv:EJ q.fr.regs v=true:=B8.2 ⟨hv0.1,by omega⟩;have hne:u≠v:=Za hyx (by rw[←hL];exact hu) (by rw[←hL];exact hv);have bx:EJ L (x:Int)=true:=Ed hxl;have by_:EJ L (y:Int)=true:=Ed (by omega);have hhas:∀h:(ixD q.fr.regs u !=ixD q.fr.regs v)=true,Fn Tryz.prog 33 [.bs CF (LS (BS p q.fr.f)),.lit (.int .i64 u),.lit (.int .i64 v)] (.lit (.bool true)):=fun h=>by
        have hel:=XA c.all;refine RF (ZF (by omega) (V7 hGq (by rw[←hL];exact hum) (by rw[←hL];exact hvm) hne ?_));have h2:ixD q.fr.regs u≠ixD q.fr.regs v:=by simpa using h
        exact h2
       refine Ag ?_;refine h47 _ ?_;refine nT ?_;refine Ac fun K50 h50=>?_
       refine Af ?_;refine dS 32 (hq:=qT (qT (qT ?_)));refine qX bx (qT ?_);rw[eu];refine qX bu (qT (qT (qT (qT ?_))));refine qX by_ (qT ?_);rw[ev];refine qX bv (qT (qT (qT ?_)));refine qGt rfl (qGt rfl ?_);refine Aqi rfl (by rw[b1,Bool.or_true]) ?_;rw[e1];refine qGt rfl (qGt rfl (qGt rfl (qGt rfl ?_)));refine Aqi rfl (by rw[bx,Bool.or_true]) ?_;rw[eu];refine qGt rfl (qGt rfl (qGt rfl ?_));refine Aqi rfl (by rw[by_,Bool.or_true]) ?_;rw[ev];refine qGt rfl ?_;refine qG (g:=ixD q.fr.regs u !=ixD q.fr.regs v) (hg:=YC rfl) (hq:=fun hgd=>Av.call rfl (hhas hgd) (by simp only[*];rfl) rfl rfl) (ht:=PA.e) ?_;refine qGt rfl (qT (qN (wN ?_)));refine Ae rfl (fun hb52=>?_) (fun hb52=>?_)
       ·exfalso;simp at hb52
       ·refine Ag ?_;refine h50 _ ?_;refine nT ?_;refine wRE ?_;refine athen_n ⟨y+1,hyx,by show x - (y+1) < x - y;omega,?_⟩;try rw[Cq (by omega)]
        exact Fb (hc:=.cons (.cons (.nil _)))
      ·refine Aq ?_;refine h44 _ ?_;refine nT ?_;refine wRE ?_;refine athen_n ⟨x+1,hxl,by show L.length - (x+1) < L.length - x;omega,?_⟩;try rw[Cq (by omega)]
       exact Fb (hc:=.cons (.cons (.nil _)))
     ·refine Aq ?_;refine h38 _ ?_;refine nT ?_;refine wS (sT ?_);refine Ao rfl (Be (i:=1) rfl rfl (YP hPB hR (by omega) hH (by have:=hsz.thr;omega)) (fun _=>rfl) rfl rfl (fun _=>rfl) fun q2=>?_);refine sNt (hk:=sT (wN ?_));have hR2:=q2.run hPB hR;have hat2:=q2.at_ hR hat;have hG2:Aam p q2.1.1:=q2.keep hPB hR (fun k args hk=>SH hP hk) (fun r q h1 h2 h3=>Ac2 hP h1 h2 h3) hG;have hg2:=q2.2.1;refine Ae rfl (fun hb58=>?_) (fun hb58=>?_)
      ·refine wS (sC Ex (sT (wN ?_)));exact Aj ⟨.inr rfl,Fin.cl rfl⟩
      ·refine Ag ?_;refine h29 _ ?_;refine nT ?_;refine wRE ?_;refine athen_n ⟨(i+1,q2.1.1),⟨hilt,hR2,hat2,hG2⟩,by show 150 - (i+1) < 150 - i;omega,?_⟩;try rw[Cq (by omega)]
       show St.le _ _ ⟨(A5 (.lit (ptV q2.1.1.g 0)::.any::.bs Q3 (p.funcs.map Oa)::.any::.lit (.int .i64 ((i+1:Nat):Int))::A80 (A40 (A10 (A3 []))))),_⟩;rw[hg2];exact Fb (hc:=.cons (.cons (.nil _)))
   ·refine Aq ?_;refine h23 _ ?_;refine nT ?_;refine wS (sC Ex (sT (wN ?_)));exact Aj ⟨.inr rfl,Fin.cl rfl⟩
end Mu
end
