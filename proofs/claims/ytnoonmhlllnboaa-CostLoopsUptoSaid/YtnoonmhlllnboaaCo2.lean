/-
  Own texts laid together, part 2: MuNext, MuOk, MuBuild, MuDraw, MuRowFn, MuDrawT, MuDrawF, MuRes, MuRange, MuFnM, MuLitR, MuSlice, MuStep, MuFull, MuCond, MuStr, MuBytes, MuTab, MuOwnG, MuClo, MuLine, MuMark, MuZeros, MuFnC2, MuBoxRow, MuLift, MuTok, ShelfC, MuArr, MuEqS, MuLiftA, MuPair, MuYield, MuRangeY, MuDrawY, MuFnN, MuBackward, MuBackK, ShelfM, MuSets, MuBack, MuCopy, MuSetR, MuRes2, MuLiveP, MuMapsR, MuRowsAt, MuBefore, MuPlaces, MuRef17A, MuRef17G, MuAllP, MuLiveC, MuNext15, MuRef17B, MuRef17C, MuRef17D, MuRef17E, MuRef17F, MuLiveQ, MuLiveR, MuAll, MuLiveF, MuSteps, ShelfK, MuKeys, MuPairM, MuPairS, MuPairG, MuCross, ShelfB, MuLaw17A, MuHint, MuRef14A, MuRef14B, MuOwnC, MuRef14C, MuRef12, MuLaw17B, MuLaw17C, MuRef14D, MuRef14E, MuRef14P, MuChkP, MuRowP, MuLaw17P, MuChkQ, MuRef14F, MuRef14G, MuBound, MuBound2, MuRef18A, MuRef18B, MuRef21P.
  Conditions: as each part says.
-/
import Derived.Test.YtnoonmhlllnboaaCo1
import Derived.RangeFuncBox
import Derived.RangeFuncWrites
import Derived.RangeFuncCalls
import Derived.RangeFuncRecord
import Derived.RangeFuncLeaves
import Derived.Deep.Upon
import Derived.Laws.Strings3
import Derived.Laws.IdiomStrings
import Derived.Laws.StructEq
import Derived.Deep.Onto
import Derived.Lib.AppendZeros
import Derived.Ground.SlsfProg
import Derived.Shelf.SlSortCmp.Whole1
import Derived.Shelf.SlSortCmp.NoneTotal
import Derived.Test.YtnoonmhlllnboaaProg
import Derived.Shelf.SlIterI.Nil
import Derived.Shelf.SortM.Plain
import Derived.Shelf.SortM.SortNone
import Derived.Shelf.SlMaps.Clone
import Derived.Shelf.SlMaps.Copy
import Derived.Ground.GgzProg
import Derived.Ground.SlgmProg
import Derived.Ground.SlmcProg
import Derived.Ground.SlmpProg
import Derived.Maps.OwnSet
import Derived.WalkKit
import Derived.TacticsInMore
import Derived.Lib.SlMapMerge
import Derived.Carry
import Derived.Deep.OwnRows
import Derived.RangeFuncNested
import Derived.DeepKeys4
import Derived.Maps.Range
import Derived.Shelf.Small.Bits
import Derived.Shelf.Small.Wraps
import Derived.Shelf.Strconv.Itoa0
import Derived.Shelf.Strconv.Itoa1
import Derived.Shelf.LaysM
import Derived.Shelf.Strconv.Itoa2
import Derived.Shelf.Strconv.Itoa3
import Derived.Ground.Names2Prog
import Derived.Shelf.Slices.SearchI
import Derived.Shelf.Slices.Empties
set_option maxRecDepth 100000
set_option maxHeartbeats 8000000
set_option linter.unusedSimpArgs false
set_option linter.unusedVariables false
section
namespace Mu
open Go Go.RowKit Go.Proofs Go.Shelf
attribute [local go_sem] Oper.semAt_some
theorem RM(F:Fence)(n:Nat)(h60:F.fn 51)(hro:F.round=none)(cs:List Value)(bi:Int)(w:World)(hcs:cs.length=4):
 CallsIn F n Try.prog 51 #[.agg cs.toArray,.int .i64 bi] w fun e w'=>e= .returned (.func (.func 70) #[] #[.pointer (some ⟨w.heap.size+1,0,none⟩),.pointer (some ⟨w.heap.size,0,none⟩)])∧
  w'=(w.alloc (.cells cs.toArray 24)).alloc (.cells #[.int .i64 bi] 3):=by
 match cs,hcs with
 | [a,b,c,d],_=>
  refine callsIn_of_wp Try.func51 rfl h60 ?_ hro;simp only[Try.ntmps51,List.size_toArray,List.length_cons,List.length_nil,Nat.reduceAdd,Nat.reduceSub,Array.replicate_succ,Array.replicate_zero,List.push_toArray,List.append_toArray,List.nil_append,List.cons_append]
  gi_wp2
  go_ret
  exact⟨rfl,rfl⟩
theorem RN{W:World}{S:Nat→Prop}{cs:List Value}{f:Func}{bi:Int}(hR:Cl.RS W S cs f)(hS:∀k,S k→k < W.heap.size)(hl:f.blocks.length≤2097152)(hi:∀b∈f.blocks,b.ins.length≤2097152):
 GoesAt ((W.alloc (.cells cs.toArray 24)).alloc (.cells #[.int .i64 bi] 3)) (fun k=>S k∨k=W.heap.size∨k=W.heap.size+1) f bi W.heap.size (W.heap.size+1):=by
 obtain⟨A,c,rfl,_,_,_,hB⟩:=Ib.1 hR;refine⟨.inr (.inl rfl),⟨A,c,?_,?_⟩,.inr (.inr rfl),?_,hl,hi⟩
 ·exact CN (Dj (heap_alloc_new W _) _) rfl
 ·refine Bc.slice.keepS hB (fun k hk=>?_) (fun k hk=>.inl hk);have hk':=hS k hk;rw[Below.heap_alloc _ _ _ (by simp;omega),Below.heap_alloc _ _ _ hk']
 ·have h:=heap_alloc_new (W.alloc (.cells [.string f.name,.int .i64 f.args,.int .i64 f.regs,.slice A f.blocks.length c].toArray 24)) (.cells #[.int .i64 bi] 3);rw[show(W.alloc (.cells [.string f.name,.int .i64 f.args,.int .i64 f.regs,.slice A f.blocks.length c].toArray 24)).heap.size=W.heap.size+1 from by simp]at h;exact CN (cs:=[_]) h rfl
theorem GoesAt.keep{W W':World}{S:Nat→Prop}{f:Func}{bi:Int}{Bf Bb:Nat}(h:GoesAt W S f bi Bf Bb)(hk:∀k,S k→W'.heap[k]? =W.heap[k]?):GoesAt W' S f bi Bf Bb:=by
 obtain⟨h1,⟨A,c,h2,h3⟩,h4,h5,h6,h7⟩:=h;exact⟨h1,⟨A,c,(World.cell?_of_block (w:=W) (a:=⟨Bf,3,none⟩) (hk _ h1)).trans h2,Bc.slice.keepS h3 hk (fun _ h=>h)⟩,h4,(World.cell?_of_block (w:=W) (a:=⟨Bb,0,none⟩) (hk _ h4)).trans h5,h6,h7⟩
theorem KW(F:Fence)(n:Nat)(h89:F.fn 70)(hro:F.round=none)(hn:1≤n)(f:Func)(bi:Int)(Bf Bb:Nat)(S:Nat→Prop)(w:World)(hS:∀k,S k→k < w.heap.size)(hG:GoesAt w S f bi Bf Bb):
 SeqStopsK F n Try.prog 70 #[.pointer (some ⟨Bb,0,none⟩),.pointer (some ⟨Bf,0,none⟩)] (fun x:W6 f=>#[Value.int .i64 ((x.1:Nat):Int)]) (KS S) (fun ys=>ys=CP f bi) (fun pre=>pre <+:CP f bi) 2 w:=fun l J Jx W hW hJ _ hY h0=>
 Ti F n h89 hro hn l f bi Bf Bb S J Jx W hJ (fun k hk=>Nat.lt_of_lt_of_le (hS k hk) hW.size) hY (hG.keep (fun k hk=>hW.block k (hS k hk))) h0
theorem Vj{S:Nat→Prop}{A B C:World}(h:KS S A B)(k:KS S B C):KS S A C:=h.trans k
theorem Vk{S:Nat→Prop}{w:World}(hS:∀k,S k→k < w.heap.size)(W:World)(l:Nat)(o o':Obj)(hl:w.heap.size≤l)(h:W.heap[l]? =some o)(_:o.isCells=false)(_:o.isWalk=false):KS S W (W.putObj l o'):=by
 have hg:=grownBy_putObj' W l o';refine⟨hg.size,fun k hk=>hg.block k ?_ ?_⟩
 ·have:=hS k hk;have:=(Array.getElem?_eq_some_iff.1 h).1;omega
 ·intro e;injection e with e;have:=hS k hk;omega
theorem UO{W w1:World}{n₀ B:Nat}{t e:TypeId}{size:Nat}{v v':Value}{k m:Nat}{xs ys:List Value}{tmp:Obj}(hv:Boxed W B t v)(hBn:B < n₀)(hrow:W.ownsRow n₀ e size v k xs)(hn₀:n₀≤W.heap.size)
 (hown':w1.ownsRow n₀ e size v' m ys) (hgrow:(W.alloc tmp).grownBy w1 v.ownBlock):
 Boxed w1 B t v∧Boxed (w1.setCell ⟨B,0,none⟩ v') B t v'∧(w1.setCell ⟨B,0,none⟩ v').ownsRow n₀ e size v' m ys∧KeepsOthers W (w1.setCell ⟨B,0,none⟩ v')∧Below B W (w1.setCell ⟨B,0,none⟩ v')∧
  ∀q,q < n₀→q≠B→(w1.setCell ⟨B,0,none⟩ v').heap[q]? =W.heap[q]?:=by
 have hne:∀q,q < n₀→some q≠v.ownBlock:=fun q hq e=>by have:=(World.ownsRow.lt hrow q e.symm).1;omega
 have hs:=hgrow.size;have hs2:(W.alloc tmp).heap.size=W.heap.size+1:=by simp
 have hold:∀q,q < n₀→w1.heap[q]? =W.heap[q]?:=fun q hq=>(hgrow.block q (by omega) (hne q hq)).trans (Below.heap_alloc _ _ _ (by omega))
 have hv1:Boxed w1 B t v:=(hold B hBn).trans hv;refine⟨hv1,hv1.set v',Ex hown' (fun q hq=>Below.heap_setCell _ _ _ _ (by have:=(World.ownsRow.lt hown' q hq).1;show q≠B;omega)),?_,?_,fun q hq hqB=>(Below.heap_setCell _ _ _ _ (by show q≠B;exact hqB)).trans (hold q hq)⟩
 ·refine((KeepsOthers.alloc W tmp).trans (KeepsOthers.of_grownBy hgrow fun j o ej hj=>?_)).trans (KeepsOthers.setCell _ _ _);rcases(hrow.alloc tmp).2 with⟨rfl,_⟩|⟨g,cap,cur,rfl,_,hgb,_⟩
  ·simp[Value.ownBlock]at ej
  ·obtain rfl:g=j:=by simpa[Value.ownBlock]using ej
   rw[hgb]at hj;cases hj;rfl
 ·exact(((Below.refl B W).alloc (by omega) tmp).grown hgrow (by omega) fun j ej=>by have:=(World.ownsRow.lt hrow j ej).1;omega).setCell (p:=⟨B,0,none⟩) (Nat.le_refl _) v'
def Kr{f:Func}(x:W6 f):Int:=((x.1:Nat):Int)
def nextL(f:Func)(b:Int):List Int:=(CP f b).map Kr
theorem Uq(F:Fence)(n:Nat)(h35:F.fn 22)(h60:F.fn 51)(h89:F.fn 70)(hro:F.round=none)(hn:3≤n)(f:Func)(bi:Int)(cs:List Value)(w:World)(hR:Cl.R w w.heap.size cs f)
 (hl:f.blocks.length≤2097152) (hi:∀b∈f.blocks,b.ins.length≤2097152):
 CallsIn F n Try.prog 22 #[.agg cs.toArray,.int .i64 bi] w fun e W'=>∃v,e= .returned v∧EP W' w.heap.size v (nextL f bi)∧Below w.heap.size w W':=by
 have h1:1≤n:=by omega
 obtain⟨i0,hiI,hz0,hz1,hz2⟩:=info_parts Dd;obtain⟨A,c,rfl,_,_,_,_⟩:=Ib.1 hR;obtain⟨W,hW⟩:∃W:World,W=(w.alloc (.cells [.string f.name,.int .i64 f.args,.int .i64 f.regs,.slice A f.blocks.length c].toArray 24)).alloc (.cells #[.slice none 0 0] 27):=⟨_,rfl⟩
 have hWs:W.heap.size=w.heap.size+1+1:=by rw[hW];simp
 have hWb:Hid (Below w.heap.size w W):=by rw[hW];exact((Below.refl _ _).alloc (Nat.le_refl _) _).alloc (by simp) _
 have hWO:Hid (Boxed W (w.heap.size+1) 27 (.slice none 0 0)):=by
  rw[hW];have h:=Boxed.new (w.alloc (.cells [.string f.name,.int .i64 f.args,.int .i64 f.regs,.slice A f.blocks.length c].toArray 24)) 27 (.slice none 0 0);rwa [show(w.alloc (.cells [.string f.name,.int .i64 f.args,.int .i64 f.regs,.slice A f.blocks.length c].toArray 24)).heap.size=w.heap.size+1 from by simp]at h
 have hRW:Hid (Cl.RS W (fun k=>k < w.heap.size) [.string f.name,.int .i64 f.args,.int .i64 f.regs,.slice A f.blocks.length c] f):=Cl.keepS hR hWb.out.block (fun _ h=>h);have hG:=Lib.hid (RN (bi:=bi) hRW.out (fun k hk=>by omega) hl hi);have cG:∀W',CallsIn F (n - 1) Try.prog 51 #[.agg #[.string f.name,.int .i64 f.args,.int .i64 f.regs,.slice A f.blocks.length c],.int .i64 bi] W' fun e w''=>e= .returned (.func (.func 70) #[] #[.pointer (some ⟨W'.heap.size+1,0,none⟩),.pointer (some ⟨W'.heap.size,0,none⟩)])∧
  w''=(W'.alloc (.cells #[.string f.name,.int .i64 f.args,.int .i64 f.regs,.slice A f.blocks.length c] 24)).alloc (.cells #[.int .i64 bi] 3):=fun W'=>RM F (n - 1) h60 hro [.string f.name,.int .i64 f.args,.int .i64 f.regs,.slice A f.blocks.length c] bi W' rfl
 clear hR hi;refine callsIn_of_wp_marks Try.func22 rfl h35 ?_ hro;simp only[Try.ntmps22,List.size_toArray,List.length_cons,List.length_nil,Nat.reduceAdd,Nat.reduceSub,Array.replicate_succ,Array.replicate_zero,List.push_toArray,List.append_toArray,List.nil_append,List.cons_append]
 gi_wp2_with (gi_at_call 51;refine(cG _).mono ?_;rintro e w' ⟨rfl,rfl⟩)
 have hWW:(w.alloc (.cells #[.string f.name,.int .i64 f.args,.int .i64 f.regs,.slice A f.blocks.length c] 24)).alloc (.cells #[.slice none 0 0] 27)=W:=hW.symm;rw[hWW];have hG2:=hG.out;rw[hWs]at hG2;have hWO2:Hid (Boxed ((W.alloc (.cells #[.string f.name,.int .i64 f.args,.int .i64 f.regs,.slice A f.blocks.length c] 24)).alloc (.cells #[.int .i64 bi] 3)) (w.heap.size+1) 27 (.slice none 0 0)):=(hWO.out.alloc _).alloc _;have hBl:Hid (Below w.heap.size w ((W.alloc (.cells #[.string f.name,.int .i64 f.args,.int .i64 f.regs,.slice A f.blocks.length c] 24)).alloc (.cells #[.int .i64 bi] 3))):=(hWb.out.alloc (by omega) _).alloc (by simp;omega) _;have hLs:((W.alloc (.cells #[.string f.name,.int .i64 f.args,.int .i64 f.regs,.slice A f.blocks.length c] 24)).alloc (.cells #[.int .i64 bi] 3)).heap.size=w.heap.size+1+1+1+1:=by simp[hWs]
 obtain⟨Wl,hWl⟩:∃Wl:World,Wl=((W.alloc (.cells #[.string f.name,.int .i64 f.args,.int .i64 f.regs,.slice A f.blocks.length c] 24)).alloc (.cells #[.int .i64 bi] 3)):=⟨_,rfl⟩
 have hWl2:(W.alloc (.cells [.string f.name,.int .i64 f.args,.int .i64 f.regs,.slice A f.blocks.length c].toArray 24)).alloc (.cells #[.int .i64 bi] 3)=Wl:=hWl.symm;rw[←hWl]at hWO2 hBl hLs⊢;rw[hWl2]at hG2;have hS:∀k,(k < w.heap.size∨k=w.heap.size+1+1∨k=w.heap.size+1+1+1)→k < Wl.heap.size:=fun k hk=>by rw[hLs];omega
 refine wpIn_rangeFunc_ownG hro h1 (gf:=70) (lb:=#[.pointer (some ⟨w.heap.size+1+1+1,0,none⟩),.pointer (some ⟨w.heap.size+1+1,0,none⟩)]) rfl h89 (enters_of Try.func70 (by kernel_rfl) rfl)
  (KW F (n - 1) h89 hro (by omega) f bi (w.heap.size+1+1) (w.heap.size+1+1+1) (fun k=>k < w.heap.size∨k=w.heap.size+1+1∨k=w.heap.size+1+1+1) _ hS hG2) Vj (Vk hS) (Below.refl _ _) (fun _=>rfl)
  (fun(pre:List (W6 f)) W'=>(∃v,Boxed W' (w.heap.size+1) 27 v∧W'.ownsRow (w.heap.size+1+1+1+1) 3 1 v pre.length (pre.map fun x=>Value.int .i64 (Kr x))∧True)∧Below w.heap.size Wl W')
  (fun _ _ _=>False)
  (OwnFrom.and (Own.from (holdsRow_own (β:=List (W6 f)) (w.heap.size+1+1+1+1) (w.heap.size+1) 27 3 1 (fun pre=>pre.length) (fun pre=>pre.map fun x=>Value.int .i64 (Kr x)) (fun _ _=>True)) _) (ownFrom_below (by rw[hLs];omega) (by rw[hLs];omega)))
  (fun _ _ _ _ _ hs _ _=>hs)
  ⟨⟨_,hWO2.out,World.ownsRow_nil _ _ _ _,trivial⟩,Below.refl _ _⟩
  (fun x=>{tmps:=#[.agg #[.string f.name,.int .i64 f.args,.int .i64 f.regs,.slice A f.blocks.length c],.int .i64 bi,.pointer (some ⟨w.heap.size,0,none⟩),undef,.slice none 0 0,.pointer (some ⟨w.heap.size+1,0,none⟩),.int .i64 (Kr x),.agg #[.string f.name,.int .i64 f.args,.int .i64 f.regs,.slice A f.blocks.length c],.int .i64 bi,.func (.func 70) #[] #[.pointer (some ⟨w.heap.size+1+1+1,0,none⟩),.pointer (some ⟨w.heap.size+1+1,0,none⟩)],.int .i64 (Kr x),undef,undef,undef,undef,undef],defers:=[]}) ?assign ?body ?done ?stop
 case assign=>
  intro l x W K hK
  gi_wp2
  exact hK
 case body=>
  rintro l pre x W' ⟨⟨v,hv,hrow,_⟩,hB⟩ hlt;have hc:=hv.cell;have hws:w.heap.size+1+1+1+1≤W'.heap.size:=by have:=hB.size;omega
  gi_wp2_with (gi_at_builtin;refine wpListIn_append_own _ rfl _ _ 27 rfl (w.heap.size+1+1+1+1) 3 i0 (.int .i64 0) 1 8 Try.underlying27 hiI hz0 hz1 hz2 rfl (by decide) _ _ _ rfl (hrow.alloc _) ⟨W'.heap.size,0,none⟩ 1 1 [.int .i64 (Kr x)] rfl rfl (cell_one_new _ _ _) (by simp[Value.oneCell']) (by unfold maxLen;omega) (by omega) (by simp;omega) ?_;intro v' w1 hown' hgrow _;obtain⟨g',cap',rfl⟩:=ownsRow_succ hown';obtain⟨hv1,hv2,hr2,hk2,hb2,hks⟩:=UO hv (by omega) hrow hws hown' hgrow;have hc1:=hv1.cell;have hf1:=hv1.frozen)
  exact⟨hk2.from _,⟨hk2.size,fun k hk=>hks k (by omega) (by omega)⟩,⟨_,hv2,by simpa using hr2,trivial⟩,hB.trans (hb2.mono (by omega))⟩
 case done=>
  rintro D ys W' hD rfl ⟨⟨v,hv,hrow,_⟩,hB⟩ hK;have hc:=hv.cell;rw[hLs]at hD
  gi_wp2
  refine⟨by simp,.inl ⟨_,_,rfl,run_takeDeferred hK,?_⟩⟩;refine⟨_,results_tmp rfl _ _ _,v,rfl,?_,hBl.out.trans (hB.trans (belowK_b (w:=w) (Nat.le_refl _) W' D _ _ (by omega) hK rfl rfl))⟩;have h2:EP (W'.putObj D (.deferred none)) (w.heap.size+1+1+1+1) v (nextL f bi):=.of (ownsRow_putObj hrow _ hK rfl) (by simp[nextL]) (by simp[nextL]);exact h2.base (by omega)
 case stop=>
  rintro D c pre W _ _ h _;exact h.elim
theorem S4(f:Func)(bi:Int)(cs:List Value)(w:World)(hR:Cl.R w w.heap.size cs f)(hl:f.blocks.length≤2097152)(hi:∀b∈f.blocks,b.ins.length≤2097152):
 Calls Try.prog 22 #[.agg cs.toArray,.int .i64 bi] w fun e W'=>∃v,e= .returned v∧EP W' w.heap.size v (nextL f bi)∧Below w.heap.size w W':=
 (callsIn_wide (n:=6)).1 (Uq Fence.wide 6 trivial trivial trivial rfl (by omega) f bi cs w hR hl hi)
end Mu
end
section
namespace Mu
open Go Go.RowKit Go.Proofs
def By(l:List Int):Prop:=∀x∈l,Wc .i64 x
structure okIns(x:Ins):Prop where
 op:Wc .u8 x.op
 d:Wc .i64 x.d
 a:Wc .i64 x.a
 b:Wc .i64 x.b
 n:Wc .u32 x.n
 f:Wc .i64 x.f
 l1:Wc .i64 x.l1
 l2:Wc .i64 x.l2
 args:By x.args
structure okBlock(b:Block):Prop where
 name:b.name.size≤maxLen
 ins:∀x∈b.ins,okIns x
structure okFunc(f:Func):Prop where
 name:f.name.size≤maxLen
 args:Wc .i64 f.args
 regs:Wc .i64 f.regs
 blocks:∀b∈f.blocks,okBlock b
section
variable{w:World}{S:Nat→Prop}{cs:List Value}
theorem LK{α:Type}{T:Ty α}{p:α→Prop}{l:List α}(hp:∀cs d,T.RS w S cs d→p d)(h:T.slice.RS w S cs l):∀x∈l,p x:=by
 obtain⟨A,c,rfl,_,_,hi⟩:=h;intro x hx;obtain⟨j,hj⟩:=List.mem_iff_getElem?.1 hx;obtain⟨b,o,_,_,cs',h1,_⟩:=hi j x hj;exact hp cs' x h1
theorem Ul{l:List Int}(h:tInt.slice.RS w S cs l):By l:=LK (T:=tInt) (p:=Wc .i64) (fun _ _ h=>(FF.1 h).2) h
theorem Vg{x:Ins}(h:EO.RS w S cs x):okIns x:=by
 obtain⟨A,c,hI⟩:=IE.1 h;exact⟨hI.op,hI.d,hI.a,hI.b,hI.n,hI.f,hI.l1,hI.l2,Ul hI.args⟩
theorem SY{x:Block}(h:Bc.RS w S cs x):okBlock x:=by
 obtain⟨A,c,_,h1,h2⟩:=I5.1 h;exact⟨h1,LK (fun _ _ h=>Vg h) h2⟩
theorem N8{x:Func}(h:Cl.RS w S cs x):okFunc x:=by
 obtain⟨A,c,_,h1,h2,h3,h4⟩:=Ib.1 h;exact⟨h1,h2,h3,LK (fun _ _ h=>SY h) h4⟩
variable{h:List ABlk}{ψ:Nat→Value}
theorem JN{x:Ins}(ho:okIns x)(H:Ah w S h ψ (B8 x) cs):EO.RS w S cs x:=by
 simp only[B8,Ah,AV.rel]at H;obtain⟨_,_,rfl,rfl,_,_,rfl,rfl,_,_,rfl,rfl,_,_,rfl,rfl,_,_,rfl,rfl,_,_,rfl,rfl,_,_,rfl,ha,_,_,rfl,rfl,_,_,rfl,rfl,rfl⟩:=H;obtain⟨A,c,rfl⟩:=BG ha;exact IE.2 ⟨A,c,rfl,ho.op,ho.d,ho.a,ho.b,ho.n,ho.f,ho.l1,ho.l2,ha⟩
theorem MI{x:Block}(ho:x.name.size≤maxLen)(H:Ah w S h ψ (D6 x) cs):Bc.RS w S cs x:=by
 simp only[D6,Ah,AV.rel]at H;obtain⟨_,_,rfl,rfl,_,_,rfl,ha,rfl⟩:=H;obtain⟨A,c,rfl⟩:=BG ha;exact I5.2 ⟨A,c,rfl,ho,ha⟩
theorem OY{x:Func}(ho:okFunc x)(H:Ah w S h ψ (Ap x) cs):Cl.RS w S cs x:=by
 simp only[Ap,Ah,AV.rel]at H;obtain⟨_,_,rfl,rfl,_,_,rfl,rfl,_,_,rfl,rfl,_,_,rfl,ha,rfl⟩:=H;obtain⟨A,c,rfl⟩:=BG ha;exact Ib.2 ⟨A,c,rfl,ho.name,ho.args,ho.regs,ha⟩
end
section
variable{P:Program}
theorem Sr{f:FuncId}{args:List AV}{v:Value}(hE:Dl P f=true)(h:∀(w:World) (vs:List Value),Ah w (fun k=>k < w.heap.size) [] ψ0 args vs→Calls P f vs.toArray w fun e w'=>e= .returned v∧Below w.heap.size w w'):Fn P f args (.lit v):=
 ⟨hE,fun w S vs hS hr=>(h w vs (AC (Ext.grow [] ψ0 (fun _ _=>rfl) hS) _ _ hr)).mono fun e w' ⟨he,hb⟩=>⟨v,he,hb,S,fun _ h=>h,fun _ h=>.inl h,fun k hk=>Nat.lt_of_lt_of_le (hS k hk) hb.size,by unfold AV.rel;rfl⟩⟩
theorem Lj{f:FuncId}{args:List AV}{v u:Value}(hE:Dl P f=true)(h:∀(w:World) (vs:List Value),Ah w (fun k=>k < w.heap.size) [] ψ0 args vs→Calls P f vs.toArray w fun e w'=>e= .returned (.tuple #[v,u])∧Below w.heap.size w w'):Fn P f args (.tup [.lit v,.lit u]):=
 ⟨hE,fun w S vs hS hr=>(h w vs (AC (Ext.grow [] ψ0 (fun _ _=>rfl) hS) _ _ hr)).mono fun e w' ⟨he,hb⟩=>⟨_,he,hb,S,fun _ h=>h,fun _ h=>.inl h,fun k hk=>Nat.lt_of_lt_of_le (hS k hk) hb.size,by
  unfold AV.rel;exact⟨[v,u],rfl,by simp[Ah,AV.rel]⟩⟩⟩
theorem Lk{f:FuncId}{args:List AV}{l:List Int}(hE:Dl P f=true)(hl:By l)(h:∀(w:World) (vs:List Value),Ah w (fun k=>k < w.heap.size) [] ψ0 args vs→Calls P f vs.toArray w fun e w'=>∃v,e= .returned v∧EP w' w.heap.size v l∧Below w.heap.size w w'):Fn P f args (.bs tInt l):=
 ⟨hE,fun w S vs hS hr=>(h w vs (AC (Ext.grow [] ψ0 (fun _ _=>rfl) hS) _ _ hr)).mono fun e w' ⟨v,he,ho,hb⟩=>by
  refine⟨v,he,hb,fun k=>S k∨v.ownBlock=some k,fun _ h=>.inl h,fun k hk=>hk.imp id fun e=>(ho.lt k e).1,fun k hk=>?_,?_⟩
  ·rcases hk with hk|hk
   ·exact Nat.lt_of_lt_of_le (hS k hk) hb.size
   ·exact(ho.lt k hk).2
  ·unfold AV.rel;exact tInt.slice.keepS (MN ho hl) (fun _ _=>rfl) fun k hk=>.inr hk⟩
theorem OC{f:FuncId}{args:List AV}{α:Type}{T:Ty α}{l:List α}(hE:Dl P f=true)(h:∀(w:World) (vs:List Value),Ah w (fun k=>k < w.heap.size) [] ψ0 args vs→Calls P f vs.toArray w fun e w'=>∃v,e= .returned v∧T.slice.RS w' (fun k=>w.heap.size≤k∧k < w'.heap.size) [v] l∧Below w.heap.size w w'):Fn P f args (.bs T l):=
 ⟨hE,fun w S vs hS hr=>(h w vs (AC (Ext.grow [] ψ0 (fun _ _=>rfl) hS) _ _ hr)).mono fun e w' ⟨v,he,ho,hb⟩=>by
  refine⟨v,he,hb,fun k=>S k∨(w.heap.size≤k∧k < w'.heap.size),fun _ h=>.inl h,fun k hk=>hk.imp id fun e=>e.1,fun k hk=>?_,?_⟩
  ·rcases hk with hk|hk
   ·exact Nat.lt_of_lt_of_le (hS k hk) hb.size
   ·exact hk.2
  ·unfold AV.rel;exact T.slice.keepS ho (fun _ _=>rfl) fun k hk=>.inr hk⟩
theorem US{w:World}{S:Nat→Prop}{h:List ABlk}{ψ:Nat→Value}{x:AV}{vs:List Value}(H:Ah w S h ψ [x] vs):∃v,vs= [v]∧AV.rel w S h ψ x v:=by
 simp only[Ah]at H;obtain⟨v,_,rfl,h1,rfl⟩:=H;exact⟨v,rfl,h1⟩
theorem V2{w:World}{S:Nat→Prop}{h:List ABlk}{ψ:Nat→Value}{x y:AV}{vs:List Value}(H:Ah w S h ψ [x,y] vs):∃v u,vs= [v,u]∧AV.rel w S h ψ x v∧AV.rel w S h ψ y u:=by
 simp only[Ah]at H;obtain⟨v,_,rfl,h1,u,_,rfl,h2,rfl⟩:=H;exact⟨v,u,rfl,h1,h2⟩
theorem JF{w:World}{S:Nat→Prop}{h:List ABlk}{ψ:Nat→Value}{l:List AV}{v:Value}(H:AV.rel w S h ψ (.agg l) v):∃cs,v= .agg cs.toArray∧Ah w S h ψ l cs:=by unfold AV.rel at H;exact H
theorem Ud{w:World}{S:Nat→Prop}{h:List ABlk}{ψ:Nat→Value}{u v:Value}(H:AV.rel w S h ψ (.lit u) v):v=u:=by unfold AV.rel at H;exact H
theorem TP{w:World}{S:Nat→Prop}{h:List ABlk}{ψ:Nat→Value}{α:Type}{T:Ty α}{l:List α}{v:Value}(H:AV.rel w S h ψ (.bs T l) v):T.slice.RS w S [v] l:=by unfold AV.rel at H;exact H
end
theorem JH{x:Ins}(h:okIns x):By (readsC x):=by
 intro r hr;unfold readsC at hr;simp only[List.mem_append]at hr;rcases hr with(hr|hr)|hr <;> split at hr <;> first|(simp at hr;done)|(simp at hr;subst hr;first|exact h.a|exact h.b)|exact h.args r hr
theorem FJ(x:Ins)(ho:okIns x)(hl:x.args.length≤2097152):Fn Try.prog 52 [.agg (B8 x)] (.bs tInt (readsC x)):=
 Lk (by kernel_rfl) (JH ho) fun w vs hr=>by
  obtain⟨v,rfl,hv⟩:=US hr;obtain⟨cs,rfl,hc⟩:=JF hv;exact Ra x w cs (JN ho hc) hl
theorem Fi(x:Ins)(ho:okIns x):Fn Try.prog 53 [.agg (B8 x)] (.tup [.lit (.int .i64 (if Bo x then x.d else 0)),.lit (.bool (Bo x))]):=
 Lj (by kernel_rfl) fun w vs hr=>by
  obtain⟨v,rfl,hv⟩:=US hr;obtain⟨cs,rfl,hc⟩:=JF hv;refine(PE x w cs (JN ho hc)).mono fun e w' ⟨he,hb⟩=>⟨?_,hb⟩
  rw[he];unfold FD;cases Bo x <;> rfl
theorem T7(xs ys:List Int)(hx:xs.length≤2097152):Fn Try.prog 9 [.bs tInt xs,.bs tInt ys] (.lit (.bool (decide (xs=ys)))):=
 Sr (by kernel_rfl) fun w vs hr=>by
  obtain⟨v,u,rfl,hv,hu⟩:=V2 hr;exact(SS xs ys v u w (TP hv) (TP hu) hx).mono fun e w' ⟨he,hb⟩=>⟨he,hb⟩
theorem S5{f:Func}(hf:f.blocks.length≤2097152)(b:Int):By (nextL f b):=by
 intro x hx;unfold nextL at hx;obtain⟨y,_,rfl⟩:=List.mem_map.1 hx;have:=y.2;simp[Wc,Lit.wf,IntKind.min,IntKind.max,IntKind.signed,IntKind.bits,Kr];omega
theorem M5(f:Func)(b:Int)(ho:okFunc f)(hl:f.blocks.length≤2097152)(hi:∀b∈f.blocks,b.ins.length≤2097152):Fn Try.prog 22 [.agg (Ap f),.lit (.int .i64 b)] (.bs tInt (nextL f b)):=
 Lk (by kernel_rfl) (S5 hl b) fun w vs hr=>by
  obtain⟨v,u,rfl,hv,hu⟩:=V2 hr;obtain rfl:=Ud hu;obtain⟨cs,rfl,hc⟩:=JF hv;exact S4 f b cs w (OY ho hc) hl hi
section
variable{P:Program}
def Jb(P:Program):List Field→Option (List (Nat×Nat))
 | []=>some []
 |f::fs=>
  match P.info? f.type with
  |some i=>(Jb P fs).map fun l=>(f.offset,i.size)::l
  |none=>none
def GQ(P:Program)(t:TypeId):Option (List (Nat×Nat)):=
 match P.underlying t with
 |some (.struct fs)=>Jb P fs.toList
 |_=>none
theorem KQ(w:World):∀(fs:List Field) (l:List (Nat×Nat)),Jb P fs=some l→(fs.mapM (m:=Sem) fun f=>do pure (f.offset,←Go.sizeOf f.type)).run P w= .ok l w
 | [],l,h=>by cases h;rfl
 |f::fs,l,h=>by
  unfold Jb at h;split at h <;> try(cases h;done)
  rename_i i hi;obtain⟨l',h1,rfl⟩:=Option.map_eq_some_iff.1 h;have ih:=KQ w fs l' h1;have h0:(do pure (f.offset,←Go.sizeOf f.type):Sem (Nat×Nat)).run P w= .ok (f.offset,i.size) w:=by simp[Go.sizeOf,typeInfo,hi]
  rw[List.mapM_cons,Sem.run_bind,h0];simp only[Result.andThen_ok,Sem.run_bind,ih,Sem.run_pure]
def putCells(pl:List (Nat×Nat)):List AV→List (Nat×AV)→Option (List AV)
 |cs,[]=>some cs
 |cs,(j,x)::ps=>
  match pl[j]? with
  |some (off,1)=>if off < cs.length then putCells pl (cs.set off x) ps else none
  |_=>none
theorem O9{w:World}{S:Nat→Prop}{h:List ABlk}{ψ:Nat→Value}{pl:List (Nat×Nat)}:∀(ps:List (Nat×AV)) (cs rs:List AV) (vs:List (Nat×Value)) (us:List Value),putCells pl cs ps=some rs→Ah w S h ψ cs us→
 vs.map (·.1)=ps.map (·.1)→(∀(j:Nat) (p:Nat×AV) (v:Nat×Value),ps[j]? =some p→vs[j]? =some v→AV.rel w S h ψ p.2 v.2∧v.2.oneCell'=true)→
 ∃us',Instr.fill (fun i=>pl[i]?) us.toArray vs=some us'.toArray∧Ah w S h ψ rs us'
 | [],cs,rs,vs,us,hp,hr,hv,_=>by
  cases hp;have:vs= []:=by simpa using hv
  subst this;exact⟨us,rfl,hr⟩
 |(j,x)::ps,cs,rs,vs,us,hp,hr,hv,hrel=>by
  cases vs with
  |nil=>simp at hv
  |cons v vs=>
   simp only[List.map_cons,List.cons.injEq]at hv;obtain⟨hv1,hv2⟩:=hv;unfold putCells at hp;split at hp <;> try(cases hp;done)
   rename_i off hpl;split at hp <;> try(cases hp;done)
   rename_i hoff;obtain⟨h1,h2⟩:=hrel 0 _ _ rfl rfl;have hul:=Bh hr;obtain⟨us',h3,h4⟩:=O9 ps (cs.set off x) rs vs (us.set off v.2) hp (Hk hr off h1) hv2 fun j p v hp hv=>hrel (j+1) p v (by simpa using hp) (by simpa using hv)
   refine⟨us',?_,h4⟩;obtain⟨i,v⟩:=v;dsimp only at hv1 h1 h2 h3;subst hv1;unfold Instr.fill;simp only[hpl,HN h2];have hc:¬((decide ((#[v]:Array Value).size≠1)||decide (off+(#[v]:Array Value).size > us.toArray.size))=true):=by
    simp;omega
   rw[if_neg hc];simpa using h3
theorem Az.build{C:Ctx}{t:List AV}{h:List ABlk}{o:Oper}{ty:TypeId}{parts:Array (Nat×Operand)}{zs:List Value}{pl:List (Nat×Nat)}{rs:List AV}(ho:o.op= .build ty parts)(hz:CS P ty=some zs)(hpl:GQ P ty=some pl)
 (hr:putCells pl (zs.map .lit) (parts.toList.map fun p=>(p.1,WO t p.2))=some rs) (h1:∀p∈parts.toList,WY h (WO t p.2)):Az P C t h o (.agg rs):=
 AL fun S ψ w ρ H hρ=>by
  unfold CS at hz;obtain⟨z,hz1,rfl⟩:=Option.map_eq_some_iff.1 hz;obtain⟨i,hi,hz2⟩:=Option.bind_eq_some_iff.1 hz1;unfold GQ at hpl;split at hpl <;> try(cases hpl;done)
  rename_i fs hu;have hrp:=KQ (P:=P) w fs.toList pl hpl;have hmem:∀p∈parts.toList,AV.rel w S h ψ (WO t p.2) (ρ p.2):=fun p hp=>hρ p.2 (by rw[ho];exact List.mem_toArray.2 (List.mem_map.2 ⟨p,hp,rfl⟩))
  obtain⟨us',h3,h4⟩:=O9 (w:=w) (S:=S) (h:=h) (ψ:=ψ) _ _ rs (parts.toList.map fun p=>(p.1,ρ p.2)) z.cells.toList hr (JG _) (by simp) fun j p v hp hv=>by
   rw[List.getElem?_map]at hp hv;obtain⟨q,hq,rfl⟩:=Option.map_eq_some_iff.1 hp;rw[hq]at hv;cases hv;have hqm:=List.mem_of_getElem? hq;exact⟨hmem q hqm,h1 q hqm C S ψ w _ H (hmem q hqm)⟩
  refine⟨.agg us'.toArray,?_,by unfold AV.rel;exact⟨us',rfl,h4⟩⟩;have hpa:(fs.mapM (m:=Sem) fun f=>do pure (f.offset,←Go.sizeOf f.type)).run P w= .ok pl.toArray w:=by
   rw[←Array.toArray_toList (xs:=fs),List.mapM_toArray,Sem.run_map,hrp];rfl
  have hf:Instr.fill (fun i=>pl.toArray[i]?) z.cells (parts.map fun p=>(p.1,ρ p.2)).toList=some us'.toArray:=by simpa using h3
  simp only[execOp,ho,Instr.build,zeroValue,typeInfo,underlying,Sem.run_bind,run_program,Result.andThen_ok,hi,hz2,Sem.run_pure,hu,hpa,hf]
def VV(t:Tmp)(r:AV):Exit→St→Prop:=fun e s=>(e= .normal∨e= .ret)∧∃i cells,WO s.t (.tmp t)= .ptr i 0∧s.h[i]? =some (.box cells)∧W0 s.h (.agg cells) r
theorem Qn{f:FuncId}{fn:Go.Func}{c:Code}{args:List AV}{r:AV}{t:Tmp}{ty:TypeId}{n m:Nat}(hf:P.funcs[f]? =some fn)(hb:fn.body=some c)(hE:Dl P f=true)(hres:fn.results= #[.cell t ty])(ha:TB P ty=some (true,m))(hn:fn.ntmps=n)
 (h:∀C:Ctx,C.std→W8 P C c (fun e s=>VV t r e s∧∀i cells,WO s.t (.tmp t)= .ptr i 0→s.h[i]? =some (.box cells)→cells.length=m) ⟨args++List.replicate (n - args.length) (.lit undef),[]⟩):Fn P f args r:=by
 refine⟨hE,fun w S vs hS hr=>calls_of_wp hf hb ?_⟩;rw[hn];refine wp_mono ((h ⟨w,S,fun k=>k < w.heap.size,none⟩ (fun _ h=>h)).wp rfl (Hd hS hr)) ?_;rintro e a' w' ⟨s,⟨⟨he,i,cells,hev,hi,hfin⟩,hlen⟩,hd,S1,ψ,H,hl⟩;rw[hfin.1]at hd;have hm:=hlen i cells hev hi;have hv:=BC hl (.tmp t);rw[hev]at hv;unfold AV.rel at hv;obtain⟨g,h1,h2⟩:=hv.2 (by rw[hi];rfl);obtain⟨g',cs,e',h3,_,_,h4,h5⟩:=H.blk i _ hi;rw[h1]at h3;cases h3;have hc:∀j u,cs[j]? =some u→w'.cell? ⟨g,0+j,none⟩=some u:=fun j u hu=>by simp[World.cell?,h4,hu]
 have hload:=IG (P:=P) (ty:=ty) (b:=g) (off:=0) ha (by rw[Bh h5];exact hm) hc;have hres':(results fn a'.tmps).run P w'= .ok (.agg cs.toArray) w':=by
  have e1:(a'.tmps[t]?).getD undef= .pointer (some ⟨g,0,none⟩):=by rw[←Array.getD_eq_getD_getElem?];exact h2
  unfold Instr.loadAt Instr.sureAddr at hload;simp only[Sem.run_bind,Sem.run_pure,Result.andThen_ok]at hload;simp[results,hres,e1,asAddr,hload]
 have hg:=KV H hfin (by unfold AV.rel;exact⟨cs,rfl,h5⟩);rcases he with rfl|rfl
 ·exact⟨hd,_,hres',_,rfl,hg⟩
 ·exact⟨hd,_,hres',_,rfl,hg⟩
end
end Mu
end
section
namespace Mu
open Go Go.RowKit
mutual
def Er(p:Nat):AV→Bool
 | .own i _=>i !=p
 | .ptr i _=>i !=p
 | .rp i _ _ _=>i !=p
 | .agg l=>Cn p l
 | .tup l=>Cn p l
 | .fn _ l=>Cn p l
 |_=>true
def Cn(p:Nat):List AV→Bool
 | []=>true
 |x::l=>Er p x&&Cn p l
end
def WB(p:Nat):ABlk→Bool
 | .box cells=>Cn p cells
 |_=>true
section
variable{w:World}{S:Nat→Prop}{h:List ABlk}{ψ ψ':Nat→Value}{p:Nat}{b:ABlk}
mutual
theorem Gb(hψ:∀i,i≠p→ψ' i=ψ i):∀(x:AV) (v:Value),Er p x=true→AV.rel w S h ψ x v→AV.rel w S (h.set p b) ψ' x v
 | .any,_,_,_=>by unfold AV.rel;trivial
 | .lit u,v,_,H=>by unfold AV.rel at H⊢;exact H
 | .bs T l,v,_,H=>by unfold AV.rel at H⊢;exact H
 | .tv T d,v,_,H=>by unfold AV.rel at H⊢;exact H
 | .own i ver,v,hn,H=>by
  have hi:i≠p:=by simpa[Er]using hn
  unfold AV.rel at H⊢;rw[List.getElem?_set_ne (Ne.symm hi),hψ i hi];exact⟨by simpa using H.1,H.2⟩
 | .ptr i off,v,hn,H=>by
  have hi:i≠p:=by simpa[Er]using hn
  unfold AV.rel at H⊢;rw[List.getElem?_set_ne (Ne.symm hi),hψ i hi];exact⟨by simpa using H.1,H.2⟩
 | .rp i ver k off,v,hn,H=>by
  have hi:i≠p:=by simpa[Er]using hn
  unfold AV.rel at H⊢;rw[List.getElem?_set_ne (Ne.symm hi),hψ i hi];exact⟨by simpa using H.1,H.2⟩
 | .bp T d off,v,_,H=>by unfold AV.rel at H⊢;exact H
 | .agg l,v,hn,H=>by
  unfold Er at hn;unfold AV.rel at H⊢;obtain⟨cs,e,hl⟩:=H;exact⟨cs,e,Ck hψ l cs hn hl⟩
 | .tup l,v,hn,H=>by
  unfold Er at hn;unfold AV.rel at H⊢;obtain⟨cs,e,hl⟩:=H;exact⟨cs,e,Ck hψ l cs hn hl⟩
 | .fn f l,v,hn,H=>by
  unfold Er at hn;unfold AV.rel at H⊢;obtain⟨cs,e,hl⟩:=H;exact⟨cs,e,Ck hψ l cs hn hl⟩
theorem Ck(hψ:∀i,i≠p→ψ' i=ψ i):∀(l:List AV) (cs:List Value),Cn p l=true→Ah w S h ψ l cs→Ah w S (h.set p b) ψ' l cs
 | [],cs,_,H=>by unfold Ah at H⊢;exact H
 |x::l,cs,hn,H=>by
  unfold Cn at hn;rw[Bool.and_eq_true]at hn;unfold Ah at H⊢;obtain⟨v,vs,e,h1,h2⟩:=H;exact⟨v,vs,e,Gb hψ x v hn.1 h1,Ck hψ l vs hn.2 h2⟩
end
variable{h':List ABlk}
mutual
theorem Kn(hc:Cut h h')(hl:h'.length=h.length):∀(x:AV) (v:Value),AV.rel w S h ψ x v→AV.rel w S h' ψ x v
 | .any,_,_=>by unfold AV.rel;trivial
 | .lit u,v,H=>by unfold AV.rel at H⊢;exact H
 | .bs T l,v,H=>by unfold AV.rel at H⊢;exact H
 | .tv T d,v,H=>by unfold AV.rel at H⊢;exact H
 | .own i ver,v,H=>by
  unfold AV.rel at H⊢;exact⟨by omega,fun c hv=>H.2 c (hc.ver hv).1⟩
 | .ptr i off,v,H=>by
  unfold AV.rel at H⊢;exact⟨by omega,fun hv=>H.2 (hc.box hv)⟩
 | .rp i ver k off,v,H=>by
  unfold AV.rel at H⊢;refine⟨by omega,fun c hv=>?_⟩;rw[(hc.ver hv).2];exact H.2 c (hc.ver hv).1
 | .bp T d off,v,H=>by unfold AV.rel at H⊢;exact H
 | .agg l,v,H=>by
  unfold AV.rel at H⊢;obtain⟨cs,e,hL⟩:=H;exact⟨cs,e,DV hc hl l cs hL⟩
 | .tup l,v,H=>by
  unfold AV.rel at H⊢;obtain⟨cs,e,hL⟩:=H;exact⟨cs,e,DV hc hl l cs hL⟩
 | .fn f l,v,H=>by
  unfold AV.rel at H⊢;obtain⟨cs,e,hL⟩:=H;exact⟨cs,e,DV hc hl l cs hL⟩
theorem DV(hc:Cut h h')(hl:h'.length=h.length):∀(l:List AV) (cs:List Value),Ah w S h ψ l cs→Ah w S h' ψ l cs
 | [],cs,H=>by unfold Ah at H⊢;exact H
 |x::l,cs,H=>by
  unfold Ah at H⊢;obtain⟨v,vs,e,h1,h2⟩:=H;exact⟨v,vs,e,Kn hc hl x v h1,DV hc hl l vs h2⟩
end
theorem HRel.cute{C:Ctx}(H:HRel C h S ψ w)(hc:Cut h h')(hl:h'.length=h.length):HRel C h' S ψ w:=
 ⟨H.bel,H.nlt,H.lt,H.sub,H.new,fun i b hi=>by
  rcases hc.blk i b hi with rfl|h1
  ·trivial
  ·have hB:=H.blk i b h1;cases b with
   |dead=>trivial
   |box cells=>
    obtain⟨g,cs,e,k1,k2,k3,k4,k5⟩:=hB;exact⟨g,cs,e,k1,k2,k3,k4,DV hc hl _ _ k5⟩
   |row ver e T l=>exact hB
   |res R=>exact hB,fun i j hij h1 h2=>by rw[hc.same h1,hc.same h2];exact H.dis i j hij (hc.live h1) (hc.live h2)⟩
theorem Qo(hp:h[p]? =some .dead):Cut (h.set p b) h:=⟨by simp,fun i c hi=>by
 by_cases hip:i=p
 ·subst hip;rw[hp]at hi;exact .inl (by injection hi with e;exact e.symm)
 ·exact .inr (by rw[List.getElem?_set_ne (Ne.symm hip)];exact hi)⟩
theorem Az.up{P:Program}{C:Ctx}{t:List AV}{o:Oper}{r:AV}(hp:h[p]? =some .dead)(hr:Er p r=true)(hq:Az P C t h o r):Az P C t (h.set p b) o r:=by
 intro S ψ w ρ H hx;have hc:Cut (h.set p b) h:=Qo hp;have hl:h.length=(h.set p b).length:=by simp
 have h1:=hq S ψ w ρ (H.cute hc hl) fun x hxm=>Kn hc hl _ _ (hx x hxm)
 have key:∀v w',SA w S h ψ r v w'→SA w S (h.set p b) ψ r v w':=fun v w' ⟨hb,S',k1,k2,k3,k4⟩=>⟨hb,S',k1,k2,k3,Gb (fun _ _=>rfl) r v hr k4⟩
 cases hres:(execOp ρ o).run P w with
 |ok n w'=>
  rw[hres]at h1;cases n <;> simp only[N5]at h1⊢
  case value v=>exact key _ _ h1
  case skip=>exact key _ _ h1
  case enter f args=>exact⟨h1.1,h1.2.mono fun e w'' ⟨v,he,hg⟩=>⟨v,he,key _ _ hg⟩⟩
 |halt x w'=>rw[hres]at h1;simp only[N5]at h1
theorem HRel.revive{C:Ctx}{w':World}{v:Value}(H:HRel C h S ψ w)(hp:h[p]? =some .dead)(hn:h.all (WB p)=true)(hb:Below w.heap.size w w')(hB:H5 C.N w' S (h.set p b) (AX ψ p v) v b)(hg:∀g,WL (some b) v g→w.heap.size≤g):
 HRel C (h.set p b) S (AX ψ p v) w':=by
 have hpl:=(List.getElem?_eq_some_iff.1 hp).1;have H':=H.grow (S':=S) hb (fun _ h=>h) (fun _ h=>.inl h) fun k hk=>Nat.lt_of_lt_of_le (H.lt k hk) hb.size
 have hlt:∀i,ABlk.live h[i]? =true→∀g,WL h[i]? (ψ i) g→g < w.heap.size:=fun i hl g hgg=>by
  obtain⟨c,hc⟩:=C8 hl;rw[hc]at hgg;exact((H.blk i c hc).lt (by rw[←hc];exact hl) g hgg).2.1
 refine⟨H'.bel,H'.nlt,H'.lt,H'.sub,H'.new,fun i c hi=>?_,fun i j hij hi hj g h1 h2=>?_⟩
 ·by_cases hip:i=p
  ·subst hip;rw[List.getElem?_set_self hpl]at hi;cases hi;rw[AR];exact hB
  ·rw[List.getElem?_set_ne (Ne.symm hip)]at hi;rw[AY hip];have hc:=H'.blk i c hi;have hnr:=List.all_eq_true.1 hn c (List.mem_of_getElem? hi);cases c with
   |dead=>trivial
   |box cells=>
    obtain⟨g,cs,e,k1,k2,k3,k4,k5⟩:=hc;exact⟨g,cs,e,k1,k2,k3,k4,Ck (fun i hi=>AY hi) _ _ hnr k5⟩
   |row ver e T l=>exact hc
   |res R=>exact hc
 ·by_cases hip:i=p
  ·subst hip;rw[AR,List.getElem?_set_self hpl]at h1;have hji:j≠i:=Ne.symm hij;rw[AY hji,List.getElem?_set_ne (Ne.symm hji)]at h2;rw[List.getElem?_set_ne (Ne.symm hji)]at hj;have:=hlt j hj g h2;have:=hg g h1;omega
  ·rw[AY hip,List.getElem?_set_ne (Ne.symm hip)]at h1;rw[List.getElem?_set_ne (Ne.symm hip)]at hi;by_cases hjp:j=p
   ·subst hjp;rw[AR,List.getElem?_set_self hpl]at h2;have:=hlt i hi g h1;have:=hg g h2;omega
   ·rw[AY hjp,List.getElem?_set_ne (Ne.symm hjp)]at h2;rw[List.getElem?_set_ne (Ne.symm hjp)]at hj;exact H.dis i j hij hi hj g h1 h2
end
section
variable{P:Program}{C:Ctx}{ops:Array Oper}{md:Region.Mode}{h:List ABlk}{p ip:Nat}{zs:List Value}{elem:TypeId}
def TS(o:Oper):Bool:=
 match o.op with
 | .alloc _=>true
 |_=>false
def F3(P:Program)(C:Ctx)(ops:Array Oper)(h:List ABlk)(p:Nat)(zs:List Value)(o:Oper)(r:AV)(t:List AV):Prop:=
 (TS o=false∧gA ops t o=some true∧Az P C t h o r∧Er p r=true)∨(TS o=false∧gA ops t o=some false∧r= .lit undef)∨(TS o=true∧o.guard=none∧r= .ptr p 0∧∃elem,o.op= .alloc elem∧CS P elem=some zs)
def WT(P:Program)(C:Ctx)(ops:Array Oper)(h:List ABlk)(p ip:Nat)(zs:List Value)(i:Nat)(K:List AV→Prop)(t:List AV):Prop:=
 match ops[i]? with
 |none=>K t
 |some o=>∃r,F3 P C ops h p zs o r t∧TS o=decide (i=ip)∧K (Bn t o.dst r)
theorem Tx{i:Nat}{t:List AV}{K K':List AV→Prop}(hk:∀t,K t→K' t)(hh:WT P C ops h p ip zs i K t):WT P C ops h p ip zs i K' t:=by
 unfold WT at *;split
 ·exact hk _ (by simpa[*]using hh)
 ·rename_i o ho;simp only[ho]at hh;obtain⟨r,h1,h2,h3⟩:=hh;exact⟨r,h1,h2,hk _ h3⟩
def Vz(P:Program)(C:Ctx)(md:Region.Mode)(ops:Array Oper)(h:List ABlk)(p ip:Nat)(zs:List Value)(n:Nat)(L:Array Bool→List AV→Prop):Nat→Array Bool→List AV→Prop
 |0,listed,t=>L listed t
 |f+1,listed,t=>
  Region.ready md ops listed≠[]∧∀i∈Region.ready md ops listed,i < n∧WT P C ops h p ip zs i (Vz P C md ops h p ip zs n L f (listed.setIfInBounds i true)) t
def hcur(h:List ABlk)(p ip:Nat)(zs:List Value)(listed:Array Bool):List ABlk:=if listed.getD ip false=true then h.set p (.box (zs.map .lit))else h
theorem RL{listed:Array Bool}{i:Nat}(hi:i≠ip):hcur h p ip zs (listed.setIfInBounds i true)=hcur h p ip zs listed:=by
 unfold hcur;rw[getD_set_ne false hi]
theorem UD{listed:Array Bool}:hcur h p ip zs listed=h∨hcur h p ip zs listed=h.set p (.box (zs.map .lit)):=by
 unfold hcur;split
 ·exact .inr rfl
 ·exact .inl rfl
theorem Uo{t:List AV}{d:Option Tmp}{r:AV}(ht:Cn p t=true)(hr:Er p r=true):Cn p (Bn t d r)=true:=by
 cases d with
 |none=>exact ht
 |some d=>
  unfold Bn;simp only;induction t generalizing d with
  |nil=>exact ht
  |cons x t ih=>
   unfold Cn at ht;rw[Bool.and_eq_true]at ht;cases d with
   |zero=>unfold List.set Cn;rw[hr,ht.2];rfl
   |succ d=>unfold List.set Cn;rw[ht.1,ih ht.2];rfl
theorem NJ{i:Nat}{t:List AV}{a:Act}{w:World}{K:List AV→Prop}{K':Act→World→Prop}{Q':Exit→Act→World→Prop}{listed:Array Bool}(hp:h[p]? =some .dead)(hn:h.all (WB p)=true)(hnt:listed.getD ip false=false→Cn p t=true)
 (hip:ip < listed.size) (hr:i∈Region.ready md ops listed) (H:St.rel C ⟨t,hcur h p ip zs listed⟩ a w)
 (hK:∀t a w,K t→((listed.setIfInBounds i true).getD ip false=false→Cn p t=true)→St.rel C ⟨t,hcur h p ip zs (listed.setIfInBounds i true)⟩ a w→K' a w)
 (hh:WT P C ops h p ip zs i K t):wpOp P ops Q' i K' a w:=by
 obtain⟨hun,o,ho,-⟩:=mem_ready.1 hr;unfold WT at hh;unfold wpOp;simp only[ho]at hh⊢;obtain⟨r,hy,hal,hk⟩:=hh;obtain⟨hd,S,ψ,hh',hl⟩:=id H;have hnr:∀{r:AV},i≠ip→Er p r=true→((listed.setIfInBounds i true).getD ip false=false→Cn p (Bn t o.dst r)=true):=fun hi hr hl=>by
  rw[getD_set_ne false hi]at hl;exact Uo (hnt hl) hr
 rcases hy with⟨ha,hg,hq,hrn⟩|⟨ha,hg,rfl⟩|⟨ha,hgd,rfl,el,hop,hz⟩
 ·have hw:=E2 hg hl;rw[hw,if_pos rfl];have hi:i≠ip:=fun e=>by rw[ha]at hal;simp[e]at hal
  refine .inl ?_;have hq':Az P C t (hcur h p ip zs listed) o r:=by
   rcases UD (h:=h) (p:=p) (ip:=ip) (zs:=zs) (listed:=listed)with e|e <;> rw[e]
   ·exact hq
   ·exact hq.up hp hrn
  exact Js (s:=⟨t,hcur h p ip zs listed⟩) hd hh' hl (hq' S ψ w a.eval hh' fun x _=>BC hl x) fun a' w' h'=>hK _ _ _ hk (hnr hi hrn) (by rw[RL hi];exact h')
 ·have hw:=E2 hg hl;rw[hw,if_neg (by simp)];have hi:i≠ip:=fun e=>by rw[ha]at hal;simp[e]at hal
  exact hK _ _ _ hk (hnr hi rfl) (by rw[RL hi];exact G7 H o.dst)
 ·have hi:i=ip:=by rw[ha]at hal;simpa using hal.symm
  subst hi;have hw:Region.wanted o (yielded ops a.tmps)=true:=by unfold Region.wanted;rw[hgd]
  rw[hw,if_pos rfl];refine .inl ?_;have hun':listed.getD i false=false:=getD_both hun;have hc0:hcur h p i zs listed=h:=by unfold hcur;rw[if_neg (by simp[hun'])]
  have hc1:hcur h p i zs (listed.setIfInBounds i true)=h.set p (.box (zs.map .lit)):=by
   unfold hcur;rw[if_pos (by simp[Array.getD_eq_getD_getElem?,hip])]
  rw[hc0]at hh' hl;unfold CS at hz;obtain⟨z,hz1,rfl⟩:=Option.map_eq_some_iff.1 hz;obtain⟨ti,hti,hz2⟩:=Option.bind_eq_some_iff.1 hz1;have hrun:(execOp a.eval o).run P w= .ok (.value (.pointer (some ⟨w.heap.size,0,none⟩))) (w.alloc (.cells z.cells el)):=by
   simp[execOp,hop,Instr.alloc,zeroValue,typeInfo,hti,hz2,newVar,newRow]
  unfold Oper.wp;rw[hrun];have hb:Below w.heap.size w (w.alloc (.cells z.cells el)):=(Below.refl _ _).alloc (Nat.le_refl _) _;have hB:H5 C.N (w.alloc (.cells z.cells el)) S (h.set p (.box (z.cells.toList.map .lit))) (AX ψ p (.pointer (some ⟨w.heap.size,0,none⟩))) (.pointer (some ⟨w.heap.size,0,none⟩)) (.box (z.cells.toList.map .lit)):=
   ⟨w.heap.size,z.cells.toList,el,rfl,fun hN=>by have:=hh'.nlt _ hN;have:=hh'.bel.size;omega,fun hS=>by have:=hh'.lt _ hS;omega,by simpa using heap_alloc_new w (.cells z.cells el),JG _⟩
  have H1:=hh'.revive hp hn hb hB fun g hg=>by simp[WL,Bl]at hg;omega
  have hl1:=AC (Ext.grow h ψ (fun k hk=>hb.block k (hh'.lt k hk)) fun _ h=>h) _ _ hl;have hl2:=Ck (b:=.box (z.cells.toList.map .lit)) (ψ':=AX ψ p (.pointer (some ⟨w.heap.size,0,none⟩))) (fun i hi=>AY hi) _ _ (hnt hun') hl1;refine hK _ _ _ hk (fun hl=>?_) ?_
  ·simp[Array.getD_eq_getD_getElem?,hip]at hl
  ·rw[hc1];refine⟨by rw[put_defers,hd];show WE (hcur _ _ _ _ _)=WE (h.set p _);rw[hc0];exact(CQ (b':=.box (z.cells.toList.map .lit)) hp rfl).symm,S,_,H1,GP hl2 o.dst ?_⟩;unfold AV.rel;exact⟨by simpa using(List.getElem?_eq_some_iff.1 hp).1,fun _=>⟨w.heap.size,AR,rfl⟩⟩
theorem KJ{n g:Nat}{L:Array Bool→List AV→Prop}{Q':Exit→Act→World→Prop}(hp:h[p]? =some .dead)(hn:h.all (WB p)=true)(hL:∀listed t a w,L listed t→St.rel C ⟨t,hcur h p ip zs listed⟩ a w→wpAny P md ops Q' g listed a w):
 ∀(f:Nat) (listed:Array Bool) (t:List AV) (a:Act) (w:World),ip < listed.size→(listed.getD ip false=false→Cn p t=true)→Vz P C md ops h p ip zs n L f listed t→St.rel C ⟨t,hcur h p ip zs listed⟩ a w→wpAny P md ops Q' (f+g) listed a w
 |0,listed,t,a,w,_,_,hh,H=>by rw[Nat.zero_add];exact hL _ _ _ _ hh H
 |f+1,listed,t,a,w,hip,hnt,hh,H=>by
  rw[show f+1+g=(f+g)+1 by omega];exact⟨fun h0=>absurd h0 hh.1,fun i hi=>NJ hp hn hnt hip hi H (fun t' a' w' h' hnt' H'=>KJ hp hn hL f _ t' a' w' (by simpa using hip) hnt' h' H') (hh.2 i hi).2⟩
theorem Kf{o:Oper}{t:List AV}{dst:Option Tmp}{u r:AV}(hdst:∀d,dst=some d→d∉o.looksAt ops):F3 P C ops h p zs o r (Bn t dst u)↔F3 P C ops h p zs o r t:=by
 unfold F3;rw[TV hdst,MH hdst]
theorem UR{j:Nat}{oi oj:Oper}{v:AV}(hj:ops[j]? =some oj)(hap:oi.apart ops oj=true){K:List AV→Prop}{t:List AV}(hy:F3 P C ops h p zs oi v t)(hh:WT P C ops h p ip zs j K (Bn t oi.dst v)):
 WT P C ops h p ip zs j (fun t'=>F3 P C ops h p zs oi v t'∧K (Bn t' oi.dst v)) t:=by
 obtain⟨h1,h2,h3⟩:=Oper.apart_spec hap;unfold WT at *;simp only[hj]at *;obtain⟨r,hr,ha,hk⟩:=hh;exact⟨r,(Kf h1).1 hr,ha,(Kf h3).2 hy,by rw[←MK t v r h2];exact hk⟩
theorem Qc{n i:Nat}{oi:Oper}{v:AV}{L:Array Bool→List AV→Prop}(hi:ops[i]? =some oi)(hial:TS oi=decide (i=ip))
 (htail:∀listed i,HeadInv md ops n listed→i < n→listed.getD i true=false→∀t,n≤t→t∉Region.ready md ops listed) (hin:i < n)
 (hdone:∀listed t,L listed t→∀j∈Region.ready md ops listed,n≤j):
 ∀(f:Nat) (listed:Array Bool) (t:List AV),HeadInv md ops n listed→
  (∀j oj,ops[j]? =some oj→j≠i→listed.getD j true=false→(∀e∈oj.after,Region.binds md e=true→e.on≠i)→oi.apart ops oj=true)→
  i∈Region.ready md ops listed→F3 P C ops h p zs oi v t→
  Vz P C md ops h p ip zs n L f (listed.setIfInBounds i true) (Bn t oi.dst v)→Vz P C md ops h p ip zs n L (f+1) listed t:=by
 intro f;induction f with
 |zero=>
  intro listed t inv _ hr hy H;have hun:=(mem_ready.1 hr).1;refine⟨fun h=>(by rw[h]at hr;cases hr),fun j hj=>?_⟩;have hjn:j < n:=by
   rcases Nat.lt_or_ge j n with h|h
   ·exact h
   ·exact absurd hj (htail _ i inv hin hun j h)
  refine⟨hjn,?_⟩;by_cases hji:j=i
  ·subst hji;unfold WT;simp only[hi];exact⟨v,hy,hial,H⟩
  ·have:=hdone _ _ H j (ready_mono hj hji);omega
 |succ f ih=>
  intro listed t inv hfree hr hy H;have hun:=(mem_ready.1 hr).1;refine⟨fun h=>(by rw[h]at hr;cases hr),fun j hj=>?_⟩;have hjn:j < n:=by
   rcases Nat.lt_or_ge j n with h|h
   ·exact h
   ·exact absurd hj (htail _ i inv hin hun j h)
  refine⟨hjn,?_⟩;by_cases hji:j=i
  ·subst hji;unfold WT;simp only[hi];exact⟨v,hy,hial,H⟩
  ·have h1:=(H.2 j (ready_mono hj hji)).2;obtain⟨hjun,oj,hoj,hall⟩:=mem_ready.1 hj;have hnot:∀e∈oj.after,Region.binds md e=true→e.on≠i:=fun e he hb heq=>by
    have h1:=hall e he hb;rw[heq,getD_both hun]at h1;cases h1
   have h2:=UR hoj (hfree j oj hoj hji hjun hnot) hy h1;have hfree':∀k ok,ops[k]? =some ok→k≠i→(listed.setIfInBounds j true).getD k true=false→
    (∀e∈ok.after,Region.binds md e=true→e.on≠i)→oi.apart ops ok=true:=fun k ok hk hki hun hno=>by
    refine hfree k ok hk hki ?_ hno;by_cases hjk:j=k
    ·subst hjk;exact hjun
    ·rw[getD_set_ne true hjk]at hun;exact hun
   refine Tx (fun a' h3=>ih (listed.setIfInBounds j true) a' (inv.set hj hjn) hfree' (ready_mono hr (Ne.symm hji)) h3.1 ?_) h2;rw[Array.setIfInBounds_comm _ _ hji];exact h3.2
def bQ(P:Program)(C:Ctx)(ops:Array Oper)(h:List ABlk)(p ip:Nat)(zs:List Value)(K:List AV→Prop):Nat→List Oper→List AV→Prop
 |_,[],t=>K t
 |k,o::rest,t=>∃r,F3 P C ops h p zs o r t∧TS o=decide (k=ip)∧bQ P C ops h p ip zs K (k+1) rest (Bn t o.dst r)
theorem Pi{n g:Nat}{Lq:List AV→Prop}(htail:∀listed i,HeadInv md ops n listed→i < n→listed.getD i true=false→∀t,n≤t→t∉Region.ready md ops listed)(hipn:ip < n):
 ∀(l:List Oper) (k:Nat) (listed:Array Bool) (t:List AV),(∀j,j < l.length→l[j]? =ops[k+j]?)→k+l.length=n→HeadInv md ops n listed→(∀j,j < k→listed.getD j false=true)→
 Region.lexHead md ops g l.length k listed=true→bQ P C ops h p ip zs Lq k l t→
 Vz P C md ops h p ip zs n (fun listed' t'=>Region.seqB md ops g n listed'=true∧listed'.getD ip false=true∧Lq t') l.length listed t
 | [],k,listed,t,_,hk,_,hset,hB,hh=>by
  have:k=n:=by simpa using hk
  subst this;exact⟨by simpa[Region.lexHead]using hB,hset ip hipn,hh⟩
 |o::l,k,listed,t,hl,hk,inv,hset,hB,hh=>by
  have h0:ops[k]? =some o:=by simpa using(hl 0 (by simp)).symm
  simp only[List.length_cons,Region.lexHead,Bool.and_eq_true]at hB;obtain⟨⟨hr,hf⟩,hB'⟩:=hB;have hkn:k < n:=by simp only[List.length_cons]at hk;omega
  have hr':k∈Region.ready md ops listed:=by simpa using hr
  obtain⟨v,hy,ha,hK⟩:=hh;have hks:k < listed.size:=by rw[inv.size];exact(Array.getElem?_eq_some_iff.1 h0).1
  refine Qc h0 ha htail hkn (fun listed' a' hL=>seqB_ready hL.1) l.length listed t inv (Region.free_spec h0 hf) hr' hy
   (Pi htail hipn l (k+1) _ _ (fun j hj=>by have:=hl (j+1) (by simp;omega);simpa[Nat.add_assoc,Nat.add_comm 1 j]using this) (by simp only[List.length_cons]at hk;omega) (inv.set hr' hkn) (fun j hj=>?_) hB' hK)
  by_cases hjk:k=j
  ·subst hjk;simp[Array.getD_eq_getD_getElem?,hks]
  ·exact getD_set_true (hset j (by omega))
end
theorem Lf{C:Ctx}{t:List AV}{h:List ABlk}:St.le C ⟨t,h⟩ ⟨t,h++[.dead]⟩:=fun a w ⟨hd,S,ψ,H,hl⟩=>by
 have X:Ext w S h ψ w S (h++[.dead]) (AX ψ h.length (.slice none 0 0)):=Ext.push _ _ fun _ _=>rfl
 exact⟨by rw[hd];show WE h=WE (h++[_]);rw[Jf];rfl,S,_,H.push (Below.refl _ _) trivial (fun g hg=>by simp[WL,Bl]at hg),AC X _ _ hl⟩
theorem Su{P:Program}{C:Ctx}{id:Nat}{l:List Oper}{Q:Exit→St→Prop}{t:List AV}{h:List ABlk}{zs:List Value}(n ip:Nat)(hm:P.follows .mixedOrders=true)(hB:Uf l.toArray n=true)(hip:decide (ip < n)=true)
 (hn:Cn h.length t=true) (hnh:h.all (WB h.length)=true)
 (hh:bQ P C l.toArray (h++[.dead]) h.length ip zs (fun t=>Cs P C l.toArray (Q .normal) (l.drop n) ⟨t,h++[.box (zs.map .lit)]⟩) 0 (l.take n) t):W8 P C (.region id l.toArray true) Q ⟨t,h⟩:=fun a w H0=>by
 have H:=Lf a w H0;have hipn:ip < n:=by simpa using hip
 simp only[Uf,Bool.and_eq_true,decide_eq_true_eq,Bool.or_eq_true,beq_iff_eq]at hB;obtain⟨⟨⟨⟨hsel,hnd⟩,hn'⟩,hs⟩,hlex⟩:=hB;have hn'':n≤l.length:=by simpa using hn'
 have htl:(l.take n).length=n:=by simp;omega
 have hdl:(l.drop n).length=l.toArray.size - n:=by simp
 have inv0:HeadInv .any l.toArray n (Array.replicate l.toArray.size false):=
  ⟨by simp,fun j oj _ hl=>(by rw[getD_replicate_false]at hl;cases hl),fun t _ ht=>getD_in (by simpa using ht) (getD_replicate_false _ _)⟩
 have htail:∀(listed:Array Bool) (i:Nat),HeadInv .any l.toArray n listed→i < n→listed.getD i true=false→∀t,n≤t→t∉Region.ready .any l.toArray listed:=by
  intro listed i inv hi hun t ht;rcases hs with hs|⟨hs,hc⟩
  ·intro hr;obtain⟨_,o,ho,_⟩:=mem_ready.1 hr;have:=(Array.getElem?_eq_some_iff.1 ho).1;omega
  ·by_cases hlt:n < l.toArray.size
   ·exact tail_waits hs hc hlt inv _ i rfl hi hun t ht
   ·intro hr;obtain⟨_,o,ho,_⟩:=mem_ready.1 hr;have:=(Array.getElem?_eq_some_iff.1 ho).1;omega
 have HH:=Pi (md:=.any) (g:=l.toArray.size - n) htail hipn (l.take n) 0 _ t (fun j hj=>by
  have hj':j < n:=by rw[htl]at hj;exact hj
  simp[hj']) (by simpa using htl) inv0 (fun j hj=>by omega) (by rw[htl];exact hlex) hh
 refine Iv hm hnd ?_;have hp:(h++[ABlk.dead])[h.length]? =some .dead:=by simp
 have hna:(h++[ABlk.dead]).all (WB h.length)=true:=by rw[List.all_append,hnh];rfl
 have hset:(h++[ABlk.dead]).set h.length (.box (zs.map .lit))=h++[.box (zs.map .lit)]:=by simp
 have H':St.rel C ⟨t,hcur (h++[.dead]) h.length ip zs (Array.replicate l.toArray.size false)⟩ a {w with drawn:=w.drawn+1}:=by
  obtain⟨hd,S,ψ,hh',hl⟩:=H;have hb:Below w.heap.size w {w with drawn:=w.drawn+1}:=⟨rfl,rfl,rfl,Nat.le_refl _,fun _ _=>rfl⟩
  have e:hcur (h++[.dead]) h.length ip zs (Array.replicate l.toArray.size false)=h++[.dead]:=by unfold hcur;rw[getD_replicate_false];rfl
  rw[e];exact⟨hd,S,ψ,hh'.grow hb (fun _ h=>h) (fun _ h=>.inl h) hh'.lt,AC (show Ext w S (h++[.dead]) ψ {w with drawn:=w.drawn+1} S (h++[.dead]) ψ from Ext.grow _ ψ (fun k hk=>rfl) fun _ h=>h) _ _ hl⟩
 have:=KJ (Q':=fun e a' w'=>e= .normal∧∃s',Q e s'∧s'.rel C a' w') (g:=l.toArray.size - n) hp hna (fun listed t a' w' hL H'=>by
  have hc:hcur (h++[.dead]) h.length ip zs listed=h++[.box (zs.map .lit)]:=by unfold hcur;rw[if_pos hL.2.1];exact hset
  rw[hc]at H';have:=wpAny_of_seq (md:=.any) (l.drop n) n listed a' w' (fun j=>by simp[List.getElem?_drop]) (by rw[hdl];exact hL.1) (Dx (Q':=fun e a' w'=>e= .normal∧∃s',Q e s'∧s'.rel C a' w') (fun s a w h H=>⟨rfl,s,h,H⟩) _ _ _ _ hL.2.2 H');rwa [hdl]at this) _ _ _ _ _ (by simp;omega) (fun _=>hn) HH H'
 rw[htl,show n+(l.toArray.size - n)=l.toArray.size by omega]at this;exact this
section
variable{P:Program}{C:Ctx}{ops:Array Oper}{h:List ABlk}{p ip k:Nat}{zs:List Value}{K:List AV→Prop}{o:Oper}{rest:List Oper}{t:List AV}
theorem Ss{id:Nat}{l:List Oper}{Q:Exit→St→Prop}(elem:TypeId)[ZC P elem zs](n ip:Nat)(hm:P.follows .mixedOrders=true)(hB:Uf l.toArray n=true)(hip:decide (ip < n)=true)
 (hn:Cn h.length t=true) (hnh:h.all (WB h.length)=true)
 (hh:bQ P C l.toArray (h++[.dead]) h.length ip zs (fun t=>Cs P C l.toArray (Q .normal) (l.drop n) ⟨t,h++[.box (zs.map .lit)]⟩) 0 (l.take n) t):W8 P C (.region id l.toArray true) Q ⟨t,h⟩:=Su n ip hm hB hip hn hnh hh
def W7(P:Program)(C:Ctx)(o:Oper)(t:List AV)(h:List ABlk)(p:Nat)(K:List AV→Prop):Prop:=∃r,Az P C t h o r∧Er p r=true∧K (Bn t o.dst r)
theorem Dw{r:AV}{K:List AV→Prop}(hq:Az P C t h o r)(hk:Er p r=true∧K (Bn t o.dst r)):W7 P C o t h p K:=⟨r,hq,hk.1,hk.2⟩
theorem V7(ha:TS o=false)(hi:decide (k=ip)=false)(hg:gA ops t o=some true)(hq:W7 P C o t h p (bQ P C ops h p ip zs K (k+1) rest)):bQ P C ops h p ip zs K k (o::rest) t:=
 let ⟨r,h1,h2,h3⟩:=hq;⟨r,.inl ⟨ha,hg,h1,h2⟩,by rw[ha,hi],h3⟩
theorem VT{elem:TypeId}[ZC P elem zs](ha:TS o=true)(hi:decide (k=ip)=true)(hgd:o.guard=none)(ho:o.op= .alloc elem)(hk:bQ P C ops h p ip zs K (k+1) rest (Bn t o.dst (.ptr p 0))):bQ P C ops h p ip zs K k (o::rest) t:=⟨_,.inr (.inr ⟨ha,hgd,rfl,elem,ho,ZC.eq⟩),by rw[ha,hi],hk⟩
theorem VS{l:List Oper}{t':List AV}(ht:t=t')(hk:bQ P C ops h p ip zs K k l t'):bQ P C ops h p ip zs K k l t:=by subst ht;exact hk
theorem Vy(hk:K t):bQ P C ops h p ip zs K k [] t:=hk
end
def UX(t:Tmp)(e:TypeId){α:Type}(T:Ty α)(l':List α):Exit→St→Prop:=fun x s=>(x= .normal∨x= .ret)∧∃i ver,WO s.t (.tmp t)= .own i ver∧s.h[i]? =some (.row ver e T l')∧WE s.h= []
section
variable{P:Program}{C:Ctx}{ops:Array Oper}{md:Region.Mode}{h:List ABlk}{K:St→Prop}
end
section
variable{P:Program}{C:Ctx}{ops:Array Oper}{K:St→Prop}{listed:Array Bool}{g:Nat}{s:St}{t:List AV}{h:List ABlk}
end
section
variable{P:Program}{C:Ctx}{ops:Array Oper}{md:Region.Mode}{h:List ABlk}{Inv:Array Bool→Prop}{n:Nat}
end
section
variable{P:Program}{C:Ctx}{ops:Array Oper}{K:List AV→Prop}{h:List ABlk}{t:List AV}
end
section
variable{P:Program}{C:Ctx}{t:List AV}{h:List ABlk}{o:Oper}
theorem G1.res{i b off:Nat}{R:Res}{rs:List AV}(hi:h[i]? =some (.res R))(hc:Bm rs=true)
 (hp:∀w S,R.R w S→∀j r,rs[j]? =some r→∃u,w.cell? ⟨b,off+j,none⟩=some u∧AV.rel w S [] ψ0 r u):G1 h (.lit (.pointer (some ⟨b,off,none⟩))) rs:=fun C S ψ w v H hv=>by
 unfold AV.rel at hv;refine⟨b,off,hv,fun j y hy=>?_⟩;obtain⟨u,h1,h2⟩:=hp w S (H.blk i _ hi).2 j y hy;have hcy:AV.cl y=true:=by
  have:∀(l:List AV),Bm l=true→∀y∈l,AV.cl y=true:=fun l=>by
   induction l with
   |nil=>intro _ y hy;cases hy
   |cons x l ih=>
    intro hl y hy;unfold Bm at hl;rw[Bool.and_eq_true]at hl;rcases List.mem_cons.1 hy with rfl|hy
    ·exact hl.1
    ·exact ih hl.2 y hy
  exact this rs hc y (List.mem_of_getElem? hy)
 exact⟨u,h1,DU _ _ hcy h2⟩
theorem IV{ty:TypeId}{x:Operand}{n i b off:Nat}{R:Res}{r:AV}[AG P ty false n](ho:o.op= .load ty x)(hx:WO t x= .lit (.pointer (some ⟨b,off,none⟩)))(hi:h[i]? =some (.res R))(hc:AV.cl r=true)
 (hp:∀w S,R.R w S→∃u,w.cell? ⟨b,off,none⟩=some u∧AV.rel w S [] ψ0 r u):Az P C t h o r:=
 CR (cells:=[r]) ho AG.eq hx (G1.res (rs:=[r]) hi (by unfold Bm;rw[hc];rfl) fun w S hR j y hy=>by
  cases j with
  |zero=>cases hy;exact hp w S hR
  |succ j=>cases hy) rfl
theorem So{ty:TypeId}{x y:Operand}{ik:IntKind}{k n b off len c:Nat}[ES P ty n](ho:o.op= .indexAddr ty x y)(hx:WO t x= .lit (.slice (some ⟨b,off,none⟩) len c))(hy:WO t y= .lit (.int ik (k:Int)))(hk:k < len):
 Az P C t h o (.lit (.pointer (some ⟨b,off+k * n,none⟩))):=
 AL fun S ψ w ρ H hρ=>by
  have h1:=hρ x (by simp[ho,Op.operands]);have h2:=hρ y (by simp[ho,Op.operands]);rw[hx]at h1;rw[hy]at h2;unfold AV.rel at h1 h2;have hr:=EK (P:=P) (w:=w) (b:=b) (off:=off) (c:=c) (ik:=ik) (ES.eq (P:=P) (ty:=ty) (n:=n)) hk;exact⟨_,by simp[execOp,ho,h1,h2,hr];rfl,by unfold AV.rel;rfl⟩
structure Turns{ι:Type}(w:World)(S:Nat→Prop)(F:Nat→Prop)(Rs:ι→Res)(val:ι→Value)(v:Value)(w':World):Prop where
 gr:Gr F w w'
 some:∃p,v=val p∧(Rs p).R w' S∧∀k,(Rs p).F k→(F k∨w.heap.size≤k)∧k < w'.heap.size
def NM{ι:Type}(P:Program)(w:World)(S:Nat→Prop)(F:Nat→Prop)(Rs:ι→Res)(val:ι→Value):Result Next→Prop
 | .ok (.value v) w'=>Turns w S F Rs val v w'
 | .ok .skip w'=>Turns w S F Rs val undef w'
 | .ok (.enter f args) w1=>w1=w∧Calls P f args w fun e w'=>∃v,e= .returned v∧Turns w S F Rs val v w'
 |_=>False
variable{ι:Type}{Rs:ι→Res}{val:ι→Value}
theorem Ha{w:World}{S:Nat→Prop}{F:Nat→Prop}{ρ:Operand→Value}(hq:NM P w S F Rs val ((execOp ρ o).run P w)):∀c,o.op≠.defer c:=fun c e=>by
 simp only[execOp,e,Sem.run_bind]at hq;generalize (resolve ρ c o.type).run P w=x at hq;cases x with
 |ok d w'=>exact hq
 |halt x w'=>exact hq
theorem Mm{K:Act→World→Prop}{Q':Exit→Act→World→Prop}{a:Act}{w:World}{S:Nat→Prop}{F:Nat→Prop}{res:Result Next}(hq:NM P w S F Rs val res)(hK:∀v w',Turns w S F Rs val v w'→K (a.put o.dst v) w'):o.upon P a K Q' res:=by
 cases res with
 |ok n w'=>
  cases n <;> simp only[NM]at hq <;> simp only[Oper.upon]
  case value v=>exact hK v w' hq
  case skip=>exact hK undef w' hq
  case enter f args=>
   obtain⟨rfl,hc⟩:=hq;exact hc.mono fun e w'' ⟨v,he,hg⟩=>by subst he;exact hK v w'' hg
 |halt x w'=>simp only[NM]at hq
theorem Ea{i:Nat}{R:Res}{K:St→Prop}(hi:h[i]? =some (.res R))(hm:∀p,(Rs p).mrk=R.mrk)
 (hq:∀S ψ w (ρ:Operand→Value),HRel C h S ψ w→R.R w S→(∀g,R.F g→g < w.heap.size)→(∀x∈o.op.operands,AV.rel w S h ψ (WO t x) (ρ x))→NM P w S R.F Rs val ((execOp ρ o).run P w))
 (hK:∀p,K ⟨Bn t o.dst (.lit (val p)),h.set i (.res (Rs p))⟩):Xb P C o ⟨t,h⟩ K:=by
 rintro Q' a w ⟨hd,S,ψ,H,hl⟩;have hB:=H.blk i _ hi;have hq':=hq S ψ w a.eval H hB.2 (fun g hg=>(hB.1 g hg).2.2) fun x _=>BC hl x
 refine⟨Ha hq',Mm hq' fun v w' hT=>?_⟩;obtain⟨p,rfl,hR,hF⟩:=hT.some;have hblk:∀k,S k→w'.heap[k]? =w.heap[k]?:=fun k hk=>hT.gr.block k (H.lt k hk) fun hf=>(hB.1 k hf).2.1 hk
 have X:Ext w S h ψ w' S (h.set i (.res (Rs p))) (AX ψ i (ψ i)):=Ext.set hblk hi (fun c' hc=>by simp[ABlk.ver]at hc) fun h=>by simp[AP]at h
 have hBn:H5 C.N w' S (h.set i (.res (Rs p))) (AX ψ i (ψ i)) (ψ i) (.res (Rs p)):=⟨fun g hg=>by
  obtain⟨h1,h2⟩:=hF g hg;rcases h1 with h1|h1
  ·exact⟨(hB.1 g h1).1,(hB.1 g h1).2.1,h2⟩
  ·exact⟨fun hn=>by have:=H.nlt g hn;have:=H.bel.size;omega,fun hs=>by have:=H.lt g hs;omega,h2⟩,hR⟩
 exact⟨_,hK p,Gz (s:=⟨t,h⟩) hi hd hl (H.set hi rfl hT.gr X hBn fun g hg=>(hF g hg).1) X (by unfold AV.rel;rfl) (by show(Rs p).mrk.map Mi=R.mrk.map Mi;rw[hm p])⟩
theorem IZ{K:St→Prop}(hm:∀p,(Rs p).mrk= [])
 (hq:∀S ψ w (ρ:Operand→Value),HRel C h S ψ w→(∀x∈o.op.operands,AV.rel w S h ψ (WO t x) (ρ x))→NM P w S (fun _=>False) Rs val ((execOp ρ o).run P w))
 (hK:∀p,K ⟨Bn t o.dst (.lit (val p)),h++[.res (Rs p)]⟩):Xb P C o ⟨t,h⟩ K:=by
 rintro Q' a w ⟨hd,S,ψ,H,hl⟩;have hq':=hq S ψ w a.eval H fun x _=>BC hl x
 refine⟨Ha hq',Mm hq' fun v w' hT=>?_⟩;obtain⟨p,rfl,hR,hF⟩:=hT.some;have hb:Below w.heap.size w w':=⟨hT.gr.os,hT.gr.tape,hT.gr.output,hT.gr.size,fun k hk=>hT.gr.block k hk fun h=>h⟩
 have X:Ext w S h ψ w' S (h++[.res (Rs p)]) (AX ψ h.length (val p)):=Ext.push _ _ fun k hk=>hb.block k (H.lt k hk)
 have hBn:H5 C.N w' S (h++[.res (Rs p)]) (AX ψ h.length (val p)) (val p) (.res (Rs p)):=⟨fun g hg=>by
  obtain⟨h1,h2⟩:=hF g hg;rcases h1 with h1|h1
  ·exact h1.elim
  ·exact⟨fun hn=>by have:=H.nlt g hn;have:=H.bel.size;omega,fun hs=>by have:=H.lt g hs;omega,h2⟩,hR⟩
 exact⟨_,hK p,Lt (s:=⟨t,h⟩) hd hl (H.push hb hBn fun g hg=>by
  rcases(hF g hg).1 with h1|h1
  ·exact h1.elim
  ·exact h1) X (by unfold AV.rel;rfl) (by show(Rs p).mrk.map Mi= [];rw[hm p];rfl)⟩
def IX(P:Program)(f:FuncId)(R:Res)(args:List AV)(Rs:ι→Res)(val:ι→Value):Prop:=
 Dl P f=true∧∀(w:World) (S:Nat→Prop) (vs:List Value),(∀k,S k→k < w.heap.size∧¬R.F k)→(∀g,R.F g→g < w.heap.size)→R.R w S→Ah w S [] ψ0 args vs→
  Calls P f vs.toArray w fun e w'=>∃v,e= .returned v∧Turns w S R.F Rs val v w'
theorem I0{i:Nat}{R:Res}{f:FuncId}{args:Array Operand}{tys:Array TypeId}{xs:List AV}{K:St→Prop}(hi:h[i]? =some (.res R))
 (ho:o.op= .call {callee:=.value (.func f),args:=args,argTypes:=tys}) (hF:IX P f R xs Rs val) (hm:∀p,(Rs p).mrk=R.mrk) (hx:args.toList.map (WO t)=xs) (hc:Bm xs=true)
 (hK:∀p,K ⟨Bn t o.dst (.lit (val p)),h.set i (.res (Rs p))⟩):Xb P C o ⟨t,h⟩ K:=by
 refine Ea hi hm (fun S ψ w ρ H hR hlt hρ=>?_) hK;have h1:ρ (.func f)= .func (.func f) #[] #[]:=by
  have:=hρ (.func f) (by rw[ho];exact Array.mem_append.2 (.inl (by simp)));simpa[WO,AV.rel]using this
 rw[CZ ho hF.1 ρ w h1];refine⟨rfl,?_⟩;have h2:Ah w S h ψ xs (args.toList.map ρ):=by
  rw[←hx];exact Cm fun x hx'=>hρ x (by rw[ho];exact Array.mem_append.2 (.inr (Array.mem_toList_iff.1 hx')))
 rw[show(args.map ρ)=(args.toList.map ρ).toArray from(by rw[←Array.toList_map])];exact hF.2 w S (args.toList.map ρ) (fun k hk=>⟨H.lt k hk,fun hf=>((H.blk i _ hi).1 k hf).2.1 hk⟩) hlt hR (B5 _ _ hc h2)
theorem Ns{i:Nat}{R R':Res}(hi:h[i]? =some (.res R))(hF:∀g,R'.F g→R.F g)(hR:∀w S,R.R w S→R'.R w S)(hm:R'.mrk=R.mrk):St.le C ⟨t,h⟩ ⟨t,h.set i (.res R')⟩:=fun a w ⟨hd,S,ψ,H,hl⟩=>by
 have hB:=H.blk i _ hi;have X:Ext w S h ψ w S (h.set i (.res R')) (AX ψ i (ψ i)):=Ext.set (fun _ _=>rfl) hi (fun c' hc=>by simp[ABlk.ver]at hc) fun h=>by simp[AP]at h
 refine⟨by rw[hd];exact(CQ hi (by show R'.mrk.map Mi=R.mrk.map Mi;rw[hm])).symm,S,_,H.set (v':=ψ i) hi rfl ⟨rfl,rfl,rfl,Nat.le_refl _,fun _ _ _=>rfl⟩ X ⟨fun g hg=>hB.1 g (hF g hg),hR w S hB.2⟩ fun g hg=>.inl (hF g hg),AC X _ _ hl⟩
theorem Ow{i j:Nat}{R1 R2 R:Res}(hij:i≠j)(hi:h[i]? =some (.res R1))(hj:h[j]? =some (.res R2))(h1:R1.mrk= [])(h2:R2.mrk= [])(h3:R.mrk= [])(hF:∀g,R.F g→R1.F g∨R2.F g)
 (hR:∀w S,R1.R w S→R2.R w S→(∀g,R1.F g→¬R2.F g)→R.R w S):St.le C ⟨t,h⟩ ⟨t,(h.set j .dead).set i (.res R)⟩:=fun a w ⟨hd,S,ψ,H,hl⟩=>by
 have hB1:=H.blk i _ hi;have hB2:=H.blk j _ hj;have hil:=(List.getElem?_eq_some_iff.1 hi).1;have hjl:=(List.getElem?_eq_some_iff.1 hj).1;have hdis:∀g,R1.F g→¬R2.F g:=fun g k1 k2=>H.dis i j hij (by rw[hi];rfl) (by rw[hj];rfl) g (by rw[hi];exact k1) (by rw[hj];exact k2)
 have X1:Ext w S h ψ w S (h.set j .dead) (AX ψ j (ψ j)):=Ext.set (fun _ _=>rfl) hj (fun c' hc=>by simp[ABlk.ver]at hc) fun h=>by simp[AP]at h
 have hi':(h.set j .dead)[i]? =some (.res R1):=by rw[List.getElem?_set_ne (Ne.symm hij)];exact hi
 have X2:Ext w S (h.set j .dead) (AX ψ j (ψ j)) w S ((h.set j .dead).set i (.res R)) (AX (AX ψ j (ψ j)) i (AX ψ j (ψ j) i)):=Ext.set (fun _ _=>rfl) hi' (fun c' hc=>by simp[ABlk.ver]at hc) fun h=>by simp[AP]at h
 have e:∀(φ:Nat→Value) k,AX φ k (φ k)=φ:=fun φ k=>funext fun q=>by unfold AX;split <;> simp_all
 rw[e]at X1;rw[e,e]at X2;have X:Ext w S h ψ w S ((h.set j .dead).set i (.res R)) ψ:=⟨fun _ _=>rfl,fun _ h=>h,by simp,fun k c' hk hv=>by
  obtain⟨c1,k1,k2,k3⟩:=X2.ver k c' (by simpa using hk) hv;obtain⟨c2,k4,k5,k6⟩:=X1.ver k c1 hk k1;exact⟨c2,k4,by omega,fun e'=>⟨rfl,by rw[(k3 (by omega)).2,(k6 (by omega)).2]⟩⟩,fun k hk hv=>⟨(X1.box k hk (X2.box k (by simpa using hk) hv).1).1,rfl⟩⟩
 have hget:∀k b,((h.set j .dead).set i (.res R))[k]? =some b→(k=i∧b= .res R)∨(k=j∧b= .dead)∨(k≠i∧k≠j∧h[k]? =some b):=fun k b hb=>by
  by_cases hki:k=i
  ·subst hki;rw[List.getElem?_set_self (by simpa using hil)]at hb;cases hb;exact .inl ⟨rfl,rfl⟩
  ·rw[List.getElem?_set_ne (Ne.symm hki)]at hb;by_cases hkj:k=j
   ·subst hkj;rw[List.getElem?_set_self hjl]at hb;cases hb;exact .inr (.inl ⟨rfl,rfl⟩)
   ·rw[List.getElem?_set_ne (Ne.symm hkj)]at hb;exact .inr (.inr ⟨hki,hkj,hb⟩)
 refine⟨?_,S,ψ,⟨H.bel,H.nlt,H.lt,H.sub,H.new,fun k b hb=>?_,fun k q hkq hk hq g g1 g2=>?_⟩,AC X _ _ hl⟩
 ·rw[hd];show WE h=_;rw[CQ hi' (by show R.mrk.map Mi=R1.mrk.map Mi;rw[h1,h3]),CQ hj (by show []=R2.mrk.map Mi;rw[h2];rfl)]
 ·rcases hget k b hb with⟨rfl,rfl⟩|⟨rfl,rfl⟩|⟨_,_,hb⟩
  ·exact⟨fun g hg=>(hF g hg).elim (hB1.1 g) (hB2.1 g),hR w S hB1.2 hB2.2 hdis⟩
  ·trivial
  ·exact(H.blk k b hb).keep X fun g _=>⟨rfl,fun h=>h⟩
 ·have key:∀k,ABlk.live ((h.set j .dead).set i (.res R))[k]? =true→WL ((h.set j .dead).set i (.res R))[k]? (ψ k) g→(k=i∧(R1.F g∨R2.F g))∨(k≠i∧k≠j∧ABlk.live h[k]? =true∧WL h[k]? (ψ k) g):=fun k k1 k2=>by
   obtain⟨b,hb⟩:=C8 k1;rw[hb]at k1 k2;rcases hget k b hb with⟨rfl,rfl⟩|⟨rfl,rfl⟩|⟨q1,q2,hb'⟩
   ·exact .inl ⟨rfl,hF g k2⟩
   ·cases k1
   ·exact .inr ⟨q1,q2,by rw[hb'];exact k1,by rw[hb'];exact k2⟩
  have no:∀k,k≠i→k≠j→ABlk.live h[k]? =true→WL h[k]? (ψ k) g→(R1.F g∨R2.F g)→False:=fun k q1 q2 q3 q4 q5=>by
   rcases q5 with q5|q5
   ·exact H.dis k i q1 q3 (by rw[hi];rfl) g q4 (by rw[hi];exact q5)
   ·exact H.dis k j q2 q3 (by rw[hj];rfl) g q4 (by rw[hj];exact q5)
  rcases key k hk g1 with⟨e1,f1⟩|⟨a1,a2,a3,a4⟩ <;> rcases key q hq g2 with⟨e2,f2⟩|⟨b1,b2,b3,b4⟩
  ·exact hkq (e1.trans e2.symm)
  ·exact no q b1 b2 b3 b4 f1
  ·exact no k a1 a2 a3 a4 f2
  ·exact H.dis k q hkq a3 b3 g a4 b4
end
section
variable{C:Ctx}{h h':List ABlk}{S:Nat→Prop}{ψ:Nat→Value}{w w' W W':World}{N N':Nat→Prop}
end
section
variable{P:Program}
end
section
variable{C:Ctx}{h:List ABlk}{S:Nat→Prop}{ψ:Nat→Value}{W:World}
end
end Mu
end
section
namespace Mu
open Go Go.RowKit Go.ChangeShapes Go.WideShapes
def Ml(g:Nat)(cells:List AV):Res:=⟨[],fun k=>k=g,fun w S=>∃cs e,w.heap[g]? =some (.cells (List.toArray cs) e (0,0))∧Ah w S [] ψ0 cells cs,
 fun h hk hb hs=>let ⟨cs,e,h1,h2⟩:=h;⟨cs,e,(hk g rfl).trans h1,AC (Ext.grow [] ψ0 hb hs) _ _ h2⟩⟩
section
variable{C:Ctx}{h:List ABlk}{S:Nat→Prop}{ψ:Nat→Value}{w:World}
theorem HRel.desc{i:Nat}{b b':ABlk}{v':Value}(H:HRel C h S ψ w)(hi:h[i]? =some b)(hlive:ABlk.live (some b)=true)(hn:∀j c,j≠i→h[j]? =some c→WB i c=true)
 (hB:H5 C.N w S (h.set i b') (AX ψ i v') v' b') (hF:∀g,WL (some b') v' g→WL (some b) (ψ i) g):HRel C (h.set i b') S (AX ψ i v') w:=by
 have hil:=(List.getElem?_eq_some_iff.1 hi).1;refine⟨H.bel,H.nlt,H.lt,H.sub,H.new,fun j c hc=>?_,fun j k hjk hj hk g hgj hgk=>?_⟩
 ·by_cases hji:j=i
  ·subst hji;rw[List.getElem?_set_self hil]at hc;cases hc;rw[AR];exact hB
  ·rw[List.getElem?_set_ne (Ne.symm hji)]at hc;rw[AY hji];have hBj:=H.blk j c hc;cases c with
   |dead=>trivial
   |box cells=>
    obtain⟨g,cs,e,k1,k2,k3,k4,k5⟩:=hBj;exact⟨g,cs,e,k1,k2,k3,k4,Ck (fun k hk=>AY hk) _ _ (hn j _ hji hc) k5⟩
   |row ver e T l=>exact hBj
   |res R=>exact hBj
 ·have hold:∀k,ABlk.live (h.set i b')[k]? =true→WL (h.set i b')[k]? (AX ψ i v' k) g→ABlk.live h[k]? =true∧WL h[k]? (ψ k) g:=fun k hk hgk=>by
   by_cases hki:k=i
   ·subst hki;rw[List.getElem?_set_self hil,AR]at hgk;rw[hi];exact⟨hlive,hF g hgk⟩
   ·rw[List.getElem?_set_ne (Ne.symm hki)]at hk hgk;rw[AY hki]at hgk;exact⟨hk,hgk⟩
  obtain⟨a1,a2⟩:=hold j hj hgj;obtain⟨b1,b2⟩:=hold k hk hgk;exact H.dis j k hjk a1 b1 g a2 b2
end
inductive Opn (i ver:Nat) (v:Value):List AV→List AV→Prop
 |nil:Opn i ver v [] []
 |any {x:AV} {t t':List AV} (h:Opn i ver v t t'):Opn i ver v (x::t) (.any::t')
 |keep {x:AV} {t t':List AV} (hx:Er i x=true) (h:Opn i ver v t t'):Opn i ver v (x::t) (x::t')
 |own {t t':List AV} (h:Opn i ver v t t'):Opn i ver v (.own i ver::t) (.lit v::t')
inductive OpnB (i g:Nat):List AV→List AV→Prop
 |nil:OpnB i g [] []
 |any {x:AV} {t t':List AV} (h:OpnB i g t t'):OpnB i g (x::t) (.any::t')
 |keep {x:AV} {t t':List AV} (hx:Er i x=true) (h:OpnB i g t t'):OpnB i g (x::t) (x::t')
 |ptr {off:Nat} {t t':List AV} (h:OpnB i g t t'):OpnB i g (.ptr i off::t) (.lit (.pointer (some ⟨g,off,none⟩))::t')
inductive Cls (i ver:Nat) (v:Value):List AV→List AV→Prop
 |nil:Cls i ver v [] []
 |any {x:AV} {t t':List AV} (h:Cls i ver v t t'):Cls i ver v (x::t) (.any::t')
 |keep {x:AV} {t t':List AV} (hx:Er i x=true) (h:Cls i ver v t t'):Cls i ver v (x::t) (x::t')
 |own {t t':List AV} (h:Cls i ver v t t'):Cls i ver v (.lit v::t) (.own i ver::t')
def S3(i:Nat)(h:List ABlk):Bool:=h.all fun b=>WB i b
theorem LM{i:Nat}{h:List ABlk}(hn:S3 i h=true):∀(j:Nat) (c:ABlk),j≠i→h[j]? =some c→WB i c=true:=fun j c _ hc=>List.all_eq_true.1 hn c (List.mem_of_getElem? hc)
theorem OJ(φ:Nat→Value)(k:Nat):AX φ k (φ k)=φ:=funext fun q=>by unfold AX;split <;> simp_all
section
variable{w:World}{S:Nat→Prop}{h:List ABlk}{ψ:Nat→Value}{i ver g:Nat}{v:Value}{b:ABlk}
theorem Opn.rel{t t':List AV}(ho:Opn i ver v t t')(hv:∀u,AV.rel w S h ψ (.own i ver) u→u=v):∀{cs:List Value},Ah w S h ψ t cs→Ah w S (h.set i b) ψ t' cs:=by
 induction ho with
 |nil=>intro cs H;unfold Ah at H⊢;exact H
 |any _ ih=>
  intro cs H;unfold Ah at H⊢;obtain⟨u,vs,e,_,h2⟩:=H;exact⟨u,vs,e,by unfold AV.rel;trivial,ih h2⟩
 |keep hx _ ih=>
  intro cs H;unfold Ah at H⊢;obtain⟨u,vs,e,h1,h2⟩:=H;exact⟨u,vs,e,Gb (fun _ _=>rfl) _ _ hx h1,ih h2⟩
 |own _ ih=>
  intro cs H;unfold Ah at H⊢;obtain⟨u,vs,e,h1,h2⟩:=H;exact⟨u,vs,e,by rw[hv u h1];unfold AV.rel;rfl,ih h2⟩
theorem OpnB.rel{t t':List AV}(ho:OpnB i g t t')(hv:∀off u,AV.rel w S h ψ (.ptr i off) u→u= .pointer (some ⟨g,off,none⟩)):∀{cs:List Value},Ah w S h ψ t cs→Ah w S (h.set i b) ψ t' cs:=by
 induction ho with
 |nil=>intro cs H;unfold Ah at H⊢;exact H
 |any _ ih=>
  intro cs H;unfold Ah at H⊢;obtain⟨u,vs,e,_,h2⟩:=H;exact⟨u,vs,e,by unfold AV.rel;trivial,ih h2⟩
 |keep hx _ ih=>
  intro cs H;unfold Ah at H⊢;obtain⟨u,vs,e,h1,h2⟩:=H;exact⟨u,vs,e,Gb (fun _ _=>rfl) _ _ hx h1,ih h2⟩
 |ptr _ ih=>
  intro cs H;unfold Ah at H⊢;obtain⟨u,vs,e,h1,h2⟩:=H;exact⟨u,vs,e,by rw[hv _ u h1];unfold AV.rel;rfl,ih h2⟩
theorem Cls.rel{t t':List AV}(ho:Cls i ver v t t')(hil:i < h.length)(hb:ABlk.ver (some b)=some ver):∀{cs:List Value},Ah w S h ψ t cs→Ah w S (h.set i b) (AX ψ i v) t' cs:=by
 induction ho with
 |nil=>intro cs H;unfold Ah at H⊢;exact H
 |any _ ih=>
  intro cs H;unfold Ah at H⊢;obtain⟨u,vs,e,_,h2⟩:=H;exact⟨u,vs,e,by unfold AV.rel;trivial,ih h2⟩
 |keep hx _ ih=>
  intro cs H;unfold Ah at H⊢;obtain⟨u,vs,e,h1,h2⟩:=H;exact⟨u,vs,e,Gb (fun _ hk=>AY hk) _ _ hx h1,ih h2⟩
 |own _ ih=>
  intro cs H;unfold Ah at H⊢;obtain⟨u,vs,e,h1,h2⟩:=H;refine⟨u,vs,e,?_,ih h2⟩;unfold AV.rel at h1⊢;subst h1;refine⟨by simpa using hil,fun c hc=>?_⟩;rw[List.getElem?_set_self hil,hb]at hc;cases hc;exact⟨Nat.le_refl _,fun _=>by rw[AR]⟩
end
section
variable{P:Program}{C:Ctx}{t:List AV}{h:List ABlk}{c:Code}{Q:Exit→St→Prop}
theorem Ga(i:Nat){cells:List AV}(hi:h[i]? =some (.box cells))(hc:Bm cells=true)(hn:S3 i h=true)(t':Nat→List AV)(ht:∀g,OpnB i g t (t' g))
 (hK:∀g,W8 P C c Q ⟨t' g,h.set i (.res (Ml g cells))⟩):W8 P C c Q ⟨t,h⟩:=fun a w ⟨hd,S,ψ,H,hl⟩=>by
 obtain⟨g,cs,e,e1,hN,hS,hg,hcs⟩:=H.blk i _ hi;have H':=H.desc (b':=.res (Ml g cells)) (v':=ψ i) hi rfl (LM hn) ⟨fun k hk=>by
  have hk:k=g:=hk;subst hk;exact⟨hN,hS,(Array.getElem?_eq_some_iff.1 hg).1⟩,⟨cs,_,hg,B5 _ _ hc hcs⟩⟩ fun k hk=>by
  have hk:k=g:=hk;subst hk;rw[e1];rfl
 rw[OJ]at H';refine hK g a w ⟨by rw[hd];exact(CQ (b':=.res (Ml g cells)) hi rfl).symm,S,ψ,H',(ht g).rel (fun off u hu=>?_) hl⟩;unfold AV.rel at hu;obtain⟨g',h1,rfl⟩:=hu.2 (by rw[hi];rfl);rw[e1]at h1;cases h1;rfl
end
section
variable{P:Program}{C:Ctx}{t:List AV}{h:List ABlk}{o:Oper}{K:St→Prop}
theorem Bd{ty:TypeId}{x:Operand}{n i g off:Nat}{cells:List AV}{r:AV}[AG P ty false n](ho:o.op= .load ty x)(hx:WO t x= .lit (.pointer (some ⟨g,off,none⟩)))(hi:h[i]? =some (.res (Ml g cells)))(hr:cells[off]? =some r)(hc:AV.cl r=true):Az P C t h o r:=
 IV ho hx hi hc fun w S ⟨cs,e,h1,h2⟩=>by
  obtain⟨u,h3,h4⟩:=Bu h2 hr;exact⟨u,by simp[World.cell?,h1,h3],h4⟩
theorem UZ{ty:TypeId}{x y:Operand}{i g off n:Nat}{cells new:List AV}[SZ P ty n](ho:o.op= .store ty x y)(hx:WO t x= .lit (.pointer (some ⟨g,off,none⟩)))(hi:h[i]? =some (.res (Ml g cells)))(hp:Ny h (WO t y) new)(hc:Bm new=true)(hs:n=new.length)(hle:off+new.length≤cells.length)
 (hK:K ⟨Bn t o.dst (.lit undef),h.set i (.res (Ml g (cells.take off++new++cells.drop (off+new.length))))⟩):Xb P C o ⟨t,h⟩ K:=by
 refine Ea (ι:=Unit) (Rs:=fun _=>Ml g (cells.take off++new++cells.drop (off+new.length))) (val:=fun _=>undef) hi (fun _=>rfl) (fun S ψ w ρ H hR hlt hρ=>?_) fun _=>hK
 have hx':=hρ x (by rw[ho];simp[Op.operands]);have hy':=hρ y (by rw[ho];simp[Op.operands]);rw[hx]at hx';unfold AV.rel at hx';obtain⟨cs,e,hg,hcs⟩:=hR;obtain⟨hn,h1⟩:=hp C S ψ w _ H hy';have hnl:=Bh hn;have hcl:=Bh hcs;have hr:=GM (P:=P) (ty:=ty) (v:=ρ y) (off:=off) (w:=w) (by rw[SZ.eq (P:=P) (ty:=ty) (n:=n),hnl,hs]) hg (by rw[hnl,List.size_toArray,hcl];exact hle) h1;rw[hnl]at hr;have hgr:=Br w g (cs.take off++(ρ y).cells.toList++cs.drop (off+new.length)).toArray;have hblk:∀k,S k→(w.setRow g (cs.take off++(ρ y).cells.toList++cs.drop (off+new.length)).toArray).heap[k]? =w.heap[k]?:=fun k hk=>setRow_other _ _ _ _ fun e=>((H.blk i _ hi).1 k (show k=g from e)).2.1 hk
 simp only[execOp,ho,hx',Sem.run_bind,hr,Result.andThen_ok,Sem.run_pure,NM];refine⟨⟨hgr.os,hgr.tape,hgr.output,hgr.size,fun k hk hn=>hgr.block k hk fun e=>hn (by injection e)⟩,(),rfl,⟨_,e,setRow_heap w g _ _ e _ hg,?_⟩,fun k hk=>?_⟩
 ·have hE:Ext w S [] ψ0 (w.setRow g (cs.take off++(ρ y).cells.toList++cs.drop (off+new.length)).toArray) S [] ψ0:=Ext.grow [] ψ0 hblk fun _ h=>h
  exact AC hE _ _ (BD (BD (Hj hcs off) (B5 _ _ hc hn)) (Hm hcs _))
 ·have hk:k=g:=hk;subst hk;have h5:k < w.heap.size:=(Array.getElem?_eq_some_iff.1 hg).1;exact⟨.inl rfl,Nat.lt_of_lt_of_le h5 hgr.size⟩
end
def W5(d:Nat):Option Value→Nat→Prop
 |none,n=>n=d
 |some v,n=>∃k,v= .int k (n:Int)
section
variable{P:Program}{C:Ctx}{t:List AV}{h:List ABlk}{o:Oper}
theorem OQ{ty:TypeId}{sz len cap l m:Nat}{a:Option Addr}{lo hi:Option Value}{w:World}(hs:Ka P ty=some sz)(hl:W5 0 lo l)(hh:W5 len hi m)(h1:l≤m)(h2:m≤cap):
 (Instr.sliceAt ty (.slice a len cap) lo hi none).run P w= .ok (.slice (if cap=l then a else a.map (·.add (l * sz))) (m - l) (cap - l)) w:=by
 unfold Ka at hs;split at hs <;> try(cases hs;done)
 rename_i e hu;cases hi':P.info? e with
 |none=>rw[hi']at hs;cases hs
 |some i=>
  rw[hi']at hs;simp only[Option.map_some,Option.some.injEq]at hs;have he:P.elem ty=e:=by simp[Program.elem,hu]
  have hu':P.underlying ty=some (.slice (P.elem ty)):=by rw[he];exact hu
  have hz:(Go.sizeOf (P.elem ty)).run P w= .ok sz w:=by rw[he];simp[Go.sizeOf,typeInfo,hi',hs]
  rw[run_sliceAt_slice (h:=hu')];cases lo with
  |none=>
   have hl:l=0:=hl;subst hl;cases hi with
   |none=>
    have hh:m=len:=hh;subst hh;rw[run_slice_all (ht:=hu'),hz];simp[sliced]
   |some v=>
    obtain⟨k,rfl⟩:=hh;rw[run_slice_h (ht:=hu') (h0:=by omega) (h2:=by omega),hz];simp[sliced]
  |some u=>
   obtain⟨ku,rfl⟩:=hl;cases hi with
   |none=>
    have hh:m=len:=hh;subst hh;rw[run_slice_l (ht:=hu') (h0:=by omega) (h1:=by omega),hz];simp[sliced]
   |some v=>
    obtain⟨k,rfl⟩:=hh;rw[run_slice_lh (ht:=hu') (h0:=by omega) (h1:=by omega) (h2:=by omega),hz];simp[sliced]
theorem PB{α:Type}{T:Ty α}{w:World}{S:Nat→Prop}{a:Option Addr}{n c l m:Nat}{ds:List α}(h:T.slice.RS w S [.slice a n c] ds)(h1:l≤m)(h2:m≤ds.length):
 T.slice.RS w S [.slice (if c=l then a else a.map (·.add (l * T.size))) (m - l) (c - l)] ((ds.take m).drop l):=by
 obtain⟨A,c',e,hle,⟨hc,hn⟩,hi⟩:=h;simp only[List.cons.injEq,Value.slice.injEq,and_true]at e;obtain⟨rfl,rfl,rfl⟩:=e;have hlen:((ds.take m).drop l).length=m - l:=by simp;omega
 refine⟨_,c - l,by rw[hlen],by rw[hlen];omega,⟨by omega,fun e=>?_⟩,fun i d hd=>?_⟩
 ·split at e
  ·rename_i hcl;omega
  ·cases a with
   |none=>have:=hn rfl;omega
   |some x=>simp at e
 ·rw[List.getElem?_drop,List.getElem?_take]at hd;split at hd
  ·rename_i hlt;obtain⟨b,off,rfl,hat⟩:=hi _ _ hd;have hne:¬c=l:=by omega
   refine⟨b,off+l * T.size,by rw[if_neg hne];simp[add_plain],?_⟩;rw[show off+l * T.size+i * T.size=off+(l+i) * T.size by rw[Nat.add_mul];omega];exact hat
  ·cases hd
def TY(t:List AV)(d:Nat):Option Operand→Nat→Prop
 |none,n=>n=d
 |some x,n=>∃k,WO t x= .lit (.int k (n:Int))
theorem TY.val{d n:Nat}{x:Option Operand}(hb:TY t d x n){w:World}{S:Nat→Prop}{ψ:Nat→Value}{ρ:Operand→Value}(hρ:∀y,x=some y→AV.rel w S h ψ (WO t y) (ρ y)):W5 d (x.map ρ) n:=by
 cases x with
 |none=>exact hb
 |some y=>
  obtain⟨k,hk⟩:=hb;have:=hρ y rfl;rw[hk]at this;unfold AV.rel at this;exact⟨k,this⟩
theorem Nu{ty:TypeId}{x:Operand}{lo hi:Option Operand}{n l m:Nat}{α:Type}{T:Ty α}{ds:List α}[ES P ty n](ho:o.op= .slice ty x lo hi none)(hx:WO t x= .bs T ds)(hs:T.size=n)(hl:TY t 0 lo l)(hm:TY t ds.length hi m)(h1:l≤m)(h2:m≤ds.length):
 Az P C t h o (.bs T ((ds.take m).drop l)):=
 AL fun S ψ w ρ H hρ=>by
  have hx':=hρ x (by rw[ho];simp[Op.operands]);have hlo:=hl.val (h:=h) (w:=w) (S:=S) (ψ:=ψ) (ρ:=ρ) fun y hy=>hρ y (by rw[ho,hy];simp[Op.operands])
  have hhi:=hm.val (h:=h) (w:=w) (S:=S) (ψ:=ψ) (ρ:=ρ) fun y hy=>hρ y (by rw[ho,hy];simp[Op.operands])
  rw[hx]at hx';unfold AV.rel at hx';obtain⟨A,c,e⟩:=BG hx';have hx2:=hx';rw[e]at hx2;have hle:m≤c:=by
   obtain⟨A',c',e',h3,_⟩:=hx2;simp only[List.cons.injEq,Value.slice.injEq,and_true]at e';omega
  have hr:=OQ (P:=P) (w:=w) (a:=A) (cap:=c) (ES.eq (P:=P) (ty:=ty) (n:=n)) hlo hhi h1 hle;refine⟨_,by simp[execOp,ho,e,hr];rfl,?_⟩;unfold AV.rel;rw[←hs];exact PB hx2 h1 h2
theorem Qv{ty:TypeId}{x:Operand}{hi':Option Operand}{i ver m n:Nat}{e:TypeId}{α:Type}{T:Ty α}{l:List α}{K:St→Prop}[ES P ty n](ho:o.op= .slice ty x none hi' none)(hx:WO t x= .own i ver)(hi:h[i]? =some (.row ver e T l))(hs:T.size=n)
 (hm:TY t l.length hi' m) (h2:m≤l.length) (hK:K ⟨Bn t o.dst (.own i (ver+1)),h.set i (.row (ver+1) e T (l.take m))⟩):Xb P C o ⟨t,h⟩ K:=by
 rintro Q' a w ⟨hd,S,ψ,H,hl⟩;refine⟨fun c e=>(by rw[ho]at e;cases e),?_⟩;have hx':=BC hl x;have hhi:=hm.val (h:=h) (w:=w) (S:=S) (ψ:=ψ) (ρ:=a.eval) fun y hy=>BC hl y
 rw[hx]at hx';unfold AV.rel at hx';have hv:=(hx'.2 _ (by rw[hi];rfl)).2 rfl;obtain⟨cells,hown,h0,hR,hNS⟩:=H.blk i _ hi;obtain⟨v',hrun,hown',hob,hbk⟩:∃v',(Instr.sliceAt ty (ψ i) none (hi'.map a.eval) none).run P w= .ok v' w∧w.ownsRow 0 e T.size v' m (cells.take (m * T.size))∧(∀g,v'.ownBlock=some g→(ψ i).ownBlock=some g)∧(∀g,Bl v'=some g→Bl (ψ i)=some g):=by
  obtain⟨hcl,hcase⟩:=hown;rcases hcase with⟨e1,e2⟩|⟨g,cap,cur,e1,e2,e3,e4,e5,e6,e7⟩
  ·have hm0:m=0:=by omega
   subst hm0;have hr:=OQ (P:=P) (w:=w) (a:=none) (len:=0) (cap:=0) (l:=0) (m:=0) (lo:=none) (hi:=hi'.map a.eval) (ES.eq (P:=P) (ty:=ty) (n:=n)) rfl (by rw[e2]at hhi;exact hhi) (Nat.le_refl _) (Nat.le_refl _);refine⟨.slice none 0 0,?_,⟨by simp,.inl ⟨rfl,rfl⟩⟩,fun g hg=>by simp[Value.ownBlock]at hg,fun g hg=>by simp[Bl]at hg⟩;rw[e1];simpa using hr
  ·have hr:=OQ (P:=P) (w:=w) (a:=some ⟨g,0,none⟩) (len:=l.length) (cap:=cap) (l:=0) (m:=m) (lo:=none) (hi:=hi'.map a.eval) (ES.eq (P:=P) (ty:=ty) (n:=n)) rfl hhi (Nat.zero_le _) (by omega);refine⟨.slice (some ⟨g,0,none⟩) m cap,?_,⟨by rw[List.length_take,hcl];exact Nat.min_eq_left (Nat.mul_le_mul_right _ h2),.inr ⟨g,cap,cur,rfl,e2,e3,by omega,e5,e6,?_⟩⟩,fun g' hg=>by rw[e1];exact hg,fun g' hg=>by rw[e1];exact hg⟩
   ·rw[e1,hr];simp[add_plain]
   ·rw[←e7,List.take_take,Nat.min_eq_left (Nat.mul_le_mul_right _ h2)]
 have X:Ext w S h ψ w S (h.set i (.row (ver+1) e T (l.take m))) (AX ψ i v'):=Ext.set (fun _ _=>rfl) hi (fun c' hc=>by
  simp only[ABlk.ver,Option.some.injEq]at hc;exact⟨ver,rfl,by omega,fun e=>by omega⟩) fun h=>by simp[AP]at h
 have hB:H5 C.N w S (h.set i (.row (ver+1) e T (l.take m))) (AX ψ i v') v' (.row (ver+1) e T (l.take m)):=by
  refine⟨cells.take (m * T.size),by rw[List.length_take,Nat.min_eq_left h2];exact hown',h0,fun j d hj=>?_,fun g hg=>hNS g (hob g hg)⟩;rw[List.getElem?_take]at hj;split at hj
  ·rename_i hjm;have:=hR j d hj;have hle:(j+1) * T.size≤m * T.size:=Nat.mul_le_mul_right _ (by omega);rw[Nat.add_mul,Nat.one_mul]at hle;rw[List.drop_take,List.take_take,Nat.min_eq_left (by omega)];exact this
  ·cases hj
 unfold Oper.wp;simp only[execOp,ho,hv,Option.map_none,hrun,Sem.run_bind,Result.andThen_ok,Sem.run_pure,Oper.upon,Functor.map];refine⟨_,hK,Gz (s:=⟨t,h⟩) hi hd hl (H.set hi rfl ⟨rfl,rfl,rfl,Nat.le_refl _,fun _ _ _=>rfl⟩ X hB fun g hg=>.inl (hbk g hg)) X ?_⟩;unfold AV.rel;refine⟨by simp[(List.getElem?_eq_some_iff.1 hi).1],fun c' hc'=>?_⟩;rw[List.getElem?_set_self (List.getElem?_eq_some_iff.1 hi).1]at hc';simp only[ABlk.ver,Option.some.injEq]at hc';exact⟨by omega,fun _=>by rw[AR]⟩
end
end Mu
end
section
namespace Mu
open Go Go.RowKit
section
variable{P:Program}{C:Ctx}{t t' t'':List AV}{h h' h'':List ABlk}{o:Oper}{r:AV}{ops:Array Oper}{rest:List Oper}{K:St→Prop}
theorem qt (hq:Az P C t h o r:=by(first
 |exact Az.move rfl (by(conv=>lhs;whnf);try rfl)
 |exact Az.assign rfl (by(conv=>lhs;whnf);try rfl)
 |exact Cu rfl rfl rfl
 |exact Dv rfl rfl
 |exact B1 rfl rfl rfl
 |exact Az.faL rfl rfl
 |exact BF rfl rfl rfl rfl
 |exact BU rfl rfl rfl
 |exact AO rfl rfl rfl (by assumption) rfl
 |exact AB rfl rfl rfl rfl
 |exact DC rfl rfl rfl
 |exact Jq rfl rfl rfl rfl (by assumption)
 |exact F6 rfl rfl rfl rfl (by first|decide|omega) (by assumption)
 |exact H3 rfl rfl rfl rfl rfl (by first|assumption|omega)
 |exact Fc rfl rfl rfl rfl rfl (by first|decide|omega) (by first|assumption|omega)
 |exact Az.ixl0 rfl rfl rfl (by first|assumption|omega)
 |exact Az.ln rfl rfl
 |exact F5 rfl rfl rfl
 |exact Az.lnl rfl rfl
 |exact Fv rfl rfl rfl (by omega)
 |exact Ft rfl rfl rfl (by omega)
 |exact Gt rfl rfl rfl rfl (by assumption)
 |exact BV rfl rfl rfl rfl
 |exact Eg rfl rfl
 |exact Az.pick rfl rfl (by(conv=>lhs;whnf);try rfl)
 |exact Az.extract rfl rfl rfl
 |exact HZ rfl rfl rfl (by rfl) (by decide) (by first|exact WZ.bool|exact WZ.bs|exact WZ.int (by assumption))
 |exact Az.max2 rfl rfl rfl
 |exact Az.min2 rfl rfl rfl
 |exact Bd (i:=1) rfl rfl rfl (by first|rfl|assumption) rfl
 |exact Bd (i:=2) rfl rfl rfl (by first|rfl|assumption) rfl
 |exact Bd (i:=3) rfl rfl rfl (by first|rfl|assumption) rfl
 |exact Bd (i:=4) rfl rfl rfl (by first|rfl|assumption) rfl
 |exact Bd (i:=5) rfl rfl rfl (by first|rfl|assumption) rfl
 |exact Bd (i:=6) rfl rfl rfl (by first|rfl|assumption) rfl
 |exact Bd (i:=7) rfl rfl rfl (by first|rfl|assumption) rfl
 |exact Bd (i:=8) rfl rfl rfl (by first|rfl|assumption) rfl
 |exact Az.ldAL (i:=1) rfl rfl rfl rfl rfl
 |exact Az.ldAL (i:=2) rfl rfl rfl rfl rfl
 |exact Az.ldAL (i:=3) rfl rfl rfl rfl rfl
 |exact Az.ldAL (i:=4) rfl rfl rfl rfl rfl
 |exact Az.ldAL (i:=5) rfl rfl rfl rfl rfl
 |exact Az.ldAL (i:=6) rfl rfl rfl rfl rfl
 |exact Az.ldAL (i:=7) rfl rfl rfl rfl rfl
 |exact Az.ldAL (i:=8) rfl rfl rfl rfl rfl)):Az P C t h o r:=hq
theorem sQ(hk:Cs P C ops K rest ⟨t',h⟩)(hg:gA ops t o=some true:=by rfl)(hq:Az P C t h o r:=by exact qt)(ht:Bn t o.dst r=t':=by((try simp only[Bn,List.set_cons_zero,List.set_cons_succ]);exact rfl)):Cs P C ops K (o::rest) ⟨t,h⟩:=by
 subst ht;exact Si hg hq hk
theorem Fy(hk:Cs P C ops K rest ⟨t',h⟩)(hg:gA ops t o=some false:=by rfl)(ht:Bn t o.dst (.lit undef)=t':=by((try simp only[Bn,List.set_cons_zero,List.set_cons_succ]);exact rfl)):Cs P C ops K (o::rest) ⟨t,h⟩:=by
 subst ht;exact Ki hg hk
theorem Mg (hg:gA ops t o=some true:=by rfl) (hq:∀K':St→Prop,K' ⟨t'',h''⟩→Xb P C o ⟨t,h⟩ K':=by(intro K' hK;(first
 |exact Xb.box rfl Pn.agg hK
 |exact Sz rfl hK
 |exact Gc rfl rfl rfl (Lh rfl) rfl (Nat.le_of_ble_eq_true rfl) hK
 |exact Gc (new:=[_]) rfl rfl rfl (Ny.one (WY.lit rfl)) rfl (Nat.le_of_ble_eq_true rfl) hK
 |exact OI rfl rfl rfl rfl rfl (by first|assumption|(simp[maxLen];done)|(simp[maxLen];omega)) (by first|assumption|(simp;done)|(simp;omega)) hK
 |exact BW rfl rfl rfl (by assumption) (by first|exact WZ.bool|exact WZ.bs|exact WZ.int (by assumption)) rfl hK))) (ht:t''=t':=by((try simp only[Bn,List.set_cons_zero,List.set_cons_succ]);exact rfl)) (hh:h''=h':=by((try simp only[List.nil_append,List.cons_append,List.set_cons_zero,List.set_cons_succ,List.length_nil,List.length_cons,Nat.reduceAdd]);exact rfl)) (hk:Cs P C ops K rest ⟨t',h'⟩):Cs P C ops K (o::rest) ⟨t,h⟩:=by
 subst ht hh;exact VB hg (hq _ hk)
theorem Wm(hk:Cs P C ops K rest ⟨t',h'⟩)(ht:t=t':=by((try simp only[Bn,List.set_cons_zero,List.set_cons_succ]);exact rfl))(hh:h=h':=by((try simp only[List.nil_append,List.cons_append,List.set_cons_zero,List.set_cons_succ,List.length_nil,List.length_cons,Nat.reduceAdd]);exact rfl)):Cs P C ops K rest ⟨t,h⟩:=by
 subst ht hh;exact hk
theorem nT{c:Code}{Q:Exit→St→Prop}(hk:W8 P C c Q ⟨t',h'⟩)(ht:t=t':=by((try simp only[Bn,List.set_cons_zero,List.set_cons_succ]);exact rfl))(hh:h=h':=by((try simp only[List.nil_append,List.cons_append,List.set_cons_zero,List.set_cons_succ,List.length_nil,List.length_cons,Nat.reduceAdd]);exact rfl)):W8 P C c Q ⟨t,h⟩:=by
 subst ht hh;exact hk
theorem JY(hb:WS h=true:=by rfl)(hf:Fgt h.length t t':=by((try simp only[Bn,List.set_cons_zero,List.set_cons_succ]);repeat(first|exact Fgt.nil|refine Fgt.keep rfl ?_|refine Fgt.any ?_))):St.le C ⟨t,h⟩ ⟨t',h⟩:=Sl hb hf
theorem U2(hc:Cut h h')(hb:WS h'=true:=by rfl)(hf:Fgt h'.length t t':=by((try simp only[Bn,List.set_cons_zero,List.set_cons_succ]);repeat(first|exact Fgt.nil|refine Fgt.keep rfl ?_|refine Fgt.any ?_)))(hm:WE h'=WE h:=by rfl):St.le C ⟨t,h⟩ ⟨t',h'⟩:=Sm hc hb hf hm
end
section
variable{P:Program}{C:Ctx}
theorem Xb.weak{o:Oper}{s:St}{K K':St→Prop}(hk:∀s,K s→K' s)(h:Xb P C o s K):Xb P C o s K':=fun Q' a w H=>
 let ⟨h1,h2⟩:=h Q' a w H
 ⟨h1,Oper.wp_mono (fun _ _ ⟨s',k1,k2⟩=>⟨s',hk _ k1,k2⟩) h2⟩
theorem CK{ops:Array Oper}{K K':St→Prop}(hk:∀s,K s→K' s):∀{l:List Oper} {s:St},Cs P C ops K l s→Cs P C ops K' l s
 | [],s,h=>hk s h
 |o::rest,s,h=>by
  obtain⟨b,hg,ht,hf⟩:=h;exact⟨b,hg,fun e=>(ht e).weak fun s h=>CK hk h,fun e=>CK hk (hf e)⟩
theorem Lr{ops:Array Oper}{s s':St}(e:s=s'):Cs P C ops (fun x=>x=s') [] s:=e
end
section
variable{P:Program}{C:Ctx}{id:Nat}{l:List Oper}{y:Code}{Q:Exit→St→Prop}{t t':List AV}{h h':List ABlk}
theorem rR(hk:Q .normal ⟨t',h'⟩)(hx:Cs P C l.toArray (fun s=>s=⟨t',h'⟩) l ⟨t,h⟩:=by((repeat(first|refine sQ ?_|refine Fy ?_|refine Mg (hk:=?_)));exact Lr rfl)):W8 P C (.region id l.toArray false) Q ⟨t,h⟩:=W8.region (CK (fun s e=>by subst e;exact hk) hx)
theorem Wv(hk:W8 P C y Q ⟨t',h'⟩)(hx:Cs P C l.toArray (fun s=>s=⟨t',h'⟩) l ⟨t,h⟩:=by((repeat(first|refine sQ ?_|refine Fy ?_|refine Mg (hk:=?_)));exact Lr rfl)):W8 P C (.seq (.region id l.toArray false) y) Q ⟨t,h⟩:=Aq fun _ hK=>W8.region (CK (fun s e=>by subst e;exact hK _ hk) hx)
end
end Mu
end
section
namespace Mu
open Go Go.RowKit Go.ChangeShapes Go.WideShapes
def Sk{α:Type}(e:TypeId)(T:Ty α):Ty (List α) where
 size:=1
 bulk:=fun _=>1
 RS:=fun w S cs ds=>∃g cells,cs= [.slice (some ⟨g,0,none⟩) ds.length ds.length]∧S g∧w.ownsRow 0 e T.size (.slice (some ⟨g,0,none⟩) ds.length ds.length) ds.length cells∧∀i d,ds[i]? =some d→T.RS w S ((cells.drop (i * T.size)).take T.size) d
 len:=by rintro _ _ _ _ ⟨g,cells,rfl,_⟩;rfl
 keepS:=by
  rintro w w' S S' cs ds ⟨g,cells,rfl,h1,h2,h3⟩ hb hS;refine⟨g,cells,rfl,hS g h1,IJ h2 fun k hk=>?_,fun i d hd=>T.keepS (h3 i d hd) hb hS⟩;have:g=k:=by simpa[Bl]using hk
  subst this;exact hb g h1
section
variable{P:Program}{C:Ctx}{t:List AV}{h:List ABlk}{o:Oper}
theorem Qj{ty e:TypeId}{bytes n m:Nat}{parts:Array (Nat×Operand)}{xs:List Operand}{α:Type}{T:Ty α}{ds:List α}{enc:α→List AV}[RT P ty e m bytes][EncOf T enc](ho:o.op= .buildSlice ty n parts)(hp:parts=C6 xs)(hn:n=xs.length)
 (hs:T.size=m) (hsz:n * T.size≤16777216) (hf:Fits h T (xs.map (WO t)) ds):Az P C t h o (.tv (Sk e T) ds):=by
 have h0:=EncOf.pos (T:=T) (enc:=enc);have hT:JE P ty=some (e,T.size,bytes):=by rw[hs];exact RT.eq
 subst hp hn;intro S ψ w ρ H hρ;have hrel:Ah w S h ψ (xs.map (WO t)) (xs.map ρ):=Cm fun x hx=>hρ x (by
  rw[ho];simp only[Op.operands,C6,List.map_map];refine List.mem_toArray.2 (List.mem_map.2 ?_);obtain⟨j,hj⟩:=List.mem_iff_getElem?.1 hx;exact⟨(x,j),by rw[List.mem_zipIdx_iff_getElem?];exact hj,rfl⟩)
 obtain⟨k1,k2,k3,k4⟩:=Gq H hf hrel;have hds:ds.length=xs.length:=by rw[←k1];simp
 rw[Fg ho,Lv hT (by rw[List.length_map];exact hsz) k2];have hb:Below w.heap.size w (w.alloc (.cells ((xs.map ρ).flatMap fun v=>v.cells.toList).toArray e)):=(Below.refl _ _).alloc (Nat.le_refl _) _;refine⟨hb,fun k=>S k∨k=w.heap.size,fun k hk=>.inl hk,fun k hk=>hk.imp id fun e=>by omega,fun k hk=>?_,?_⟩
 ·rcases hk with hk|hk
  ·have:=H.lt k hk;simp;omega
  ·simp;omega
 ·unfold AV.rel;have hmx:xs.length≤maxLen:=by
   have:xs.length * 1≤xs.length * T.size:=Nat.mul_le_mul_left _ h0;unfold maxLen;omega
  refine⟨w.heap.size,(xs.map ρ).flatMap fun v=>v.cells.toList,by rw[hds,List.length_map],.inr rfl,?_,fun i d hd=>T.keepS (k4 i d hd) (fun k hk=>hb.block k (H.lt k hk)) fun _ h=>.inl h⟩;rw[hds];exact JD (heap_alloc_new w _) (Nat.zero_le _) (by rw[k3,hds]) hmx |> fun h=>by simpa using h
theorem Ql{ty:TypeId}{x y:Operand}{e:TypeId}{bytes m:Nat}{α:Type}{T:Ty α}{l l2:List α}{enc:α→List AV}[RT P ty e m bytes][EncOf T enc](ho:o.op= .call {callee:=.builtin .append,args:=#[x,y],argTypes:=#[ty,ty]})
 (hx:WO t x= .tv (Sk e T) l) (hy:WO t y= .bs T l2) (hs:T.size=m) (hlen:l.length+l2.length≤maxLen) (hbytes:(l.length+l2.length) * bytes≤140737488355328):Az P C t h o (.bs T (l++l2)):=by
 have hT:JE P ty=some (e,T.size,bytes):=by rw[hs];exact RT.eq
 have h1T:=EncOf.one (T:=T) (enc:=enc);intro S ψ w ρ H hρ;have hx':=hρ x (by simp[ho,Op.operands,Call.operands]);have hy':=hρ y (by simp[ho,Op.operands,Call.operands]);rw[hx]at hx';rw[hy]at hy';unfold AV.rel at hx' hy';obtain⟨g,cells,e1,hg,hown,hR⟩:=hx';have e1:ρ x= .slice (some ⟨g,0,none⟩) l.length l.length:=by simpa using e1
 obtain⟨h1,ti,z,h2,h3,h4,h5,h6⟩:=Eb hT;obtain⟨A,c,hyv⟩:=BG hy';rw[hyv]at hy';obtain⟨news,hnl,hsrc,hnR,hn1⟩:=Jv hy' fun cs d hcs=>h1T _ _ _ _ hcs
 have h0:=EncOf.pos (T:=T) (enc:=enc);obtain⟨v',w',hrun,hown',hgr,hob⟩:=Lu (P:=P) (ty:=o.type) (c:=c) h1 h2 h3 h4 h5 h6 h0 hown (hsrc w fun _ _=>rfl) hn1 hlen hbytes (Nat.zero_le _);have hB:Below w.heap.size w w':=by
  rcases Nat.eq_zero_or_pos l2.length with hz|hz
  ·have hnews:news= []:=List.eq_nil_of_length_eq_zero (by rw[hnl,hz,Nat.zero_mul]);subst hnews;have hsr:Go.Src P T.size ty (.slice A 0 c) 0 [] w:=by
    cases A with
    |none=>exact Go.Src.ofNil w h1 c
    |some a=>exact Go.Src.ofSlice w h1 a 0 c [] (by simp) (fun j u hu=>by simp at hu) fun u hu=>by cases hu
   have hr0:=run_append_nothing (P:=P) w ty ty o.type e ti h1 h2 (some ⟨g,0,none⟩) l.length l.length (Nat.le_refl _) (.slice A 0 c) (by rw[h4];exact hsr);rw[hz,hr0]at hrun;cases hrun;exact Below.refl _ _
  ·obtain⟨a,rfl⟩:∃a,A=some a:=by
    have hp:0 < news.length:=by rw[hnl];exact Nat.mul_pos hz h0
    obtain⟨ad,e2,_⟩:=(hsrc w fun _ _=>rfl).cells 0 _ (List.getElem?_eq_getElem hp);exact⟨ad,e2⟩
   have hcl:cells.length=l.length * T.size:=hown.1;have hr0:=run_append_grow (P:=P) w ty o.type e ti z h1 h2 h3 ⟨g,0,none⟩ l.length l.length cells (by rw[h4];exact hcl) (fun j u hu=>World.ownsRow.cells hown (g:=g) rfl _ _ hu) a l2.length c news (by rw[h4];exact hnl)
    (fun j u hu=>by obtain⟨ad,e2,hc⟩:=(hsrc w fun _ _=>rfl).cells j u hu;cases e2;exact hc) (by omega) (by unfold maxLen at hlen;omega) (by
     have:=nextslicecap_le (need:=l.length+l2.length) (old:=l.length) (by omega);have h7:Builtin.nextslicecap (l.length+l2.length) l.length * ti.bytes≤2 *(l.length+l2.length) * ti.bytes:=Nat.mul_le_mul_right _ this;rw[Nat.mul_assoc,h5]at h7;rw[h5];omega)
   rw[hr0]at hrun;cases hrun;exact⟨rfl,rfl,rfl,by simp,fun k hk=>heap_alloc_old w.drew _ hk⟩
 have hres:(execOp ρ o).run P w= .ok (.value v') w':=by
  simp[execOp,ho,resolve,invoke,builtin,e1,hyv,hrun]
 rw[hres];refine⟨hB,fun k=>S k∨v'.ownBlock=some k,fun k hk=>.inl hk,fun k hk=>?_,fun k hk=>?_,?_⟩
 ·rcases hk with hk|hk
  ·exact .inl hk
  ·rcases hob with h8|h8
   ·rw[h8]at hk;have:g=k:=by simpa[Value.ownBlock]using hk
    subst this;exact .inl hg
   ·rw[h8]at hk;cases hk;exact .inr (Nat.le_refl _)
 ·rcases hk with hk|hk
  ·exact Nat.lt_of_lt_of_le (H.lt k hk) hB.size
  ·exact(World.ownsRow.lt hown' k hk).2
 ·unfold AV.rel;have hkeep:∀k,S k→w'.heap[k]? =w.heap[k]?:=fun k hk=>hB.block k (H.lt k hk)
  refine DN (base:=0) (e:=e) (cells:=cells++news) (by rw[List.length_append];exact hown') (fun j d hj=>?_) fun k hk=>.inr hk
  by_cases hjl:j < l.length
  ·rw[List.getElem?_append_left hjl]at hj;rw[MW hown.1 hjl];exact T.keepS (hR j d hj) hkeep fun _ h=>.inl h
  ·rw[List.getElem?_append_right (by omega)]at hj;obtain⟨q,rfl⟩:∃q,j=l.length+q:=⟨j - l.length,by omega⟩
   rw[Iq hown.1];exact T.keepS (hnR q d (by simpa using hj)) hkeep fun _ h=>.inl h
end
end Mu
end
section
namespace Mu
open Go Go.RowKit
section
variable{P:Program}{C:Ctx}{t t':List AV}{h:List ABlk}{o:Oper}{r:AV}{ops:Array Oper}{rest:List Oper}{K:St→Prop}
theorem VQ{j:Nat}{want q c:Bool}(ho:o.guard=some (j,want))(hd:((ops[j]?).bind (·.dst)).bind (t[·]?)=some (cond q (.lit (.bool c)) (.lit undef))):gA ops t o=some (q&&(c ==want)):=by
 unfold gA;rw[ho];simp only;rw[hd];cases q <;> rfl
theorem V8{g:Bool}(hg:gA ops t o=some g)(hq:g=true→Az P C t h o r):Fs P C ops h o (cond g r (.lit undef)) t:=by
 cases g with
 |true=>exact .inl ⟨hg,hq rfl⟩
 |false=>exact .inr ⟨hg,rfl⟩
theorem sG{g:Bool}(hk:Cs P C ops K rest ⟨t',h⟩)(hg:gA ops t o=some g:=by first|rfl|exact VQ rfl rfl)(hq:g=true→Az P C t h o r:=by(intro hg;(try simp only[Bool.and_eq_true,beq_iff_eq]at hg);(try simp only[hg,cond_true,Bool.true_and,beq_self_eq_true]);(first|exact Bs rfl rfl rfl rfl|exact Bi rfl rfl rfl rfl|exact Az.pickOr' rfl rfl rfl rfl|exact Az.pickAnd' rfl rfl rfl rfl|exact qt)))(ht:Bn t o.dst (cond g r (.lit undef))=t':=by((try simp only[Bn,List.set_cons_zero,List.set_cons_succ]);exact rfl)):Cs P C ops K (o::rest) ⟨t,h⟩:=by
 subst ht;cases g with
 |true=>exact Si hg (hq rfl) hk
 |false=>exact Ki hg hk
theorem qG{K:List AV→Prop}{g:Bool}(hk:aQ P C ops h K rest t')(hg:gA ops t o=some g:=by first|rfl|exact VQ rfl rfl)(hq:g=true→Az P C t h o r:=by(intro hg;(try simp only[Bool.and_eq_true,beq_iff_eq]at hg);(try simp only[hg,cond_true,Bool.true_and,beq_self_eq_true]);(first|exact Bs rfl rfl rfl rfl|exact Bi rfl rfl rfl rfl|exact Az.pickOr' rfl rfl rfl rfl|exact Az.pickAnd' rfl rfl rfl rfl|exact qt)))(ht:Bn t o.dst (cond g r (.lit undef))=t':=by((try simp only[Bn,List.set_cons_zero,List.set_cons_succ]);exact rfl)):aQ P C ops h K (o::rest) t:=by
 subst ht;exact⟨_,V8 hg hq,hk⟩
theorem Bs{c a b:Operand}{q e:Bool}(ho:o.op= .pick c a b)(hc:WO t c= .lit (.bool q))(ha:WO t a= .lit (.bool true))(hb:WO t b=cond (q ==false) (.lit (.bool e)) (.lit undef)):Az P C t h o (.lit (.bool (q||e))):=by
 refine Az.pick ho hc ?_;cases q
 ·exact hb
 ·exact ha
theorem Bi{c a b:Operand}{q e:Bool}(ho:o.op= .pick c a b)(hc:WO t c= .lit (.bool q))(ha:WO t a=cond (q ==true) (.lit (.bool e)) (.lit undef))(hb:WO t b= .lit (.bool false)):Az P C t h o (.lit (.bool (q&&e))):=by
 refine Az.pick ho hc ?_;cases q
 ·exact hb
 ·exact ha
end
section
variable{P:Program}{C:Ctx}{id:Nat}{l:List Oper}{y:Code}{Q:Exit→St→Prop}{t t':List AV}{h h':List ABlk}
theorem rC(hk:Q .normal ⟨t',h'⟩)(hx:Cs P C l.toArray (fun s=>s=⟨t',h'⟩) l ⟨t,h⟩:=by((repeat(first|refine sQ (hq:=Bs rfl rfl rfl rfl) ?_|refine sQ (hq:=Bi rfl rfl rfl rfl) ?_|refine sQ ?_|refine Fy ?_|refine sG ?_|refine Mg (hk:=?_)));exact Lr rfl)):W8 P C (.region id l.toArray false) Q ⟨t,h⟩:=W8.region (CK (fun s e=>by subst e;exact hk) hx)
theorem Ww(hk:W8 P C y Q ⟨t',h'⟩)(hx:Cs P C l.toArray (fun s=>s=⟨t',h'⟩) l ⟨t,h⟩:=by((repeat(first|refine sQ (hq:=Bs rfl rfl rfl rfl) ?_|refine sQ (hq:=Bi rfl rfl rfl rfl) ?_|refine sQ ?_|refine Fy ?_|refine sG ?_|refine Mg (hk:=?_)));exact Lr rfl)):W8 P C (.seq (.region id l.toArray false) y) Q ⟨t,h⟩:=Aq fun _ hK=>W8.region (CK (fun s e=>by subst e;exact hK _ hk) hx)
end
end Mu
end
section
namespace Mu
open Go Go.RowKit Go.Proofs
section
variable{P:Program}{C:Ctx}{o:Oper}{t:List AV}{h:List ABlk}
end
end Mu
end
section
namespace Mu
open Go Go.RowKit Go.ChangeShapes Go.WideShapes Go.Proofs
class IntT(P:Program)(ty:TypeId)(k:outParam IntKind):Prop where
 eq:P.underlying ty=some (.int k)
section
variable{P:Program}{C:Ctx}{o:Oper}{t:List AV}{h:List ABlk}
theorem Mb{src dst:TypeId}{x:Operand}{k q q':IntKind}{n m:Int}[IntT P src q'][IntT P dst k](ho:o.op= .convert src dst x)(hx:WO t x= .lit (.int q n))(hm:k.wrap n=m):Az P C t h o (.lit (.int k m)):=
 AL fun S ψ w ρ _ hρ=>by
  have h1:=hρ x (by simp[ho,Op.operands]);rw[hx]at h1;unfold AV.rel at h1;have hd:P.underlying dst=some (.int k):=IntT.eq;have hs:(P.underlying src).isSome=true:=by rw[IntT.eq (P:=P) (ty:=src)];rfl
  have hk:P.intKind dst=k:=by simp[Program.intKind,hd]
  have hr:=run_convert_int w src dst q n hs (by rw[hk];exact hd);rw[hk]at hr;refine⟨.int k (k.wrap n),?_,by rw[hm];unfold AV.rel;rfl⟩;simp[execOp,ho,h1,hr]
end
instance U8:IntT Try.prog 3 .i64:=⟨by kernel_rfl⟩
instance Uz:IntT Try.prog 5 .u8:=⟨by kernel_rfl⟩
end Mu
end
section
namespace Mu
open Go Go.RowKit Go.Proofs
section
variable{P:Program}{C:Ctx}{t:List AV}{h:List ABlk}{o:Oper}
def Mc(P:Program)(f:FuncId)(args:List AV)(e:TypeId){α:Type}(T:Ty α)(l:List α):Prop:=
 Dl P f=true∧∀(w:World) (S:Nat→Prop) (vs:List Value),(∀k,S k→k < w.heap.size)→Ah w S [] ψ0 args vs→
  Calls P f vs.toArray w fun r w'=>∃v cells,r= .returned v∧Below w.heap.size w w'∧w'.ownsRow w.heap.size e T.size v l.length cells∧∀i d,l[i]? =some d→T.RS w' S ((cells.drop (i * T.size)).take T.size) d
theorem RU{w:World}{e:TypeId}{α:Type}{T:Ty α}{l:List α}{ver base n sz:Nat}{cells:List Value}{v:Value}(hv:w.ownsRow base e sz v n cells):∀g,WL (some (.row ver e T l)) v g→base≤g:=fun g hg=>by
 obtain⟨_,⟨rfl,_⟩|⟨g',cap,cur,rfl,hb,_⟩⟩:=hv
 ·simp[WL,Bl]at hg
 ·simp[WL,Bl]at hg;omega
end
theorem MM{w:World}{e:TypeId}{sz n base:Nat}{v:Value}{cells:List Value}(h:w.ownsRow 0 e sz v n cells)(hg:∀g,v.ownBlock=some g→base≤g):w.ownsRow base e sz v n cells:=by
 obtain⟨h1,h2|⟨g,cap,cur,rfl,_,h3⟩⟩:=h
 ·exact⟨h1,.inl h2⟩
 ·exact⟨h1,.inr ⟨g,cap,cur,rfl,hg g rfl,h3⟩⟩
def VU(t:Tmp)(e:TypeId){α:Type}(T:Ty α)(l:List α):Exit→St→Prop:=fun ex s=>(ex= .normal∨ex= .ret)∧WE s.h= []∧∃i ver,WO s.t (.tmp t)= .own i ver∧s.h[i]? =some (.row ver e T l)
theorem F8{P:Program}{f:FuncId}{fn:Go.Func}{c:Code}{args:List AV}{e:TypeId}{α:Type}{T:Ty α}{l:List α}{t:Tmp}{n:Nat}(hf:P.funcs[f]? =some fn)(hb:fn.body=some c)(hE:Dl P f=true)(hres:fn.results= #[.tmp t])(hn:fn.ntmps=n)
 (hT:∀w S S' cs d,T.RS w S cs d→T.RS w S' cs d)
 (h:∀C:Ctx,C.std→W8 P C c (VU t e T l) ⟨args++List.replicate (n - args.length) (.lit undef),[]⟩):Mc P f args e T l:=by
 refine⟨hE,fun w S vs hS hr=>calls_of_wp hf hb ?_⟩;rw[hn];refine wp_mono ((h ⟨w,S,fun k=>k < w.heap.size,none⟩ (fun _ h=>h)).wp rfl (Hd hS hr)) ?_;rintro ex a' w' ⟨s,⟨he,hm,i,ver,hx,hi⟩,hd,S1,ψ,H,hl⟩;rw[hm]at hd;have hv:=BC hl (.tmp t);rw[hx]at hv;unfold AV.rel at hv;have hv':=(hv.2 _ (by rw[hi];rfl)).2 rfl;obtain⟨cells,h1,_,h2,h3⟩:=H.blk i _ hi;have hres':(results fn a'.tmps).run P w'= .ok (a'.eval (.tmp t)) w':=results_tmp hres _ _ _;have hown:w'.ownsRow w.heap.size e T.size (ψ i) l.length cells:=MM h1 fun g hg=>Nat.le_of_not_lt fun hlt=>(h3 g hg).1 hlt
 rw[hv']at hres';have hR:∀j d,l[j]? =some d→T.RS w' S ((cells.drop (j * T.size)).take T.size) d:=fun j d hd=>hT _ _ _ _ _ (h2 j d hd)
 rcases he with rfl|rfl
 ·exact⟨hd,_,hres',_,cells,rfl,H.bel.below fun _ h=>h,hown,hR⟩
 ·exact⟨hd,_,hres',_,cells,rfl,H.bel.below fun _ h=>h,hown,hR⟩
def Li(P:Program)(f:FuncId)(e:TypeId){α:Type}(T:Ty α)(l:List α)(xs:List AV)(l':List α):Prop:=
 Dl P f=true∧∀(N S:Nat→Prop) (w:World) (v:Value) (vs:List Value),(∀k,N k→k < w.heap.size)→(∀k,S k→k < w.heap.size)→H5 N w S [] ψ0 v (.row 0 e T l)→Ah w S [] ψ0 xs vs→
  Calls P f (v::vs).toArray w fun x w'=>∃v',x= .returned v'∧w.grownBy w' (Bl v)∧H5 N w' S [] ψ0 v' (.row 0 e T l')∧∀g,Bl v'=some g→Bl v=some g∨w.heap.size≤g
theorem H4{P:Program}{f:FuncId}{fn:Go.Func}{c:Code}{e:TypeId}{α:Type}{T:Ty α}{l l':List α}{xs:List AV}{t:Tmp}{n:Nat}(hf:P.funcs[f]? =some fn)(hb:fn.body=some c)(hE:Dl P f=true)(hres:fn.results= #[.tmp t])(hn:fn.ntmps=n)(hflat:∀w S S' cs d,T.RS w S cs d→T.RS w S' cs d)
 (h:∀C:Ctx,W8 P C c (UX t e T l') ⟨(.own 0 0::xs)++List.replicate (n - (xs.length+1)) (.lit undef),[.row 0 e T l]⟩):Li P f e T l xs l':=by
 refine⟨hE,fun N S w v vs hN hS hB hr=>calls_of_wp hf hb ?_⟩;rw[hn];have hlv:=hB.lt rfl;have hst:St.rel ⟨w,S,fun k=>k < w.heap.size∧Bl v≠some k,none⟩ ⟨(.own 0 0::xs)++List.replicate (n - (xs.length+1)) (.lit undef),[.row 0 e T l]⟩ {tmps:=(v::vs).toArray++Array.replicate (n - (v::vs).toArray.size) undef,defers:=[]} w:=by
  refine⟨rfl,S,fun _=>v,⟨Kp.refl _ _,fun k hk=>hk.1,hS,fun _ h=>h,fun _ h=>.inl h,fun i b hi=>?_,fun i j hij hi hj=>?_⟩,?_⟩
  ·cases i with
   |zero=>
    simp only[List.getElem?_cons_zero,Option.some.injEq]at hi;subst hi;obtain⟨cells,k1,k2,k3,k4⟩:=hB;exact⟨cells,k1,k2,k3,fun g hg=>⟨fun hc=>hc.2 (AQ hg),(k4 g hg).2⟩⟩
   |succ i=>simp at hi
  ·cases i with
   |zero=>cases j with
    |zero=>exact absurd rfl hij
    |succ j=>simp[ABlk.live]at hj
   |succ i=>simp[ABlk.live]at hi
  ·have X:Ext w S [] ψ0 w S [.row 0 e T l] (fun _=>v):=⟨fun _ _=>rfl,fun _ h=>h,by simp,fun i c' hi=>by simp at hi,fun i hi=>by simp at hi⟩
   simp only[Array.toList_append,Array.toList_replicate];refine BD ?_ (DX (by simp[Bh hr]) fun i x u hx hu=>?_)
   ·unfold Ah;refine⟨v,vs,rfl,?_,AC X _ _ hr⟩;unfold AV.rel;refine⟨by simp,fun c hc=>?_⟩;simp[ABlk.ver]at hc;exact⟨by omega,fun _=>rfl⟩
   ·rw[List.getElem?_replicate]at hx hu;split at hx <;> cases hx
    split at hu <;> cases hu
    unfold AV.rel;rfl
 refine wp_mono ((h ⟨w,S,fun k=>k < w.heap.size∧Bl v≠some k,none⟩).wp rfl hst) ?_;rintro x a' w' ⟨s,⟨hx,i,ver,hev,hi,hmk⟩,hd,S1,ψ,H,hl⟩;rw[hmk]at hd;have hv:=BC hl (.tmp t);rw[hev]at hv;unfold AV.rel at hv;have hv':=(hv.2 _ (by rw[hi];rfl)).2 rfl;have hBi:=H.blk i _ hi;have hlt:=hBi.lt rfl;have hres':(results fn a'.tmps).run P w'= .ok (a'.eval (.tmp t)) w':=results_tmp hres _ _ _;have hg:w.grownBy w' (Bl v):=⟨H.bel.os,H.bel.tape,H.bel.output,H.bel.size,fun k hk hne=>H.bel.block k ⟨hk,fun e=>hne e.symm⟩⟩
 have hfin:∃v',Ending.returned (a'.eval (.tmp t))= .returned v'∧w.grownBy w' (Bl v)∧H5 N w' S [] ψ0 v' (.row 0 e T l')∧∀g,Bl v'=some g→Bl v=some g∨w.heap.size≤g:=by
  have hor:∀g,Bl (ψ i)=some g→Bl v=some g∨w.heap.size≤g:=fun g hgg=>by
   have:=(hlt g hgg).1;by_cases hc:Bl v=some g
   ·exact .inl hc
   ·exact .inr (Nat.le_of_not_lt fun h=>this ⟨h,hc⟩)
  obtain⟨cells,k1,k2,k3,k4⟩:=hBi;rw[hv'];refine⟨_,rfl,hg,⟨cells,k1,k2,?_,fun g hgg=>?_⟩,hor⟩
  ·intro j d hj;exact hflat _ _ _ _ _ (k3 j d hj)
  ·refine⟨fun hNg=>?_,fun hSg=>(k4 g hgg).2 (H.sub g hSg)⟩;rcases hor g (AQ hgg)with h1|h1
   ·exact(hlv g h1).1 hNg
   ·have:=hN g hNg;omega
 rcases hx with rfl|rfl
 ·exact⟨hd,_,hres',hfin⟩
 ·exact⟨hd,_,hres',hfin⟩
section
variable{P:Program}{C:Ctx}{o:Oper}{t:List AV}{h:List ABlk}
theorem Mz{f:FuncId}{x:Operand}{args:Array Operand}{tys:Array TypeId}{cs:Array Value}(ho:o.op= .call {callee:=.value x,args:=args,argTypes:=tys})(hE:Dl P f=true)(ρ:Operand→Value)(w:World)(hρ:ρ x= .func (.func f) #[] cs):
 (execOp ρ o).run P w= .ok (.enter f (args.map ρ++cs)) w:=by
 unfold Dl at hE;cases hf:P.funcs[f]? with
 |none=>rw[hf]at hE;cases hE
 |some fn=>
  rw[hf]at hE;simp only[Bool.and_eq_true,Bool.not_eq_true']at hE;have h1:¬fn.name= "runtime.NumGoroutine" :=by simpa using hE.1
  have h2:¬fn.body=none:=fun e=>by have:=hE.2;rw[e]at this;cases this
  simp[execOp,ho,resolve,Deferred.ofValue,hρ,invoke,callFunc,hf,h1,h2]
theorem Fb{f:FuncId}{cap:Array Operand}(ho:o.op= .makeFunc (.func f) #[] cap):Az P C t h o (.fn f (cap.toList.map (WO t))):=
 AL fun S ψ w ρ H hρ=>by
  have hl:Ah w S h ψ (cap.toList.map (WO t)) (cap.toList.map ρ):=Cm fun x hx=>hρ x (by rw[ho];simpa[Op.operands]using hx)
  refine⟨.func (.func f) #[] (cap.map ρ),by simp[execOp,ho,Instr.makeFunc],?_⟩;unfold AV.rel;exact⟨_,by rw[←Array.toList_map],hl⟩
theorem KZ:∀l m:List AV,Bm (l++m)=(Bm l&&Bm m)
 | [],m=>by simp[Bm]
 |x::l,m=>by
  have e:∀y k,Bm (y::k)=(AV.cl y&&Bm k):=fun _ _=>by rw[Bm]
  rw[List.cons_append,e,e,KZ l m,Bool.and_assoc]
mutual
theorem L5(n:Nat):∀x:AV,AV.cl x=true→ID n x=true
 | .any,_=>rfl
 | .lit _,_=>rfl
 | .bs _ _,_=>rfl
 | .tv _ _,_=>rfl
 | .own _ _,h=>by simp[AV.cl]at h
 | .ptr _ _,h=>by simp[AV.cl]at h
 | .rp _ _ _ _,h=>by simp[AV.cl]at h
 | .bp _ _ _,_=>rfl
 | .agg l,h=>by unfold AV.cl at h;unfold ID;exact HP n l h
 | .tup l,h=>by unfold AV.cl at h;unfold ID;exact HP n l h
 | .fn _ l,h=>by unfold AV.cl at h;unfold ID;exact HP n l h
theorem HP(n:Nat):∀l:List AV,Bm l=true→H6 n l=true
 | [],_=>rfl
 |x::l,h=>by
  unfold Bm at h;rw[Bool.and_eq_true]at h;unfold H6;rw[L5 n x h.1,HP n l h.2];rfl
end
theorem OB{f:FuncId}{x:Operand}{args:Array Operand}{tys:Array TypeId}{l xs:List AV}{r:AV}(ho:o.op= .call {callee:=.value x,args:=args,argTypes:=tys})(hv:WO t x= .fn f l)(hx:args.toList.map (WO t)++l=xs)(hF:Fn P f xs r)(hc1:Bm (args.toList.map (WO t))=true)(hc2:Bm l=true)(hr:AV.cl r=true):Az P C t h o r:=by
 have hc:Bm xs=true:=by rw[←hx,KZ,hc1,hc2];rfl
 intro S ψ w ρ H hρ;have h1:=hρ x (by rw[ho];exact Array.mem_append.2 (.inl (by simp)));rw[hv]at h1;unfold AV.rel at h1;obtain⟨cs,e,hcs⟩:=h1;rw[Mz ho hF.1 ρ w e];refine⟨rfl,?_⟩;have h2:Ah w S h ψ xs (args.toList.map ρ++cs):=by
  rw[←hx];exact BD (Cm fun x hx'=>hρ x (by rw[ho];exact Array.mem_append.2 (.inr (Array.mem_toList_iff.1 hx')))) hcs
 have h3:=hF.2 w S (args.toList.map ρ++cs) H.lt (B5 _ _ hc h2);rw[show(args.map ρ++cs.toArray)=(args.toList.map ρ++cs).toArray from(by simp)];refine h3.mono ?_;rintro e w' ⟨v,he,hb,S',k1,k2,k3,k4⟩;exact⟨v,he,hb,S',k1,k2,k3,DU _ _ hr k4⟩
mutual
inductive LendV (h:List ABlk):AV→AV→Prop
 |cl {x:AV} (hx:AV.cl x=true):LendV h x x
 |own {i ver:Nat} {e:TypeId} {α:Type} {T:Ty α} {d:List α} (hi:h[i]? =some (.row ver e T d)):LendV h (.own i ver) (.bs T d)
 |box {i off:Nat} {cells:List AV} {α:Type} {T:Ty α} {d:α} (hi:h[i]? =some (.box cells)) (hn:((cells.drop off).take T.size).length=T.size) (hp:∀(C:Ctx) (S:Nat→Prop) (ψ:Nat→Value) (w:World) (cs:List Value),HRel C h S ψ w→Ah w S h ψ ((cells.drop off).take T.size) cs→T.RS w S cs d):LendV h (.ptr i off) (.bp T d 0)
 |fn {f:FuncId} {l l':List AV} (hl:LendL h l l'):LendV h (.fn f l) (.fn f l')
 |fl {f:FuncId}:LendV h (.lit (.func (.func f) #[] #[])) (.fn f [])
inductive LendL (h:List ABlk):List AV→List AV→Prop
 |nil:LendL h [] []
 |cons {x x':AV} {l l':List AV} (hx:LendV h x x') (hl:LendL h l l'):LendL h (x::l) (x'::l')
end
mutual
theorem LendV.rel{w:World}{S:Nat→Prop}{ψ:Nat→Value}(H:HRel C h S ψ w):∀{x x':AV} {v:Value},LendV h x x'→AV.rel w S h ψ x v→AV.rel w (fun k=>k < w.heap.size) [] ψ0 x' v
 |x,_,v,.cl hx,hr=>DU _ _ hx (Gu (Ext.grow h ψ (fun _ _=>rfl) H.lt:Ext w S h ψ w (fun k=>k < w.heap.size) h ψ) _ _ hr)
 |_,_,v,.own (i:=i) hi,hr=>by
  unfold AV.rel at hr⊢;have hv:=(hr.2 _ (by rw[hi];rfl)).2 rfl;subst hv;obtain⟨cells,k1,k0,k2,k3⟩:=H.blk _ _ hi;exact DN k1 (fun i d hd=>Ty.keepS _ (k2 i d hd) (fun _ _=>rfl) H.lt) fun g hg=>(World.ownsRow.lt k1 g hg).2
 |_,_,v,.box (i:=i) (off:=off) (cells:=cells) (T:=T) (d:=d) hi hn hp,hr=>by
  unfold AV.rel at hr⊢;obtain⟨g,hg,hv⟩:=hr.2 (by rw[hi];rfl);obtain⟨g',cs,e,hg',_,_,hw,hcs⟩:=H.blk _ _ hi;rw[hg]at hg';cases hg';have hlt:g < w.heap.size:=(Array.getElem?_eq_some_iff.1 hw).1;have hl:=Hj (Hm hcs off) T.size;refine⟨g,off,by rw[hv];rfl,hlt,(cs.drop off).take T.size,Ty.keepS _ (hp C S ψ w _ H hl) (fun _ _=>rfl) H.lt,fun j u hj=>?_⟩;rw[List.getElem?_take]at hj;split at hj
  ·rw[List.getElem?_drop]at hj;have:w.cell? ⟨g,off+0+j,none⟩=some u:=by
    unfold World.cell?;rw[hw];simpa using hj
   simpa using this
  ·cases hj
 |_,_,v,.fn hl,hr=>by
  unfold AV.rel at hr⊢;obtain⟨cs,e,hcs⟩:=hr;exact⟨cs,e,LendL.rel H hl hcs⟩
 |_,_,v,.fl,hr=>by
  unfold AV.rel at hr⊢;exact⟨[],hr,by unfold Ah;rfl⟩
theorem LendL.rel{w:World}{S:Nat→Prop}{ψ:Nat→Value}(H:HRel C h S ψ w):∀{l l':List AV} {vs:List Value},LendL h l l'→Ah w S h ψ l vs→Ah w (fun k=>k < w.heap.size) [] ψ0 l' vs
 |_,_,vs,.nil,hr=>by
  unfold Ah at hr⊢;exact hr
 |_,_,vs,.cons hx hl,hr=>by
  unfold Ah at hr⊢;obtain⟨v,vs',e,h1,h2⟩:=hr;exact⟨v,vs',e,LendV.rel H hx h1,LendL.rel H hl h2⟩
end
end
section
variable{P:Program}{C:Ctx}
theorem Sj{ops:Array Oper}{h:List ABlk}{K K':List AV→Prop}(hk:∀s,K s→K' s):∀{l:List Oper} {t:List AV},aQ P C ops h K l t→aQ P C ops h K' l t
 | [],s,h=>hk s h
 |o::rest,t,h=>by
  obtain⟨r,h1,h2⟩:=h;exact⟨r,h1,Sj hk h2⟩
theorem AF{t:List AV}{h:List ABlk}{o:Oper}{f:FuncId}{args:Array Operand}{tys:Array TypeId}{xs:List AV}{r:AV}
 (ho:o.op= .call {callee:=.value (.func f),args:=args,argTypes:=tys}) (hx:args.toList.map (WO t)=xs) (hF:Fn P f xs r) (hc:Bm xs=true) (hr:AV.cl r=true):Az P C t h o r:=Az.call ho hF hx hc hr
theorem HW{t:List AV}{h:List ABlk}{o:Oper}{c a b:Operand}{q e:Bool}(ho:o.op= .pick c a b)(hc:WO t c= .lit (.bool q))(ha:WO t a= .lit (.bool true))(hb:WO t b=cond (!q) (.lit (.bool e)) (.lit undef)):Az P C t h o (.lit (.bool (q||e))):=
 Bs ho hc ha (by rw[hb];cases q <;> rfl)
theorem EM{t:List AV}{h:List ABlk}{o:Oper}{c a b:Operand}{q e:Bool}(ho:o.op= .pick c a b)(hc:WO t c= .lit (.bool q))(ha:WO t a=cond q (.lit (.bool e)) (.lit undef))(hb:WO t b= .lit (.bool false)):Az P C t h o (.lit (.bool (q&&e))):=
 Bi ho hc (by rw[ha];cases q <;> rfl) hb
section
variable{t t' t'':List AV}{h h' h'':List ABlk}{o:Oper}{r:AV}{ops:Array Oper}{rest:List Oper}{K:St→Prop}
theorem Wz (hq:Az P C t h o r:=by(first
 |exact AF rfl rfl (by assumption) rfl rfl
 |exact Az.callTA rfl rfl (by assumption) (by assumption) (by assumption) (by assumption) rfl rfl
 |exact BV rfl rfl rfl (by assumption)
 |exact Bs rfl rfl rfl rfl
 |exact Bi rfl rfl rfl rfl
 |exact HW rfl rfl rfl rfl
 |exact EM rfl rfl rfl rfl
 |exact Az.pickOr' rfl rfl rfl rfl
 |exact Az.pickAnd' rfl rfl rfl rfl
 |exact Az.move rfl (by(conv=>lhs;whnf);try rfl)
 |exact Az.assign rfl (by(conv=>lhs;whnf);try rfl)
 |exact Cu rfl rfl rfl
 |exact Dv rfl rfl
 |exact B1 rfl rfl rfl
 |exact Az.faL rfl rfl
 |exact BF rfl rfl rfl rfl
 |exact BU rfl rfl rfl
 |exact AO rfl rfl rfl (by assumption) rfl
 |exact AB rfl rfl rfl rfl
 |exact DC rfl rfl rfl
 |exact Jq rfl rfl rfl rfl (by assumption)
 |exact F6 rfl rfl rfl rfl (by first|decide|omega) (by assumption)
 |exact H3 rfl rfl rfl rfl rfl (by first|assumption|omega)
 |exact Fc rfl rfl rfl rfl rfl (by first|decide|omega) (by first|assumption|omega)
 |exact Az.ixl0 rfl rfl rfl (by first|assumption|omega)
 |exact Az.ln rfl rfl
 |exact F5 rfl rfl rfl
 |exact Az.lnl rfl rfl
 |exact Fv rfl rfl rfl (by omega)
 |exact Ft rfl rfl rfl (by omega)
 |exact Gt rfl rfl rfl rfl (by assumption)
 |exact BV rfl rfl rfl rfl
 |exact Eg rfl rfl
 |exact Az.pick rfl rfl (by(conv=>lhs;whnf);try rfl)
 |exact Az.extract rfl rfl rfl
 |exact HZ rfl rfl rfl (by rfl) (by decide) (by first|exact WZ.bool|exact WZ.bs|exact WZ.int (by assumption))
 |exact Az.max2 rfl rfl rfl
 |exact Az.min2 rfl rfl rfl
 |exact Bd (i:=0) rfl rfl rfl (by first|rfl|assumption) rfl
 |exact Bd (i:=1) rfl rfl rfl (by first|rfl|assumption) rfl
 |exact Bd (i:=2) rfl rfl rfl (by first|rfl|assumption) rfl
 |exact Bd (i:=3) rfl rfl rfl (by first|rfl|assumption) rfl
 |exact Bd (i:=4) rfl rfl rfl (by first|rfl|assumption) rfl
 |exact Bd (i:=5) rfl rfl rfl (by first|rfl|assumption) rfl
 |exact Bd (i:=6) rfl rfl rfl (by first|rfl|assumption) rfl
 |exact Bd (i:=7) rfl rfl rfl (by first|rfl|assumption) rfl
 |exact Bd (i:=8) rfl rfl rfl (by first|rfl|assumption) rfl
 |exact Az.ldAL (i:=1) rfl rfl rfl rfl rfl
 |exact Az.ldAL (i:=2) rfl rfl rfl rfl rfl
 |exact Az.ldAL (i:=3) rfl rfl rfl rfl rfl
 |exact Az.ldAL (i:=4) rfl rfl rfl rfl rfl
 |exact Az.ldAL (i:=5) rfl rfl rfl rfl rfl
 |exact Az.ldAL (i:=6) rfl rfl rfl rfl rfl
 |exact Az.ldAL (i:=7) rfl rfl rfl rfl rfl
 |exact Az.ldAL (i:=8) rfl rfl rfl rfl rfl
 |exact Az.eqb rfl rfl rfl (by assumption)
 |exact Az.eqb rfl rfl rfl rfl
 |exact Az.neb rfl rfl rfl (by assumption)
 |exact Az.neb rfl rfl rfl rfl
 |exact Az.eqSs rfl rfl rfl
 |exact Az.eqS rfl rfl rfl
 |exact Az.neS rfl rfl rfl
 |exact Az.lnS rfl rfl
 |exact Az.ixS rfl rfl rfl (by assumption)
 |exact Az.cat rfl rfl rfl (by first|assumption|omega)
 |exact Az.cut rfl rfl rfl rfl (by first|assumption|omega) (by first|assumption|omega)
 |exact Az.cutS rfl rfl rfl (by first|assumption|omega)
 |exact Az.shl rfl rfl rfl (by decide) (by assumption)
 |exact Az.shl rfl rfl rfl (by decide) rfl
 |exact Az.shr rfl rfl rfl (by decide) (by assumption)
 |exact Az.shr rfl rfl rfl (by decide) rfl
 |exact Az.bit rfl rfl rfl rfl (by assumption)
 |exact Az.bit rfl rfl rfl rfl rfl
 |exact Fb rfl
 |exact OB rfl rfl rfl (by assumption) rfl (by first|rfl|assumption) rfl
 |exact Mb rfl rfl (by assumption)
 |exact Mb rfl rfl rfl
 |exact Az.b2s rfl rfl
 |exact Az.s2b rfl rfl (by first|assumption|omega))):Az P C t h o r:=hq
theorem sA(hk:Cs P C ops K rest ⟨t',h⟩)(hg:gA ops t o=some true:=by rfl)(hq:Az P C t h o r:=by exact Wz)(ht:Bn t o.dst r=t':=by((try simp only[Bn,List.set_cons_zero,List.set_cons_succ]);exact rfl)):Cs P C ops K (o::rest) ⟨t,h⟩:=by
 subst ht;exact Si hg hq hk
theorem qA{K:List AV→Prop}(hk:aQ P C ops h K rest t')(hg:gA ops t o=some true:=by rfl)(hq:Az P C t h o r:=by exact Wz)(ht:Bn t o.dst r=t':=by((try simp only[Bn,List.set_cons_zero,List.set_cons_succ]);exact rfl)):aQ P C ops h K (o::rest) t:=by
 subst ht;exact V9 hg hq hk
end
section
variable{id:Nat}{l l1 l2:List Oper}{y:Code}{Q:Exit→St→Prop}{t t' t'':List AV}{h h':List ABlk}
theorem wR(hk:W8 P C y Q ⟨t',h'⟩)(hx:Cs P C l.toArray (fun s=>s=⟨t',h'⟩) l ⟨t,h⟩:=by((repeat(first|refine sA ?_|refine Fy ?_|refine sAG (hk:=?_)|refine Mg (hk:=?_)));exact Lr rfl)):W8 P C (.seq (.region id l.toArray false) y) Q ⟨t,h⟩:=
 Aq fun _ hK=>W8.region (CK (fun s e=>by subst e;exact hK _ hk) hx)
theorem Wg(hk:Q .normal ⟨t',h'⟩)(hx:Cs P C l.toArray (fun s=>s=⟨t',h'⟩) l ⟨t,h⟩:=by((repeat(first|refine sA ?_|refine Fy ?_|refine sAG (hk:=?_)|refine Mg (hk:=?_)));exact Lr rfl)):W8 P C (.region id l.toArray false) Q ⟨t,h⟩:=
 W8.region (CK (fun s e=>by subst e;exact hk) hx)
end
theorem AA{t t':List AV}{h:List ABlk}(hb:WS h=true:=by rfl)(hf:Fgt h.length t t':=by((try simp only[Bn,List.set_cons_zero,List.set_cons_succ]);repeat(first|exact Fgt.nil|refine Fgt.keep rfl ?_|refine Fgt.any ?_|refine Fgt.keep (by first|assumption|exact L5 _ _ (by assumption)) ?_))):St.le C ⟨t,h⟩ ⟨t',h⟩:=Sl hb hf
end
end Mu
end
section
namespace Mu
open Go Go.RowKit Go.ChangeShapes Go.WideShapes Go.Proofs
def TQ(g:Nat)(cells:List Value)(e:TypeId):Res:=⟨[],fun k=>k=g,fun w _=>w.heap[g]? =some (.cells cells.toArray e (0,0)),fun h hk _ _=>(hk g rfl).trans h⟩
section
variable{P:Program}{C:Ctx}{t:List AV}{h:List ABlk}{o:Oper}{K:St→Prop}
end
section
variable{P:Program}{C:Ctx}{t:List AV}{h:List ABlk}{o:Oper}{K:St→Prop}
end
end Mu
end
section
namespace Mu
open Go Go.RowKit Go.Proofs
section
variable{P:Program}
end
end Mu
end
section
namespace Mu
open Go Go.RowKit Go.ChangeShapes Go.WideShapes Go.Proofs
theorem BR{P:Program}{C:Ctx}{t:List AV}{h:List ABlk}{o:Oper}{ty:TypeId}{parts:Array (Nat×Operand)}{zs:List Value}{pl:List (Nat×Nat)}{rs:List AV}[ZC P ty zs](ho:o.op= .build ty parts)(hpl:GQ P ty=some pl)
 (hr:putCells pl (zs.map .lit) (parts.toList.map fun p=>(p.1,WO t p.2))=some rs) (h1:(parts.toList.all fun p=>S9 (WO t p.2))=true):Az P C t h o (.agg rs):=
 Az.build ho ZC.eq hpl hr fun p hp=>Nz (List.all_eq_true.1 h1 p hp)
end Mu
end
section
namespace Mu
open Go Go.RowKit Go.Proofs
def ixD{α:Type}[Inhabited α](l:List α)(z:Int):α:=l.getD z.toNat default
def Bq{α:Type}(l:List α)(z:Int):Bool:=decide (0≤z)&&decide (z.toNat < l.length)
theorem Bt{α:Type}{l:List α}{z:Int}:Bq l z=true↔0≤z∧z.toNat < l.length:=by unfold Bq;simp
theorem A0{α:Type}[Inhabited α]{l:List α}{z:Int}(h:Bq l z=true):l[z.toNat]? =some (ixD l z):=by
 have h1:=(Bt.1 h).2;unfold ixD;rw[List.getD_eq_getElem?_getD,List.getElem?_eq_getElem h1];rfl
theorem Bj{α:Type}[Inhabited α]{l:List α}{k:Nat}{x:α}(h:l[k]? =some x):ixD l (k:Int)=x:=by
 unfold ixD;rw[Int.toNat_natCast,List.getD_eq_getElem?_getD,h];rfl
theorem AW{α:Type}{l:List α}{k:Nat}(h:k < l.length):Bq l (k:Int)=true:=Bt.2 ⟨by omega,by simpa using h⟩
def Wk{α:Type}(l:List α)(a b:Int):Bool:=decide (0≤a)&&decide (a≤b)&&decide (b.toNat≤l.length)
def Wj{α:Type}(l:List α)(a b:Int):List α:=(l.take b.toNat).drop a.toNat
def GC(n bytes:Nat):Bool:=decide (n≤maxLen)&&decide (n * bytes≤140737488355328)
def JW(z:Int)(bytes:Nat):Bool:=decide (0≤z)&&decide (z.toNat≤maxLen)&&decide (bytes * z.toNat≤281474976710656)
def VO(s:ByteArray):Bool:=decide (s.size≤maxLen)
def Wd(k:IntKind)(a:Int):Bool:=(Lit.int k a).wf
theorem EQ{k:IntKind}{a:Int}(h:Wd k a=true):Wc k a:=h
theorem OS{n b:Nat}(h:GC n b=true):n≤maxLen:=by unfold GC at h;simp at h;exact h.1
theorem KR{n b:Nat}(h:GC n b=true):n * b≤140737488355328:=by unfold GC at h;simp at h;exact h.2
theorem QU{s:ByteArray}(h:VO s=true):s.size≤maxLen:=of_decide_eq_true h
theorem PU{k:IntKind}{a b:Int}(h:(b !=0)=true):J0 .rem k a b=some (.int k (a.tmod b)):=by
 have:b≠0:=by simpa using h
 show(if b=0 then none else some (Value.int k (a.tmod b)))=_;rw[if_neg this]
theorem FU{g p:Bool}(h:(!g||p)=true)(hg:g=true):p=true:=by subst hg;simpa using h
theorem KE{a b:Bool}(h:(a&&b)=true):a=true:=by cases a;cases h;rfl
theorem GE{α:Type 1}{a b:Bool}(h:a=true)(x y:α):(bif a&&b then x else y)=bif b then x else y:=by subst h;rfl
theorem B7{α:Type 1}{b:Bool}(h:b=true)(x y:α):(bif b then x else y)=x:=by subst h;rfl
theorem VM{α:Type 1}{b:Bool}(h:b=false)(x y:α):(bif b then x else y)=y:=by subst h;rfl
theorem Hg{x0 r:AV}{l:List AV}:Bn (x0::l) (some 0) r=r::l:=rfl
theorem IF{x0 x1 r:AV}{l:List AV}:Bn (x0::x1::l) (some 1) r=x0::r::l:=rfl
theorem GL{x0 x1 x2 r:AV}{l:List AV}:Bn (x0::x1::x2::l) (some 2) r=x0::x1::r::l:=rfl
theorem Hf{x0 x1 x2 x3 r:AV}{l:List AV}:Bn (x0::x1::x2::x3::l) (some 3) r=x0::x1::x2::r::l:=rfl
theorem JC{x0 x1 x2 x3 x4 r:AV}{l:List AV}:Bn (x0::x1::x2::x3::x4::l) (some 4) r=x0::x1::x2::x3::r::l:=rfl
theorem Ge{x0 x1 x2 x3 x4 x5 r:AV}{l:List AV}:Bn (x0::x1::x2::x3::x4::x5::l) (some 5) r=x0::x1::x2::x3::x4::r::l:=rfl
theorem Id{x0 x1 x2 x3 x4 x5 x6 r:AV}{l:List AV}:Bn (x0::x1::x2::x3::x4::x5::x6::l) (some 6) r=x0::x1::x2::x3::x4::x5::r::l:=rfl
theorem GK{x0 x1 x2 x3 x4 x5 x6 x7 r:AV}{l:List AV}:Bn (x0::x1::x2::x3::x4::x5::x6::x7::l) (some 7) r=x0::x1::x2::x3::x4::x5::x6::r::l:=rfl
theorem Al{x0 x1 x2 x3 x4 x5 x6 x7 r:AV}{l l':List AV}{k:Nat}(e:Bn l (some k) r=l'):Bn (x0::x1::x2::x3::x4::x5::x6::x7::l) (some (k+8)) r=x0::x1::x2::x3::x4::x5::x6::x7::l':=by subst e;rfl
theorem Ak{x0 x1 x2 x3 x4 x5 x6 x7 x8 x9 x10 x11 x12 x13 x14 x15 x16 x17 x18 x19 x20 x21 x22 x23 x24 x25 x26 x27 x28 x29 x30 x31 r:AV}{l l':List AV}{k:Nat}(e:Bn l (some k) r=l'):Bn (x0::x1::x2::x3::x4::x5::x6::x7::x8::x9::x10::x11::x12::x13::x14::x15::x16::x17::x18::x19::x20::x21::x22::x23::x24::x25::x26::x27::x28::x29::x30::x31::l) (some (k+32)) r=x0::x1::x2::x3::x4::x5::x6::x7::x8::x9::x10::x11::x12::x13::x14::x15::x16::x17::x18::x19::x20::x21::x22::x23::x24::x25::x26::x27::x28::x29::x30::x31::l':=by subst e;rfl
theorem Kv{x0:AV}{l:List AV}:WO (x0::l) (.tmp 0)=x0:=rfl
theorem J4{x0 x1:AV}{l:List AV}:WO (x0::x1::l) (.tmp 1)=x1:=rfl
theorem M1{x0 x1 x2:AV}{l:List AV}:WO (x0::x1::x2::l) (.tmp 2)=x2:=rfl
theorem Gx{x0 x1 x2 x3:AV}{l:List AV}:WO (x0::x1::x2::x3::l) (.tmp 3)=x3:=rfl
theorem IN{x0 x1 x2 x3 x4:AV}{l:List AV}:WO (x0::x1::x2::x3::x4::l) (.tmp 4)=x4:=rfl
theorem H8{x0 x1 x2 x3 x4 x5:AV}{l:List AV}:WO (x0::x1::x2::x3::x4::x5::l) (.tmp 5)=x5:=rfl
theorem Iu{x0 x1 x2 x3 x4 x5 x6:AV}{l:List AV}:WO (x0::x1::x2::x3::x4::x5::x6::l) (.tmp 6)=x6:=rfl
theorem Ji{x0 x1 x2 x3 x4 x5 x6 x7:AV}{l:List AV}:WO (x0::x1::x2::x3::x4::x5::x6::x7::l) (.tmp 7)=x7:=rfl
theorem Aw{x0 x1 x2 x3 x4 x5 x6 x7 r:AV}{l:List AV}{k:Nat}(e:WO l (.tmp k)=r):WO (x0::x1::x2::x3::x4::x5::x6::x7::l) (.tmp (k+8))=r:=e
theorem Ar{x0 x1 x2 x3 x4 x5 x6 x7 x8 x9 x10 x11 x12 x13 x14 x15 x16 x17 x18 x19 x20 x21 x22 x23 x24 x25 x26 x27 x28 x29 x30 x31 r:AV}{l:List AV}{k:Nat}(e:WO l (.tmp k)=r):WO (x0::x1::x2::x3::x4::x5::x6::x7::x8::x9::x10::x11::x12::x13::x14::x15::x16::x17::x18::x19::x20::x21::x22::x23::x24::x25::x26::x27::x28::x29::x30::x31::l) (.tmp (k+32))=r:=e
theorem Mk{l:List AV}{v:Value}:WO l (.const v)= .lit v:=rfl
theorem Mw{l:List AV}{r:AV}:Bn l none r=l:=rfl
inductive Up:AV→AV→Prop
 |refl (x:AV):Up x x
 |nil {α:Type} (T:Ty α):Up (.lit (.slice none 0 0)) (.bs T [])
 |agg {l l':List AV}:l.length=l'.length→(∀(i:Nat) (x y:AV),l[i]? =some x→l'[i]? =some y→Up x y)→Up (.agg l) (.agg l')
 |tup {l l':List AV}:l.length=l'.length→(∀(i:Nat) (x y:AV),l[i]? =some x→l'[i]? =some y→Up x y)→Up (.tup l) (.tup l')
theorem Up.rel{w:World}{S:Nat→Prop}{h:List ABlk}{ψ:Nat→Value}{x y:AV}(hu:Up x y):∀{v:Value},AV.rel w S h ψ x v→AV.rel w S h ψ y v:=by
 induction hu with
 |refl x=>exact fun h=>h
 |nil T=>
  intro v H;unfold AV.rel at H⊢;rw[H];exact T.slice_nilS _ _
 |@agg l l' hlen hi ih=>
  intro v H;unfold AV.rel at H⊢;obtain⟨cs,e,hl⟩:=H;refine⟨cs,e,DX (by rw[Bh hl,hlen]) fun i y u hy hu=>?_⟩;have hlt:i < l.length:=by rw[hlen];exact(List.getElem?_eq_some_iff.1 hy).1
  obtain⟨x,hx⟩:∃x,l[i]? =some x:=⟨_,List.getElem?_eq_getElem hlt⟩
  obtain⟨u',h1,h2⟩:=Bu hl hx;rw[h1]at hu;cases hu;exact ih i x y hx hy h2
 |@tup l l' hlen hi ih=>
  intro v H;unfold AV.rel at H⊢;obtain⟨cs,e,hl⟩:=H;refine⟨cs,e,DX (by rw[Bh hl,hlen]) fun i y u hy hu=>?_⟩;have hlt:i < l.length:=by rw[hlen];exact(List.getElem?_eq_some_iff.1 hy).1
  obtain⟨x,hx⟩:∃x,l[i]? =some x:=⟨_,List.getElem?_eq_getElem hlt⟩
  obtain⟨u',h1,h2⟩:=Bu hl hx;rw[h1]at hu;cases hu;exact ih i x y hx hy h2
inductive UpL:List AV→List AV→Prop
 |nil:UpL [] []
 |cons {x y:AV} {l l':List AV}:Up x y→UpL l l'→UpL (x::l) (y::l')
theorem UpL.len{l l':List AV}(h:UpL l l'):l.length=l'.length:=by
 induction h with
 |nil=>rfl
 |cons _ _ ih=>simp[ih]
theorem UpL.get{l l':List AV}(h:UpL l l'):∀(i:Nat) (x y:AV),l[i]? =some x→l'[i]? =some y→Up x y:=by
 induction h with
 |nil=>intro i x y hx;simp at hx
 |cons h1 _ ih=>
  intro i x y hx hy;cases i with
  |zero=>simp at hx hy;subst hx hy;exact h1
  |succ i=>exact ih i x y (by simpa using hx) (by simpa using hy)
theorem UpL.rel{w:World}{S:Nat→Prop}{h:List ABlk}{ψ:Nat→Value}{l l':List AV}(hu:UpL l l'){cs:List Value}(H:Ah w S h ψ l cs):Ah w S h ψ l' cs:=by
 refine DX (by rw[Bh H,hu.len]) fun i y u hy hv=>?_
 have hlt:i < l.length:=by rw[hu.len];exact(List.getElem?_eq_some_iff.1 hy).1
 obtain⟨x,hx⟩:∃x,l[i]? =some x:=⟨_,List.getElem?_eq_getElem hlt⟩
 obtain⟨u',h1,h2⟩:=Bu H hx;rw[h1]at hv;cases hv;exact(hu.get i x y hx hy).rel h2
theorem Qf{l l':List AV}(h:UpL l l'):Up (.agg l) (.agg l'):=.agg h.len h.get
section
variable{P:Program}{C:Ctx}{t t':List AV}{h h':List ABlk}{o:Oper}
theorem Ct{ty:TypeId}{x y:Operand}{ik:IntKind}{z:Int}{n:Nat}{α:Type}[Inhabited α]{T:Ty α}{l:List α}[ES P ty n](ho:o.op= .indexAddr ty x y)(hx:WO t x= .bs T l)(hy:WO t y= .lit (.int ik z))(hs:T.size=n)(hz:Bq l z=true):Az P C t h o (.bp T (ixD l z) 0):=
 F6 ho hx hy hs (Bt.1 hz).1 (A0 hz)
theorem AS{ty:TypeId}{x y:Operand}{ik:IntKind}{z:Int}{n i ver:Nat}{e:TypeId}{α:Type}{T:Ty α}{l:List α}[ES P ty n](ho:o.op= .indexAddr ty x y)(hx:WO t x= .own i ver)(hi:h[i]? =some (.row ver e T l))(hy:WO t y= .lit (.int ik z))(hs:T.size=n)(hz:Bq l z=true):Az P C t h o (.rp i ver z.toNat 0):=
 Fc ho hx hi hy hs (Bt.1 hz).1 (Bt.1 hz).2
theorem NS{α:Type}{l:List α}{a b:Int}:Wk l a b=true↔0≤a∧a≤b∧b.toNat≤l.length:=by unfold Wk;simp[and_assoc]
theorem OD{d:Nat}{y:Operand}{ik:IntKind}{a:Int}(hy:WO t y= .lit (.int ik a))(h0:0≤a):TY t d (some y) a.toNat:=⟨ik,by rw[hy];congr 2;omega⟩
theorem Lg{ty:TypeId}{x y:Operand}{n:Nat}{α:Type}{T:Ty α}{l:List α}{a:Int}{ik:IntKind}[ES P ty n](ho:o.op= .slice ty x (some y) none none)(hx:WO t x= .bs T l)(hs:T.size=n)(hy:WO t y= .lit (.int ik a))(hc:Wk l a (l.length:Int)=true):Az P C t h o (.bs T (Wj l a (l.length:Int))):=by
 obtain⟨h1,h2,h3⟩:=NS.1 hc;have:=Nu (P:=P) (C:=C) (h:=h) (lo:=some y) (hi:=none) (m:=l.length) ho hx hs (OD hy h1) rfl (by omega) (Nat.le_refl _);unfold Wj;rwa [Int.toNat_natCast]
theorem Qh{ty:TypeId}{x z:Operand}{n:Nat}{α:Type}{T:Ty α}{l:List α}{b:Int}{ik:IntKind}[ES P ty n](ho:o.op= .slice ty x none (some z) none)(hx:WO t x= .bs T l)(hs:T.size=n)(hz:WO t z= .lit (.int ik b))(hc:Wk l 0 b=true):Az P C t h o (.bs T (Wj l 0 b)):=by
 obtain⟨h1,h2,h3⟩:=NS.1 hc;exact Nu (lo:=none) (l:=0) ho hx hs rfl (OD hz h2) (by omega) h3
theorem Qi{xt yt:TypeId}{x y:Operand}{k:IntKind}{a b:Int}(ho:o.op= .binOp .rem xt x y yt)(hx:WO t x= .lit (.int k a))(hy:WO t y= .lit (.int k b))(hb:(b !=0)=true):Az P C t h o (.lit (.int k (a.tmod b))):=BV ho hx hy (PU hb)
theorem Gv{ty:TypeId}{x y:Operand}{i ver:Nat}{e:TypeId}{bytes n:Nat}{α:Type}{T:Ty α}{l l2:List α}{enc:α→List AV}{K:St→Prop}[RT P ty e n bytes][EncOf T enc](ho:o.op= .call {callee:=.builtin .append,args:=#[x,y],argTypes:=#[ty,ty]})
 (hx:WO t x= .own i ver) (hi:h[i]? =some (.row ver e T l)) (hy:WO t y= .bs T l2) (hs:T.size=n) (hb:GC (l.length+l2.length) bytes=true)
 (hK:K ⟨Bn t o.dst (.own i (ver+1)),h.set i (.row (ver+1) e T (l++l2))⟩):Xb P C o ⟨t,h⟩ K:=OI ho hx hi hy hs (OS hb) (KR hb) hK
theorem U0{ty:TypeId}{x y:Operand}{k k':IntKind}{z:Int}{e:TypeId}{v:Value}{bytes:Nat}{α:Type}{T:Ty α}{K:St→Prop}(d:α)(ho:o.op= .makeSlice ty x y)(hz:GI P ty=some (e,v,bytes))(hT:T.size=1)(hd0:∀w S,T.RS w S [v] d)
 (hx:WO t x= .lit (.int k z)) (hy:WO t y= .lit (.int k' z)) (hb:JW z bytes=true)
 (hK:K ⟨Bn t o.dst (.own h.length 0),h++[.row 0 e T (List.replicate z.toNat d)]⟩):Xb P C o ⟨t,h⟩ K:=by
 unfold JW at hb;simp only[Bool.and_eq_true,decide_eq_true_eq]at hb;obtain⟨⟨h0,h1⟩,h2⟩:=hb;have e1:z=((z.toNat:Nat):Int):=by omega
 rw[e1]at hx hy;exact U1 d ho hz hT hd0 hx hy h2 h1 hK
theorem DP{ops:Array Oper}{b:Bool}(hg:gA ops t o=some (b ==true)):gA ops t o=some b:=by rw[hg];cases b <;> rfl
theorem Qy{ops:Array Oper}{b:Bool}(hg:gA ops t o=some (b ==false)):gA ops t o=some (!b):=by rw[hg];cases b <;> rfl
theorem Kw{ops:Array Oper}{j:Nat}{q c:Bool}(ho:o.guard=some (j,true))(hd:((ops[j]?).bind (·.dst)).bind (t[·]?)=some (cond q (.lit (.bool c)) (.lit undef))):gA ops t o=some (q&&c):=by rw[VQ ho hd];cases c <;> rfl
theorem WZ.up{α:Type}{T:Ty α}{x y:AV}{d:α}(hu:Up x y)(hf:WZ h T y d):WZ h T x d:=fun C S ψ w v H hv=>hf C S ψ w v H (hu.rel hv)
theorem TF(hu:UpL t t'):St.le C ⟨t,h⟩ ⟨t',h⟩:=fun a w ⟨hd,S,ψ,H,hl⟩=>⟨hd,S,ψ,H,hu.rel hl⟩
theorem OL:∀t:List AV,UpL t t
 | []=>.nil
 |x::t=>.cons (.refl x) (OL t)
theorem QO:∀{t:List AV} {j:Nat} {x y:AV},t[j]? =some x→Up x y→UpL t (t.set j y)
 | [],_,_,_,h,_=>by simp at h
 |a::t,0,x,y,h,hu=>by
  simp at h;subst h;exact .cons hu (OL t)
 |a::t,j+1,x,y,h,hu=>.cons (.refl a) (QO (t:=t) (by simpa using h) hu)
theorem Jp(j:Nat){α:Type}(T:Ty α)(hj:t[j]? =some (.lit (.slice none 0 0)))(ht:t.set j (.bs T [])=t':=by((try simp only[List.set_cons_zero,List.set_cons_succ]);exact rfl)):St.le C ⟨t,h⟩ ⟨t',h⟩:=by
 subst ht;exact TF (QO hj (.nil T))
theorem Dk(j:Nat)(e:TypeId){α:Type}(T:Ty α)(hj:t[j]? =some (.lit (.slice none 0 0)))(h0:0 < T.size)(ht:t.set j (.own h.length 0)=t':=by((try simp only[List.set_cons_zero,List.set_cons_succ,List.length_nil,List.length_cons,Nat.reduceAdd]);exact rfl))(hh:h++[.row 0 e T []]=h':=by((try simp only[List.nil_append,List.cons_append]);exact rfl)):St.le C ⟨t,h⟩ ⟨t',h'⟩:=by
 subst ht hh;exact Kj j e T hj h0
theorem WH(hc:Cut h h')(hb:WS h'=true:=by rfl)(hf:Fgt h'.length t t':=by((try simp only[Bn,List.set_cons_zero,List.set_cons_succ]);repeat(first|exact Fgt.nil|refine Fgt.keep rfl ?_|refine Fgt.any ?_|refine Fgt.keep (by first|assumption|exact L5 _ _ (by assumption)) ?_)))(hm:WE h'=WE h:=by rfl):St.le C ⟨t,h⟩ ⟨t',h'⟩:=Sm hc hb hf hm
theorem WN{id:Nat}{Q:Exit→St→Prop}{s:St}(hq:Q .normal s):Ld id Q (.exit id) s:=by
 unfold Ld;simp[hq]
theorem AU{K:St→Prop}{Q:Exit→St→Prop}{id:Nat}{s:St}(hq:Q (.exit id) s):L6 K Q (.exit id) s:=hq
theorem WV{id:Nat}{Q:Exit→St→Prop}{s:St}(hq:Q .normal s):Ld id Q .normal s:=hq
theorem Xb.boxI{elem:TypeId}{x:Operand}{cells:List AV}{K:St→Prop}(i:Nat)(hi:h.length=i)(ho:o.op= .box elem x)(hp:Pn h (WO t x) cells)(hK:K ⟨Bn t o.dst (.ptr i 0),h++[.box cells]⟩):Xb P C o ⟨t,h⟩ K:=by
 subst hi;exact Xb.box (s:=⟨t,h⟩) ho hp hK
theorem Sy{elem:TypeId}{zs:List Value}{K:St→Prop}[ZC P elem zs](i:Nat)(hi:h.length=i)(ho:o.op= .alloc elem)(hK:K ⟨Bn t o.dst (.ptr i 0),h++[.box (zs.map .lit)]⟩):Xb P C o ⟨t,h⟩ K:=by
 subst hi;exact Sz ho hK
theorem H7{ty e:TypeId}{bytes n:Nat}{parts:Array (Nat×Operand)}{xs:List Operand}{α:Type}{T:Ty α}{ds:List α}{K:St→Prop}(i:Nat)(hi:h.length=i)(ho:o.op= .buildSlice ty n parts)(hp:parts=C6 xs)(hn:n=xs.length)
 (hT:JE P ty=some (e,T.size,bytes)) (h0:0 < T.size) (hsz:n * T.size≤16777216) (hf:Fits h T (xs.map (WO t)) ds) (hK:K ⟨Bn t o.dst (.own i 0),h++[.row 0 e T ds]⟩):Xb P C o ⟨t,h⟩ K:=by
 subst hi;exact Xb.lit (s:=⟨t,h⟩) ho hp hn hT h0 hsz hf hK
theorem Gd{ty:TypeId}{x y:Operand}{k k':IntKind}{z:Int}{e:TypeId}{v:Value}{bytes:Nat}{α:Type}{T:Ty α}{K:St→Prop}(i:Nat)(hi:h.length=i)(d:α)(ho:o.op= .makeSlice ty x y)(hz:GI P ty=some (e,v,bytes))(hT:T.size=1)(hd0:∀w S,T.RS w S [v] d)
 (hx:WO t x= .lit (.int k z)) (hy:WO t y= .lit (.int k' z)) (hb:JW z bytes=true)
 (hK:K ⟨Bn t o.dst (.own i 0),h++[.row 0 e T (List.replicate z.toNat d)]⟩):Xb P C o ⟨t,h⟩ K:=by
 subst hi;exact U0 d ho hz hT hd0 hx hy hb hK
theorem Dz{ops:Array Oper}{rest:List Oper}{K:St→Prop}(hk:Cs P C ops K rest ⟨t',h'⟩)(ht:t=t':=by exact rfl)(hh:h=h':=by((try simp only[List.nil_append,List.cons_append,List.set_cons_zero,List.set_cons_succ,List.take_zero,List.take_succ_cons,List.drop_succ_cons,List.drop_zero,List.drop_nil,List.take_nil,List.map_cons,List.map_nil,List.append_nil,List.length_cons,List.length_nil,Nat.zero_add,Nat.reduceAdd]);exact rfl)):Cs P C ops K rest ⟨t,h⟩:=by
 subst ht hh;exact hk
theorem Pk{ops:Array Oper}{K:St→Prop}{rest:List Oper}{s s':St}(hg:o.guard=none)(hle:St.le C s s')(hk:Cs P C ops K (o::rest) s'):Cs P C ops K (o::rest) s:=by
 obtain⟨b,h1,h2,h3⟩:=hk;have e:∀t,gA ops t o=some true:=fun t=>by unfold gA;rw[hg]
 rw[e]at h1;cases h1;exact⟨true,e _,fun _ Q' a w H=>h2 rfl Q' a w (hle a w H),fun h=>by cases h⟩
theorem AE{x y:Code}{Q:Exit→St→Prop}{s:St}{β:Type}(J:β→Prop)(G:β→St)(hx:W8 P C x (L6 (fun s'=>∃b,J b∧St.le C s' (G b)) Q) s)(hy:∀b,J b→W8 P C y Q (G b)):W8 P C (.seq x y) Q s:=
 Aq fun K hK=>hx.mono fun e s' q=>by
  cases e with
  |normal=>
   obtain⟨b,hJ,hle⟩:=q;exact hK s' ((hy b hJ).le hle)
  |_=>exact q
theorem F9{c:Code}{Q:Exit→St→Prop}{s:St}{β:Type}(J:β→Prop)(G:β→St)(hx:W8 P C c (L6 (fun s'=>∃b,J b∧St.le C s' (G b)) Q) s)(hy:∀b s',J b→St.le C s' (G b)→Q .normal s'):W8 P C c Q s:=
 hx.mono fun e s' q=>by
  cases e with
  |normal=>
   obtain⟨b,hJ,hle⟩:=q;exact hy b s' hJ hle
  |_=>exact q
theorem AJ{c:Code}{Q:Exit→St→Prop}{s:St}{σ ρ β:Type}{step:σ→M (σ⊕ρ)}{s0:σ}{r:ρ}(H:(M.loop step s0).to r)(F:σ→β→St)(b0:β)(h0:St.le C s (F s0 b0))
 (hr:∀s' b x,(step s').to x→(∀r',x= .inr r'→r'=r)→W8 P C c (L6 (fun st=>∃s'' b',x= .inl s''∧St.le C st (F s'' b')) Q) (F s' b)):W8 P C (.loop c) Q s:=by
 obtain⟨k,hk⟩:=IS.1 H;refine W8.loop (fun m st=>∃s' b,st=F s' b∧M.Rounds step m s' r) k ⟨_,h0,s0,b0,rfl,hk⟩ ?_;rintro m st ⟨s',b,rfl,hm⟩;cases hm with
 |out hx=>
  refine(hr s' b _ hx fun r' e=>by cases e;rfl).mono fun e s1 q=>?_
  cases e with
  |normal=>obtain⟨_,_,e,_⟩:=q;cases e
  |_=>exact q
 |on hx hm=>
  refine(hr s' b _ hx fun r' e=>by cases e).mono fun e s1 q=>?_
  cases e with
  |normal=>
   obtain⟨s2,b',e,hle⟩:=q;cases e;exact⟨_,Nat.lt_succ_self _,_,hle,_,b',rfl,hm⟩
  |_=>exact q
theorem Pm(hC:C.std)(i:Nat){ver:Nat}{e:TypeId}{α:Type}{T:Ty α}{l:List α}(hi:h[i]? =some (.row ver e T l))(ht:Dm i ver (.bs T l) t=t')(hh:fzH i ver (.bs T l) h=h'):St.le C ⟨t,h⟩ ⟨t',h'⟩:=by
 subst ht hh;exact TG hC i hi
end
instance Vn:Inhabited Ins:=⟨⟨0,0,0,0,0,0,[],0,0⟩⟩
instance Vm:Inhabited Block:=⟨⟨⟨#[]⟩,[]⟩⟩
class GA(t:List AV)(x:Operand)(r:outParam AV):Prop where
 e:WO t x=r
class PA(t:List AV)(d:Option Nat)(r:AV)(t':outParam (List AV)):Prop where
 e:Bn t d r=t'
instance{l:List AV}{v:Value}:GA l (.const v) (.lit v):=⟨rfl⟩
instance{x0:AV}{l:List AV}:GA (x0::l) (.tmp 0) x0:=⟨rfl⟩
instance{x0 x1:AV}{l:List AV}:GA (x0::x1::l) (.tmp 1) x1:=⟨rfl⟩
instance{x0 x1 x2:AV}{l:List AV}:GA (x0::x1::x2::l) (.tmp 2) x2:=⟨rfl⟩
instance{x0 x1 x2 x3:AV}{l:List AV}:GA (x0::x1::x2::x3::l) (.tmp 3) x3:=⟨rfl⟩
instance{x0 x1 x2 x3 x4:AV}{l:List AV}:GA (x0::x1::x2::x3::x4::l) (.tmp 4) x4:=⟨rfl⟩
instance{x0 x1 x2 x3 x4 x5:AV}{l:List AV}:GA (x0::x1::x2::x3::x4::x5::l) (.tmp 5) x5:=⟨rfl⟩
instance{x0 x1 x2 x3 x4 x5 x6:AV}{l:List AV}:GA (x0::x1::x2::x3::x4::x5::x6::l) (.tmp 6) x6:=⟨rfl⟩
instance{x0 x1 x2 x3 x4 x5 x6 x7:AV}{l:List AV}:GA (x0::x1::x2::x3::x4::x5::x6::x7::l) (.tmp 7) x7:=⟨rfl⟩
instance{x0 x1 x2 x3 x4 x5 x6 x7 r:AV}{l:List AV}{k:Nat}[GA l (.tmp k) r]:GA (x0::x1::x2::x3::x4::x5::x6::x7::l) (.tmp (k+8)) r:=⟨Aw GA.e⟩
instance{x0 x1 x2 x3 x4 x5 x6 x7 x8 x9 x10 x11 x12 x13 x14 x15 x16 x17 x18 x19 x20 x21 x22 x23 x24 x25 x26 x27 x28 x29 x30 x31 r:AV}{l:List AV}{k:Nat}[GA l (.tmp k) r]:GA (x0::x1::x2::x3::x4::x5::x6::x7::x8::x9::x10::x11::x12::x13::x14::x15::x16::x17::x18::x19::x20::x21::x22::x23::x24::x25::x26::x27::x28::x29::x30::x31::l) (.tmp (k+32)) r:=⟨Ar GA.e⟩
instance{l:List AV}{r:AV}:PA l none r l:=⟨rfl⟩
instance{x0 r:AV}{l:List AV}:PA (x0::l) (some 0) r (r::l):=⟨rfl⟩
instance{x0 x1 r:AV}{l:List AV}:PA (x0::x1::l) (some 1) r (x0::r::l):=⟨rfl⟩
instance{x0 x1 x2 r:AV}{l:List AV}:PA (x0::x1::x2::l) (some 2) r (x0::x1::r::l):=⟨rfl⟩
instance{x0 x1 x2 x3 r:AV}{l:List AV}:PA (x0::x1::x2::x3::l) (some 3) r (x0::x1::x2::r::l):=⟨rfl⟩
instance{x0 x1 x2 x3 x4 r:AV}{l:List AV}:PA (x0::x1::x2::x3::x4::l) (some 4) r (x0::x1::x2::x3::r::l):=⟨rfl⟩
instance{x0 x1 x2 x3 x4 x5 r:AV}{l:List AV}:PA (x0::x1::x2::x3::x4::x5::l) (some 5) r (x0::x1::x2::x3::x4::r::l):=⟨rfl⟩
instance{x0 x1 x2 x3 x4 x5 x6 r:AV}{l:List AV}:PA (x0::x1::x2::x3::x4::x5::x6::l) (some 6) r (x0::x1::x2::x3::x4::x5::r::l):=⟨rfl⟩
instance{x0 x1 x2 x3 x4 x5 x6 x7 r:AV}{l:List AV}:PA (x0::x1::x2::x3::x4::x5::x6::x7::l) (some 7) r (x0::x1::x2::x3::x4::x5::x6::r::l):=⟨rfl⟩
instance{x0 x1 x2 x3 x4 x5 x6 x7 r:AV}{l l':List AV}{k:Nat}[PA l (some k) r l']:PA (x0::x1::x2::x3::x4::x5::x6::x7::l) (some (k+8)) r (x0::x1::x2::x3::x4::x5::x6::x7::l'):=⟨Al PA.e⟩
instance{x0 x1 x2 x3 x4 x5 x6 x7 x8 x9 x10 x11 x12 x13 x14 x15 x16 x17 x18 x19 x20 x21 x22 x23 x24 x25 x26 x27 x28 x29 x30 x31 r:AV}{l l':List AV}{k:Nat}[PA l (some k) r l']:PA (x0::x1::x2::x3::x4::x5::x6::x7::x8::x9::x10::x11::x12::x13::x14::x15::x16::x17::x18::x19::x20::x21::x22::x23::x24::x25::x26::x27::x28::x29::x30::x31::l) (some (k+32)) r (x0::x1::x2::x3::x4::x5::x6::x7::x8::x9::x10::x11::x12::x13::x14::x15::x16::x17::x18::x19::x20::x21::x22::x23::x24::x25::x26::x27::x28::x29::x30::x31::l'):=⟨Ak PA.e⟩
class BI(op:BinOp)(k:IntKind)(a b:Int)(v:outParam Value):Prop where
 e:J0 op k a b=some v
instance{k:IntKind}{a b:Int}:BI .add k a b (.int k (k.wrap (a+b))):=⟨rfl⟩
instance{k:IntKind}{a b:Int}:BI .sub k a b (.int k (k.wrap (a - b))):=⟨rfl⟩
instance{k:IntKind}{a b:Int}:BI .mul k a b (.int k (k.wrap (a * b))):=⟨rfl⟩
instance{k:IntKind}{a b:Int}:BI .eql k a b (.bool (a ==b)):=⟨rfl⟩
instance{k:IntKind}{a b:Int}:BI .neq k a b (.bool (a !=b)):=⟨rfl⟩
instance{k:IntKind}{a b:Int}:BI .lss k a b (.bool (decide (a < b))):=⟨rfl⟩
instance{k:IntKind}{a b:Int}:BI .leq k a b (.bool (decide (a≤b))):=⟨rfl⟩
instance{k:IntKind}{a b:Int}:BI .gtr k a b (.bool (decide (a > b))):=⟨rfl⟩
instance{k:IntKind}{a b:Int}:BI .geq k a b (.bool (decide (a≥b))):=⟨rfl⟩
class HB(h:List ABlk)(i:Nat)(b:outParam ABlk):Prop where
 e:h[i]? =some b
instance{b:ABlk}{h:List ABlk}:HB (b::h) 0 b:=⟨rfl⟩
instance{b c:ABlk}{h:List ABlk}{i:Nat}[HB h i b]:HB (c::h) (i+1) b:=⟨by rw[List.getElem?_cons_succ];exact HB.e⟩
class LD(l:List AV)(k:Nat)(x:outParam AV):Prop where
 e:(l.drop k)[0]? =some x
instance{x:AV}{l:List AV}:LD (x::l) 0 x:=⟨rfl⟩
instance{x y:AV}{l:List AV}{k:Nat}[LD l k x]:LD (y::l) (k+1) x:=⟨by rw[List.drop_succ_cons];exact LD.e⟩
class TK(l:List AV)(k n:Nat)(r:outParam (List AV)):Prop where
 e:(l.drop k).take n=r∧r.length=n
instance{l:List AV}:TK l 0 0 []:=⟨by simp⟩
instance{x:AV}{l r:List AV}{n:Nat}[TK l 0 n r]:TK (x::l) 0 (n+1) (x::r):=⟨by have h:=TK.e (l:=l) (k:=0) (n:=n) (r:=r);rw[List.drop_zero]at h;rw[List.drop_zero,List.take_succ_cons,h.1,List.length_cons,h.2];exact⟨rfl,rfl⟩⟩
instance{x:AV}{l r:List AV}{k n:Nat}[TK l k n r]:TK (x::l) (k+1) n r:=⟨by rw[List.drop_succ_cons];exact TK.e⟩
class AD(a b:Nat)(c:outParam Nat):Prop where
 e:a+b=c
instance{a b:Nat}:AD a b (a+b):=⟨rfl⟩
instance{n:Nat}:AD n 0 n:=⟨rfl⟩
instance{n:Nat}:AD 0 n n:=⟨Nat.zero_add n⟩
class EL{α:Type}(T:Ty α)(d:α)(l:outParam (List AV)):Prop where
 e:∀(h:List ABlk) (off:Nat),G1 h (.bp T d off) (l.drop off)
instance{α:Type}{T:Ty α}{d:α}{enc:α→List AV}[EncOf T enc]:EL T d (enc d):=⟨fun _ _=>G1.bp EncOf.ok⟩
class QI(P:Program)(C:Ctx)(t:List AV)(h:List ABlk)(op:Op)(r:outParam AV):Prop where
 e:∀(d:Option Nat) (ty:TypeId) (ps:String) (af:Array Go.Edge),Az P C t h ⟨d,op,ty,ps,af,none⟩ r
section
variable{P:Program}{C:Ctx}{t t':List AV}{h h':List ABlk}
instance{x:Operand}{r:AV}[GA t x r]:QI P C t h (.move x) r:=⟨fun _ _ _ _=>Az.move rfl GA.e⟩
instance{x:Operand}{r:AV}[GA t x r]:QI P C t h (.assign x) r:=⟨fun _ _ _ _=>Az.assign rfl GA.e⟩
instance{op:BinOp}{xt yt:TypeId}{x z:Operand}{k:IntKind}{a b:Int}{v:Value}[GA t x (.lit (.int k a))][GA t z (.lit (.int k b))][BI op k a b v]:QI P C t h (.binOp op xt x z yt) (.lit v):=⟨fun _ _ _ _=>BV rfl GA.e GA.e BI.e⟩
instance{xt:TypeId}{x:Operand}{b:Bool}[GA t x (.lit (.bool b))]:QI P C t h (.unOp .not xt x) (.lit (.bool (!b))):=⟨fun _ _ _ _=>Eg rfl GA.e⟩
instance{ty:TypeId}{x:Operand}{n i off:Nat}{r:AV}{cells:List AV}[AG P ty false n][GA t x (.ptr i off)][HB h i (.box cells)][LD cells off r]:QI P C t h (.load ty x) r:=⟨fun _ _ _ _=>BF rfl GA.e HB.e LD.e⟩
instance{ty:TypeId}{x:Operand}{n i off:Nat}{cells r:List AV}[AG P ty true n][GA t x (.ptr i off)][HB h i (.box cells)][TK cells off n r]:QI P C t h (.load ty x) (.agg r):=⟨fun _ _ _ _=>Fu rfl AG.eq GA.e (G1.ptr HB.e) (TK.e (l:=cells) (k:=off) (n:=n) (r:=r)).1 (TK.e (l:=cells) (k:=off) (n:=n) (r:=r)).2⟩
instance{ty:TypeId}{x:Operand}{n off:Nat}{r:AV}{α:Type}{T:Ty α}{d:α}{cells:List AV}[AG P ty false n][GA t x (.bp T d off)][EL T d cells][LD cells off r]:QI P C t h (.load ty x) r:=⟨fun _ _ _ _=>CR rfl AG.eq GA.e (EL.e h off) LD.e⟩
instance{ty:TypeId}{x:Operand}{n off:Nat}{r:List AV}{α:Type}{T:Ty α}{d:α}{cells:List AV}[AG P ty true n][GA t x (.bp T d off)][EL T d cells][TK cells off n r]:QI P C t h (.load ty x) (.agg r):=⟨fun _ _ _ _=>Fu rfl AG.eq GA.e (EL.e h off) (TK.e (l:=cells) (k:=off) (n:=n) (r:=r)).1 (TK.e (l:=cells) (k:=off) (n:=n) (r:=r)).2⟩
instance{st:TypeId}{x:Operand}{j n m i off:Nat}{cells:List AV}[FO P st j n][GA t x (.ptr i off)][HB h i (.box cells)][AD off n m]:QI P C t h (.fieldAddr st x j) (.ptr i m):=⟨fun _ _ _ _=>by rw[←AD.e (a:=off) (b:=n) (c:=m)];exact Cu rfl GA.e HB.e⟩
instance{st:TypeId}{x:Operand}{j n m off:Nat}{α:Type}{T:Ty α}{d:α}[FO P st j n][GA t x (.bp T d off)][AD off n m]:QI P C t h (.fieldAddr st x j) (.bp T d m):=⟨fun _ _ _ _=>by rw[←AD.e (a:=off) (b:=n) (c:=m)];exact Dv rfl GA.e⟩
instance{ty:TypeId}{x:Operand}{α:Type}{T:Ty α}{l:List α}[SL P ty][GA t x (.bs T l)]:QI P C t h (.call {callee:=.builtin .len,args:=#[x],argTypes:=#[ty]}) (.lit (.int .i64 (l.length:Int))):=⟨fun _ _ _ _=>Az.ln rfl GA.e⟩
instance{ty:TypeId}{x:Operand}{i ver:Nat}{e:TypeId}{α:Type}{T:Ty α}{l:List α}[SL P ty][GA t x (.own i ver)][HB h i (.row ver e T l)]:QI P C t h (.call {callee:=.builtin .len,args:=#[x],argTypes:=#[ty]}) (.lit (.int .i64 (l.length:Int))):=⟨fun _ _ _ _=>F5 rfl GA.e HB.e⟩
instance{x:Operand}{j:Nat}{xs:List AV}{r:AV}[GA t x (.tup xs)][LD xs j r]:QI P C t h (.extract x j) r:=⟨fun _ _ _ _=>Az.extract rfl GA.e (by rw[←LD.e (l:=xs) (k:=j) (x:=r),List.getElem?_drop,Nat.add_zero])⟩
instance{c a b:Operand}{q e:Bool}[GA t c (.lit (.bool q))][GA t a (.lit (.bool true))][GA t b (cond (!q) (.lit (.bool e)) (.lit undef))]:QI P C t h (.pick c a b) (.lit (.bool (q||e))):=⟨fun _ _ _ _=>HW rfl GA.e GA.e GA.e⟩
instance{c a b:Operand}{q e:Bool}[GA t c (.lit (.bool q))][GA t a (cond q (.lit (.bool e)) (.lit undef))][GA t b (.lit (.bool false))]:QI P C t h (.pick c a b) (.lit (.bool (q&&e))):=⟨fun _ _ _ _=>EM rfl GA.e GA.e GA.e⟩
end
section
variable{P:Program}{C:Ctx}{t t':List AV}{h h':List ABlk}{ops:Array Oper}{rest l:List Oper}{d:Option Nat}{ty:TypeId}{ps:String}{af:Array Go.Edge}{K:St→Prop}{L:List AV→Prop}{y:Code}{Q:Exit→St→Prop}{id:Nat}
theorem wS(hx:Cs P C l.toArray (fun s=>W8 P C y Q s) l ⟨t,h⟩):W8 P C (.seq (.region id l.toArray false) y) Q ⟨t,h⟩:=Aq fun _ hK=>W8.region (CK (fun _ e=>hK _ e) hx)
theorem We(hx:Cs P C l.toArray (Q .normal) l ⟨t,h⟩):W8 P C (.region id l.toArray false) Q ⟨t,h⟩:=W8.region hx
theorem wN{s:St}(hk:K s):Cs P C ops K [] s:=hk
theorem qN(hk:L t):aQ P C ops h L [] t:=hk
theorem sT{op:Op}{r:AV}[QI P C t h op r][PA t d r t'](hk:Cs P C ops K rest ⟨t',h⟩):Cs P C ops K (⟨d,op,ty,ps,af,none⟩::rest) ⟨t,h⟩:=sA (hg:=rfl) (hq:=QI.e d ty ps af) (ht:=PA.e) (hk:=hk)
theorem qT{op:Op}{r:AV}[QI P C t h op r][PA t d r t'](hk:aQ P C ops h L rest t'):aQ P C ops h L (⟨d,op,ty,ps,af,none⟩::rest) t:=qA (hg:=rfl) (hq:=QI.e d ty ps af) (ht:=PA.e) (hk:=hk)
theorem sX{st:TypeId}{x z:Operand}{ik:IntKind}{m:Int}{n:Nat}{α:Type}[Inhabited α]{T:Ty α}{l:List α}(hz:Bq l m=true)[GA t x (.bs T l)][GA t z (.lit (.int ik m))][ES P st n][PA t d (.bp T (ixD l m) 0) t'](hk:Cs P C ops K rest ⟨t',h⟩)(hs:T.size=n:=by exact rfl):Cs P C ops K (⟨d,.indexAddr st x z,ty,ps,af,none⟩::rest) ⟨t,h⟩:=sA (hg:=rfl) (hq:=Ct rfl GA.e GA.e hs hz) (ht:=PA.e) (hk:=hk)
theorem qX{st:TypeId}{x z:Operand}{ik:IntKind}{m:Int}{n:Nat}{α:Type}[Inhabited α]{T:Ty α}{l:List α}(hz:Bq l m=true)[GA t x (.bs T l)][GA t z (.lit (.int ik m))][ES P st n][PA t d (.bp T (ixD l m) 0) t'](hk:aQ P C ops h L rest t')(hs:T.size=n:=by exact rfl):aQ P C ops h L (⟨d,.indexAddr st x z,ty,ps,af,none⟩::rest) t:=qA (hg:=rfl) (hq:=Ct rfl GA.e GA.e hs hz) (ht:=PA.e) (hk:=hk)
theorem sC{f:FuncId}{args:Array Operand}{tys:Array TypeId}{xs:List AV}{r:AV}(hF:Fn P f xs r)[PA t d r t'](hk:Cs P C ops K rest ⟨t',h⟩)(hx:args.toList.map (WO t)=xs:=by exact rfl)(hc:Bm xs=true:=by exact rfl)(hr:AV.cl r=true:=by exact rfl):Cs P C ops K (⟨d,.call {callee:=.value (.func f),args:=args,argTypes:=tys},ty,ps,af,none⟩::rest) ⟨t,h⟩:=sA (hg:=rfl) (hq:=AF rfl hx hF hc hr) (ht:=PA.e) (hk:=hk)
theorem qC{f:FuncId}{args:Array Operand}{tys:Array TypeId}{xs:List AV}{r:AV}(hF:Fn P f xs r)[PA t d r t'](hk:aQ P C ops h L rest t')(hx:args.toList.map (WO t)=xs:=by exact rfl)(hc:Bm xs=true:=by exact rfl)(hr:AV.cl r=true:=by exact rfl):aQ P C ops h L (⟨d,.call {callee:=.value (.func f),args:=args,argTypes:=tys},ty,ps,af,none⟩::rest) t:=qA (hg:=rfl) (hq:=AF rfl hx hF hc hr) (ht:=PA.e) (hk:=hk)
end
class GX(g:Bool)(t:List AV)(x:Operand)(r:outParam AV):Prop where
 e:g=true→WO t x=r
instance{g:Bool}{t:List AV}{x:Operand}{r:AV}[GA t x r]:GX g t x r:=⟨fun _=>GA.e⟩
instance{g:Bool}{t:List AV}{x:Operand}{r:AV}[GA t x (cond g r (.lit undef))]:GX g t x r:=⟨fun h=>by have e:=GA.e (t:=t) (x:=x) (r:=cond g r (.lit undef));rw[e,h];rfl⟩
class QG(P:Program)(C:Ctx)(t:List AV)(h:List ABlk)(op:Op)(g:Bool)(r:outParam AV):Prop where
 e:∀(d:Option Nat) (ty:TypeId) (ps:String) (af:Array Go.Edge) (gd:Option (Nat×Bool)),g=true→Az P C t h ⟨d,op,ty,ps,af,gd⟩ r
section
variable{P:Program}{C:Ctx}{t t':List AV}{h h':List ABlk}{g:Bool}
instance{x:Operand}{r:AV}[GX g t x r]:QG P C t h (.move x) g r:=⟨fun _ _ _ _ _ hg=>Az.move rfl (GX.e hg)⟩
instance{op:BinOp}{xt yt:TypeId}{x z:Operand}{k:IntKind}{a b:Int}{v:Value}[GX g t x (.lit (.int k a))][GX g t z (.lit (.int k b))][BI op k a b v]:QG P C t h (.binOp op xt x z yt) g (.lit v):=⟨fun _ _ _ _ _ hg=>BV rfl (GX.e hg) (GX.e hg) BI.e⟩
instance{xt:TypeId}{x:Operand}{b:Bool}[GX g t x (.lit (.bool b))]:QG P C t h (.unOp .not xt x) g (.lit (.bool (!b))):=⟨fun _ _ _ _ _ hg=>Eg rfl (GX.e hg)⟩
instance{ty:TypeId}{x:Operand}{n i off:Nat}{r:AV}{cells:List AV}[AG P ty false n][GX g t x (.ptr i off)][HB h i (.box cells)][LD cells off r]:QG P C t h (.load ty x) g r:=⟨fun _ _ _ _ _ hg=>BF rfl (GX.e hg) HB.e LD.e⟩
instance{ty:TypeId}{x:Operand}{n off:Nat}{r:AV}{α:Type}{T:Ty α}{d:α}{cells:List AV}[AG P ty false n][GX g t x (.bp T d off)][EL T d cells][LD cells off r]:QG P C t h (.load ty x) g r:=⟨fun _ _ _ _ _ hg=>CR rfl AG.eq (GX.e hg) (EL.e h off) LD.e⟩
instance{st:TypeId}{x:Operand}{j n m i off:Nat}{cells:List AV}[FO P st j n][GX g t x (.ptr i off)][HB h i (.box cells)][AD off n m]:QG P C t h (.fieldAddr st x j) g (.ptr i m):=⟨fun _ _ _ _ _ hg=>by rw[←AD.e (a:=off) (b:=n) (c:=m)];exact Cu rfl (GX.e hg) HB.e⟩
instance{st:TypeId}{x:Operand}{j n m off:Nat}{α:Type}{T:Ty α}{d:α}[FO P st j n][GX g t x (.bp T d off)][AD off n m]:QG P C t h (.fieldAddr st x j) g (.bp T d m):=⟨fun _ _ _ _ _ hg=>by rw[←AD.e (a:=off) (b:=n) (c:=m)];exact Dv rfl (GX.e hg)⟩
instance{ty:TypeId}{x:Operand}{α:Type}{T:Ty α}{l:List α}[SL P ty][GX g t x (.bs T l)]:QG P C t h (.call {callee:=.builtin .len,args:=#[x],argTypes:=#[ty]}) g (.lit (.int .i64 (l.length:Int))):=⟨fun _ _ _ _ _ hg=>Az.ln rfl (GX.e hg)⟩
end
class HA(h:List ABlk)(b:ABlk)(i:outParam Nat)(h':outParam (List ABlk)):Prop where
 e:h.length=i∧h++[b]=h'
instance{b:ABlk}:HA [] b 0 [b]:=⟨rfl,rfl⟩
instance{b c0:ABlk}:HA [c0] b 1 [c0,b]:=⟨rfl,rfl⟩
instance{b c0 c1:ABlk}:HA [c0,c1] b 2 [c0,c1,b]:=⟨rfl,rfl⟩
instance{b c0 c1 c2:ABlk}:HA [c0,c1,c2] b 3 [c0,c1,c2,b]:=⟨rfl,rfl⟩
instance{b c0 c1 c2 c3:ABlk}:HA [c0,c1,c2,c3] b 4 [c0,c1,c2,c3,b]:=⟨rfl,rfl⟩
instance{b c0 c1 c2 c3 c4:ABlk}:HA [c0,c1,c2,c3,c4] b 5 [c0,c1,c2,c3,c4,b]:=⟨rfl,rfl⟩
instance{b c0 c1 c2 c3 c4 c5:ABlk}:HA [c0,c1,c2,c3,c4,c5] b 6 [c0,c1,c2,c3,c4,c5,b]:=⟨rfl,rfl⟩
instance{b c0 c1 c2 c3 c4 c5 c6:ABlk}:HA [c0,c1,c2,c3,c4,c5,c6] b 7 [c0,c1,c2,c3,c4,c5,c6,b]:=⟨rfl,rfl⟩
class HS(h:List ABlk)(i:Nat)(b:ABlk)(h':outParam (List ABlk)):Prop where
 e:h.set i b=h'
instance{b c:ABlk}{h:List ABlk}:HS (c::h) 0 b (b::h):=⟨rfl⟩
instance{b c:ABlk}{h h':List ABlk}{i:Nat}[HS h i b h']:HS (c::h) (i+1) b (c::h'):=⟨by rw[List.set_cons_succ,HS.e (h:=h) (i:=i) (b:=b) (h':=h')]⟩
class OneI(h:List ABlk)(x:AV):Prop where
 e:WY h x
instance{h:List ABlk}{k:IntKind}{n:Int}:OneI h (.lit (.int k n)):=⟨WY.lit rfl⟩
instance{h:List ABlk}{b:Bool}:OneI h (.lit (.bool b)):=⟨WY.lit rfl⟩
instance{h:List ABlk}{b:ByteArray}:OneI h (.lit (.string b)):=⟨WY.lit rfl⟩
instance{h:List ABlk}{a:Option Addr}{n c:Nat}:OneI h (.lit (.slice a n c)):=⟨WY.lit rfl⟩
instance{h:List ABlk}{α:Type}{T:Ty α}{l:List α}:OneI h (.bs T l):=⟨WY.bs⟩
instance{h:List ABlk}{i ver:Nat}{e:TypeId}{α:Type}{T:Ty α}{l:List α}[HB h i (.row ver e T l)]:OneI h (.own i ver):=⟨WY.own HB.e⟩
class AllO(h:List ABlk)(l:List AV):Prop where
 e:∀x∈l,WY h x
instance{h:List ABlk}:AllO h []:=⟨fun _ hx=>by cases hx⟩
instance{h:List ABlk}{x:AV}{l:List AV}[OneI h x][AllO h l]:AllO h (x::l):=⟨fun y hy=>by
 rcases List.mem_cons.1 hy with rfl|hy
 ·exact OneI.e
 ·exact AllO.e (h:=h) (l:=l) y hy⟩
class PT(h:List ABlk)(y:AV)(new:outParam (List AV)):Prop where
 e:Ny h y new
instance{h:List ABlk}{l:List AV}[AllO h l]:PT h (.agg l) l:=⟨Ny.agg AllO.e⟩
instance{h:List ABlk}{x:AV}[OneI h x]:PT h x [x]:=⟨Ny.one OneI.e⟩
class WR(cells:List AV)(off:Nat)(new:List AV)(r:outParam (List AV)):Prop where
 e:cells.take off++new++cells.drop (off+new.length)=r∧off+new.length≤cells.length
instance{l:List AV}:WR l 0 [] l:=⟨by simp⟩
instance{c x:AV}{l new r:List AV}[WR l 0 new r]:WR (c::l) 0 (x::new) (x::r):=⟨by
 have h:=WR.e (cells:=l) (off:=0) (new:=new) (r:=r);simp only[List.take_zero,List.nil_append,Nat.zero_add,List.length_cons,List.cons_append,List.drop_succ_cons]at h⊢;exact⟨by rw[h.1],by omega⟩⟩
instance{c:AV}{l new r:List AV}{k:Nat}[WR l k new r]:WR (c::l) (k+1) new (c::r):=⟨by
 have h:=WR.e (cells:=l) (off:=k) (new:=new) (r:=r);rw[show k+1+new.length=(k+new.length)+1 by omega,List.take_succ_cons,List.drop_succ_cons,List.cons_append,List.cons_append,h.1,List.length_cons];exact⟨rfl,by omega⟩⟩
class ML(zs:List Value)(l:outParam (List AV)):Prop where
 e:zs.map AV.lit=l
instance:ML [] []:=⟨rfl⟩
instance{z:Value}{zs:List Value}{l:List AV}[ML zs l]:ML (z::zs) (.lit z::l):=⟨by rw[List.map_cons,ML.e (zs:=zs) (l:=l)]⟩
section
variable{P:Program}{C:Ctx}{t t':List AV}{h h':List ABlk}{ops:Array Oper}{rest l l1 l2:List Oper}{d:Option Nat}{ty:TypeId}{ps:String}{af:Array Go.Edge}{gd:Option (Nat×Bool)}{K:St→Prop}{L:List AV→Prop}{y:Code}{Q:Exit→St→Prop}{id j:Nat}{g:Bool}
theorem Wn{op:Op}{r:AV}(hg:gA ops t ⟨d,op,ty,ps,af,some (j,true)⟩=some (g ==true))[QG P C t h op g r][PA t d (cond g r (.lit undef)) t'](hk:Cs P C ops K rest ⟨t',h⟩):Cs P C ops K (⟨d,op,ty,ps,af,some (j,true)⟩::rest) ⟨t,h⟩:=sG (hg:=DP hg) (hq:=fun hg=>QG.e d ty ps af (some (j,true)) hg) (ht:=PA.e) (hk:=hk)
theorem Wo{op:Op}{r:AV}(hg:gA ops t ⟨d,op,ty,ps,af,some (j,false)⟩=some (g ==false))[QG P C t h op (!g) r][PA t d (cond (!g) r (.lit undef)) t'](hk:Cs P C ops K rest ⟨t',h⟩):Cs P C ops K (⟨d,op,ty,ps,af,some (j,false)⟩::rest) ⟨t,h⟩:=sG (hg:=Qy hg) (hq:=fun hg=>QG.e d ty ps af (some (j,false)) hg) (ht:=PA.e) (hk:=hk)
theorem Wx{op:Op}{r:AV}(hg:gA ops t ⟨d,op,ty,ps,af,some (j,true)⟩=some (g ==true))[QG P C t h op g r][PA t d (cond g r (.lit undef)) t'](hk:aQ P C ops h L rest t'):aQ P C ops h L (⟨d,op,ty,ps,af,some (j,true)⟩::rest) t:=qG (hg:=DP hg) (hq:=fun hg=>QG.e d ty ps af (some (j,true)) hg) (ht:=PA.e) (hk:=hk)
theorem Wy{op:Op}{r:AV}(hg:gA ops t ⟨d,op,ty,ps,af,some (j,false)⟩=some (g ==false))[QG P C t h op (!g) r][PA t d (cond (!g) r (.lit undef)) t'](hk:aQ P C ops h L rest t'):aQ P C ops h L (⟨d,op,ty,ps,af,some (j,false)⟩::rest) t:=qG (hg:=Qy hg) (hq:=fun hg=>QG.e d ty ps af (some (j,false)) hg) (ht:=PA.e) (hk:=hk)
theorem VP{st:TypeId}{x z:Operand}{ik:IntKind}{m:Int}{n:Nat}{α:Type}[Inhabited α]{T:Ty α}{l:List α}(hg:gA ops t ⟨d,.indexAddr st x z,ty,ps,af,some (j,true)⟩=some (g ==true))(hz:(!g||Bq l m)=true)[GX g t x (.bs T l)][GX g t z (.lit (.int ik m))][ES P st n][PA t d (cond g (.bp T (ixD l m) 0) (.lit undef)) t'](hk:Cs P C ops K rest ⟨t',h⟩)(hs:T.size=n:=by exact rfl):Cs P C ops K (⟨d,.indexAddr st x z,ty,ps,af,some (j,true)⟩::rest) ⟨t,h⟩:=sG (hg:=DP hg) (hq:=fun hg=>Ct rfl (GX.e hg) (GX.e hg) hs (FU hz hg)) (ht:=PA.e) (hk:=hk)
theorem VF{st:TypeId}{x z:Operand}{ik:IntKind}{m:Int}{n:Nat}{α:Type}[Inhabited α]{T:Ty α}{l:List α}(hg:gA ops t ⟨d,.indexAddr st x z,ty,ps,af,some (j,true)⟩=some (g ==true))(hz:(!g||Bq l m)=true)[GX g t x (.bs T l)][GX g t z (.lit (.int ik m))][ES P st n][PA t d (cond g (.bp T (ixD l m) 0) (.lit undef)) t'](hk:aQ P C ops h L rest t')(hs:T.size=n:=by exact rfl):aQ P C ops h L (⟨d,.indexAddr st x z,ty,ps,af,some (j,true)⟩::rest) t:=qG (hg:=DP hg) (hq:=fun hg=>Ct rfl (GX.e hg) (GX.e hg) hs (FU hz hg)) (ht:=PA.e) (hk:=hk)
theorem sB{elem:TypeId}{x:Operand}{cells:List AV}{i:Nat}[GA t x (.agg cells)][HA h (.box cells) i h'][PA t d (.ptr i 0) t'](hk:Cs P C ops K rest ⟨t',h'⟩):Cs P C ops K (⟨d,.box elem x,ty,ps,af,none⟩::rest) ⟨t,h⟩:=AT rfl (Xb.boxI i (HA.e (b:=.box cells) (h':=h')).1 rfl (by rw[GA.e (t:=t) (x:=x) (r:=.agg cells)];exact Pn.agg) (by rw[(HA.e (h:=h) (b:=.box cells) (i:=i) (h':=h')).2,PA.e (t:=t) (d:=d) (r:=.ptr i 0) (t':=t')];exact hk))
theorem Wp{elem:TypeId}{zs:List Value}{cells:List AV}{i:Nat}[ZC P elem zs][ML zs cells][HA h (.box cells) i h'][PA t d (.ptr i 0) t'](hk:Cs P C ops K rest ⟨t',h'⟩):Cs P C ops K (⟨d,.alloc elem,ty,ps,af,none⟩::rest) ⟨t,h⟩:=AT rfl (Sy i (HA.e (b:=.box cells) (h':=h')).1 rfl (by rw[ML.e (zs:=zs) (l:=cells),(HA.e (h:=h) (b:=.box cells) (i:=i) (h':=h')).2,PA.e (t:=t) (d:=d) (r:=.ptr i 0) (t':=t')];exact hk))
theorem sW{sty:TypeId}{x z:Operand}{i off n:Nat}{cells new r:List AV}{v:AV}[SZ P sty n][GA t x (.ptr i off)][HB h i (.box cells)][GA t z v][PT h v new][WR cells off new r][HS h i (.box r) h'][PA t d (.lit undef) t'](hk:Cs P C ops K rest ⟨t',h'⟩)(hs:n=new.length:=by exact rfl):Cs P C ops K (⟨d,.store sty x z,ty,ps,af,none⟩::rest) ⟨t,h⟩:=
 AT rfl (Gc rfl GA.e HB.e (by rw[GA.e (t:=t) (x:=z) (r:=v)];exact PT.e) hs (WR.e (cells:=cells) (off:=off) (new:=new) (r:=r)).2 (by rw[(WR.e (cells:=cells) (off:=off) (new:=new) (r:=r)).1,HS.e (h:=h) (i:=i) (b:=.box r) (h':=h'),PA.e (t:=t) (d:=d) (r:=.lit undef) (t':=t')];exact hk))
theorem sP{at_:TypeId}{x z:Operand}{i ver:Nat}{e:TypeId}{bytes n:Nat}{α:Type}{T:Ty α}{l l2:List α}{enc:α→List AV}(hb:GC (l.length+l2.length) bytes=true)[GA t x (.own i ver)][HB h i (.row ver e T l)][GA t z (.bs T l2)][RT P at_ e n bytes][EncOf T enc][HS h i (.row (ver+1) e T (l++l2)) h'][PA t d (.own i (ver+1)) t'](hk:Cs P C ops K rest ⟨t',h'⟩)(hs:T.size=n:=by exact rfl):Cs P C ops K (⟨d,.call {callee:=.builtin .append,args:=#[x,z],argTypes:=#[at_,at_]},ty,ps,af,none⟩::rest) ⟨t,h⟩:=AT rfl (Gv rfl GA.e HB.e GA.e hs hb (by rw[HS.e (h:=h) (i:=i) (b:=.row (ver+1) e T (l++l2)) (h':=h'),PA.e (t:=t) (d:=d) (r:=.own i (ver+1)) (t':=t')];exact hk))
theorem dS(n:Nat)(hm:P.follows .mixedOrders=true:=by kernel_rfl)(hB:Uf l.toArray n=true:=by kernel_rfl)(h1:l.take n=l1:=by(simp only[List.take_succ_cons,List.take_zero,List.drop_succ_cons,List.drop_zero,List.take_nil,List.drop_nil];exact rfl))(h2:l.drop n=l2:=by(simp only[List.take_succ_cons,List.take_zero,List.drop_succ_cons,List.drop_zero,List.take_nil,List.drop_nil];exact rfl))
 (hq:aQ P C l.toArray h (fun t=>Cs P C l.toArray (fun s=>W8 P C y Q s) l2 ⟨t,h⟩) l1 t):W8 P C (.seq (.region id l.toArray true) y) Q ⟨t,h⟩:=by
 subst h1 h2;exact Aq fun _ hK=>Pp n hm hB (Sj (fun _ hx=>CK (fun s e=>hK _ e) hx) hq)
theorem WP(n:Nat)(hm:P.follows .mixedOrders=true:=by kernel_rfl)(hB:Uf l.toArray n=true:=by kernel_rfl)(h1:l.take n=l1:=by(simp only[List.take_succ_cons,List.take_zero,List.drop_succ_cons,List.drop_zero,List.take_nil,List.drop_nil];exact rfl))(h2:l.drop n=l2:=by(simp only[List.take_succ_cons,List.take_zero,List.drop_succ_cons,List.drop_zero,List.take_nil,List.drop_nil];exact rfl))
 (hq:aQ P C l.toArray h (fun t=>Cs P C l.toArray (Q .normal) l2 ⟨t,h⟩) l1 t):W8 P C (.region id l.toArray true) Q ⟨t,h⟩:=by
 subst h1 h2;exact Pp n hm hB hq
end
end Mu
end
section
namespace Go.Proofs
open Go.Shelf
def Try.sortFI_ren:Go.Shelf.Ren:=⟨fun|6=>41|15=>60|14=>63|28=>83|29=>84|20=>87|21=>88|22=>89|23=>90|24=>91|25=>92|26=>93|27=>94|46=>101|47=>97|48=>98|49=>102|50=>103|57=>105|n=>n,fun|22=>27|24=>3|25=>55|3=>3|39=>72|0=>0|53=>38|55=>94|4=>4|46=>87|45=>86|50=>57|5=>5|9=>9|66=>101|70=>105|76=>109|77=>110|n=>n,fun|n=>n⟩
theorem Try.sortFI:Go.Proofs.SlLaysF.n6 Try.prog Try.sortFI_ren:={
 mixed:=by kernel_rfl
 f6:=⟨Try.f41.name,by decide,Try.func41.trans (congrArg some (by kernel_rfl))⟩
 f14:=⟨Try.f63.name,by decide,Try.func63.trans (congrArg some (by kernel_rfl))⟩
 f15:=Try.func60.trans (congrArg some (by kernel_rfl))
 f20:=⟨Try.f87.name,by decide,Try.func87.trans (congrArg some (by kernel_rfl))⟩
 f21:=⟨Try.f88.name,by decide,Try.func88.trans (congrArg some (by kernel_rfl))⟩
 f22:=⟨Try.f89.name,by decide,Try.func89.trans (congrArg some (by kernel_rfl))⟩
 f23:=⟨Try.f90.name,by decide,Try.func90.trans (congrArg some (by kernel_rfl))⟩
 f24:=⟨Try.f91.name,by decide,Try.func91.trans (congrArg some (by kernel_rfl))⟩
 f25:=⟨Try.f92.name,by decide,Try.func92.trans (congrArg some (by kernel_rfl))⟩
 f26:=⟨Try.f93.name,by decide,Try.func93.trans (congrArg some (by kernel_rfl))⟩
 f27:=⟨Try.f94.name,by decide,Try.func94.trans (congrArg some (by kernel_rfl))⟩
 f28:=Try.func83.trans (congrArg some (by kernel_rfl))
 f29:=Try.func84.trans (congrArg some (by kernel_rfl))
 f46:=⟨Try.f101.name,by decide,Try.func101.trans (congrArg some (by kernel_rfl))⟩
 f47:=Try.func97.trans (congrArg some (by kernel_rfl))
 f48:=Try.func98.trans (congrArg some (by kernel_rfl))
 f49:=⟨Try.f102.name,by decide,Try.func102.trans (congrArg some (by kernel_rfl))⟩
 f50:=⟨Try.f103.name,by decide,Try.func103.trans (congrArg some (by kernel_rfl))⟩
 f57:=⟨Try.f105.name,by decide,Try.func105.trans (congrArg some (by kernel_rfl))⟩
 t0:=Try.underlying0
 a0:=Try.isAgg0
 z0:=Try.sizeOf0
 v0:=Try.zeroValue0
 t3:=Try.underlying3
 a3:=Try.isAgg3
 z3:=Try.sizeOf3
 v3:=Try.zeroValue3
 t4:=Try.underlying4
 a4:=Try.isAgg4
 z4:=Try.sizeOf4
 v4:=Try.zeroValue4
 t5:=Try.underlying5
 a5:=Try.isAgg5
 z5:=Try.sizeOf5
 v5:=Try.zeroValue5
 t9:=Try.underlying9
 a9:=Try.isAgg9
 z9:=Try.sizeOf9
 v9:=Try.zeroValue9
 t22:=Try.underlying27
 a22:=Try.isAgg27
 z22:=Try.sizeOf27
 v22:=Try.zeroValue27
 a24:=Try.isAgg3
 z24:=Try.sizeOf3
 t25:=Try.underlying55
 a25:=Try.isAgg55
 z25:=Try.sizeOf55
 v25:=Try.zeroValue55
 t39:=Try.underlying72
 a39:=Try.isAgg72
 z39:=Try.sizeOf72
 v39:=Try.zeroValue72
 t45:=Try.underlying86
 a45:=Try.isAgg86
 z45:=Try.sizeOf86
 v45:=Try.zeroValue86
 t46:=Try.underlying87
 a46:=Try.isAgg87
 z46:=Try.sizeOf87
 v46:=Try.zeroValue87
 t50:=Try.underlying57
 a50:=Try.isAgg57
 z50:=Try.sizeOf57
 v50:=Try.zeroValue57
 t53:=Try.underlying38
 a53:=Try.isAgg38
 z53:=Try.sizeOf38
 v53:=Try.zeroValue38
 t55:=Try.underlying94
 a55:=Try.isAgg94
 z55:=Try.sizeOf94
 v55:=Try.zeroValue94
 t66:=Try.underlying101
 a66:=Try.isAgg101
 z66:=Try.sizeOf101
 v66:=Try.zeroValue101
 t70:=Try.underlying105
 a70:=Try.isAgg105
 z70:=Try.sizeOf105
 v70:=Try.zeroValue105
 t76:=Try.underlying109
 a76:=Try.isAgg109
 z76:=Try.sizeOf109
 v76:=Try.zeroValue109
 t77:=Try.underlying110
 a77:=Try.isAgg110
 z77:=Try.sizeOf110
 v77:=Try.zeroValue110}
end Go.Proofs
end
section
namespace Mu
open Go Go.RowKit Go.ChangeShapes Go.WideShapes
section
variable{P:Program}{C:Ctx}{t:List AV}{h:List ABlk}{o:Oper}
end
end Mu
end
section
namespace Mu
open Go Go.RowKit Go.Proofs
section
variable{P:Program}{w:World}
end
section
variable{P:Program}{C:Ctx}{t:List AV}{h:List ABlk}{o:Oper}
end
end Mu
end
section
namespace Mu
open Go Go.RowKit Go.Proofs Go.ChangeShapes Go.WideShapes
section
variable{P:Program}{C:Ctx}{t:List AV}{h:List ABlk}{o:Oper}
theorem Md{α:Type}{T:Ty α}{enc:α→List AV}{x:α}(hp:∀w S cs ψ,Ah w S h ψ (enc x) cs→T.RS w S cs x):WZ h T (.agg (enc x)) x:=fun C S ψ w v H hv=>by
 unfold AV.rel at hv;obtain⟨cs,rfl,hl⟩:=hv;exact hp w S cs ψ hl
end
end Mu
end
section
namespace Mu
open Go Go.RowKit Go.Proofs
end Mu
end
section
namespace Mu
open Go Go.RowKit
section
variable{P:Program}{C:Ctx}{t:List AV}{h:List ABlk}{o:Oper}
end
theorem MB{w:World}{S:Nat→Prop}{h:List ABlk}{ψ:Nat→Value}:∀l:List Value,Ah w S h ψ (l.map .lit) l
 | []=>by unfold Ah;rfl
 |v::l=>by
  simp only[List.map_cons];unfold Ah;exact⟨v,l,rfl,by unfold AV.rel;rfl,MB l⟩
section
variable{P:Program}
end
section
variable{P:Program}{C:Ctx}{ops:Array Oper}{md:Region.Mode}{h:List ABlk}
end
end Mu
end
section
namespace Mu
open Go Go.RowKit Go.Proofs Go.Shelf
attribute [local go_sem] Oper.semAt_some
attribute [local go_sem] Oper.semAt_some
end Mu
end
section
namespace Go.Proofs
open Go.Shelf
end Go.Proofs
end
section
namespace Mu
open Go Go.RowKit Go.Proofs Go.Maps Go.Sort Go.Shelf
def NL(x:Int):Prop:=(Lit.int .i64 x).wf=true
theorem U4:Keyed Try.prog 3:=int_keyed Try.underlying3
def Xa(l:List Int):Prop:=l.Pairwise (· < ·)
theorem Xa.nodup{l:List Int}(h:Xa l):l.Nodup:=h.imp (fun{a b} hab=>by omega)
theorem Xa.filter{l:List Int}(h:Xa l)(S:Int→Bool):Xa (l.filter S):=List.Pairwise.filter _ h
theorem Kg{l m:List Int}(hl:Xa l)(hm:Xa m)(h:∀x,x∈l↔x∈m):l=m:=by
 have hp:l.Perm m:=(List.perm_ext_iff_of_nodup hl.nodup hm.nodup).2 h;exact List.Perm.eq_of_pairwise (le:=fun a b=>a < b) (fun a b _ _ h1 h2=>by omega) hl hm hp
theorem Tz{l:List Int}(h:l.Nodup):Xa (l.mergeSort fun x y=>decide (x≤y)):=by
 have tr:∀a b c:Int,leI a b=true→leI b c=true→leI a c=true:=fun a b c h1 h2=>by simp only[leI,decide_eq_true_eq]at *;exact Int.le_trans h1 h2
 have to:∀a b:Int,(leI a b||leI b a)=true:=fun a b=>by simp only[leI,Bool.or_eq_true,decide_eq_true_eq];exact Int.le_total a b
 have h1:=List.pairwise_mergeSort tr to l;have h2:(l.mergeSort leI).Nodup:=(List.mergeSort_perm l leI).nodup_iff.2 h;refine(List.Pairwise.and h1 h2).imp fun{a b} hab=>?_
 obtain⟨h3,h4⟩:=hab;simp only[leI,decide_eq_true_eq]at h3;omega
end Mu
end
section
namespace Mu
open Go Go.RowKit Go.Proofs Go.Maps
section
variable{w0 w' w'':World}{cs:List Value}{T:TypeId}{b:Nat}
end
theorem Ie{x:Ins}(h:x.args.length≤2097152):(readsC x).length≤2097154:=by
 unfold readsC;simp only[List.length_append];have a1:(if(CL x.op).contains 97 then [x.a]else []).length≤1:=by split <;> simp
 have a2:(if(CL x.op).contains 98 then [x.b]else []).length≤1:=by split <;> simp
 have a3:(if(CL x.op).contains 120 then x.args else []).length≤x.args.length:=by split <;> simp
 omega
end Mu
end
section
namespace Mu
open Go Go.RowKit Go.Proofs Go.Shelf Go.Maps
end Mu
end
section
namespace Mu
open Go Go.RowKit Go.Proofs Go.Maps
theorem SQ{w:World}{S:Nat→Prop}{h:List ABlk}{ψ:Nat→Value}{u:Value}{l:List AV}{vs:List Value}(H:Ah w S h ψ (.lit u::l) vs):∃us,vs=u::us∧Ah w S h ψ l us:=by
 unfold Ah AV.rel at H;obtain⟨v,us,e,rfl,h2⟩:=H;exact⟨us,e,h2⟩
section
variable{P:Program}{C:Ctx}{t:List AV}{h:List ABlk}{o:Oper}{ι:Type}{Rs:ι→Res}{val:ι→Value}
end
end Mu
end
section
namespace Mu
open Go
def Edge(f:Func)(k b:Nat):Prop:=∃x∈CP f (k:Int),x.1=b
end Mu
end
section
namespace Mu
open Go Go.RowKit Go.Proofs Go.Maps
section
variable{C:Ctx}{t:List AV}{h:List ABlk}{o:Oper}{K:St→Prop}
end
end Mu
end
section
namespace Mu
open Go Go.RowKit Go.Proofs
structure RowsAt(W:World)(base:Nat)(S:Nat→Prop)(O:Nat)(vs:List Value)(ls:List (List Int)):Prop where
 box:W.heap[O]? =some (.cells vs.toArray 27 (0,0))
 len:vs.length=ls.length
 own:∀(i:Nat) (v:Value) (l:List Int),vs[i]? =some v→ls[i]? =some l→EP W base v l
 far:∀(i:Nat) (v:Value) (g:Nat),vs[i]? =some v→v.ownBlock=some g→¬S g∧g≠O
 sep:∀(i j:Nat) (v u:Value) (g:Nat),i≠j→vs[i]? =some v→vs[j]? =some u→v.ownBlock=some g→u.ownBlock≠some g
 out:¬S O∧base≤O
section
variable{W W':World}{base:Nat}{S S':Nat→Prop}{O:Nat}{vs:List Value}{ls:List (List Int)}
theorem RowsAt.get(h:RowsAt W base S O vs ls){i:Nat}{v:Value}(hv:vs[i]? =some v):∃l,ls[i]? =some l∧EP W base v l:=by
 have hi:i < ls.length:=by rw[←h.len];exact(List.getElem?_eq_some_iff.1 hv).1
 exact⟨_,List.getElem?_eq_getElem hi,h.own i v _ hv (List.getElem?_eq_getElem hi)⟩
theorem RowsAt.lt(h:RowsAt W base S O vs ls){i:Nat}{v:Value}{g:Nat}(hv:vs[i]? =some v)(hg:v.ownBlock=some g):base≤g∧g < W.heap.size:=by
 obtain⟨l,_,ho⟩:=h.get hv;exact ho.lt g hg
theorem RowsAt.keep(h:RowsAt W base S O vs ls)(hk:∀k,(k=O∨∃(i:Nat) (v:Value),vs[i]? =some v∧v.ownBlock=some k)→W'.heap[k]? =W.heap[k]?):RowsAt W' base S O vs ls:=
 ⟨(hk O (.inl rfl)).trans h.box,h.len,fun i v l hv hl=>Ex (h.own i v l hv hl) (fun k e=>hk k (.inr ⟨i,v,hv,e⟩)),h.far,h.sep,h.out⟩
theorem RowsAt.below(h:RowsAt W base S O vs ls)(hb:Below W.heap.size W W'):RowsAt W' base S O vs ls:=by
 refine h.keep fun k hk=>hb.block k ?_
 rcases hk with rfl|⟨i,v,hv,hg⟩
 ·exact IR h.box
 ·exact(h.lt hv hg).2
theorem RowsAt.avoid(h:RowsAt W base S O vs ls)(hS:∀k,S' k→S k∨W.heap.size≤k):RowsAt W base S' O vs ls:=by
 refine⟨h.box,h.len,h.own,fun i v g hv hg=>⟨fun hs=>?_,(h.far i v g hv hg).2⟩,h.sep,fun hs=>?_,h.out.2⟩
 ·rcases hS g hs with hs|hs
  ·exact(h.far i v g hv hg).1 hs
  ·have:=(h.lt hv hg).2;omega
 ·rcases hS O hs with hs|hs
  ·exact h.out.1 hs
  ·have:=IR h.box;omega
theorem RowsAt.grown(h:RowsAt W base S O vs ls){row:Option Nat}(hg:W.grownBy W' row)(hr:∀r,row=some r→∃o:Obj,W.heap[r]? =some o∧o.isCells=false):RowsAt W' base S O vs ls:=by
 refine h.keep fun k hk=>?_
 have hc:∃o:Obj,W.heap[k]? =some o∧o.isCells=true:=by
  rcases hk with rfl|⟨i,v,hv,hgk⟩
  ·exact⟨_,h.box,rfl⟩
  ·obtain⟨l,_,ho⟩:=h.get hv;rcases ho.2 with⟨rfl,_⟩|⟨g,cap,cur,rfl,_,hgb,_⟩
   ·simp[Value.ownBlock]at hgk
   ·obtain rfl:g=k:=by simpa[Value.ownBlock]using hgk
    exact⟨_,hgb,rfl⟩
 obtain⟨o,ho,hoc⟩:=hc;refine hg.block k (IR ho) fun e=>?_
 obtain⟨o',ho',hoc'⟩:=hr k e.symm;rw[ho]at ho';cases ho';rw[hoc]at hoc';cases hoc'
theorem RowsAt.cell(h:RowsAt W base S O vs ls){k:Nat}{v:Value}(hv:vs[k]? =some v):W.cell? ⟨O,k,none⟩=some v:=CN h.box hv
theorem RowsAt.step(h:RowsAt W base S O vs ls)(hS:∀k,S k→k < W.heap.size){k:Nat}{v v':Value}{l:List Int}{x:Int}{w1:World}{tmp:Obj}{n:Nat}(hv:vs[k]? =some v)(hl:ls[k]? =some l)
 (hown':w1.ownsRow base 3 1 v' n (l.map (Value.int .i64)++[Value.int .i64 x])) (hn:n=l.length+1) (hg:(W.alloc tmp).grownBy w1 v.ownBlock) (hat:v'.ownBlock=v.ownBlock∨v'.ownBlock=some (W.alloc tmp).heap.size):
 RowsAt (w1.setCell ⟨O,k,none⟩ v') base S O (vs.set k v') (ls.set k (l++[x]))∧KS S W (w1.setCell ⟨O,k,none⟩ v')∧KeepsOthers W (w1.setCell ⟨O,k,none⟩ v')∧w1.heap[O]? =W.heap[O]?∧KS S W w1:=by
 have hs:=hg.size;have hs2:(W.alloc tmp).heap.size=W.heap.size+1:=by simp
 have hOl:=IR h.box;have hold:∀q,q < W.heap.size→v.ownBlock≠some q→w1.heap[q]? =W.heap[q]?:=fun q hq hne=>(hg.block q (by omega) (fun e=>hne e.symm)).trans (Below.heap_alloc _ _ _ hq)
 have hO:w1.heap[O]? =W.heap[O]?:=hold O hOl fun e=>(h.far k v O hv e).2 rfl
 have hx:EP w1 base v' (l++[x]):=.of hown' (by simp[hn]) (by simp);have hk:k < vs.length:=(List.getElem?_eq_some_iff.1 hv).1;have hv'f:∀g,v'.ownBlock=some g→(v.ownBlock=some g)∨g=W.heap.size+1:=fun g e=>by
  rcases hat with ha|ha
  ·exact .inl (ha▸e)
  ·rw[ha,hs2]at e;injection e with e;exact .inr e.symm
 have hne':∀g,v'.ownBlock=some g→¬S g∧g≠O:=fun g e=>by
  rcases hv'f g e with e|e
  ·exact h.far k v g hv e
  ·exact⟨fun hs'=>(by have:=hS g hs';omega),by omega⟩
 have hget:∀(i:Nat) (u:Value),(vs.set k v')[i]? =some u→(i=k∧u=v')∨(i≠k∧vs[i]? =some u):=fun i u hu=>by
  by_cases hik:i=k
  ·subst hik;rw[List.getElem?_set_self hk]at hu;cases hu;exact .inl ⟨rfl,rfl⟩
  ·rw[List.getElem?_set_ne (Ne.symm hik)]at hu;exact .inr ⟨hik,hu⟩
 have hks1:KS S W w1:=⟨by omega,fun q hq=>hold q (hS q hq) fun e=>(h.far k v q hv e).1 hq⟩
 refine⟨⟨?_,by simp[h.len],?_,?_,?_,h.out⟩,?_,?_,hO,hks1⟩
 ·rw[UN (hO.trans h.box)]
 ·intro i u l' hu hl';rcases hget i u hu with⟨rfl,rfl⟩|⟨hik,hu'⟩
  ·rw[List.getElem?_set_self (by rw[←h.len];exact hk)]at hl';cases hl';exact Ex hx fun q e=>Below.heap_setCell _ _ _ _ (by show q≠O;exact(hne' q e).2)
  ·rw[List.getElem?_set_ne (Ne.symm hik)]at hl';have ho:=h.own i u l' hu' hl';refine Ex ho fun q e=>(Below.heap_setCell _ _ _ _ (by show q≠O;exact(h.far i u q hu' e).2)).trans (hold q (h.lt hu' e).2 (h.sep i k u v q hik hu' hv e))
 ·intro i u g hu e;rcases hget i u hu with⟨rfl,rfl⟩|⟨_,hu'⟩
  ·exact hne' g e
  ·exact h.far i u g hu' e
 ·intro i j u t g hij hu ht e;rcases hget i u hu with⟨rfl,rfl⟩|⟨hik,hu'⟩
  ·rcases hget j t ht with⟨rfl,_⟩|⟨hjk,ht'⟩
   ·exact absurd rfl hij
   ·rcases hv'f g e with e'|e'
    ·exact h.sep i j v t g hij hv ht' e'
    ·intro et;have:=(h.lt ht' et).2;omega
  ·rcases hget j t ht with⟨rfl,rfl⟩|⟨hjk,ht'⟩
   ·intro et;rcases hv'f g et with e'|e'
    ·exact h.sep i j u v g hij hu' hv e e'
    ·have:=(h.lt hu' e).2;omega
   ·exact h.sep i j u t g hij hu' ht' e
 ·exact⟨by simp[World.setCell];omega,fun q hq=>(Below.heap_setCell _ _ _ _ (by show q≠O;exact fun e=>h.out.1 (e▸hq))).trans (hks1.block q hq)⟩
 ·refine((KeepsOthers.alloc W tmp).trans (KeepsOthers.of_grownBy hg fun j o ej hj=>?_)).trans (KeepsOthers.setCell _ _ _);rcases((h.own k v l hv hl).alloc tmp).2 with⟨rfl,_⟩|⟨g,cap,cur,rfl,_,hgb,_⟩
  ·simp[Value.ownBlock]at ej
  ·obtain rfl:g=j:=by simpa[Value.ownBlock]using ej
   rw[hgb]at hj;cases hj;rfl
theorem RowsAt.step_below(h:RowsAt W base S O vs ls){k:Nat}{v v':Value}{w1:World}{tmp:Obj}(hv:vs[k]? =some v)(hbase:base≤W.heap.size)(hg:(W.alloc tmp).grownBy w1 v.ownBlock):Below base W (w1.setCell ⟨O,k,none⟩ v'):=
 (((Below.refl base W).alloc hbase tmp).grown hg (by simp;omega) fun _ ej=>(h.lt hv ej).1).setCell (p:=⟨O,k,none⟩) h.out.2 v'
end
theorem RowsAt.start{W:World}{base n O:Nat}{S:Nat→Prop}(h:W.heap[O]? =some (.cells (List.replicate n (Value.slice none 0 0)).toArray 27 (0,0)))(hS:¬S O)(hb:base≤O):
 RowsAt W base S O (List.replicate n (.slice none 0 0)) (List.replicate n []):=by
 refine⟨h,by simp,fun i v l hv hl=>?_,fun i v g hv hg=>?_,fun i j v u g _ hv _ hg=>?_,hS,hb⟩
 ·obtain rfl:=List.eq_of_mem_replicate (List.mem_of_getElem? hv);obtain rfl:=List.eq_of_mem_replicate (List.mem_of_getElem? hl);exact EP.nil W base
 all_goals
  obtain rfl:=List.eq_of_mem_replicate (List.mem_of_getElem? hv);simp[Value.ownBlock]at hg
end Mu
end
section
namespace Mu
open Go Go.RowKit Go.Proofs Go.Shelf
attribute [local go_sem] Oper.semAt_some
def QB{f:Func}(b:Nat)(ls:List (List Int))(x:W6 f):List (List Int):=ls.set x.1 (ls.getD x.1 []++[(b:Int)])
def HU{f:Func}(b:Nat)(pre:List (W6 f))(ls:List (List Int)):List (List Int):=pre.foldl (QB b) ls
def Gy(f:Func):Nat→List (List Int)
 |0=>List.replicate f.blocks.length []
 |b+1=>HU b (CP f b) (Gy f b)
theorem Lb{f:Func}(b:Nat)(pre:List (W6 f))(x:W6 f)(ls:List (List Int)):HU b (pre++[x]) ls=QB b (HU b pre ls) x:=by simp[HU]
theorem IT{f:Func}(b:Nat)(pre:List (W6 f))(ls:List (List Int)):(HU b pre ls).length=ls.length:=by
 induction pre generalizing ls with
 |nil=>rfl
 |cons x l ih=>
  show(HU b l (QB b ls x)).length=_;rw[ih];simp[QB]
theorem Du(f:Func)(b:Nat):(Gy f b).length=f.blocks.length:=by
 induction b with
 |zero=>simp[Gy]
 |succ b ih=>rw[Gy,IT,ih]
theorem UT{f:Func}{b:Nat}{ls:List (List Int)}{x:W6 f}{n:Nat}(h:∀l∈ls,l.length≤n):∀l∈QB b ls x,l.length≤n+1:=fun l hl=>by
 rcases List.mem_or_eq_of_mem_set hl with hl|rfl
 ·have:=h l hl;omega
 ·rw[List.length_append];have:(ls.getD x.1 []).length≤n:=by
   rw[List.getD_eq_getElem?_getD];cases hx:ls[x.1]? with
   |none=>simp
   |some l=>exact h l (List.mem_of_getElem? hx)
  simp;exact this
theorem L8{f:Func}{b:Nat}{n:Nat}:∀(pre:List (W6 f)) {ls:List (List Int)} (_:∀l∈ls,l.length≤n),∀l∈HU b pre ls,l.length≤n+pre.length
 | [],ls,h=>by simpa[HU]using h
 |x::pre,ls,h=>fun l hl=>by
  have:=L8 (n:=n+1) pre (UT (x:=x) (b:=b) h) l hl;simp;omega
theorem Om(f:Func)(b:Nat):∀l∈Gy f b,l.length≤2 * b:=by
 induction b with
 |zero=>intro l hl;obtain rfl:=List.eq_of_mem_replicate hl;simp
 |succ b ih=>
  intro l hl;have:=L8 (CP f b) ih l hl;have:=MU f b;omega
theorem S8(z:Value)(n:Nat):madeCells #[z] n=(List.replicate n z).toArray:=by
 apply Array.ext
 ·simp[madeCells]
 ·intro i h1 h2;simp[madeCells,Nat.mod_one]
theorem Qb(f:Func)(cs:List Value)(w:World)(hR:Cl.R w w.heap.size cs f)(hl:f.blocks.length≤2097152)(hi:∀b∈f.blocks,b.ins.length≤2097152):
 Calls Try.prog 30 #[.agg cs.toArray] w fun e W'=>∃(O:Nat) (vs:List Value),e= .returned (.slice (some ⟨O,0,none⟩) f.blocks.length f.blocks.length)∧RowsAt W' w.heap.size (fun _=>False) O vs (Gy f f.blocks.length)∧Below w.heap.size w W':=by
 refine(callsIn_wide (n:=6)).1 ?_;obtain⟨i0,hiI,hz0,hz1,hz2⟩:=info_parts Dd;obtain⟨A,c,rfl,-,-,-,-⟩:=Ib.1 hR;have HR:=Lib.hid hR;have HI:=Lib.hid hi;clear hR hi;have hmk:=run_make_row' (P:=Try.prog) 34 27 (.slice none 0 0) 24 Try.underlying34 SK rfl .i64 .i64 f.blocks.length (by omega) (by omega);rw[S8]at hmk;refine callsIn_of_wp_marks Try.func30 rfl trivial ?_ rfl;simp only[Try.ntmps30,List.size_toArray,List.length_cons,List.length_nil,Nat.reduceAdd,Nat.reduceSub,Array.replicate_succ,Array.replicate_zero,List.push_toArray,List.append_toArray,List.nil_append,List.cons_append];obtain⟨W1,hW1⟩:∃W1:World,W1=((w.alloc (.cells #[.string f.name,.int .i64 f.args,.int .i64 f.regs,.slice A f.blocks.length c] 24)).alloc (.cells (List.replicate f.blocks.length (Value.slice none 0 0)).toArray 27)).alloc (.cells #[.slice (some ⟨w.heap.size+1,0,none⟩) f.blocks.length f.blocks.length] 34):=⟨_,rfl⟩
 gi_wp2
 refine wpIn_loop (fun a W=>∃(b:Nat) (ds:List Nat) (vs:List Value) (u4 u5 u14 u15 u16 u17 u18 u19 u20 u21 u22 u23 u24 u25 u26 u27 u28 u29 u30:Value),b≤f.blocks.length∧a= {tmps:=#[.agg #[.string f.name,.int .i64 f.args,.int .i64 f.regs,.slice A f.blocks.length c],.pointer (some ⟨w.heap.size,0,none⟩),.slice none 0 0,.pointer (some ⟨w.heap.size+1+1,0,none⟩),u4,u5,.pointer (some ⟨w.heap.size,3,none⟩),.slice A f.blocks.length c,.int .i64 f.blocks.length,.slice (some ⟨w.heap.size+1,0,none⟩) f.blocks.length f.blocks.length,.pointer (some ⟨w.heap.size,3,none⟩),.slice A f.blocks.length c,.int .i64 f.blocks.length,.int .i64 b,u14,u15,u16,u17,u18,u19,u20,u21,u22,u23,u24,u25,u26,u27,u28,u29,u30,undef],defers:=ds.map Mi}∧RowsAt W w.heap.size (fun k=>k≤w.heap.size∨k=w.heap.size+2) (w.heap.size+1) vs (Gy f b)∧
  KS (fun k=>k≤w.heap.size∨k=w.heap.size+2) W1 W∧Below w.heap.size w W∧ds.Nodup∧∀D∈ds,w.heap.size≤D∧W.heap[D]? =some (.deferred (some []))) (fun a _=>f.blocks.length - (RowKit.intOf (a.tmps.getD 13 undef)).toNat) ?start ?round
 case start=>
  refine⟨0,[],List.replicate f.blocks.length (.slice none 0 0),_,_,_,_,_,_,_,_,_,_,_,_,_,_,_,_,_,_,_,Nat.zero_le _,rfl,?_,?_,?_,List.nodup_nil,by simp⟩
  ·refine RowsAt.start ?_ (by omega) (by omega);refine Dj ?_ _;have h:=heap_alloc_new (w.alloc (.cells #[.string f.name,.int .i64 f.args,.int .i64 f.regs,.slice A f.blocks.length c] 24)) (.cells (List.replicate f.blocks.length (Value.slice none 0 0)).toArray 27);rwa [World.size_alloc]at h
  ·rw[hW1];exact KS.refl
  ·exact(((Below.refl _ _).alloc (Nat.le_refl _) _).alloc (by simp) _).alloc (by simp;omega) _
 case round=>
  rintro a W ⟨b,ds,vs,u4,u5,u14,u15,u16,u17,u18,u19,u20,u21,u22,u23,u24,u25,u26,u27,u28,u29,u30,hb,rfl,hR,hK,hB,hN,hD⟩;have hW1s:W1.heap.size=w.heap.size+1+1+1:=by rw[hW1];simp
  have hc3:W.cell? ⟨w.heap.size+1+1,0,none⟩=some (.slice (some ⟨w.heap.size+1,0,none⟩) f.blocks.length f.blocks.length):=by
   refine hK.cell (.inr rfl) ?_;rw[hW1];have h:=heap_alloc_new ((w.alloc (.cells #[.string f.name,.int .i64 f.args,.int .i64 f.regs,.slice A f.blocks.length c] 24)).alloc (.cells (List.replicate f.blocks.length (Value.slice none 0 0)).toArray 27)) (.cells #[.slice (some ⟨w.heap.size+1,0,none⟩) f.blocks.length f.blocks.length] 34);rw[World.size_alloc,World.size_alloc]at h;exact CN (cs:=[_]) h rfl
  have hfB:W.heap[w.heap.size]? =some (.cells [.string f.name,.int .i64 f.args,.int .i64 f.regs,.slice A f.blocks.length c].toArray 24 (0,0)):=by
   rw[hK.block _ (.inl (Nat.le_refl _)),hW1];exact Dj (Dj (heap_alloc_new w _) _) _
  have hWs:w.heap.size+1+1+1≤W.heap.size:=by have:=hK.size;omega
  clear hW1;by_cases hbn:b=f.blocks.length
  ·subst hbn;have d0:decide ((f.blocks.length:Int) < (f.blocks.length:Int))=false:=decide_eq_false (by omega)
   gi_wp2
   refine IL (fun X=>RowsAt X w.heap.size (fun _=>False) (w.heap.size+1) vs (Gy f f.blocks.length)∧Below w.heap.size w X) w.heap.size ?_ (fun _=>results_tmp rfl _ _ _) (fun X h=>⟨_,vs,rfl,h⟩) ds W hN hD ⟨hR.avoid (fun _ h=>h.elim),hB⟩;intro X D hX hDX hDo;exact⟨hX.1.grown (grownBy_putObj' X D _) (fun r e=>by cases e;exact⟨_,hDo,rfl⟩),hX.2.trans (belowK_b (w:=w) (Nat.le_refl _) X D _ _ hDX hDo rfl rfl)⟩
  ·have hbl:b < f.blocks.length:=by omega
   have d0:decide ((b:Int) < (f.blocks.length:Int))=true:=decide_eq_true (by omega);have cG:∀W',CallsIn Fence.wide 5 Try.prog 51 #[.agg #[.string f.name,.int .i64 f.args,.int .i64 f.regs,.slice A f.blocks.length c],.int .i64 b] W' fun e w''=>e= .returned (.func (.func 70) #[] #[.pointer (some ⟨W'.heap.size+1,0,none⟩),.pointer (some ⟨W'.heap.size,0,none⟩)])∧
    w''=(W'.alloc (.cells #[.string f.name,.int .i64 f.args,.int .i64 f.regs,.slice A f.blocks.length c] 24)).alloc (.cells #[.int .i64 b] 3):=fun W'=>RM Fence.wide 5 trivial rfl [.string f.name,.int .i64 f.args,.int .i64 f.regs,.slice A f.blocks.length c] b W' rfl
   have hfB2:=Dj hfB (.cells #[.int .i64 b] 3);have f0:=CN (j:=0) hfB2 rfl;have f1:=CN (j:=1) hfB2 rfl;have f2:=CN (j:=2) hfB2 rfl;have f3:=CN (j:=3) hfB2 rfl
   gi_wp2_with fail
   refine⟨trivial,(cG _).mono ?_⟩;rintro e w' ⟨rfl,rfl⟩;have hSo:∀k,((k≤w.heap.size∨k=w.heap.size+2∨k=W.heap.size)∨k=W.heap.size+1∨k=W.heap.size+1+1)→k < W.heap.size+1+1+1:=fun k hk=>by omega
   have hBW:Below W.heap.size W (((W.alloc (.cells #[.int .i64 b] 3)).alloc (.cells #[.string f.name,.int .i64 f.args,.int .i64 f.regs,.slice A f.blocks.length c] 24)).alloc (.cells #[.int .i64 b] 3)):=(((Below.refl _ _).alloc (Nat.le_refl _) _).alloc (by simp) _).alloc (by simp;omega) _;have hG2:=RN (W:=W.alloc (.cells #[.int .i64 b] 3)) (S:=fun k=>k≤w.heap.size∨k=w.heap.size+2∨k=W.heap.size) (bi:=b)
    (Cl.keepS HR.out (fun k hk=>by rw[Below.heap_alloc _ _ _ (by omega),hB.block k hk]) (fun k hk=>by omega)) (fun k hk=>by simp;omega) hl HI.out
   have hLs:((((W.alloc (.cells #[.int .i64 b] 3)).alloc (.cells #[.string f.name,.int .i64 f.args,.int .i64 f.regs,.slice A f.blocks.length c] 24)).alloc (.cells #[.int .i64 b] 3))).heap.size=W.heap.size+1+1+1:=by simp
   have hb4:(((W.alloc (.cells #[.int .i64 b] 3)).alloc (.cells #[.string f.name,.int .i64 f.args,.int .i64 f.regs,.slice A f.blocks.length c] 24)).alloc (.cells #[.int .i64 b] 3)).cell? ⟨W.heap.size,0,none⟩=some (.int .i64 b):=
    CN (cs:=[_]) (Dj (Dj (heap_alloc_new W _) _) _) rfl
   rw[World.size_alloc]at hG2;dsimp only[List.toArray]at hG2
   gi_wp2
   obtain⟨Wl,hWl⟩:∃Wl:World,Wl=(((W.alloc (.cells #[.int .i64 b] 3)).alloc (.cells #[.string f.name,.int .i64 f.args,.int .i64 f.regs,.slice A f.blocks.length c] 24)).alloc (.cells #[.int .i64 b] 3)):=⟨_,rfl⟩
   rw[←hWl]at hBW hG2 hLs hb4⊢;rw[←hLs]at hSo;clear hWl;have hRl:=(hR.avoid (S':=fun k=>(k≤w.heap.size∨k=w.heap.size+2∨k=W.heap.size)∨k=W.heap.size+1∨k=W.heap.size+1+1) (fun k hk=>by omega)).below hBW;refine wpIn_rangeFunc_ownG rfl (by decide) (gf:=70) (lb:=#[.pointer (some ⟨W.heap.size+1+1,0,none⟩),.pointer (some ⟨W.heap.size+1,0,none⟩)]) rfl trivial (enters_of Try.func70 (by kernel_rfl) rfl)
    (KW Fence.wide 5 trivial rfl (by decide) f b (W.heap.size+1) (W.heap.size+1+1) (fun k=>(k≤w.heap.size∨k=w.heap.size+2∨k=W.heap.size)∨k=W.heap.size+1∨k=W.heap.size+1+1) _ hSo hG2) Vj (Vk hSo) (Below.refl _ _) (fun _=>rfl)
    (fun(pre:List (W6 f)) W'=>(∃vs,RowsAt W' w.heap.size (fun k=>(k≤w.heap.size∨k=w.heap.size+2∨k=W.heap.size)∨k=W.heap.size+1∨k=W.heap.size+1+1) (w.heap.size+1) vs (HU b pre (Gy f b))∧
     KS (fun k=>(k≤w.heap.size∨k=w.heap.size+2∨k=W.heap.size)∨k=W.heap.size+1∨k=W.heap.size+1+1) Wl W'∧KeepsOthers Wl W')∧Below w.heap.size Wl W')
    (fun _ _ _=>False)
    (OwnFrom.and ?_ (ownFrom_below (by omega) (by omega)))
    (fun _ _ _ _ _ hs _ _=>hs)
    ⟨⟨vs,hRl,KS.refl,KeepsOthers.refl _⟩,Below.refl _ _⟩
    (fun x=>{tmps:=#[.agg #[.string f.name,.int .i64 f.args,.int .i64 f.regs,.slice A f.blocks.length c],.pointer (some ⟨w.heap.size,0,none⟩),.slice none 0 0,.pointer (some ⟨w.heap.size+1+1,0,none⟩),.pointer (some ⟨W.heap.size,0,none⟩),.int .i64 (Kr x),.pointer (some ⟨w.heap.size,3,none⟩),.slice A f.blocks.length c,.int .i64 f.blocks.length,.slice (some ⟨w.heap.size+1,0,none⟩) f.blocks.length f.blocks.length,.pointer (some ⟨w.heap.size,3,none⟩),.slice A f.blocks.length c,.int .i64 f.blocks.length,.int .i64 b,.bool true,.int .i64 b,.agg #[.string f.name,.int .i64 f.args,.int .i64 f.regs,.slice A f.blocks.length c],.int .i64 b,.func (.func 70) #[] #[.pointer (some ⟨W.heap.size+1+1,0,none⟩),.pointer (some ⟨W.heap.size+1,0,none⟩)],.int .i64 (Kr x),u20,u21,u22,u23,u24,u25,u26,u27,u28,u29,u30,undef],defers:=[]}) ?assign ?body ?done ?stop
   case assign=>
    intro l x W K hK
    gi_wp2
    exact hK
   case body=>
    rintro l pre x W' ⟨⟨vs',hR',hK',hO'⟩,hB'⟩ hlt;have hxl:x.1 < vs'.length:=by rw[hR'.len,IT,Du];exact x.2
    obtain⟨v,hv⟩:∃v,vs'[x.1]? =some v:=⟨_,List.getElem?_eq_getElem hxl⟩
    obtain⟨lk,hlk,hown⟩:=hR'.get hv;have hlen:lk.length≤2 * b+pre.length:=L8 pre (Om f b) lk (List.mem_of_getElem? hlk);have hgd:(HU b pre (Gy f b)).getD x.1 []=lk:=by rw[List.getD_eq_getElem?_getD,hlk];rfl
    have k0:(0:Int)≤Kr x:=by unfold Kr;omega
    have k1:Kr x < (f.blocks.length:Int):=by unfold Kr;have:=x.2;omega
    have k2:(Kr x).toNat=x.1:=by unfold Kr;omega
    have c3:=hK'.cell (a:=⟨w.heap.size+1+1,0,none⟩) (.inl (.inr (.inl rfl))) ((World.cell?_of_block (hBW.block (w.heap.size+1+1) (by omega))).trans hc3);have c4:=hK'.cell (a:=⟨W.heap.size,0,none⟩) (.inl (.inr (.inr rfl))) hb4;have cv:=hR'.cell hv
    gi_wp2
    have hO1:w.heap.size+1 < W'.heap.size:=IR hR'.box;have hSl:∀k,((k≤w.heap.size∨k=w.heap.size+2∨k=W.heap.size)∨k=W.heap.size+1∨k=W.heap.size+1+1)→k < W'.heap.size:=fun k hk=>by have:=hSo k hk;have:=hK'.size;omega
    have hRd:RowsAt W'.drew w.heap.size (fun k=>(k≤w.heap.size∨k=w.heap.size+2∨k=W.heap.size)∨k=W.heap.size+1∨k=W.heap.size+1+1) (w.heap.size+1) vs' (HU b pre (Gy f b)):=hR'.keep fun _ _=>rfl
    have hKa:KS (fun k=>(k≤w.heap.size∨k=w.heap.size+2∨k=W.heap.size)∨k=W.heap.size+1∨k=W.heap.size+1+1) W' (W'.alloc (.cells #[.int .i64 b] 3)):=⟨by simp,fun k hk=>Below.heap_alloc _ _ _ (hSl k hk)⟩
    have c3a:=hKa.cell (a:=⟨w.heap.size+1+1,0,none⟩) (.inl (.inr (.inl rfl))) c3;have c4a:=hKa.cell (a:=⟨W.heap.size,0,none⟩) (.inl (.inr (.inr rfl))) c4;have cva:=CN (Dj hR'.box (.cells #[.int .i64 b] 3)) hv;refine H9 (S:=fun X=>X.cell? ⟨w.heap.size+1+1,0,none⟩=some (.slice (some ⟨w.heap.size+1,0,none⟩) f.blocks.length f.blocks.length)∧X.cell? ⟨W.heap.size,0,none⟩=some (.int .i64 b)) (by kernel_rfl) (by kernel_rfl) (fun _ _ h=>h) ⟨c3,c4⟩ (fun hH=>?_);refine wpAnyH_take (i:=0) (v:=.slice (some ⟨w.heap.size+1,0,none⟩) f.blocks.length f.blocks.length) rfl (by kernel_rfl) (by kernel_rfl) (by kernel_rfl) (fun _ _ _ h=>h) (Or.inl ⟨by rfl,?_⟩) (by assumption) ?_
    ·rintro X ⟨h1,h3⟩
     go_simp
    simp only[Act.put,List.setIfInBounds_toArray];refine wpAnyH_take (i:=1) (v:=.int .i64 (Kr x)) rfl (by kernel_rfl) (by kernel_rfl) (by kernel_rfl) (fun _ _ _ h=>h) (Or.inl ⟨by rfl,?_⟩) (by assumption) ?_
    ·rintro X ⟨h1,h3⟩
     go_simp
    simp only[Act.put];refine wpAnyH_take (i:=2) (v:=.slice (some ⟨w.heap.size+1,0,none⟩) f.blocks.length f.blocks.length) rfl (by kernel_rfl) (by kernel_rfl) (by kernel_rfl) (fun _ _ _ h=>h) (Or.inl ⟨by rfl,?_⟩) (by assumption) ?_
    ·rintro X ⟨h1,h3⟩
     go_simp
    simp only[Act.put];refine wpAnyH_take (i:=3) (v:=.int .i64 (Kr x)) rfl (by kernel_rfl) (by kernel_rfl) (by kernel_rfl) (fun _ _ _ h=>h) (Or.inl ⟨by rfl,?_⟩) (by assumption) ?_
    ·rintro X ⟨h1,h3⟩
     go_simp
    simp only[Act.put];refine wpAnyH_take (i:=4) (v:=.pointer (some ⟨w.heap.size+1,x.1,none⟩)) rfl (by kernel_rfl) (by kernel_rfl) (by kernel_rfl) (fun _ _ _ h=>h) (Or.inl ⟨by rfl,?_⟩) (by assumption) ?_
    ·rintro X ⟨h1,h3⟩
     go_simp
    simp only[Act.put];refine wpAnyH_take (i:=6) (v:=.int .i64 b) rfl (by kernel_rfl) (by kernel_rfl) (by kernel_rfl) (fun _ _ _ h=>h) (Or.inl ⟨by rfl,?_⟩) (by assumption) ?_
    ·rintro X ⟨h1,h3⟩
     go_simp
    simp only[Act.put];refine wpAnyH_ready (rs:=[5,7]) (by kernel_rfl) (by simp) ?_;refine AllReadyH.cons rfl (fun K hK=>?_) (AllReadyH.cons rfl (fun K hK=>?_) AllReadyH.nil)
    ·go_simp
     refine hK.out _ _ ⟨c3,c4⟩ (fun hHeld=>?_);clear hK K;refine wpAnyH_ready (rs:=[7]) (by kernel_rfl) (by simp) ?_;refine AllReadyH.cons rfl (fun K hK=>?_) AllReadyH.nil
     go_simp
     refine hK.out _ _ ⟨c3a,c4a⟩ (fun hHeld=>?_);clear hK K;refine wpAnyH_ready (rs:=[8]) (by kernel_rfl) (by simp) ?_;refine AllReadyH.cons rfl (fun K hK=>?_) AllReadyH.nil;refine Mr rfl _ _ 27 rfl w.heap.size 3 i0 (.int .i64 0) 1 8 Try.underlying27 hiI hz0 hz1 hz2 rfl (by decide) (v:=v) (n:=lk.length) (xs:=lk.map (Value.int .i64)) rfl (hown.alloc (.cells #[.int .i64 b] 3)) (A:=some ⟨W'.heap.size,0,none⟩) (m:=1) (c:=1) (news:=[.int .i64 b]) rfl (EJ (w:=W'.drew) (size:=1) (m:=1) (cs:=#[.int .i64 b]) rfl) (by simp[Value.oneCell']) (by unfold maxLen;omega) (by omega) (by show w.heap.size≤(W'.alloc _).heap.size;simp;omega) ?_;intro v' w1 hown2 hgrow hat;obtain⟨g',cap',rfl⟩:=ownsRow_succ hown2;obtain⟨r1,r2,r3,r4,r5⟩:=hRd.step hSl hv hlk hown2 rfl hgrow hat;have r6:=hRd.step_below (v':=Value.slice (some ⟨g',0,none⟩) (lk.length+1) cap') hv (by show w.heap.size≤W'.heap.size;omega) hgrow;simp only[Act.put,List.setIfInBounds_toArray];have c3b:=r5.cell (a:=⟨w.heap.size+1+1,0,none⟩) (.inl (.inr (.inl rfl))) c3;have c4b:=r5.cell (a:=⟨W.heap.size,0,none⟩) (.inl (.inr (.inr rfl))) c4;refine hK.out _ _ ⟨c3b,c4b⟩ (fun hHeld=>?_);clear hK K;have hb1:=r4.trans hRd.box;have hfr:w1.frozen? ⟨w.heap.size+1,x.1,none⟩=false:=Ph hb1;have hcv1:=CN hb1 hv;refine wpAnyH_take (i:=9) (v:=.pointer (some ⟨w.heap.size+1,x.1,none⟩)) rfl (by kernel_rfl) (by kernel_rfl) (by kernel_rfl) (fun _ _ _ h=>h) (Or.inl ⟨by rfl,?_⟩) (by assumption) ?_
     ·rintro X ⟨h1,h3⟩
      go_simp
     simp only[Act.put];refine wpAnyH_ready (rs:=[10]) (by kernel_rfl) (by simp) ?_;refine AllReadyH.cons rfl (fun K hK=>?_) AllReadyH.nil
     go_simp
     refine hK.out _ _ ⟨r2.cell (W:=W'.drew) (a:=⟨w.heap.size+1+1,0,none⟩) (.inl (.inr (.inl rfl))) c3,r2.cell (W:=W'.drew) (a:=⟨W.heap.size,0,none⟩) (.inl (.inr (.inr rfl))) c4⟩ (fun hHeld=>?_);clear hK K;refine wpAnyH_done (by kernel_rfl) ?_ _;refine⟨⟨r3.size,fun k o _ hk ho=>r3.same k o hk ho⟩,⟨r2.size,r2.block⟩,⟨⟨vs'.set x.1 (.slice (some ⟨g',0,none⟩) (lk.length+1) cap'),?_,hK'.trans ⟨r2.size,r2.block⟩,hO'.trans ⟨r3.size,r3.same⟩⟩,hB'.trans ⟨r6.os,r6.tape,r6.output,r6.size,r6.block⟩⟩⟩;rw[Lb];unfold QB;rw[hgd];exact r1
    ·go_simp
     refine hK.out _ _ ⟨c3a,c4a⟩ (fun hHeld=>?_);clear hK K;refine wpAnyH_ready (rs:=[5]) (by kernel_rfl) (by simp) ?_;refine AllReadyH.cons rfl (fun K hK=>?_) AllReadyH.nil
     go_simp
     refine hK.out _ _ ⟨c3a,c4a⟩ (fun hHeld=>?_);clear hK K;refine wpAnyH_ready (rs:=[8]) (by kernel_rfl) (by simp) ?_;refine AllReadyH.cons rfl (fun K hK=>?_) AllReadyH.nil;refine Mr rfl _ _ 27 rfl w.heap.size 3 i0 (.int .i64 0) 1 8 Try.underlying27 hiI hz0 hz1 hz2 rfl (by decide) (v:=v) (n:=lk.length) (xs:=lk.map (Value.int .i64)) rfl (hown.alloc (.cells #[.int .i64 b] 3)) (A:=some ⟨W'.heap.size,0,none⟩) (m:=1) (c:=1) (news:=[.int .i64 b]) rfl (EJ (w:=W'.drew) (size:=1) (m:=1) (cs:=#[.int .i64 b]) rfl) (by simp[Value.oneCell']) (by unfold maxLen;omega) (by omega) (by show w.heap.size≤(W'.alloc _).heap.size;simp;omega) ?_;intro v' w1 hown2 hgrow hat;obtain⟨g',cap',rfl⟩:=ownsRow_succ hown2;obtain⟨r1,r2,r3,r4,r5⟩:=hRd.step hSl hv hlk hown2 rfl hgrow hat;have r6:=hRd.step_below (v':=Value.slice (some ⟨g',0,none⟩) (lk.length+1) cap') hv (by show w.heap.size≤W'.heap.size;omega) hgrow;simp only[Act.put,List.setIfInBounds_toArray];have c3b:=r5.cell (a:=⟨w.heap.size+1+1,0,none⟩) (.inl (.inr (.inl rfl))) c3;have c4b:=r5.cell (a:=⟨W.heap.size,0,none⟩) (.inl (.inr (.inr rfl))) c4;refine hK.out _ _ ⟨c3b,c4b⟩ (fun hHeld=>?_);clear hK K;have hb1:=r4.trans hRd.box;have hfr:w1.frozen? ⟨w.heap.size+1,x.1,none⟩=false:=Ph hb1;have hcv1:=CN hb1 hv;refine wpAnyH_take (i:=9) (v:=.pointer (some ⟨w.heap.size+1,x.1,none⟩)) rfl (by kernel_rfl) (by kernel_rfl) (by kernel_rfl) (fun _ _ _ h=>h) (Or.inl ⟨by rfl,?_⟩) (by assumption) ?_
     ·rintro X ⟨h1,h3⟩
      go_simp
     simp only[Act.put];refine wpAnyH_ready (rs:=[10]) (by kernel_rfl) (by simp) ?_;refine AllReadyH.cons rfl (fun K hK=>?_) AllReadyH.nil
     go_simp
     refine hK.out _ _ ⟨r2.cell (W:=W'.drew) (a:=⟨w.heap.size+1+1,0,none⟩) (.inl (.inr (.inl rfl))) c3,r2.cell (W:=W'.drew) (a:=⟨W.heap.size,0,none⟩) (.inl (.inr (.inr rfl))) c4⟩ (fun hHeld=>?_);clear hK K;refine wpAnyH_done (by kernel_rfl) ?_ _;refine⟨⟨r3.size,fun k o _ hk ho=>r3.same k o hk ho⟩,⟨r2.size,r2.block⟩,⟨⟨vs'.set x.1 (.slice (some ⟨g',0,none⟩) (lk.length+1) cap'),?_,hK'.trans ⟨r2.size,r2.block⟩,hO'.trans ⟨r3.size,r3.same⟩⟩,hB'.trans ⟨r6.os,r6.tape,r6.output,r6.size,r6.block⟩⟩⟩;rw[Lb];unfold QB;rw[hgd];exact r1
   case done=>
    rintro D ys W' hDl rfl ⟨⟨vs',hR',hK',hO'⟩,hB'⟩ hDo;have x1:IntKind.i64.wrap ((b:Int)+1)=((b+1:Nat):Int):=by rw[IntWalk.i64_in _ (by omega)];rfl
    gi_wp2
    have hlt':∀D'∈ds,D' < W.heap.size:=fun D' h'=>IR (hD D' h').2
    refine⟨⟨b+1,D::ds,vs',_,_,_,_,_,_,_,_,_,_,_,_,_,_,_,_,_,_,_,by omega,rfl,hR'.avoid (fun k hk=>.inl (.inl (by omega))),hK.trans ⟨?_,fun k hk=>?_⟩,hB.trans ((hBW.mono (by omega)).trans hB'),?_,?_⟩,?_⟩
    ·have:=hBW.size;have:=hK'.size;omega
    ·exact(hK'.block k (.inl (by omega))).trans (hBW.block k (by omega))
    ·exact List.nodup_cons.2 ⟨fun h'=>by have:=hlt' D h';omega,hN⟩
    ·intro D' h';rcases List.mem_cons.1 h' with rfl|h'
     ·exact⟨by omega,hDo⟩
     ·exact⟨(hD D' h').1,hO'.same _ _ ((hBW.block D' (hlt' D' h')).trans (hD D' h').2) rfl⟩
    ·simp[RowKit.intOf];omega
   case stop=>
    rintro D c pre W _ _ h _;exact h.elim
   intro s X Y row hs hg hr;obtain⟨vs',h1,h2,h3⟩:=hs;refine⟨vs',h1.grown hg (fun r e=>(hr r e).2),⟨Nat.le_trans h2.size hg.size,fun k hk=>(hg.block k ?_ ?_).trans (h2.block k hk)⟩,⟨Nat.le_trans h3.size hg.size,fun k o hk ho=>(hg.block k ?_ ?_).trans (h3.same k o hk ho)⟩⟩
   ·have:=hSo k hk;have:=h2.size;omega
   ·intro e;have:=(hr k e.symm).1;have:=hSo k hk;omega
   ·have:=IR (h3.same k o hk ho);omega
   ·intro e;have:=(hr k e.symm).1;have:=IR hk;omega
attribute [local go_sem] Oper.semAt_some
end Mu
end
section
namespace Mu
open Go Go.RowKit Go.Proofs
structure smallB(b:Block):Prop where
 ins:b.ins.length≤2097152
 all:∀x∈b.ins,x.args.length+8≤2097152
structure smallF(f:Func):Prop where
 blocks:f.blocks.length≤2097152
 all:∀b∈f.blocks,smallB b
theorem JI(x:Ins):(readsC x).length≤x.args.length+2:=by
 unfold readsC;simp only[List.length_append];split <;> split <;> split <;> simp <;> omega
def NO(l:List Ins)(m:Nat):Nat:=((l.take m).map fun x=>x.args.length).sum
def sumB(f:Func)(b:Nat):Nat:=((f.blocks.take b).map fun bl=>bl.ins.length+NO bl.ins 200).sum
def It(f:Func):Bool:=decide (40 < f.blocks.length)||decide (250 < sumB f 60)
theorem Mq{l:List Ins}{m:Nat}{x:Ins}(hx:l[m]? =some x):NO l (m+1)=NO l m+x.args.length:=by
 unfold NO;rw[List.take_add_one,hx,List.map_append,List.sum_append];simp
theorem Mp{f:Func}{b:Nat}{x:Block}(hx:f.blocks[b]? =some x):sumB f (b+1)=sumB f b+(x.ins.length+NO x.ins 200):=by
 unfold sumB;rw[List.take_add_one,hx,List.map_append,List.sum_append];simp
theorem QT{l:List Ins}(h:∀x∈l,x.args.length≤2097152)(m:Nat):NO l m≤m * 2097152:=by
 induction m with
 |zero=>simp[NO]
 |succ m ih=>
  cases hx:l[m]? with
  |none=>
   have:NO l (m+1)=NO l m:=by unfold NO;rw[List.take_add_one,hx];simp
   omega
  |some x=>
   rw[Mq hx];have:=h x (List.mem_of_getElem? hx);omega
theorem T3{f:Func}(hs:smallF f)(b:Nat):sumB f b≤b * 421527552:=by
 induction b with
 |zero=>simp[sumB]
 |succ b ih=>
  cases hx:f.blocks[b]? with
  |none=>
   have:sumB f (b+1)=sumB f b:=by unfold sumB;rw[List.take_add_one,hx];simp
   omega
  |some x=>
   rw[Mp hx];have h1:=hs.all x (List.mem_of_getElem? hx);have h2:=h1.ins;have h3:=QT (l:=x.ins) (fun y hy=>by have:=h1.all y hy;omega) 200;omega
theorem SH{l:List Ins}{i:Nat}(hi:i≤l.length)(h:¬(i < l.length∧i < 200))(h2:i≤200):NO l i=NO l 200:=by
 by_cases hl:i < l.length
 ·have:i=200:=by omega
  rw[this]
 ·have:i=l.length:=by omega
  unfold NO;rw[List.take_of_length_le (by omega),List.take_of_length_le (by omega)]
theorem SG{f:Func}{b:Nat}(hi:b≤f.blocks.length)(h:¬(b < f.blocks.length∧b < 60))(h2:b≤60):sumB f b=sumB f 60:=by
 by_cases hl:b < f.blocks.length
 ·have:b=60:=by omega
  rw[this]
 ·have:b=f.blocks.length:=by omega
  unfold sumB;rw[List.take_of_length_le (by omega),List.take_of_length_le (by omega)]
theorem Mn{p q:Bool}(h:¬(p=true∧q=true)):p=false∨(p=true∧q=false):=by cases p <;> cases q <;> simp at h⊢
theorem PZ(f:Func)(hs:smallF f):Fn Try.prog 24 [.agg (Ap f)] (.lit (.bool (It f))):=by
 have hbl:=hs.blocks;refine AM Try.func24 rfl (by kernel_rfl) rfl Try.ntmps24 fun C hC=>?_
 refine nS ?_;refine Wv ?_;refine Wv ?_;refine Aq fun K3 h3=>?_
 refine Wv ?_;refine Aj ?_;refine Cv (fun b:Nat=>⟨(.any::.ptr 0 0::.any::.lit (.int .i64 (sumB f b:Int))::.lit (.int .i64 (b:Int))::Xd (Xf (A7 []))),[.box (Ap f)]⟩) (fun b=>b≤f.blocks.length∧b≤60) (fun b=>f.blocks.length - b) 0 ⟨Nat.zero_le _,Nat.zero_le _⟩ (JY) ?_;rintro b ⟨hb,hb60⟩;have hsb:=T3 hs b;refine Aq fun K5 h5=>?_
 by_cases hgo:b < f.blocks.length∧b < 60
 ·have hd1:decide ((b:Int) < (f.blocks.length:Int))=true:=by simpa using hgo.1
  have hd2:decide ((b:Int) < 60)=true:=by simp;omega
  obtain⟨bl,hbk⟩:∃bl,f.blocks[b]? =some bl:=⟨_,List.getElem?_eq_getElem hgo.1⟩
  have hbs:=hs.all bl (List.mem_of_getElem? hbk);have hbi:=hbs.ins;have hsuc:=Mp hbk;refine Wv ?_;refine An rfl (fun hb7=>?_) (fun hb=>by cases hb);refine As ?_;refine h5 _ ?_;refine nT ?_;refine Aq fun K8 h8=>?_
  refine Aj ?_;refine Wv ?_;refine Wv ?_;refine Aj ?_;refine Cv (fun i:Nat=>⟨(.any::.ptr 0 0::.any::.lit (.int .i64 ((sumB f b+bl.ins.length+NO bl.ins i:Nat):Int))::.lit (.int .i64 (b:Int))::.lit (.int .i64 (i:Int))::Xd (Xf (A6 []))),[.box (Ap f)]⟩) (fun i=>i≤bl.ins.length∧i≤200) (fun i=>bl.ins.length - i) 0 ⟨Nat.zero_le _,Nat.zero_le _⟩ (JY) ?_;rintro i ⟨hi,hi200⟩;have hsa:=QT (l:=bl.ins) (fun y hy=>by have:=hbs.all y hy;omega) i;refine Aq fun K11 h11=>?_
  by_cases hgi:i < bl.ins.length∧i < 200
  ·have hd3:decide ((i:Int) < (bl.ins.length:Int))=true:=by simpa using hgi.1
   have hd4:decide ((i:Int) < 200)=true:=by simp;omega
   obtain⟨x,hx⟩:∃x,bl.ins[i]? =some x:=⟨_,List.getElem?_eq_getElem hgi.1⟩
   have hxa:=hbs.all x (List.mem_of_getElem? hx);have hsx:=Mq hx;refine Wv ?_;refine An rfl (fun hb13=>?_) (fun hb=>by cases hb);refine As ?_;refine h11 _ ?_;refine nT ?_;refine Aq fun K14 h14=>?_
   refine Aj ?_;refine rR ?_;refine h14 _ ?_;refine nT ?_;refine rR ?_;refine Am ⟨i+1,⟨by omega,by omega⟩,by omega,?_⟩;rw[hsx,←Nat.add_assoc];exact JY
  ·have htt:decide ((i:Int) < (bl.ins.length:Int))=false∨(decide ((i:Int) < (bl.ins.length:Int))=true∧decide ((i:Int) < 200)=false):=Mn fun h=>hgi ⟨by simpa using h.1,by have:=of_decide_eq_true h.2;omega⟩
   refine Aq fun K12 h12=>?_
   have hse:=SH hi hgi hi200;have hfin:∀s':St,St.le C s' ⟨(.any::.ptr 0 0::.any::.lit (.int .i64 ((sumB f b+bl.ins.length+NO bl.ins 200:Nat):Int))::.lit (.int .i64 (b:Int))::Xe (Xf (A3 (.lit (.bool false)::Xe (A3 []))))),[.box (Ap f)]⟩→K12 s':=fun s' hle=>by
    refine h12 _ (Be _ hle ?_);refine An rfl (fun hb=>by cases hb) (fun hb=>?_);refine AI ?_;refine h8 _ ?_;refine nT ?_;refine rR ?_;refine Am ⟨b+1,⟨by omega,by omega⟩,by omega,?_⟩;rw[hsuc,←Nat.add_assoc];exact JY
   rw[←hse]at hfin;rcases htt with q1|⟨q1,q2⟩
   all_goals
    refine rR ?_;refine Am (hfin _ ?_);exact JY
 ·have htt:decide ((b:Int) < (f.blocks.length:Int))=false∨(decide ((b:Int) < (f.blocks.length:Int))=true∧decide ((b:Int) < 60)=false):=Mn fun h=>hgo ⟨by simpa using h.1,by have:=of_decide_eq_true h.2;omega⟩
  refine Aq fun K6 h6=>?_
  have hse:=SG hb hgo hb60;have hfin:∀s':St,St.le C s' ⟨(.any::.ptr 0 0::.any::.lit (.int .i64 (sumB f 60:Int))::Xf (.lit (.bool false)::Xd (A7 []))),[.box (Ap f)]⟩→K6 s':=fun s' hle=>by
   refine h6 _ (Be _ hle ?_);refine An rfl (fun hb=>by cases hb) (fun hb=>?_);refine AI ?_;refine h3 _ ?_;refine nT ?_;refine Aq fun K20 h20=>?_
   have hg1:decide ((f.blocks.length:Int) > 40)=decide (40 < f.blocks.length):=by rw[decide_eq_decide];omega
   have hg2:decide ((sumB f 60:Int) > 250)=decide (250 < sumB f 60):=by rw[decide_eq_decide];omega
   rcases hq1:decide (40 < f.blocks.length)with _|_
   ·rw[hq1]at hg1;refine rR ?_;refine h20 _ ?_;refine nT ?_;refine AH ?_;have:It f=decide (250 < sumB f 60):=by unfold It;rw[hq1];rfl
    rw[this];exact⟨.inr rfl,W0.cl rfl⟩
   ·rw[hq1]at hg1;refine rR ?_;refine h20 _ ?_;refine nT ?_;refine AH ?_;have:It f=true:=by unfold It;rw[hq1];rfl
    rw[this];exact⟨.inr rfl,W0.cl rfl⟩
  rw[←hse]at hfin;rcases htt with q1|⟨q1,q2⟩
  all_goals
   refine rR ?_;refine Am (hfin _ ?_);exact JY
end Mu
end
section
namespace Mu
open Go
def Vx(f:Func)(b:Nat):List Int:=(Gy f f.blocks.length).getD b []
theorem Nq{f:Func}(m b:Nat)(hb:b < f.blocks.length):∀(pre:List (W6 f)) (ls:List (List Int)),ls.length=f.blocks.length→∀x,x∈(HU m pre ls).getD b []↔x∈ls.getD b []∨(x=(m:Int)∧∃y∈pre,y.1=b)
 | [],ls,_,x=>by simp[HU]
 |y::pre,ls,hl,x=>by
  show x∈(HU m pre (QB m ls y)).getD b []↔_;rw[Nq m b hb pre (QB m ls y) (by simp[QB,hl]) x];have key:x∈(QB m ls y).getD b []↔x∈ls.getD b []∨(x=(m:Int)∧y.1=b):=by
   unfold QB;by_cases hy:y.1=b
   ·rw[←hy,List.getD_eq_getElem?_getD,List.getElem?_set_self (by rw[hl];exact y.2)];simp
   ·rw[List.getD_eq_getElem?_getD,List.getElem?_set_ne hy,←List.getD_eq_getElem?_getD];simp[hy]
  rw[key];constructor
  ·rintro((h|h)|⟨h1,z,h2,h3⟩)
   ·exact .inl h
   ·exact .inr ⟨h.1,y,by simp,h.2⟩
   ·exact .inr ⟨h1,z,by simp[h2],h3⟩
  ·rintro(h|⟨h1,z,h2,h3⟩)
   ·exact .inl (.inl h)
   ·rcases List.mem_cons.1 h2 with rfl|h2
    ·exact .inl (.inr ⟨h1,h3⟩)
    ·exact .inr ⟨h1,z,h2,h3⟩
theorem L4{f:Func}(b:Nat)(hb:b < f.blocks.length):∀(m:Nat) (x:Int),x∈(Gy f m).getD b []↔∃k:Nat,k < m∧Edge f k b∧x=(k:Int)
 |0,x=>by
  rw[Gy,List.getD_eq_getElem?_getD,List.getElem?_replicate];split <;> simp
 |m+1,x=>by
  rw[Gy,Nq m b hb _ _ (Du f m),L4 b hb m];constructor
  ·rintro(⟨k,h1,h2,h3⟩|⟨h1,y,h2,h3⟩)
   ·exact⟨k,by omega,h2,h3⟩
   ·exact⟨m,by omega,⟨y,h2,h3⟩,h1⟩
  ·rintro⟨k,h1,h2,h3⟩;by_cases hk:k=m
   ·subst hk;obtain⟨y,h4,h5⟩:=h2;exact .inr ⟨h3,y,h4,h5⟩
   ·exact .inl ⟨k,by omega,h2,h3⟩
theorem Jl{f:Func}{k b:Nat}(h:Edge f k b):k < f.blocks.length∧b < f.blocks.length:=by
 obtain⟨y,h1,rfl⟩:=h;refine⟨?_,y.2⟩;unfold CP at h1;rw[if_pos (by omega)]at h1;simp only[Int.toNat_natCast]at h1;cases hk:f.blocks[k]? with
 |none=>rw[hk]at h1;cases h1
 |some bl=>exact(List.getElem?_eq_some_iff.1 hk).1
theorem Gs{f:Func}{b:Nat}(hb:b < f.blocks.length)(x:Int):x∈Vx f b↔∃k:Nat,Edge f k b∧x=(k:Int):=by
 unfold Vx;rw[L4 b hb];constructor
 ·rintro⟨k,_,h2,h3⟩;exact⟨k,h2,h3⟩
 ·rintro⟨k,h2,h3⟩;exact⟨k,(Jl h2).1,h2,h3⟩
end Mu
end
section
namespace Mu
open Go Go.RowKit Go.Proofs Go.Maps
theorem Vi{k:Nat}(h:k≤9223372036854775807):Wc .i64 (k:Int):=by
 simp[Wc,Lit.wf,IntKind.min,IntKind.max,IntKind.signed,IntKind.bits];omega
theorem PC{W:World}{base O c:Nat}{vs:List Value}{ls:List (List Int)}(h:RowsAt W base (fun _=>False) O vs ls)(hw:∀l∈ls,By l)(hc:ls.length≤c∧c≤maxLen):
 tInt.slice.slice.RS W (fun k=>base≤k∧k < W.heap.size) [.slice (some ⟨O,0,none⟩) ls.length c] ls:=by
 have hO:O < W.heap.size:=(Array.getElem?_eq_some_iff.1 h.box).1;refine⟨_,c,rfl,hc.1,⟨hc.2,fun e=>by cases e⟩,fun i l hl=>⟨O,0,rfl,⟨h.out.2,hO⟩,?_⟩⟩;have hil:i < vs.length:=by rw[h.len];exact(List.getElem?_eq_some_iff.1 hl).1
 obtain⟨v,hv⟩:∃v,vs[i]? =some v:=⟨_,List.getElem?_eq_getElem hil⟩
 have ho:=h.own i v l hv hl;refine⟨[v],tInt.slice.keepS (MN ho fun x hx=>hw l (List.mem_of_getElem? hl) x hx) (fun _ _=>rfl) fun k hk=>h.lt hv hk,fun j u hu=>?_⟩;cases j with
 |zero=>
  cases hu;have:=h.cell hv;show W.cell? ⟨O,0+i * 1+0,none⟩=some v;rw[Nat.mul_one,Nat.zero_add,Nat.add_zero];exact this
 |succ j=>cases hu
theorem UP(f:Func)(hl:f.blocks.length≤2097152):∀l∈Gy f f.blocks.length,By l:=fun l hm x hx=>by
 obtain⟨b,hb⟩:=List.mem_iff_getElem?.1 hm;have hbl:b < f.blocks.length:=by have:=(List.getElem?_eq_some_iff.1 hb).1;rwa [Du]at this
 have hx':x∈(Gy f f.blocks.length).getD b []:=by rw[List.getD_eq_getElem?_getD,hb];exact hx
 obtain⟨k,h1,_,rfl⟩:=(L4 b hbl _ _).1 hx';exact Vi (by omega)
theorem Sb(f:Func)(ho:okFunc f)(hs:smallF f):Fn Try.prog 30 [.agg (Ap f)] (.bs tInt.slice (Gy f f.blocks.length)):=
 OC (by kernel_rfl) fun w vs hr=>by
  obtain⟨v,rfl,h1⟩:=US hr;unfold AV.rel at h1;obtain⟨cs,rfl,hcs⟩:=h1;refine(Qb f cs w (OY ho hcs) hs.blocks fun b hb=>(hs.all b hb).ins).mono ?_;rintro e W' ⟨O,vs',rfl,hR,hB⟩;have hl:(Gy f f.blocks.length).length=f.blocks.length:=Du f _;have:=PC (c:=f.blocks.length) hR (UP f hs.blocks) ⟨by rw[hl];exact Nat.le_refl _,by have:=hs.blocks;unfold maxLen;omega⟩;rw[hl]at this;exact⟨_,rfl,this,hB⟩
section
variable{C:Ctx}{t:List AV}{h:List ABlk}{o:Oper}
end
end Mu
end
section
namespace Mu
open Go Go.RowKit Go.Proofs
theorem Rt{f:Func}{b:Int}(h:¬(0≤b∧b < f.blocks.length)):nextL f b= []:=by
 unfold nextL CP;split
 ·rw[List.getElem?_eq_none (by omega)];rfl
 ·rfl
theorem S6{f:Func}{k:Nat}{bl:Block}(h:f.blocks[k]? =some bl):nextL f (k:Int)=(Ht f bl).map Kr:=by
 unfold nextL CP;rw[if_pos (by omega)];simp[h]
theorem Ru{f:Func}{bl:Block}(h:bl.ins= []):(Ht f bl).map Kr= []:=by
 unfold Ht;rw[h];rfl
def WK(f:Func)(k:Int):Bool:=decide (k≥0)&&decide (k < (f.blocks.length:Int))
def KM(f:Func)(x:Ins):Bool:=((x.op ==8)||(x.op ==9))&&WK f x.l1
def SC(f:Func)(x:Ins):Bool:=(x.op ==9)&&(x.l2 !=x.l1)&&WK f x.l2
theorem RX(f:Func)(l:List Int):(BN f l).map Kr=l.filter (WK f):=by
 unfold BN;induction l with
 |nil=>rfl
 |cons k l ih=>
  by_cases h:0≤k∧k < f.blocks.length
  ·obtain⟨m,rfl⟩:=Int.eq_ofNat_of_zero_le h.1;have hm:m < f.blocks.length:=by omega
   rw[List.filterMap_cons,Jt hm,List.map_cons,ih,List.filter_cons_of_pos (by simp[WK];omega)];rfl
  ·rw[List.filterMap_cons,ON h,ih,List.filter_cons_of_neg (by simp[WK];omega)]
theorem PN{f:Func}{bl:Block}{x:Ins}(h:bl.ins.getLast? =some x):(Ht f bl).map Kr=(if KM f x then [x.l1]else [])++if SC f x then [x.l2]else []:=by
 unfold Ht;rw[h];simp only;rw[RX];unfold Do KM SC;have hneg:WK f (-1)=false:=by simp[WK]
 by_cases h9:x.op=9
 ·rw[if_pos h9];by_cases he:x.l2=x.l1
  ·rw[if_pos he];cases h1:WK f x.l1 <;> simp[h9,he,h1,hneg]
  ·rw[if_neg he];cases h1:WK f x.l1 <;> cases h2:WK f x.l2 <;> simp[h9,he,h1,h2]
 ·rw[if_neg h9];by_cases h8:x.op=8
  ·rw[if_pos h8];cases h1:WK f x.l1 <;> simp[h8,h1,hneg]
  ·rw[if_neg h8];simp[h8,h9]
theorem PO(f:Func)(b:Int)(hout:¬(0≤b∧b < f.blocks.length)):Fn Try.prog 36 [.agg (Ap f),.lit (.int .i64 b)] (.bs tInt []):=by
 refine NB (AM Try.func36 rfl (by kernel_rfl) rfl Try.ntmps36 fun C hC=>?_);refine nS ?_;refine Wv ?_;refine Aq fun K2 h2=>?_
 refine Aq fun K3 h3=>?_
 rcases hb:decide (b < 0)with _|_
 ·have hb2:decide (b≥(f.blocks.length:Int))=true:=by simp at hb⊢;omega
  refine rR ?_;refine h3 _ ?_;refine nT ?_;refine An rfl (fun hb4=>?_) (fun hb4=>by cases hb4);refine Wv ?_;refine AH ?_;exact⟨.inr rfl,W0.cl rfl⟩
 ·refine rR ?_;refine h3 _ ?_;refine nT ?_;refine An rfl (fun hb4=>?_) (fun hb4=>by cases hb4);refine Wv ?_;refine AH ?_;exact⟨.inr rfl,W0.cl rfl⟩
theorem PP(f:Func)(k:Nat)(bl:Block)(hk:f.blocks[k]? =some bl)(hl:f.blocks.length≤2097152)(hn:bl.ins= []):Fn Try.prog 36 [.agg (Ap f),.lit (.int .i64 (k:Int))] (.bs tInt []):=by
 have hkl:k < f.blocks.length:=(List.getElem?_eq_some_iff.1 hk).1;have hb:decide ((k:Int) < 0)=false:=by simp
 have hb2:decide ((k:Int)≥(f.blocks.length:Int))=false:=by simp;omega
 have hb3:((bl.ins.length:Int) ==0)=true:=by simp[hn]
 refine NB (AM Try.func36 rfl (by kernel_rfl) rfl Try.ntmps36 fun C hC=>?_);refine nS ?_;refine Wv ?_;refine Aq fun K2 h2=>?_
 refine Wv ?_;refine An rfl (fun hb4=>?_) (fun hb4=>by cases hb4);refine Wv ?_;refine AH ?_;exact⟨.inr rfl,W0.cl rfl⟩
theorem Rx(f:Func)(k:Nat)(bl:Block)(x:Ins)(hk:f.blocks[k]? =some bl)(hl:f.blocks.length≤2097152)(hi:bl.ins.length≤2097152)(hx:bl.ins.getLast? =some x)(hox:okIns x):
 Fn Try.prog 36 [.agg (Ap f),.lit (.int .i64 (k:Int))] (.bs tInt ((if KM f x then [x.l1]else [])++if SC f x then [x.l2]else [])):=by
 have hkl:k < f.blocks.length:=(List.getElem?_eq_some_iff.1 hk).1;have hpos:0 < bl.ins.length:=by
  cases hz:bl.ins with
  |nil=>rw[hz]at hx;cases hx
  |cons y l=>simp
 have hxa:bl.ins[((bl.ins.length:Int) - 1).toNat]? =some x:=by
  rw[List.getLast?_eq_getElem?]at hx;rw[←hx];congr 1;omega
 have hb:decide ((k:Int) < 0)=false:=by simp
 have hb2:decide ((k:Int)≥(f.blocks.length:Int))=false:=by simp;omega
 have hb3:((bl.ins.length:Int) ==0)=false:=beq_eq_false_iff_ne.2 (by omega);have ho1:=hox.l1;have ho2:=hox.l2;have hm1:(1:Nat)≤maxLen:=by decide
 refine AM Try.func36 rfl (by kernel_rfl) rfl Try.ntmps36 fun C hC=>?_
 refine nS ?_;refine Wv ?_;refine Aq fun K2 h2=>?_
 refine Wv ?_;refine An rfl (fun hb4=>by cases hb4) (fun hb4=>?_);refine As ?_;refine h2 _ ?_;refine nT ?_;refine Aq fun K6 h6=>?_
 (refine Ss 40 17 16 (by kernel_rfl) (by kernel_rfl) (by decide) rfl rfl ?_;simp only[List.take_succ_cons,List.take_zero,List.drop_succ_cons,List.drop_zero,List.take_nil,List.drop_nil];(repeat((first|(refine V7 rfl rfl rfl ?_;(first|refine Dw (Az.move rfl (by(conv=>lhs;whnf);try rfl)) ⟨rfl,?_⟩|refine Dw (Az.assign rfl (by(conv=>lhs;whnf);try rfl)) ⟨rfl,?_⟩|refine Dw (Cu rfl rfl rfl) ⟨rfl,?_⟩|refine Dw (Dv rfl rfl) ⟨rfl,?_⟩|refine Dw (B1 rfl rfl rfl) ⟨rfl,?_⟩|refine Dw (BF rfl rfl rfl rfl) ⟨rfl,?_⟩|refine Dw (BU rfl rfl rfl) ⟨rfl,?_⟩|refine Dw (AO rfl rfl rfl (by assumption) rfl) ⟨rfl,?_⟩|refine Dw (AB rfl rfl rfl rfl) ⟨rfl,?_⟩|refine Dw (DC rfl rfl rfl) ⟨rfl,?_⟩|refine Dw (Jq rfl rfl rfl rfl (by assumption)) ⟨rfl,?_⟩|refine Dw (F6 rfl rfl rfl rfl (by first|decide|omega) (by assumption)) ⟨rfl,?_⟩|refine Dw (H3 rfl rfl rfl rfl rfl (by first|assumption|omega)) ⟨rfl,?_⟩|refine Dw (Fc rfl rfl rfl rfl rfl (by first|decide|omega) (by first|assumption|omega)) ⟨rfl,?_⟩|refine Dw (Az.ln rfl rfl) ⟨rfl,?_⟩|refine Dw (F5 rfl rfl rfl) ⟨rfl,?_⟩|refine Dw (Az.lnl rfl rfl) ⟨rfl,?_⟩|refine Dw (Fv rfl rfl rfl (by omega)) ⟨rfl,?_⟩|refine Dw (Ft rfl rfl rfl (by omega)) ⟨rfl,?_⟩|refine Dw (Gt rfl rfl rfl rfl (by assumption)) ⟨rfl,?_⟩|refine Dw (BV rfl rfl rfl rfl) ⟨rfl,?_⟩|refine Dw (Eg rfl rfl) ⟨rfl,?_⟩|refine Dw (Az.pick rfl rfl (by(conv=>lhs;whnf);try rfl)) ⟨rfl,?_⟩|refine Dw (Az.extract rfl rfl rfl) ⟨rfl,?_⟩|refine Dw (HZ rfl rfl rfl (by rfl) (by decide) (by first|exact WZ.bool|exact WZ.bs|exact WZ.int (by assumption))) ⟨rfl,?_⟩|refine Dw (Az.max2 rfl rfl rfl) ⟨rfl,?_⟩|refine Dw (Az.min2 rfl rfl rfl) ⟨rfl,?_⟩))|refine bQ_skip rfl rfl rfl ?_|refine VT rfl rfl rfl rfl ?_);refine VS (by(try simp only[Bn,List.set_cons_zero,List.set_cons_succ]);exact rfl) ?_));refine Vy ?_;(repeat((first|(refine AT rfl ?_;(first|refine Bz (Az.move rfl (by(conv=>lhs;whnf);try rfl)) ?_|refine Bz (Az.assign rfl (by(conv=>lhs;whnf);try rfl)) ?_|refine Bz (Cu rfl rfl rfl) ?_|refine Bz (Dv rfl rfl) ?_|refine Bz (B1 rfl rfl rfl) ?_|refine Bz (BF rfl rfl rfl rfl) ?_|refine Bz (BU rfl rfl rfl) ?_|refine Bz (AO rfl rfl rfl (by assumption) rfl) ?_|refine Bz (AB rfl rfl rfl rfl) ?_|refine Bz (DC rfl rfl rfl) ?_|refine Bz (Jq rfl rfl rfl rfl (by assumption)) ?_|refine Bz (F6 rfl rfl rfl rfl (by first|decide|omega) (by assumption)) ?_|refine Bz (H3 rfl rfl rfl rfl rfl (by first|assumption|omega)) ?_|refine Bz (Fc rfl rfl rfl rfl rfl (by first|decide|omega) (by first|assumption|omega)) ?_|refine Bz (Az.ln rfl rfl) ?_|refine Bz (F5 rfl rfl rfl) ?_|refine Bz (Az.lnl rfl rfl) ?_|refine Bz (Fv rfl rfl rfl (by omega)) ?_|refine Bz (Ft rfl rfl rfl (by omega)) ?_|refine Bz (Gt rfl rfl rfl rfl (by assumption)) ?_|refine Bz (BV rfl rfl rfl rfl) ?_|refine Bz (Eg rfl rfl) ?_|refine Bz (Az.pick rfl rfl (by(conv=>lhs;whnf);try rfl)) ?_|refine Bz (Az.extract rfl rfl rfl) ?_|refine Bz (HZ rfl rfl rfl (by rfl) (by decide) (by first|exact WZ.bool|exact WZ.bs|exact WZ.int (by assumption))) ?_|refine Bz (Az.max2 rfl rfl rfl) ?_|refine Bz (Az.min2 rfl rfl rfl) ?_|refine Xb.box rfl Pn.agg ?_|refine Sz rfl ?_|refine Gc rfl rfl rfl (Lh rfl) rfl (Nat.le_of_ble_eq_true rfl) ?_|refine OI rfl rfl rfl rfl rfl (by first|assumption|(simp[maxLen];done)|(simp[maxLen];omega)) (by first|assumption|(simp;done)|(simp;omega)) ?_|refine BW rfl rfl rfl (by assumption) (by first|exact WZ.bool|exact WZ.bs|exact WZ.int (by assumption)) rfl ?_))|refine Ki rfl ?_);refine UU (by(try simp only[Bn,List.set_cons_zero,List.set_cons_succ]);exact rfl) (by(try simp only[List.nil_append,List.cons_append,List.set_cons_zero,List.set_cons_succ,List.length_nil,List.length_cons,Nat.reduceAdd]);exact rfl) ?_));refine CC ?_)
 refine h6 _ ?_;refine nT ?_;refine Wv ?_;refine Be ⟨(A2 (.ptr 0 0::A2 (.ptr 1 0::.own 2 0::Xc (Xf [])))),[.box (Ap f),.box (B8 x),.row 0 3 tInt []]⟩ ((Kj 6 3 tInt rfl Nat.zero_lt_one).trans (JY)) ?_;refine Po ⟨(A2 (.ptr 0 0::A2 (.ptr 1 0::.own 2 (if KM f x then 1 else 0)::Xc (Xf [])))),[.box (Ap f),.box (B8 x),.row (if KM f x then 1 else 0) 3 tInt (if KM f x then [x.l1]else [])]⟩ ?_ ?_
 ·rcases hc1:KM f x with _|_
  all_goals refine Aq fun K9 h9=>?_
  ·have hcond:((x.op ==8)=false∧(x.op ==9)=false)∨(((x.op ==8)=true∨((x.op ==8)=false∧(x.op ==9)=true))∧(decide (x.l1≥0)=false∨(decide (x.l1≥0)=true∧decide (x.l1 < (f.blocks.length:Int))=false))):=by
    unfold KM WK at hc1;cases h8:(x.op ==8) <;> cases h9':(x.op ==9) <;> cases ha:decide (x.l1≥0) <;> cases hb':decide (x.l1 < (f.blocks.length:Int)) <;> simp[h8,h9',ha,hb']at hc1⊢
   have hfin:∀s':St,St.le C s' ⟨(A2 (.ptr 0 0::A2 (.ptr 1 0::.own 2 0::Xd (Xf (A5 (.lit (.bool false)::Xe (Xf (A4 [])))))))),[.box (Ap f),.box (B8 x),.row 0 3 tInt []]⟩→K9 s':=fun s' hle=>by
    refine h9 _ (Be _ hle ?_);refine An rfl (fun hb=>by cases hb) (fun hb=>?_);refine As ?_;refine Am ?_;exact JY
   rcases hcond with⟨q1,q2⟩|⟨q1|⟨q1,q2⟩,q3|⟨q3,q4⟩⟩
   all_goals
    refine rR ?_;exact Am (hfin _ (JY))
  ·have hcond:((x.op ==8)=true∨((x.op ==8)=false∧(x.op ==9)=true))∧decide (x.l1≥0)=true∧decide (x.l1 < (f.blocks.length:Int))=true:=by
    unfold KM WK at hc1;cases h8:(x.op ==8) <;> cases h9':(x.op ==9) <;> cases ha:decide (x.l1≥0) <;> cases hb':decide (x.l1 < (f.blocks.length:Int)) <;> simp[h8,h9',ha,hb']at hc1⊢
   have hfin:∀s':St,St.le C s' ⟨(A2 (.ptr 0 0::A2 (.ptr 1 0::.own 2 0::Xd (Xf (A5 (.lit (.bool true)::Xe (Xf (A4 [])))))))),[.box (Ap f),.box (B8 x),.row 0 3 tInt []]⟩→K9 s':=fun s' hle=>by
    refine h9 _ (Be _ hle ?_);refine An rfl (fun hb=>?_) (fun hb=>by cases hb);refine rR ?_;refine Am ?_;exact JY
   obtain⟨q1|⟨q1,q2⟩,q3,q4⟩:=hcond;all_goals
    refine rR ?_;exact Am (hfin _ (JY))
 ·refine Po ⟨(A6 (.own 2 ((if KM f x then 1 else 0)+if SC f x then 1 else 0)::Xc (Xf []))),[.dead,.dead,.row ((if KM f x then 1 else 0)+if SC f x then 1 else 0) 3 tInt ((if KM f x then [x.l1]else [])++if SC f x then [x.l2]else [])]⟩ ?_ ?_
  ·rcases hc2:SC f x with _|_
   all_goals refine Aq fun K9 h9=>?_
   ·have hcond:(x.op ==9)=false∨((x.op ==9)=true∧((x.l2 !=x.l1)=false∨((x.l2 !=x.l1)=true∧(decide (x.l2≥0)=false∨(decide (x.l2≥0)=true∧decide (x.l2 < (f.blocks.length:Int))=false))))):=by
     unfold SC WK at hc2;cases h8:(x.l2 !=x.l1) <;> cases h9':(x.op ==9) <;> cases ha:decide (x.l2≥0) <;> cases hb':decide (x.l2 < (f.blocks.length:Int)) <;> simp only[h8,h9',ha,hb',Bool.and_true,Bool.and_false,Bool.true_eq_false,Bool.false_eq_true,true_and,or_true,true_or,and_true,false_and,or_false]at hc2⊢
    have hfin:∀s':St,St.le C s' ⟨(A2 (.ptr 0 0::A2 (.ptr 1 0::.own 2 (if KM f x then 1 else 0)::Xc (A3 (.lit (.bool false)::A6 []))))),[.box (Ap f),.box (B8 x),.row (if KM f x then 1 else 0) 3 tInt (if KM f x then [x.l1]else [])]⟩→K9 s':=fun s' hle=>by
     refine h9 _ (Be _ hle ?_);refine An rfl (fun hb=>by cases hb) (fun hb=>?_);refine As ?_;refine Am ?_;simp only[Bool.false_eq_true,if_false,Nat.add_zero,List.append_nil];exact U2 (Cut.dead (Cut.dead (Cut.refl _)))
    rcases hcond with q1|⟨q1,q2|⟨q2,q3|⟨q3,q4⟩⟩⟩
    all_goals
     refine rR ?_;exact Am (hfin _ (JY))
   ·have hcond:(x.op ==9)=true∧(x.l2 !=x.l1)=true∧decide (x.l2≥0)=true∧decide (x.l2 < (f.blocks.length:Int))=true:=by
     unfold SC WK at hc2;simpa[Bool.and_eq_true,and_assoc]using hc2
    have hfin:∀s':St,St.le C s' ⟨(A2 (.ptr 0 0::A2 (.ptr 1 0::.own 2 (if KM f x then 1 else 0)::Xc (A3 (.lit (.bool true)::A6 []))))),[.box (Ap f),.box (B8 x),.row (if KM f x then 1 else 0) 3 tInt (if KM f x then [x.l1]else [])]⟩→K9 s':=fun s' hle=>by
     refine h9 _ (Be _ hle ?_);refine An rfl (fun hb=>?_) (fun hb=>by cases hb);have hln:(if KM f x then [x.l1]else []:List Int).length+ [x.l2].length≤maxLen:=by split <;> simp[maxLen]
     have hlb:((if KM f x then [x.l1]else []:List Int).length+ [x.l2].length) * 8≤140737488355328:=by split <;> simp
     refine rR ?_;refine Am ?_;simp only[if_true];exact U2 (Cut.dead (Cut.dead (Cut.refl _)))
    obtain⟨q1,q2,q3,q4⟩:=hcond;refine rR ?_;exact Am (hfin _ (JY))
  ·refine Wv ?_;refine AH ?_;exact⟨.inr rfl,W0.own rfl⟩
theorem BM{f:Func}{b x:Int}(h:x∈nextL f b):0≤x∧x.toNat < f.blocks.length:=by
 unfold nextL at h;obtain⟨y,_,rfl⟩:=List.mem_map.1 h;have:=y.2;simp[Kr];exact this
theorem Rw(f:Func)(b:Int)(ho:okFunc f)(hs:smallF f):Fn Try.prog 36 [.agg (Ap f),.lit (.int .i64 b)] (.bs tInt (nextL f b)):=by
 by_cases hin:0≤b∧b < f.blocks.length
 ·obtain⟨k,rfl⟩:=Int.eq_ofNat_of_zero_le hin.1;have hk:k < f.blocks.length:=by omega
  have hkk:f.blocks[k]? =some f.blocks[k]:=List.getElem?_eq_getElem hk;rw[S6 hkk];cases hz:(f.blocks[k]).ins.getLast? with
  |none=>
   have hn:(f.blocks[k]).ins= []:=List.getLast?_eq_none_iff.1 hz;rw[Ru hn];exact PP f k _ hkk hs.blocks hn
  |some x=>
   rw[PN hz];have hm:=List.getElem_mem hk;exact Rx f k _ x hkk hs.blocks (hs.all _ hm).ins hz ((ho.blocks _ hm).ins x (List.mem_of_getLast? hz))
 ·rw[Rt hin];exact PO f b hin
def Jo(f:Func):List Int:=f.blocks.flatMap fun b=>b.ins.flatMap readsC
end Mu
end
section
namespace Mu
open Go
end Mu
end
section
namespace Mu
open Go Go.RowKit Go.Proofs Go.Maps
instance:AG Try.prog 34 false 1:=⟨by kernel_rfl⟩
instance:SZ Try.prog 34 1:=⟨by kernel_rfl⟩
instance:ES Try.prog 34 1:=⟨by kernel_rfl⟩
instance:SL Try.prog 34:=⟨by kernel_rfl⟩
instance:RT Try.prog 34 27 1 24:=⟨by kernel_rfl⟩
instance:AG Try.prog 27 false 1:=⟨by kernel_rfl⟩
instance:SZ Try.prog 27 1:=⟨by kernel_rfl⟩
instance:ES Try.prog 27 1:=⟨by kernel_rfl⟩
instance:SL Try.prog 27:=⟨by kernel_rfl⟩
instance:RT Try.prog 27 3 1 8:=⟨by kernel_rfl⟩
instance:AG Try.prog 22 false 1:=⟨by kernel_rfl⟩
instance:SZ Try.prog 22 1:=⟨by kernel_rfl⟩
instance:ES Try.prog 22 2:=⟨by kernel_rfl⟩
instance:SL Try.prog 22:=⟨by kernel_rfl⟩
instance:RT Try.prog 22 42 2 40:=⟨by kernel_rfl⟩
instance:AG Try.prog 42 true 2:=⟨by kernel_rfl⟩
instance:SZ Try.prog 42 2:=⟨by kernel_rfl⟩
end Mu
end
section
namespace Mu
open Go Go.RowKit Go.Proofs Go.Shelf
attribute [local go_sem] Oper.semAt_some
end Mu
end
section
namespace Go.Proofs
open Go.Shelf
end Go.Proofs
end
section
namespace Mu
open Go Go.RowKit Go.Proofs Go.Maps Go.Shelf
section
variable{P:Program}{C:Ctx}{t:List AV}{h:List ABlk}{o:Oper}
end
section
variable{C:Ctx}{t:List AV}{h:List ABlk}{o:Oper}
end
theorem MS{α:Type}[DecidableEq α]:∀{l m:List α},l.Nodup→(∀x∈l,x∈m)→l.length≤m.length
 | [],_,_,_=>Nat.zero_le _
 |x::l,m,hn,h=>by
  have hn:=List.nodup_cons.1 hn;have hx:=h x (by simp);have:=MS (m:=m.erase x) hn.2 fun y hy=>(List.mem_erase_of_ne (fun e=>hn.1 (by subst e;exact hy))).2 (h y (by simp[hy]))
  rw[List.length_erase_of_mem hx]at this;have:=List.length_pos_of_mem hx;simp only[List.length_cons];omega
section
variable{C:Ctx}{t:List AV}{h:List ABlk}{o:Oper}
end
section
variable{C:Ctx}{t:List AV}{h:List ABlk}{o:Oper}
end
end Mu
end
section
namespace Mu
open Go Go.RowKit Go.Proofs Go.Maps
instance U7:AG Try.prog 52 false 1:=⟨by kernel_rfl⟩
instance U6:SZ Try.prog 52 1:=⟨by kernel_rfl⟩
end Mu
end
section
namespace Go.Proofs
open Go.Shelf
def Try.laysNm225_ren:Go.Shelf.Ren:=⟨fun|25=>47|31=>66|32=>67|37=>64|n=>n,fun|22=>27|3=>3|4=>4|40=>72|0=>0|n=>n,fun|n=>n⟩
theorem Try.laysNm225:Go.Proofs.Lays2.n25 Try.prog Try.laysNm225_ren:={
 mixed:=by kernel_rfl
 f25:=Try.func47.trans (congrArg some (by kernel_rfl))
 f31:=Try.func66.trans (congrArg some (by kernel_rfl))
 f32:=Try.func67.trans (congrArg some (by kernel_rfl))
 f37:=Try.func64.trans (congrArg some (by kernel_rfl))
 t0:=Try.underlying0
 a0:=Try.isAgg0
 z0:=Try.sizeOf0
 v0:=Try.zeroValue0
 t3:=Try.underlying3
 a3:=Try.isAgg3
 z3:=Try.sizeOf3
 v3:=Try.zeroValue3
 t4:=Try.underlying4
 a4:=Try.isAgg4
 z4:=Try.sizeOf4
 v4:=Try.zeroValue4
 t22:=Try.underlying27
 a22:=Try.isAgg27
 z22:=Try.sizeOf27
 v22:=Try.zeroValue27
 t40:=Try.underlying72
 a40:=Try.isAgg72
 z40:=Try.sizeOf72
 v40:=Try.zeroValue72}
open Go.RowKit Go.Lib in
theorem Try.slices_BinarySearch_int(b off n c:Nat)(zs:List Int)(x:Int)(w:World)(hz:n≤zs.length)(hbig:n < 4611686018427387904)(hc:∀j,j < zs.length→w.cell? ⟨b,off+j,none⟩=some (.int .i64 (zs.getD j 0)))(hs:(zs.take n).Pairwise (·≤·)):
 Calls Try.prog 47 #[.slice (some ⟨b,off,none⟩) n c,.int .i64 x] w fun e w'=>e= .returned (.tuple #[.int .i64 ((zs.take n).countP (· < x):Nat),.bool ((zs.take n).contains x)])∧∃q,w'=w.drewN q:=Any.slices_BinarySearch_int Try.laysNm225 b off n c zs x w hz hbig hc hs
open Go.RowKit Go.Lib in
theorem Try.slices_BinarySearch_int_empty(a:Option Addr)(c:Nat)(x:Int)(w:World):
 Calls Try.prog 47 #[.slice a 0 c,.int .i64 x] w fun e w'=>e= .returned (.tuple #[.int .i64 0,.bool false])∧w'=w:=Any.slices_BinarySearch_int_empty Try.laysNm225 a c x w
end Go.Proofs
end
section
namespace Mu
open Go Go.RowKit Go.Proofs
section
variable{P:Program}{C:Ctx}{t:List AV}{h:List ABlk}{o:Oper}
end
theorem PI:GQ Try.prog 40=some [(0,1),(1,1),(2,1),(3,1),(4,1),(5,1),(6,1),(7,1),(8,1)]:=by kernel_rfl
theorem N6:GQ Try.prog 42=some [(0,1),(1,1)]:=by kernel_rfl
theorem Vd:GQ Try.prog 24=some [(0,1),(1,1),(2,1),(3,1)]:=by kernel_rfl
end Mu
end
section
namespace Mu
open Go Go.RowKit Go.Proofs Go.Shelf
section
variable{N S:Nat→Prop}{w:World}{h:List ABlk}{ψ:Nat→Value}{v:Value}{ver:Nat}{l:List Int}
theorem Hh(H:H5 N w S h ψ v (.row ver 3 tInt l)):EP w 0 v l∧By l:=by
 obtain⟨cells,h1,_,h2,_⟩:=H;have hl:cells.length=l.length:=by have:=h1.1;rw[show tInt.size=1 from rfl,Nat.mul_one]at this;exact this
 have hget:∀i d,l[i]? =some d→cells[i]? =some (Value.int .i64 d)∧Wc .i64 d:=fun i d hd=>by
  obtain⟨e,hw⟩:=FF.1 (h2 i d hd);rw[show tInt.size=1 from rfl,Nat.mul_one,List.take_one,List.head?_drop]at e;cases hc:cells[i]? with
  |none=>rw[hc]at e;cases e
  |some c=>
   rw[hc]at e;simp only[Option.toList_some,List.cons.injEq,and_true]at e;exact⟨by rw[e],hw⟩
 have hc:cells=l.map (Value.int .i64):=by
  apply List.ext_getElem?;intro i;by_cases hi:i < l.length
  ·rw[List.getElem?_map,List.getElem?_eq_getElem hi];exact(hget i _ (List.getElem?_eq_getElem hi)).1
  ·rw[List.getElem?_eq_none (by omega),List.getElem?_eq_none (by simp;omega)]
 refine⟨.of h1 rfl hc,fun r hr=>?_⟩;obtain⟨i,hi⟩:=List.mem_iff_getElem?.1 hr;exact(hget i r hi).2
theorem Jc{base:Nat}(hO:EP w base v l)(hw:By l)(hN:∀g,v.ownBlock=some g→¬N g∧¬S g):H5 N w S h ψ v (.row ver 3 tInt l):=by
 refine⟨_,hO.mono (Nat.zero_le _),by decide,fun i d hd=>?_,hN⟩;show tInt.RS w S (((l.map (Value.int .i64)).drop (i * 1)).take 1) d;have hi:(l.map (Value.int .i64))[i]? =some (.int .i64 d):=by rw[List.getElem?_map,hd];rfl
 rw[Nat.mul_one,List.take_one,List.head?_drop,hi];exact FF.2 ⟨rfl,hw d (List.mem_of_getElem? hd)⟩
end
theorem N9{l:List Int}(h:By l):By (l.mergeSort fun x y=>decide (x≤y)):=fun r hr=>h r ((List.mergeSort_perm l _).mem_iff.1 hr)
section
variable{C:Ctx}{t:List AV}{h:List ABlk}{o:Oper}{K:St→Prop}
theorem OF{x:Operand}{tys:Array TypeId}{i ver:Nat}{l:List Int}(ho:o.op= .call {callee:=.value (.func 32),args:=#[x],argTypes:=tys})(hx:WO t x= .own i ver)(hi:h[i]? =some (.row ver 3 tInt l))(hl:l.length≤2147483648)
 (hK:K ⟨Bn t o.dst .any,h.set i (.row ver 3 tInt (l.mergeSort fun x y=>decide (x≤y)))⟩):Xb Try.prog C o ⟨t,h⟩ K:=by
 rintro Q' a w ⟨hd,S,ψ,H,hl'⟩;refine⟨fun c e=>(by rw[ho]at e;cases e),?_⟩;have hx':=BC hl' x;rw[show WO (St.mk t h).t x= .own i ver from hx]at hx';unfold AV.rel at hx';have hv:=(hx'.2 _ (by rw[hi];rfl)).2 rfl;have hBi:=H.blk i _ hi;have hlt:=hBi.lt rfl;obtain⟨hO,hw⟩:=Hh hBi;unfold Oper.wp;rw[CZ ho (by kernel_rfl) a.eval w rfl];simp only[Oper.upon];rw[show(#[x].map a.eval)= #[ψ i]from by simp[hv]];refine(SJ hO hl).mono ?_;rintro r w' ⟨rfl,hO',hgr⟩;have hgr':w.grownBy w' (Bl (ψ i)):=by
  have e:Bl (ψ i)=(ψ i).ownBlock:=by
   rcases hO.2 with⟨e,_⟩|⟨g,cap,cur,e,_⟩ <;> rw[e] <;> rfl
  rw[e];exact hgr
 have hblk:∀k,S k→w'.heap[k]? =w.heap[k]?:=fun k hk=>hgr'.block k (H.lt k hk) fun e=>(hlt k e.symm).2.2 hk
 have X:Ext w S h ψ w' S (h.set i (.row ver 3 tInt (l.mergeSort fun x y=>decide (x≤y)))) (AX ψ i (ψ i)):=Ext.set hblk hi (fun c' hc=>by
  simp only[ABlk.ver,Option.some.injEq]at hc;exact⟨ver,rfl,by omega,fun _=>⟨rfl,rfl⟩⟩) fun h=>by simp[AP]at h
 exact⟨_,hK,Gz (s:=⟨t,h⟩) hi hd hl' (H.set hi rfl (Gr.of_grownBy hgr') X (Jc hO' (N9 hw) fun g hg=>⟨(hlt g (AQ hg)).1,(hlt g (AQ hg)).2.2⟩) fun g hg=>.inl hg) X (by unfold AV.rel;trivial)⟩
end
theorem Ov{C:Ctx}{t:List AV}{h:List ABlk}(j:Nat){α:Type}(T:Ty α)(hj:t[j]? =some (.lit (.slice none 0 0))):St.le C ⟨t,h⟩ ⟨t.set j (.bs T []),h⟩:=fun a w ⟨hd,S,ψ,H,hl⟩=>by
 refine⟨hd,S,ψ,H,?_⟩;obtain⟨v,hv,hr⟩:=Bu hl hj;unfold AV.rel at hr;subst hr;have:=Hk hl j (x:=.bs T []) (v:=.slice none 0 0) (by unfold AV.rel;exact T.slice_nilS _ _);rwa [show a.tmps.toList.set j (.slice none 0 0)=a.tmps.toList from List.ext_getElem? fun k=>by
  by_cases hk:j=k
  ·subst hk;rw[List.getElem?_set_self (List.getElem?_eq_some_iff.1 hv).1,hv]
  ·rw[List.getElem?_set_ne hk]]at this
end Mu
end
section
namespace Mu
open Go Go.RowKit Go.Proofs
def AZ(x:Ins):List Int:=readsC x++if Bo x then [x.d]else []
theorem I9{x:Ins}(h:okIns x):By (AZ x):=fun r hr=>by
 rcases List.mem_append.1 hr with hr|hr
 ·exact JH h r hr
 ·split at hr
  ·simp only[List.mem_singleton]at hr;subst hr;exact h.d
  ·cases hr
section
variable{P:Program}{C:Ctx}{t:List AV}{h:List ABlk}{o:Oper}
end
theorem NQ{b:Block}(h:Bc.bulk b≤2097152):smallB b:=⟨Nat.le_trans (Nl b) h,fun x hx=>by
 have h1:=Ol hx;have h2:=L3 x;have h3:=CX N7 x.args;omega⟩
theorem Pz{f:Func}(h:Cl.bulk f≤2097152):smallF f:=⟨Nat.le_trans (Kx f) h,fun b hb=>NQ (Nat.le_trans (HE hb) h)⟩
theorem RH{f:Func}(h:Cl.bulk f≤2097152):∀b∈f.blocks,b.ins.length+1≤2097152:=fun b hb=>by
 have h1:=HE hb;have h2:=Dt b;have h3:=CX Rl b.ins;omega
theorem Rb(l:List Ins):(l.flatMap readsC).length≤Co EO.bulk l:=by
 induction l with
 |nil=>simp[Co]
 |cons x l ih=>
  have h1:=JI x;have h2:=L3 x;have h3:=CX N7 x.args;simp only[List.flatMap_cons,List.length_append,Co];omega
theorem MD(l:List Block):(l.flatMap fun b=>b.ins.flatMap readsC).length≤Co Bc.bulk l:=by
 induction l with
 |nil=>simp[Co]
 |cons b l ih=>
  have h1:=Rb b.ins;have h2:=Dt b;simp only[List.flatMap_cons,List.length_append,Co];omega
theorem PF{f:Func}(h:Cl.bulk f≤2097152):(Jo f).length≤2097152:=by
 have h1:=MD f.blocks;have h2:=E7 f;unfold Jo;omega
theorem LX{P:Program}{f:FuncId}{args:List AV}{u:Value}{W:World}{vs:List Value}(h:Fn P f args (.lit u))(hr:Ah W (fun k=>k < W.heap.size) [] ψ0 args vs):Calls P f vs.toArray W fun e W'=>e= .returned u∧Below W.heap.size W W':=
 (h.2 W _ vs (fun _ h=>h) hr).mono fun e W' ⟨v,he,hb,_,_,_,_,hv⟩=>by
  unfold AV.rel at hv;exact⟨by rw[he,hv],hb⟩
theorem Lx{W:World}{S:Nat→Prop}{h:List ABlk}{ψ:Nat→Value}{cs:List Value}{f:Func}(hR:Cl.RS W S cs f):AV.rel W S h ψ (.agg (Ap f)) (.agg cs.toArray):=by
 unfold AV.rel;exact⟨cs,rfl,EncOf.ok (T:=Cl) W S h ψ cs f hR⟩
theorem I8{W:World}{S:Nat→Prop}{h:List ABlk}{ψ:Nat→Value}(v:Value):AV.rel W S h ψ (.lit v) v:=by
 unfold AV.rel;rfl
theorem Ly{W:World}{S:Nat→Prop}{h:List ABlk}{ψ:Nat→Value}{x:AV}{v:Value}(hv:AV.rel W S h ψ x v):Ah W S h ψ [x] [v]:=by
 unfold Ah;exact⟨v,[],rfl,hv,by unfold Ah;rfl⟩
theorem Hl{W:World}{S:Nat→Prop}{h:List ABlk}{ψ:Nat→Value}{x:AV}{v:Value}{l:List AV}{vs:List Value}(hv:AV.rel W S h ψ x v)(hl:Ah W S h ψ l vs):Ah W S h ψ (x::l) (v::vs):=by
 unfold Ah;exact⟨v,vs,rfl,hv,hl⟩
end Mu
end
section
namespace Mu
open Go
def Qx(bl:Block)(x:Ins):Block:=⟨bl.name,x::bl.ins⟩
def C5(f:Func)(b:Nat)(bl:Block)(x:Ins):Func:=⟨f.name,f.args,f.regs,f.blocks.set b (Qx bl x)⟩
theorem Pe{f:Func}{k c:Nat}:Edge f k c↔∃bl x,f.blocks[k]? =some bl∧bl.ins.getLast? =some x∧c < f.blocks.length∧(c:Int)∈Do x:=by
 unfold Edge CP;rw[if_pos (by omega),Int.toNat_natCast];constructor
 ·rintro⟨y,hy,rfl⟩;split at hy
  ·cases hy
  ·rename_i bl hbl;unfold Ht at hy;split at hy
   ·cases hy
   ·rename_i x hx;unfold BN at hy;obtain⟨w,hw,hty⟩:=List.mem_filterMap.1 hy;unfold Pv at hty;split at hty
    ·rename_i hr;cases hty;refine⟨bl,x,hbl,hx,(show w.toNat < f.blocks.length by omega),?_⟩;rw[show((w.toNat:Nat):Int)=w by omega];exact hw
    ·cases hty
 ·rintro⟨bl,x,hbl,hx,hc,hm⟩;refine⟨⟨c,hc⟩,?_,rfl⟩;rw[hbl];show(⟨c,hc⟩:W6 f)∈Ht f bl;unfold Ht;rw[hx];exact List.mem_filterMap.2 ⟨(c:Int),hm,Jt hc⟩
section
variable{f:Func}{b:Nat}{bl:Block}{x:Ins}(hb:f.blocks[b]? =some bl)
include hb
theorem Pd(hne:bl.ins≠[]){k c:Nat}:Edge (C5 f b bl x) k c↔Edge f k c:=by
 rw[Pe,Pe];have hl:(C5 f b bl x).blocks.length=f.blocks.length:=by simp[C5]
 rw[hl];have hlast:(Qx bl x).ins.getLast? =bl.ins.getLast?:=by
  unfold Qx;simp only;rw[List.getLast?_cons];cases h:bl.ins.getLast? with
  |none=>exact absurd (List.getLast?_eq_none_iff.1 h) hne
  |some y=>rfl
 by_cases hk:k=b
 ·subst hk;have hs:(C5 f k bl x).blocks[k]? =some (Qx bl x):=List.getElem?_set_self (List.getElem?_eq_some_iff.1 hb).1;rw[hs,hb];constructor
  ·rintro⟨bl',y,e,h1,h2⟩;cases e;exact⟨bl,y,rfl,by rw[←hlast];exact h1,h2⟩
  ·rintro⟨bl',y,e,h1,h2⟩;cases e;exact⟨_,y,rfl,by rw[hlast];exact h1,h2⟩
 ·have hs:(C5 f b bl x).blocks[k]? =f.blocks[k]?:=List.getElem?_set_ne (Ne.symm hk);rw[hs]
end
theorem LL:∀{l m:List Int},l.Nodup→(∀x∈l,x∈m)→l.length≤m.length
 | [],_,_,_=>Nat.zero_le _
 |x::l,m,hn,h=>by
  rw[List.nodup_cons]at hn;have hx:=h x (by simp);have:=LL (m:=m.erase x) hn.2 fun y hy=>(List.mem_erase_of_ne (fun e=>hn.1 (by subst e;exact hy))).2 (h y (by simp[hy]))
  rw[List.length_erase_of_mem hx]at this;have:0 < m.length:=List.length_pos_of_mem hx;simp only[List.length_cons];omega
theorem Ni{α:Type}{g:α→Nat}:∀{l:List α} {k:Nat} {y z:α},l[k]? =some y→Co g (l.set k z)+g y=Co g l+g z
 | [],k,y,z,h=>by simp at h
 |a::l,0,y,z,h=>by
  have h:a=y:=by simpa using h
  subst h;simp only[List.set_cons_zero,Co];omega
 |a::l,k+1,y,z,h=>by
  have:=Ni (g:=g) (l:=l) (k:=k) (z:=z) (by simpa using h);simp only[List.set_cons_succ,Co];omega
theorem Ts{f:Func}{b:Nat}{bl:Block}{x:Ins}(hb:f.blocks[b]? =some bl):Cl.bulk (C5 f b bl x)=Cl.bulk f+EO.bulk x:=by
 have h1:=Ni (g:=Bc.bulk) (z:=Qx bl x) hb;have h2:Bc.bulk (Qx bl x)=Bc.bulk bl+EO.bulk x:=by
  rw[Dt,Dt];simp only[Qx,Co];omega
 rw[E7,E7];simp only[C5];omega
theorem TR{f:Func}{b:Nat}{bl:Block}{x:Ins}(ho:okFunc f)(hb:f.blocks[b]? =some bl)(hx:okIns x):okFunc (C5 f b bl x):=⟨ho.name,ho.args,ho.regs,fun y hy=>by
 rcases List.mem_or_eq_of_mem_set hy with h|h
 ·exact ho.blocks y h
 ·rw[h];have hbl:=ho.blocks bl (List.mem_of_getElem? hb);exact⟨hbl.name,fun z hz=>by
   rcases List.mem_cons.1 hz with h|h
   ·rw[h];exact hx
   ·exact hbl.ins z h⟩⟩
end Mu
end
section
namespace Mu
open Go Go.RowKit Go.Proofs
section
variable{P:Program}{C:Ctx}{t:List AV}{h:List ABlk}{o:Oper}
end
theorem Q4(l:List Int)(r:Int)(ha:Xa l)(hl:l.length≤2147483648):Fn Try.prog 47 [.bs tInt l,.lit (.int .i64 r)] (.tup [.lit (.int .i64 ((l.countP (· < r):Nat):Int)),.lit (.bool (l.contains r))]):=by
 refine⟨by kernel_rfl,fun w S vs hS hr=>?_⟩;unfold Ah at hr;obtain⟨v,us,rfl,hv,h1⟩:=hr;obtain⟨us',rfl,h0⟩:=SQ h1;unfold Ah at h0;subst h0;unfold AV.rel at hv;have hgood:∀(n:Nat) (b:Bool) (w':World),Below w.heap.size w w'→n=l.countP (· < r)→b=l.contains r→SA w S [] ψ0 (.tup [.lit (.int .i64 ((l.countP (· < r):Nat):Int)),.lit (.bool (l.contains r))]) (.tuple #[.int .i64 (n:Int),.bool b]) w':=fun n b w' hb e1 e2=>by
  subst e1 e2;refine⟨hb,S,fun _ h=>h,fun _ h=>.inl h,fun k hk=>Nat.lt_of_lt_of_le (hS k hk) hb.size,?_⟩;unfold AV.rel;exact⟨[.int .i64 ((l.countP (· < r):Nat):Int),.bool (l.contains r)],rfl,MB [.int .i64 ((l.countP (· < r):Nat):Int),.bool (l.contains r)]⟩
 obtain⟨A,c,rfl⟩:=BG hv;by_cases hz:l= []
 ·subst hz;refine(Try.slices_BinarySearch_int_empty A c r w).mono fun e w' ⟨he,hw⟩=>?_
  subst hw;exact⟨_,he,hgood 0 false w' (Below.refl _ _) rfl rfl⟩
 ·have hpos:0 < l.length:=List.length_pos_iff.2 hz;obtain⟨b,o,e,_⟩:=GD hv (List.getElem?_eq_getElem hpos);cases e;refine(Try.slices_BinarySearch_int b o l.length c l r w (Nat.le_refl _) (by omega) (fun j hj=>?_) ?_).mono fun e w' ⟨he,q,hw⟩=>?_
  ·obtain⟨b',o',e',_,hc,_⟩:=GD hv (List.getElem?_eq_getElem hj);cases e';rw[hc];simp[List.getD,hj]
  ·rw[List.take_length];exact ha.imp fun{a b} h=>by omega
  ·rw[List.take_length]at he;subst hw;exact⟨_,he,hgood _ _ _ (UQ (Below.refl _ _) q) rfl rfl⟩
theorem Jy(x:Ins)(ho:okIns x):Fn Try.prog 86 [.agg (B8 x)] (.tup [.lit (.int .i64 (if Bo x then x.d else 0)),.lit (.bool (Bo x))]):=
 Lj (by kernel_rfl) fun w vs hr=>by
  obtain⟨v,rfl,hv⟩:=US hr;obtain⟨cs,rfl,hc⟩:=JF hv;refine(Mv x w cs (JN ho hc)).mono fun e w' ⟨he,hb⟩=>⟨?_,hb⟩
  rw[he];unfold FD;cases Bo x <;> rfl
theorem Eo{α β:Type}{g:α→List β}{l:List α}{k:Nat}{x:α}(hx:l[k]? =some x):(l.take (k+1)).flatMap g=(l.take k).flatMap g++g x:=by
 rw[List.take_add_one,hx,List.flatMap_append];simp
theorem RW{α β:Type}(g:α→List β)(l:List α)(k:Nat):((l.take k).flatMap g).length≤(l.flatMap g).length:=by
 conv=>rhs;rw[←List.take_append_drop k l]
 rw[List.flatMap_append,List.length_append];omega
theorem Tl{β:Type}{g:Ins→List β}{bs:List Block}{b i:Nat}{bl:Block}{x:Ins}(hb:bs[b]? =some bl)(hx:bl.ins[i]? =some x):
 ((bs.take b).flatMap fun c=>c.ins.flatMap g).length+((bl.ins.take i).flatMap g).length+(g x).length≤(bs.flatMap fun c=>c.ins.flatMap g).length:=by
 have h1:=RW (fun c:Block=>c.ins.flatMap g) bs (b+1);rw[Eo hb,List.length_append]at h1;have h2:=RW g bl.ins (i+1);rw[Eo hx,List.length_append]at h2;omega
def Nm(b:Block):List Int:=b.ins.flatMap AZ
def QA(f:Func):List Int:=f.blocks.flatMap Nm
theorem Sd{f:Func}(ho:okFunc f):By (QA f):=fun r hr=>by
 obtain⟨b,hb,hr⟩:=List.mem_flatMap.1 hr;obtain⟨x,hx,hr⟩:=List.mem_flatMap.1 hr;exact I9 ((ho.blocks b hb).ins x hx) r hr
theorem UA(l:List Int)(n:Int)(hl:l.length≤2097152):Fn Try.prog 73 [.bs tInt l,.lit (.int .i64 n)] (.lit (.bool (l.contains n))):=by
 refine AM Try.func73 rfl (by kernel_rfl) rfl Try.ntmps73 fun C hC=>?_
 refine nS ?_;refine Ww ?_;refine Aq fun K2 h2=>?_
 refine Ww ?_;refine Aj ?_;refine Cv (fun i:Nat=>⟨(.bs tInt l::.lit (.int .i64 n)::A3 (.lit (.int .i64 (i:Int))::Xf (A2 []))),[]⟩) (fun i=>i≤l.length∧(l.take i).contains n=false) (fun i=>l.length - i) 0 ⟨Nat.zero_le _,rfl⟩ (JY) ?_;rintro i ⟨hi,hc⟩;refine Aq fun K4 h4=>?_
 refine Ww ?_;refine An rfl (fun hb=>?_) (fun hb=>?_)
 ·have hlt:i < l.length:=by simpa using hb
  obtain⟨x,hx⟩:∃x,l[i]? =some x:=⟨_,List.getElem?_eq_getElem hlt⟩
  refine As ?_;refine h4 _ ?_;refine nT ?_;refine Aq fun K6 h6=>?_
  refine Aj ?_;refine Ww ?_;refine An rfl (fun hb2=>?_) (fun hb2=>?_)
  ·have hxn:x=n:=by simpa using hb2
   have hcn:l.contains n=true:=by rw[←hxn];exact List.contains_iff_mem.2 (List.mem_of_getElem? hx)
   refine Ww ?_;refine AH ?_;rw[hcn];exact⟨.inr rfl,W0.cl rfl⟩
  ·have hxn:¬x=n:=by simpa using hb2
   refine As ?_;refine h6 _ ?_;refine nT ?_;refine rC ?_;refine Am ⟨i+1,⟨by omega,?_⟩,by omega,JY⟩;rw[List.take_add_one,hx,List.contains_eq_mem]at *;simp only[Option.toList_some,List.mem_append,List.mem_cons,List.not_mem_nil,or_false,decide_eq_false_iff_not,not_or]at hc⊢;exact⟨by simpa[List.contains_eq_mem]using hc,fun e=>hxn e.symm⟩
 ·have hie:i=l.length:=by
   have:¬i < l.length:=by simpa using hb
   omega
  rw[hie,List.take_length]at hc;refine AI ?_;refine h2 _ ?_;refine nT ?_;refine Ww ?_;refine AH ?_;rw[hc];exact⟨.inr rfl,W0.cl rfl⟩
def ET(n:Int)(s:List Int×Bool)(x:Int):List Int×Bool:=if(!s.2&&decide (x > n))=true then(s.1++[n]++[x],true)else(s.1++[x],s.2)
def DY(n:Int)(l:List Int):List Int×Bool:=l.foldl (ET n) ([],false)
def BX(l:List Int)(n:Int):List Int:=if l.contains n then l else if(!(DY n l).2)=true then(DY n l).1++[n]else(DY n l).1
theorem P0{n:Int}{l:List Int}{i:Nat}{x:Int}(h:l[i]? =some x):DY n (l.take (i+1))=ET n (DY n (l.take i)) x:=by
 unfold DY;rw[List.take_add_one,h,List.foldl_append];rfl
theorem M2(n:Int)(l:List Int):(DY n l).1.length+(if(DY n l).2 then 0 else 1)=l.length+1∧(Wc .i64 n→By l→By (DY n l).1):=by
 suffices h:∀(l:List Int) (s:List Int×Bool),(l.foldl (ET n) s).1.length+(if(l.foldl (ET n) s).2 then 0 else 1)=s.1.length+(if s.2 then 0 else 1)+l.length∧(Wc .i64 n→By s.1→By l→By (l.foldl (ET n) s).1)by
  obtain⟨h1,h2⟩:=h l ([],false);refine⟨?_,fun a b=>h2 a (fun r hr=>by cases hr) b⟩;unfold DY;rw[h1];simp;omega
 intro l;induction l with
 |nil=>exact fun s=>⟨rfl,fun _ h _=>h⟩
 |cons x l ih=>
  intro s;obtain⟨h1,h2⟩:=ih (ET n s x);rw[List.foldl_cons];refine⟨?_,fun a b c=>h2 a ?_ fun r hr=>c r (List.mem_cons_of_mem _ hr)⟩
  ·rw[h1];unfold ET;obtain⟨o,d⟩:=s;cases d
   ·by_cases hx:x > n <;> simp[hx] <;> omega
   ·simp;omega
  ·unfold ET;have hx:=c x (List.mem_cons_self ..);split
   ·intro r hr;simp only[List.mem_append,List.mem_cons,List.not_mem_nil,or_false]at hr;rcases hr with(hr|rfl)|rfl
    ·exact b r hr
    ·exact a
    ·exact hx
   ·intro r hr;simp only[List.mem_append,List.mem_cons,List.not_mem_nil,or_false]at hr;rcases hr with hr|rfl
    ·exact b r hr
    ·exact hx
theorem QH(l:List Int)(n:Int):(BX l n).length≤l.length+1∧(Wc .i64 n→By l→By (BX l n)):=by
 have h:=M2 n l;unfold BX;split
 ·exact⟨by omega,fun _ h=>h⟩
 ·split
  ·rename_i hd;have hd:(DY n l).2=false:=by simpa using hd
   rw[hd]at h;have h1:=h.1;simp only[Bool.false_eq_true,if_false]at h1;refine⟨by simp;omega,fun a b r hr=>?_⟩;rcases List.mem_append.1 hr with hr|hr
   ·exact h.2 a b r hr
   ·rw[List.mem_singleton.1 hr];exact a
  ·refine⟨?_,fun a b=>h.2 a b⟩;have h1:=h.1;omega
theorem G3(l:List Int)(n:Int)(hl:l.length≤2097152)(ho:By l)(hn:Wc .i64 n):Fn Try.prog 54 [.bs tInt l,.lit (.int .i64 n)] (.bs tInt (BX l n)):=by
 have hin:=UA l n hl;refine AM Try.func54 rfl (by kernel_rfl) rfl Try.ntmps54 fun C hC=>?_
 refine nS ?_;refine Ww ?_;refine Aq fun K2 h2=>?_
 refine Aq fun K3 h3=>?_
 (refine W8.region ?_;(repeat(first|refine sQ (hq:=Az.call rfl hin rfl rfl rfl) ?_|refine sQ (hq:=Bs rfl rfl rfl rfl) ?_|refine sQ (hq:=Bi rfl rfl rfl rfl) ?_|refine sQ ?_|refine Fy ?_|refine sG ?_|refine Mg (hk:=?_)));refine CC ?_)
 refine h3 _ ?_;refine nT ?_;refine An rfl (fun hb4=>?_) (fun hb4=>?_)
 ·refine Ww ?_;refine AH ?_;rw[show BX l n=l from by unfold BX;rw[hb4];rfl];exact⟨.inr rfl,W0.cl rfl⟩
 ·refine As ?_;refine h2 _ ?_;refine nT ?_;refine Ww ?_;refine Ww ?_;refine Aq fun K8 h8=>?_
  refine Ww ?_;refine Aj ?_;refine Cv (fun p:Nat×Nat=>⟨(.bs tInt l::.lit (.int .i64 n)::A3 (.own 0 p.2::.lit (.bool (DY n (l.take p.1)).2)::.lit (.int .i64 (p.1:Int))::Xe (Xf (A8 [])))),[.row p.2 3 tInt (DY n (l.take p.1)).1]⟩) (fun p=>p.1≤l.length) (fun p=>l.length - p.1) (0,0) (Nat.zero_le _) ((Kj 5 3 tInt rfl (by decide)).trans (JY)) ?_;rintro⟨i,ver⟩ hi;dsimp only at hi⊢;have hfl:=(M2 n (l.take i)).1;rw[List.length_take]at hfl;have hnx:∀x,l[i]? =some x→DY n (l.take (i+1))=ET n (DY n (l.take i)) x:=fun x hx=>P0 hx
  have hfin:i=l.length→DY n l=DY n (l.take i):=fun e=>by rw[e,List.take_length]
  generalize DY n (l.take i)=s at hfl hnx hfin⊢;obtain⟨o,d⟩:=s;dsimp only at hfl hnx hfin⊢;have hol:o.length≤2097154:=by omega
  refine Aq fun K11 h11=>?_
  refine Ww ?_;refine An rfl (fun hb13=>?_) (fun hb13=>?_)
  ·have hlt:i < l.length:=by simpa using hb13
   obtain⟨x,hx⟩:∃x,l[i]? =some x:=⟨_,List.getElem?_eq_getElem hlt⟩
   have hxw:=ho x (List.mem_of_getElem? hx);have hnx:=hnx x hx;refine As ?_;refine h11 _ ?_;refine nT ?_;refine Aq fun K14 h14=>?_
   refine Aj ?_;refine Aq fun K15 h15=>?_
   refine Ww ?_;refine An rfl (fun hb17=>?_) (fun hb17=>?_)
   ·have e1:ET n (o,d) x=(o++[n]++[x],true):=if_pos hb17;rw[e1]at hnx;refine Ww ?_;refine rC ?_;refine h15 _ ?_;refine nT ?_;refine rC ?_;refine h14 _ ?_;refine nT ?_;refine rC ?_;refine Am ⟨(i+1,ver+2),by dsimp only;omega,by dsimp only;omega,?_⟩;dsimp only;rw[hnx];exact JY
   ·have e1:ET n (o,d) x=(o++[x],d):=if_neg (by rw[show(!(o,d).2&&decide (x > n))=false from hb17];simp);rw[e1]at hnx;refine As ?_;refine h15 _ ?_;refine nT ?_;refine rC ?_;refine h14 _ ?_;refine nT ?_;refine rC ?_;refine Am ⟨(i+1,ver+1),by dsimp only;omega,by dsimp only;omega,?_⟩;dsimp only;rw[hnx];exact JY
  ·have hie:i=l.length:=by
    have:¬i < l.length:=by simpa using hb13
    omega
   have hfin:=hfin hie;have hc:l.contains n=false:=hb4;refine AI ?_;refine h8 _ ?_;refine nT ?_;refine Aq fun K19 h19=>?_
   refine Ww ?_;refine An rfl (fun hb21=>?_) (fun hb21=>?_)
   ·have e2:BX l n=o++[n]:=by unfold BX;rw[hc,if_neg (by simp),hfin,if_pos hb21]
    refine rC ?_;refine h19 _ ?_;refine nT ?_;refine Ww ?_;refine AH ?_;rw[e2];exact⟨.inr rfl,W0.own rfl⟩
   ·have e2:BX l n=o:=by unfold BX;rw[hc,if_neg (by simp),hfin,if_neg (by rw[show(!(o,d).2)=false from hb21];simp)]
    refine As ?_;refine h19 _ ?_;refine nT ?_;refine Ww ?_;refine AH ?_;rw[e2];exact⟨.inr rfl,W0.own rfl⟩
def CO(f:Func):List Int:=(QA f).foldl BX []
theorem E3(l:List Int):(l.foldl BX []).length≤l.length∧(By l→By (l.foldl BX [])):=by
 suffices h:∀(l s:List Int),(l.foldl BX s).length≤s.length+l.length∧(By s→By l→By (l.foldl BX s))by
  obtain⟨h1,h2⟩:=h l [];exact⟨by simpa using h1,fun a=>h2 (fun r hr=>by cases hr) a⟩
 intro l;induction l with
 |nil=>exact fun s=>⟨Nat.le_refl _,fun h _=>h⟩
 |cons x l ih=>
  intro s;obtain⟨h1,h2⟩:=ih (BX s x);have h3:=QH s x;rw[List.foldl_cons,List.length_cons];exact⟨by omega,fun a b=>h2 (h3.2 (b x (List.mem_cons_self ..)) a) fun r hr=>b r (List.mem_cons_of_mem _ hr)⟩
theorem J6{l:List Int}{k:Nat}{r:Int}(P:List Int)(h:l[k]? =some r):(P++l.take (k+1)).foldl BX []=BX ((P++l.take k).foldl BX []) r:=by
 rw[List.take_add_one,h,←List.append_assoc,List.foldl_append];rfl
theorem MC(f:Func)(ho:okFunc f)(hs:smallF f)(hX:(QA f).length≤2097152):Fn Try.prog 25 [.agg (Ap f)] (.bs tInt (CO f)):=by
 have hbl:=hs.blocks;refine AM Try.func25 rfl (by kernel_rfl) rfl Try.ntmps25 fun C hC=>?_
 refine nS ?_;refine Ww ?_;refine Ww ?_;refine Aq fun K3 h3=>?_
 refine Ww ?_;refine Aj ?_;refine Cv (fun b:Nat=>⟨(.any::.ptr 0 0::.any::.bs tInt (((f.blocks.take b).flatMap Nm).foldl BX [])::.lit (.int .i64 (b:Int))::Xd (Xe [])),[.box (Ap f)]⟩) (fun b=>b≤f.blocks.length) (fun b=>f.blocks.length - b) 0 (Nat.zero_le _) ((Ov 3 tInt rfl).trans (JY)) ?_;intro b hb
 (try dsimp only at hb);(try dsimp only)
 refine Aq fun K6 h6=>?_
 refine Ww ?_;refine An rfl (fun hb8=>?_) (fun hb8=>?_)
 ·have hlt:b < f.blocks.length:=by simpa using hb8
  obtain⟨bl,hblk⟩:∃bl,f.blocks[b]? =some bl:=⟨_,List.getElem?_eq_getElem hlt⟩
  have hmem:=List.mem_of_getElem? hblk;have hob:=ho.blocks bl hmem;have hsb:=hs.all bl hmem;have hil:=hsb.ins;have hfn:=Eo (g:=Nm) hblk;refine As ?_;refine h6 _ ?_;refine nT ?_;refine Aq fun K9 h9=>?_
  refine Aj ?_;refine Ww ?_;refine Aj ?_;refine Cv (fun i:Nat=>⟨(.any::.ptr 0 0::.any::.bs tInt (((f.blocks.take b).flatMap Nm++(bl.ins.take i).flatMap AZ).foldl BX [])::.lit (.int .i64 (b:Int))::.lit (.int .i64 (i:Int))::Xd (Xf (A9 []))),[.box (Ap f)]⟩) (fun i=>i≤bl.ins.length) (fun i=>bl.ins.length - i) 0 (Nat.zero_le _) (by rw[show(f.blocks.take b).flatMap Nm++(bl.ins.take 0).flatMap AZ=(f.blocks.take b).flatMap Nm by simp];exact JY) ?_;intro i hi
  (try dsimp only at hi);(try dsimp only)
  refine Aq fun K12 h12=>?_
  refine Ww ?_;refine An rfl (fun hb14=>?_) (fun hb14=>?_)
  ·have hil2:i < bl.ins.length:=by simpa using hb14
   obtain⟨x,hx⟩:∃x,bl.ins[i]? =some x:=⟨_,List.getElem?_eq_getElem hil2⟩
   have hxm:=List.mem_of_getElem? hx;have hox:=hob.ins x hxm;have hxl:x.args.length≤2097152:=by have:=hsb.all x hxm;omega
   have hxn:=Eo (g:=AZ) hx;have hle:=Tl (g:=AZ) hblk hx;have hX':(f.blocks.flatMap fun c=>c.ins.flatMap AZ).length≤2097152:=hX;obtain⟨P,hP⟩:∃P,(f.blocks.take b).flatMap Nm++(bl.ins.take i).flatMap AZ=P:=⟨_,rfl⟩
   have hPl:P.length+(AZ x).length≤2097152:=by
    rw[←hP,List.length_append];have:((f.blocks.take b).flatMap Nm).length=((f.blocks.take b).flatMap fun c=>c.ins.flatMap AZ).length:=rfl;omega
   have hPo:By P:=by
    rw[←hP];intro r hr;rcases List.mem_append.1 hr with hr|hr
    ·obtain⟨c,hc,hr⟩:=List.mem_flatMap.1 hr;obtain⟨y,hy,hr⟩:=List.mem_flatMap.1 hr;exact I9 ((ho.blocks c (List.mem_of_mem_take hc)).ins y hy) r hr
    ·obtain⟨y,hy,hr⟩:=List.mem_flatMap.1 hr;exact I9 (hob.ins y (List.mem_of_mem_take hy)) r hr
   have hnx:(f.blocks.take b).flatMap Nm++(bl.ins.take (i+1)).flatMap AZ=P++AZ x:=by rw[hxn,←hP,List.append_assoc]
   rw[hP];have hrx:AZ x=readsC x++if Bo x then [x.d]else []:=rfl
   have hxo:=I9 hox;have hrl:(readsC x).length≤(AZ x).length:=by rw[hrx,List.length_append];omega
   have hn1:([]:List Int).length+(readsC x).length≤maxLen:=by simp[maxLen];omega
   have hn2:(([]:List Int).length+(readsC x).length) * 8≤140737488355328:=by simp;omega
   refine As ?_;refine h12 _ ?_;refine nT ?_;refine Aq fun K15 h15=>?_
   refine Aj ?_;refine Ww ?_;refine Aq fun K17 h17=>?_
   (refine W8.region ?_;(repeat(first|(refine AT rfl (Xb.lit (s:=⟨_,_⟩) (T:=tInt) (xs:=[]) (ds:=[]) (e:=3) (bytes:=8) rfl rfl rfl (by kernel_rfl) (by decide) (by decide) .nil ?_);refine Wm ?_)|refine sQ (hq:=Az.call rfl (FJ x hox hxl) rfl rfl rfl) ?_|refine sQ (hq:=Bs rfl rfl rfl rfl) ?_|refine sQ (hq:=Bi rfl rfl rfl rfl) ?_|refine sQ ?_|refine Fy ?_|refine sG (hq:=by(intro hg;(try simp only[Bool.and_eq_true,beq_iff_eq]at hg);(try simp only[hg,cond_true,Bool.true_and,beq_self_eq_true]);exact Az.call rfl (FJ x hox hxl) rfl rfl rfl)) ?_|refine sG ?_|refine Mg (hk:=?_)));refine CC ?_)
   refine h17 _ ?_;refine nT ?_;refine Aq fun K18 h18=>?_
   (refine W8.region ?_;(repeat(first|refine sQ (hq:=Az.call rfl (Fi x hox) rfl rfl rfl) ?_|refine sQ (hq:=Bs rfl rfl rfl rfl) ?_|refine sQ (hq:=Bi rfl rfl rfl rfl) ?_|refine sQ ?_|refine Fy ?_|refine sG (hq:=by(intro hg;(try simp only[Bool.and_eq_true,beq_iff_eq]at hg);(try simp only[hg,cond_true,Bool.true_and,beq_self_eq_true]);exact Az.call rfl (Fi x hox) rfl rfl rfl)) ?_|refine sG ?_|refine Mg (hk:=?_)));refine CC ?_)
   refine h18 _ ?_;refine nT ?_;refine Aq fun K19 h19=>?_
   refine Ww ?_;refine An rfl (fun hb21=>?_) (fun hb21=>?_)
   ·rw[hb21,if_pos rfl]at hrx;have e1:(if Bo x=true then x.d else 0)=x.d:=if_pos hb21;have hwd:=hox.d;rw[e1];have hn3:(readsC x).length+ [x.d].length≤maxLen:=by simp[maxLen];omega
    have hn4:((readsC x).length+ [x.d].length) * 8≤140737488355328:=by simp;omega
    refine rC ?_;refine h19 _ ?_;refine nT ?_;refine Ww ?_;refine Aj ?_;refine Cv (fun k:Nat=>⟨(.any::.ptr 0 0::.any::.bs tInt ((P++(AZ x).take k).foldl BX [])::.lit (.int .i64 (b:Int))::.lit (.int .i64 (i:Int))::.any::.own 2 2::A2 (.lit (.int .i64 (k:Int))::Xd (Xf (A4 [])))),[.box (Ap f),.dead,.row 2 3 tInt (AZ x)]⟩) (fun k=>k≤(AZ x).length) (fun k=>(AZ x).length - k) 0 (Nat.zero_le _) (by rw[show P++(AZ x).take 0=P by simp,hrx];exact U2 (.cons (.dead (.cons (Cut.nil _))))) ?_;intro k hk;have hkl:(P++(AZ x).take k).length≤2097152:=by rw[List.length_append,List.length_take];omega
    have hko:By (P++(AZ x).take k):=fun r hr=>by
     rcases List.mem_append.1 hr with hr|hr
     ·exact hPo r hr
     ·exact hxo r (List.mem_of_mem_take hr)
    obtain⟨hl1,hl2⟩:=E3 (P++(AZ x).take k);have hl2:=hl2 hko;have hknx:∀r,(AZ x)[k]? =some r→(P++(AZ x).take (k+1)).foldl BX []=BX ((P++(AZ x).take k).foldl BX []) r:=fun r hr=>J6 P hr
    have hkfin:k=(AZ x).length→(P++(AZ x).take k).foldl BX []=(P++AZ x).foldl BX []:=fun e=>by rw[e,List.take_length]
    (try dsimp only at hk);(try dsimp only)
    generalize (P++(AZ x).take k).foldl BX []=O at hl1 hl2 hknx hkfin⊢;refine Aq fun K24 h24=>?_
    refine Ww ?_;refine An rfl (fun hb26=>?_) (fun hb26=>?_)
    ·have hklt:k < (AZ x).length:=by simpa using hb26
     obtain⟨r,hr⟩:∃r,(AZ x)[k]? =some r:=⟨_,List.getElem?_eq_getElem hklt⟩
     have hrw:=hxo r (List.mem_of_getElem? hr);have hknx:=hknx r hr;refine As ?_;refine h24 _ ?_;refine nT ?_;refine Aq fun K27 h27=>?_
     refine Aj ?_
     (refine W8.region ?_;(repeat(first|refine sQ (hq:=Az.call rfl (G3 O r (by omega) hl2 hrw) rfl rfl rfl) ?_|refine sQ (hq:=Bs rfl rfl rfl rfl) ?_|refine sQ (hq:=Bi rfl rfl rfl rfl) ?_|refine sQ ?_|refine Fy ?_|refine sG (hq:=by(intro hg;(try simp only[Bool.and_eq_true,beq_iff_eq]at hg);(try simp only[hg,cond_true,Bool.true_and,beq_self_eq_true]);exact Az.call rfl (G3 O r (by omega) hl2 hrw) rfl rfl rfl)) ?_|refine sG ?_|refine Mg (hk:=?_)));refine CC ?_)
     refine h27 _ ?_;refine nT ?_;refine rC ?_;refine Am ⟨k+1,by omega,by omega,?_⟩;rw[hknx];exact JY
    ·have hke:k=(AZ x).length:=by
      have:¬k < (AZ x).length:=by simpa using hb26
      omega
     have hkfin:=hkfin hke;refine AI ?_;refine h15 _ ?_;refine nT ?_;refine rC ?_;refine Am ⟨i+1,by omega,by omega,?_⟩;rw[hnx,←hkfin];exact U2 (.cons (Cut.nil _))
   ·rw[hb21,if_neg (by simp),List.append_nil]at hrx;refine As ?_;refine h19 _ ?_;refine nT ?_;refine Ww ?_;refine Aj ?_;refine Cv (fun k:Nat=>⟨(.any::.ptr 0 0::.any::.bs tInt ((P++(AZ x).take k).foldl BX [])::.lit (.int .i64 (b:Int))::.lit (.int .i64 (i:Int))::.any::.own 2 1::A2 (.lit (.int .i64 (k:Int))::Xd (Xf (A4 [])))),[.box (Ap f),.dead,.row 1 3 tInt (AZ x)]⟩) (fun k=>k≤(AZ x).length) (fun k=>(AZ x).length - k) 0 (Nat.zero_le _) (by rw[show P++(AZ x).take 0=P by simp,hrx];exact U2 (.cons (.dead (.cons (Cut.nil _))))) ?_;intro k hk;have hkl:(P++(AZ x).take k).length≤2097152:=by rw[List.length_append,List.length_take];omega
    have hko:By (P++(AZ x).take k):=fun r hr=>by
     rcases List.mem_append.1 hr with hr|hr
     ·exact hPo r hr
     ·exact hxo r (List.mem_of_mem_take hr)
    obtain⟨hl1,hl2⟩:=E3 (P++(AZ x).take k);have hl2:=hl2 hko;have hknx:∀r,(AZ x)[k]? =some r→(P++(AZ x).take (k+1)).foldl BX []=BX ((P++(AZ x).take k).foldl BX []) r:=fun r hr=>J6 P hr
    have hkfin:k=(AZ x).length→(P++(AZ x).take k).foldl BX []=(P++AZ x).foldl BX []:=fun e=>by rw[e,List.take_length]
    (try dsimp only at hk);(try dsimp only)
    generalize (P++(AZ x).take k).foldl BX []=O at hl1 hl2 hknx hkfin⊢;refine Aq fun K24 h24=>?_
    refine Ww ?_;refine An rfl (fun hb26=>?_) (fun hb26=>?_)
    ·have hklt:k < (AZ x).length:=by simpa using hb26
     obtain⟨r,hr⟩:∃r,(AZ x)[k]? =some r:=⟨_,List.getElem?_eq_getElem hklt⟩
     have hrw:=hxo r (List.mem_of_getElem? hr);have hknx:=hknx r hr;refine As ?_;refine h24 _ ?_;refine nT ?_;refine Aq fun K27 h27=>?_
     refine Aj ?_
     (refine W8.region ?_;(repeat(first|refine sQ (hq:=Az.call rfl (G3 O r (by omega) hl2 hrw) rfl rfl rfl) ?_|refine sQ (hq:=Bs rfl rfl rfl rfl) ?_|refine sQ (hq:=Bi rfl rfl rfl rfl) ?_|refine sQ ?_|refine Fy ?_|refine sG (hq:=by(intro hg;(try simp only[Bool.and_eq_true,beq_iff_eq]at hg);(try simp only[hg,cond_true,Bool.true_and,beq_self_eq_true]);exact Az.call rfl (G3 O r (by omega) hl2 hrw) rfl rfl rfl)) ?_|refine sG ?_|refine Mg (hk:=?_)));refine CC ?_)
     refine h27 _ ?_;refine nT ?_;refine rC ?_;refine Am ⟨k+1,by omega,by omega,?_⟩;rw[hknx];exact JY
    ·have hke:k=(AZ x).length:=by
      have:¬k < (AZ x).length:=by simpa using hb26
      omega
     have hkfin:=hkfin hke;refine AI ?_;refine h15 _ ?_;refine nT ?_;refine rC ?_;refine Am ⟨i+1,by omega,by omega,?_⟩;rw[hnx,←hkfin];exact U2 (.cons (Cut.nil _))
  ·have hie:i=bl.ins.length:=by
    have:¬i < bl.ins.length:=by simpa using hb14
    omega
   subst hie;refine AI ?_;refine h9 _ ?_;refine nT ?_;refine rC ?_;refine Am ⟨b+1,by omega,by omega,?_⟩;rw[hfn,show(bl.ins.take bl.ins.length).flatMap AZ=Nm bl by rw[List.take_length];rfl];exact JY
 ·have hbe:b=f.blocks.length:=by
   have:¬b < f.blocks.length:=by simpa using hb8
   omega
  subst hbe;rw[List.take_length];refine AI ?_;refine h3 _ ?_;refine nT ?_;refine Ww ?_;refine AH ?_;exact⟨.inr rfl,W0.cl rfl⟩
def Fm(f:Func):Bool:=It f||decide (((CO f).length:Int) > 60)
theorem PY(f:Func)(ho:okFunc f)(hs:smallF f)(hX:(QA f).length≤2097152):Fn Try.prog 6 [.agg (Ap f)] (.lit (.bool (Fm f))):=by
 have hgr:=PZ f hs;have hrg:=MC f ho hs hX;refine AM Try.func6 rfl (by kernel_rfl) rfl Try.ntmps6 fun C hC=>?_
 refine nS ?_;refine Ww ?_;refine Aq fun K2 h2=>?_
 (refine W8.region ?_;(repeat(first|refine sQ (hq:=Az.call rfl hgr rfl rfl rfl) ?_|refine sQ (hq:=Az.call rfl hrg rfl rfl rfl) ?_|refine sQ (hq:=Bs rfl rfl rfl rfl) ?_|refine sQ (hq:=Bi rfl rfl rfl rfl) ?_|refine sQ ?_|refine Fy ?_|refine sG (hq:=by(intro hg;(try simp only[Bool.and_eq_true,beq_iff_eq]at hg);(try simp only[hg,cond_true,Bool.true_and,beq_self_eq_true]);exact Az.call rfl hgr rfl rfl rfl)) ?_|refine sG (hq:=by(intro hg;(try simp only[Bool.and_eq_true,beq_iff_eq]at hg);(try simp only[hg,cond_true,Bool.true_and,beq_self_eq_true]);exact Az.call rfl hrg rfl rfl rfl)) ?_|refine sG ?_|refine Mg (hk:=?_)));refine CC ?_)
 refine h2 _ ?_;refine nT ?_;refine AH ?_;exact⟨.inr rfl,W0.cl rfl⟩
theorem J5{n:Int}:∀(l:List Int) (s:List Int×Bool),Xa (s.1++l)→(s.2=false→∀y∈s.1,y < n)→n∉l→
 Xa (l.foldl (ET n) s).1∧(∀y,y∈(l.foldl (ET n) s).1↔(y∈s.1∨y∈l)∨(y=n∧(l.foldl (ET n) s).2=true∧s.2=false))∧((l.foldl (ET n) s).2=false→∀y∈(l.foldl (ET n) s).1,y < n)
 | [],s,ha,hb,_=>by
  refine⟨by simpa using ha,fun y=>?_,hb⟩;simp only[List.foldl_nil,List.not_mem_nil,or_false];constructor
  ·exact fun h=>.inl h
  ·rintro(h|⟨_,h1,h2⟩)
   ·exact h
   ·rw[h1]at h2;cases h2
 |x::l,s,ha,hb,hn=>by
  have hnx:n≠x:=fun e=>hn (by rw[e];exact List.mem_cons_self ..)
  have hnl:n∉l:=fun e=>hn (List.mem_cons_of_mem _ e)
  unfold Xa at ha;rw[List.pairwise_append]at ha;obtain⟨a1,a2,a3⟩:=ha;rw[List.pairwise_cons]at a2;rw[List.foldl_cons];by_cases hc:(!s.2&&decide (x > n))=true
  ·have hs:s.2=false:=by
    simp only[Bool.and_eq_true,Bool.not_eq_true']at hc;exact hc.1
   have hxn:x > n:=by
    simp only[Bool.and_eq_true,decide_eq_true_eq]at hc;exact hc.2
   have e:ET n s x=(s.1++[n]++[x],true):=if_pos hc;rw[e];obtain⟨i1,i2,i3⟩:=J5 l (s.1++[n]++[x],true) (by
    unfold Xa;rw[List.append_assoc,List.append_assoc,List.pairwise_append];refine⟨a1,?_,fun a hay b hbz=>?_⟩
    ·simp only[List.cons_append,List.nil_append,List.pairwise_cons];refine⟨fun b hbm=>?_,a2.1,a2.2⟩;rcases List.mem_cons.1 hbm with rfl|hbm
     ·omega
     ·have:=a2.1 b hbm;omega
    ·have h1:=hb hs a hay;simp only[List.cons_append,List.nil_append,List.mem_cons]at hbz;rcases hbz with rfl|rfl|hbz
     ·exact h1
     ·omega
     ·have:=a2.1 b hbz;omega) (fun h=>by cases h) hnl
   have ht:(l.foldl (ET n) (s.1++[n]++[x],true)).2=true:=by
    by_cases h:(l.foldl (ET n) (s.1++[n]++[x],true)).2=true
    ·exact h
    ·have h:=i3 (by simpa using h) n ((i2 n).2 (.inl (.inl (by simp))));omega
   refine⟨i1,fun y=>?_,fun h=>by rw[ht]at h;cases h⟩;rw[i2,ht,hs];simp only[List.mem_append,List.mem_cons,List.not_mem_nil,or_false,and_true,reduceCtorEq,and_false];constructor
   ·rintro((h|h)|h)
    ·rcases h with h|h
     ·exact .inl (.inl h)
     ·exact .inr h
    ·exact .inl (.inr (.inl h))
    ·exact .inl (.inr (.inr h))
   ·rintro((h|h|h)|h)
    ·exact .inl (.inl (.inl h))
    ·exact .inl (.inr h)
    ·exact .inr h
    ·exact .inl (.inl (.inr h))
  ·have e:ET n s x=(s.1++[x],s.2):=if_neg hc;rw[e];obtain⟨i1,i2,i3⟩:=J5 l (s.1++[x],s.2) (by
    unfold Xa;rw[List.append_assoc,List.pairwise_append];refine⟨a1,?_,fun a hay b hbz=>a3 a hay b (by simpa using hbz)⟩;simp only[List.cons_append,List.nil_append,List.pairwise_cons];exact a2) (fun h y hy=>by
    rcases List.mem_append.1 hy with hy|hy
    ·exact hb h y hy
    ·rw[List.mem_singleton.1 hy];have h:s.2=false:=h;rw[h]at hc;have:¬x > n:=by simpa using hc
     omega) hnl
   refine⟨i1,fun y=>?_,i3⟩;rw[i2];simp only[List.mem_append,List.mem_cons,List.not_mem_nil,or_false,or_assoc]
theorem QJ{l:List Int}(h:Xa l)(n:Int):Xa (BX l n)∧∀y,y∈BX l n↔y=n∨y∈l:=by
 unfold BX;split
 ·rename_i hc;have hc:=List.contains_iff_mem.1 hc;exact⟨h,fun y=>⟨.inr,fun hy=>by
   rcases hy with rfl|hy
   ·exact hc
   ·exact hy⟩⟩
 ·rename_i hc;have hn:n∉l:=fun e=>hc (List.contains_iff_mem.2 e)
  obtain⟨i1,i2,i3⟩:=J5 (n:=n) l ([],false) (by simpa using h) (fun _ y hy=>by cases hy) hn;have i1:Xa (DY n l).1:=i1;have i2:∀y,y∈(DY n l).1↔(y∈([]:List Int)∨y∈l)∨(y=n∧(DY n l).2=true∧false=false):=i2;have i3:(DY n l).2=false→∀y∈(DY n l).1,y < n:=i3;simp only[List.not_mem_nil,false_or,and_true]at i2;split
  ·rename_i hd;have hd:(DY n l).2=false:=by simpa using hd
   refine⟨?_,fun y=>?_⟩
   ·unfold Xa;rw[List.pairwise_append];refine⟨i1,List.pairwise_singleton ..,fun a ha b hb=>?_⟩;rw[List.mem_singleton.1 hb];exact i3 hd a ha
   ·rw[List.mem_append,i2,hd,List.mem_singleton];simp only[Bool.false_eq_true,and_false,or_false];exact or_comm
  ·rename_i hd;have hd:(DY n l).2=true:=by simpa using hd
   refine⟨i1,fun y=>?_⟩;rw[i2,hd];simp only[and_true];exact or_comm
theorem P1(l:List Int):Xa (l.foldl BX [])∧∀y,y∈l.foldl BX []↔y∈l:=by
 suffices h:∀(l s:List Int),Xa s→Xa (l.foldl BX s)∧∀y,y∈l.foldl BX s↔y∈s∨y∈l by
  obtain⟨h1,h2⟩:=h l [] List.Pairwise.nil;exact⟨h1,fun y=>by rw[h2];simp⟩
 intro l;induction l with
 |nil=>exact fun s hs=>⟨hs,fun y=>by simp⟩
 |cons x l ih=>
  intro s hs;obtain⟨a1,a2⟩:=QJ hs x;obtain⟨h1,h2⟩:=ih (BX s x) a1;rw[List.foldl_cons];refine⟨h1,fun y=>?_⟩;rw[h2,a2,List.mem_cons];constructor
  ·rintro((h|h)|h)
   ·exact .inr (.inl h)
   ·exact .inl h
   ·exact .inr (.inr h)
  ·rintro(h|h|h)
   ·exact .inl (.inr h)
   ·exact .inl (.inl h)
   ·exact .inr h
theorem EV(f:Func):Xa (CO f)∧∀y,y∈CO f↔y∈QA f:=P1 _
end Mu
end
