/-
  Own texts laid together, part 3: MuCross18P, MuRef18C, MuEdgeP, MuRangeS, MuSplit, MuTurnW, MuTurnM, MuDrawG, MuLiftG, MuPut, ShelfP, MuSortP, MuMapI, MuAnd, MuMapZ, MuIdxI, MuRaw, MuRawB, MuRawC, MuOwnS, MuPlan, MuEdges, MuListP, MuEdgesF, MuWrapF, MuR18S, MuWrapE, MuClass21, MuOwnW, MuRef21W, MuRef21X, MuHas, MuLeaf, MuLeaf2, MuR18, MuWrapB, ShelfR, MuFlw, MuDelI, ShelfI, MuIns, MuCont, MuAbv, MuTails, MuJump, MuCostA, MuEach, MuCheapA, MuRK, MuCheapB, MuRowsO.
  Conditions: as each part says.
-/
import Derived.Test.YtnoonmhlllnboaaCo2
import Derived.Shelf.SlSortCmp.WholeK
import Derived.Shelf.SlSortCmp.NoneTotal
import Derived.Shelf.SlicesG.Cmp
import Derived.Ground.SlsfProg
import Derived.Ground.SlgcProg
import Derived.Test.YtnoonmhlllnboaaProg
import Derived.StillTailTactics
import Derived.WalkKit
import Derived.Maps.Ext
import Derived.Maps.RangeWalk
import Derived.Deep.AppendSrc
import Derived.Lib.SliceRun
import Derived.BigQuiet
import Derived.WalkSpells
import Derived.Shelf.Slices.Reverse
import Derived.Shelf.Spec.SlicesInsertGrow
import Derived.Laws.Cover3
import Derived.ScopeJumps
set_option maxRecDepth 100000
set_option maxHeartbeats 4000000
set_option linter.unusedSimpArgs false
set_option linter.unusedVariables false
section
namespace Mu
open Go Go.RowKit Go.Proofs
end Mu
end
section
namespace Mu
open Go Go.RowKit
section
variable{P:Program}
end
section
variable{C:Ctx}{t:List AV}{h:List ABlk}
theorem Ot{i:Nat}{R R1 R2:Res}(hi:h[i]? =some (.res R))(h0:R.mrk= [])(h1:R1.mrk= [])(h2:R2.mrk= [])(hF:∀g,R1.F g∨R2.F g→R.F g)
 (hR:∀w S,R.R w S→R1.R w S∧R2.R w S∧∀g,R1.F g→¬R2.F g):St.le C ⟨t,h⟩ ⟨t,h.set i (.res R1)++[.res R2]⟩:=fun a w ⟨hd,S,ψ,H,hl⟩=>by
 have hB:=H.blk i _ hi;have hil:=(List.getElem?_eq_some_iff.1 hi).1;obtain⟨r1,r2,hdis⟩:=hR w S hB.2;have hget:∀k b,(h.set i (.res R1)++[.res R2])[k]? =some b→(k=i∧b= .res R1)∨(k=h.length∧b= .res R2)∨(k≠i∧k≠h.length∧h[k]? =some b):=fun k b hb=>by
  by_cases hkl:k < h.length
  ·rw[List.getElem?_append_left (by simpa using hkl)]at hb;by_cases hki:k=i
   ·subst hki;rw[List.getElem?_set_self hil]at hb;cases hb;exact .inl ⟨rfl,rfl⟩
   ·rw[List.getElem?_set_ne (Ne.symm hki)]at hb;exact .inr (.inr ⟨hki,by omega,hb⟩)
  ·rw[List.getElem?_append_right (by simpa using hkl)]at hb;have:k - (h.set i (ABlk.res R1)).length=0:=by
    rcases Nat.eq_zero_or_pos (k - (h.set i (ABlk.res R1)).length)with e|e
    ·exact e
    ·rw[List.getElem?_eq_none (show 1≤_ from e)]at hb;cases hb
   rw[this]at hb;cases hb;simp only[List.length_set]at this;exact .inr (.inl ⟨by omega,rfl⟩)
 have X:Ext w S h ψ w S (h.set i (.res R1)++[.res R2]) ψ:=by
  refine⟨fun _ _=>rfl,fun _ h=>h,by simp,fun k c' hk hv=>?_,fun k hk hv=>?_⟩
  ·rw[List.getElem?_append_left (by simpa using hk)]at hv⊢;by_cases hki:k=i
   ·subst hki;rw[List.getElem?_set_self hil]at hv;simp[ABlk.ver]at hv
   ·rw[List.getElem?_set_ne (Ne.symm hki)]at hv⊢;exact⟨c',hv,Nat.le_refl _,fun _=>⟨rfl,rfl⟩⟩
  ·rw[List.getElem?_append_left (by simpa using hk)]at hv;by_cases hki:k=i
   ·subst hki;rw[List.getElem?_set_self hil]at hv;simp[AP]at hv
   ·rw[List.getElem?_set_ne (Ne.symm hki)]at hv;exact⟨hv,rfl⟩
 refine⟨?_,S,ψ,⟨H.bel,H.nlt,H.lt,H.sub,H.new,fun k b hb=>?_,fun k q hkq hk hq g g1 g2=>?_⟩,AC X _ _ hl⟩
 ·rw[hd];show WE h=_;rw[Jf,CQ hi (by show R1.mrk.map Mi=R.mrk.map Mi;rw[h0,h1])];show _=R2.mrk.map Mi++_;rw[h2];rfl
 ·rcases hget k b hb with⟨rfl,rfl⟩|⟨rfl,rfl⟩|⟨_,_,hb⟩
  ·exact⟨fun g hg=>hB.1 g (hF g (.inl hg)),r1⟩
  ·exact⟨fun g hg=>hB.1 g (hF g (.inr hg)),r2⟩
  ·exact(H.blk k b hb).keep X fun g _=>⟨rfl,fun h=>h⟩
 ·have key:∀k,ABlk.live (h.set i (.res R1)++[.res R2])[k]? =true→WL (h.set i (.res R1)++[.res R2])[k]? (ψ k) g→(k=i∧R1.F g)∨(k=h.length∧R2.F g)∨(k≠i∧k≠h.length∧ABlk.live h[k]? =true∧WL h[k]? (ψ k) g):=fun k k1 k2=>by
   obtain⟨b,hb⟩:=C8 k1;rw[hb]at k1 k2;rcases hget k b hb with⟨rfl,rfl⟩|⟨rfl,rfl⟩|⟨q1,q2,hb'⟩
   ·exact .inl ⟨rfl,k2⟩
   ·exact .inr (.inl ⟨rfl,k2⟩)
   ·exact .inr (.inr ⟨q1,q2,by rw[hb'];exact k1,by rw[hb'];exact k2⟩)
  have no:∀k,k≠i→ABlk.live h[k]? =true→WL h[k]? (ψ k) g→(R1.F g∨R2.F g)→False:=fun k q1 q3 q4 q5=>
   H.dis k i q1 q3 (by rw[hi];rfl) g q4 (by rw[hi];exact hF g q5)
  rcases key k hk g1 with⟨e1,f1⟩|⟨e1,f1⟩|⟨a1,a2,a3,a4⟩ <;> rcases key q hq g2 with⟨e2,f2⟩|⟨e2,f2⟩|⟨b1,b2,b3,b4⟩
  ·exact hkq (e1.trans e2.symm)
  ·exact hdis g f1 f2
  ·exact no q b1 b3 b4 (.inl f1)
  ·exact hdis g f2 f1
  ·exact hkq (e1.trans e2.symm)
  ·exact no q b1 b3 b4 (.inr f1)
  ·exact no k a1 a3 a4 (.inl f2)
  ·exact no k a1 a3 a4 (.inr f2)
  ·exact H.dis k q hkq a3 b3 g a4 b4
end
section
variable{P:Program}{C:Ctx}{t:List AV}{h:List ABlk}{o:Oper}{K:St→Prop}
end
end Mu
end
section
namespace Mu
open Go Go.RowKit Go.Proofs
section
variable{P:Program}{C:Ctx}{o:Oper}{t:List AV}{h:List ABlk}{ι:Type}{Rs:ι→Res}{val:ι→Value}
theorem Mf{i:Nat}{R:Res}{f:FuncId}{x:Operand}{args:Array Operand}{tys:Array TypeId}{l xs:List AV}{K:St→Prop}(hi:h[i]? =some (.res R))
 (ho:o.op= .call {callee:=.value x,args:=args,argTypes:=tys}) (hv:WO t x= .fn f l) (hF:IX P f R xs Rs val) (hm:∀p,(Rs p).mrk=R.mrk) (hx:args.toList.map (WO t)++l=xs) (hc:Bm xs=true)
 (hK:∀p,K ⟨Bn t o.dst (.lit (val p)),h.set i (.res (Rs p))⟩):Xb P C o ⟨t,h⟩ K:=by
 refine Ea hi hm (fun S ψ w ρ H hR hlt hρ=>?_) hK;have h1:=hρ x (by rw[ho];exact Array.mem_append.2 (.inl (by simp)));rw[hv]at h1;unfold AV.rel at h1;obtain⟨cs,e,hcs⟩:=h1;rw[Mz ho hF.1 ρ w e];refine⟨rfl,?_⟩;have h2:Ah w S h ψ xs (args.toList.map ρ++cs):=by
  rw[←hx];exact BD (Cm fun x hx'=>hρ x (by rw[ho];exact Array.mem_append.2 (.inr (Array.mem_toList_iff.1 hx')))) hcs
 rw[show(args.map ρ++cs.toArray)=(args.toList.map ρ++cs).toArray from(by simp)];exact hF.2 w S (args.toList.map ρ++cs) (fun k hk=>⟨H.lt k hk,fun hf=>((H.blk i _ hi).1 k hf).2.1 hk⟩) hlt hR (B5 _ _ hc h2)
end
section
variable{P:Program}{f:FuncId}{fn:Go.Func}{c:Code}{args:List AV}{ι:Type}{R:Res}{Rs:ι→Res}{val:ι→Value}{t:Tmp}{n:Nat}
theorem Pu{w:World}{S:Nat→Prop}{vs:List Value}(hm:R.mrk= [])(hSl:∀k,S k→k < w.heap.size∧¬R.F k)(hF:∀g,R.F g→g < w.heap.size)(hR:R.R w S)(hr:Ah w S [] ψ0 args vs):
 St.rel ⟨w,S,fun k=>k < w.heap.size∧¬R.F k,none⟩ ⟨args++List.replicate (n - args.length) (.lit undef),[.res R]⟩ {tmps:=vs.toArray++Array.replicate (n - vs.toArray.size) undef,defers:=[]} w:=by
 obtain⟨_,S1,ψ,_,hl⟩:=Hd (n:=n) (fun k hk=>(hSl k hk).1) hr;refine⟨by show []=WE [.res R];simp[WE,ABlk.mrk,hm],S,ψ0,⟨Kp.refl _ _,fun k hk=>hk.1,fun k hk=>(hSl k hk).1,fun _ h=>h,fun _ h=>.inl h,fun i b hi=>?_,fun i j hij hi hj=>?_⟩,?_⟩
 ·cases i with
  |zero=>
   simp only[List.getElem?_cons_zero,Option.some.injEq]at hi;subst hi;exact⟨fun g hg=>⟨fun hc=>hc.2 hg,fun hs=>(hSl g hs).2 hg,hF g hg⟩,hR⟩
  |succ i=>simp at hi
 ·cases i with
  |zero=>cases j with
   |zero=>exact absurd rfl hij
   |succ j=>simp[ABlk.live]at hj
  |succ i=>simp[ABlk.live]at hi
 ·simp only[Array.toList_append,Array.toList_replicate,List.size_toArray];have X:Ext w S [] ψ0 w S [.res R] ψ0:=⟨fun _ _=>rfl,fun _ h=>h,by simp,fun i c' hi=>by simp at hi,fun i hi=>by simp at hi⟩
  refine BD (AC X _ _ hr) (DX (by simp[Bh hr]) fun i x v hx hv=>?_);rw[List.getElem?_replicate]at hx hv;split at hx <;> cases hx
  split at hv <;> cases hv
  unfold AV.rel;rfl
theorem SD{w:World}{S:Nat→Prop}{p:ι}{h':List ABlk}{i:Nat}{S1:Nat→Prop}{ψ:Nat→Value}{w':World}(hS:∀p w S S',(Rs p).R w S→(Rs p).R w S')(H:HRel ⟨w,S,fun k=>k < w.heap.size∧¬R.F k,none⟩ h' S1 ψ w')(hi:h'[i]? =some (.res (Rs p))):Turns w S R.F Rs val (val p) w':=by
 have hB:=H.blk i _ hi;refine⟨⟨H.bel.os,H.bel.tape,H.bel.output,H.bel.size,fun k hk hn=>H.bel.block k ⟨hk,hn⟩⟩,p,rfl,hS p _ _ _ hB.2,fun k hk=>?_⟩;obtain⟨k1,_,k3⟩:=hB.1 k hk;refine⟨?_,k3⟩;by_cases hc:R.F k
 ·exact .inl hc
 ·exact .inr (Nat.le_of_not_lt fun hlt=>k1 ⟨hlt,hc⟩)
def VE(R:Res)(Rs:ι→Res):Exit→St→Prop:=fun e s=>(e= .normal∨e= .ret)∧∃p,WE s.h=R.mrk.map Mi∧s.h[0]? =some (.res (Rs p))
theorem EN(hf:P.funcs[f]? =some fn)(hb:fn.body=some c)(hE:Dl P f=true)(hres:fn.results= #[])(hn:fn.ntmps=n)
 (hm:R.mrk= []) (hS:∀p w S S',(Rs p).R w S→(Rs p).R w S')
 (h:∀C:Ctx,W8 P C c (VE R Rs) ⟨args++List.replicate (n - args.length) (.lit undef),[.res R]⟩):IX P f R args Rs (fun _=>.tuple #[]):=by
 refine⟨hE,fun w S vs hSl hF hR hr=>calls_of_wp hf hb ?_⟩;rw[hn];refine wp_mono ((h ⟨w,S,fun k=>k < w.heap.size∧¬R.F k,none⟩).wp rfl (Pu hm hSl hF hR hr)) ?_;rintro x a' w' ⟨s,⟨hx,p,hmk,hi⟩,hd,S1,ψ,H,hl⟩;rw[hmk,hm]at hd;have hfin:∃v,Ending.returned (.tuple #[])= .returned v∧Turns w S R.F Rs (fun _=>.tuple #[]) v w':=⟨_,rfl,SD (val:=fun _=>.tuple #[]) hS H hi⟩
 rcases hx with rfl|rfl
 ·exact⟨hd,_,results_none hres _ _ _,hfin⟩
 ·exact⟨hd,_,results_none hres _ _ _,hfin⟩
end
end Mu
end
section
namespace Mu
open Go Go.RowKit
section
variable{P:Program}{C:Ctx}
def Wh(b:Nat→Bool)(i:Nat):Nat→Bool:=fun j=>if j=i then true else b j
def TX(b:Nat→Bool)(o:Oper):Prop:=∀(k:Nat) (e:Go.Edge),o.after[k]? =some e→Region.binds .any e=true→b e.on=true
def Va(ops:Array Oper)(b:Nat→Bool):Prop:=∀(j:Nat) (o:Oper),ops[j]? =some o→b j=true→TX b o
def gS(P:Program)(C:Ctx)(F:(Nat→Bool)→St)(ops:Array Oper):Nat→List Oper→Prop
 |_,[]=>True
 |k,o::rest=>(∀b,b k=false→TX b o→Va ops b→Xb P C o (F b) fun s=>St.le C s (F (Wh b k)))∧gS P C F ops (k+1) rest
theorem TU{F:(Nat→Bool)→St}{ops:Array Oper}:∀{l:List Oper} {k j:Nat} {o:Oper},gS P C F ops k l→l[j]? =some o→∀b,b (k+j)=false→TX b o→Va ops b→Xb P C o (F b) fun s=>St.le C s (F (Wh b (k+j)))
 | [],_,_,_,_,hj=>by simp at hj
 |o'::l,k,0,o,h,hj=>by
  simp at hj;subst hj;exact h.1
 |o'::l,k,j+1,o,h,hj=>by
  have:=TU (l:=l) (k:=k+1) (j:=j) h.2 (by simpa using hj);rwa [show k+1+j=k+(j+1)by omega]at this
def VR(ops:Array Oper):Bool:=(List.range ops.size).all fun i=>match ops[i]? with
 |none=>true
 |some o=>o.guard.isNone&&o.after.all fun e=>!Region.binds .any e||decide (e.on < i)
theorem RR{ops:Array Oper}(hf:VR ops=true){i:Nat}{o:Oper}(ho:ops[i]? =some o):o.guard=none∧∀e∈o.after,Region.binds .any e=true→e.on < i:=by
 have h1:=List.all_eq_true.1 hf i (List.mem_range.2 (Array.getElem?_eq_some_iff.1 ho).1);simp only[ho,Bool.and_eq_true]at h1;refine⟨by simpa using h1.1,fun e he hb=>?_⟩;have h2:=Array.all_eq_true_iff_forall_mem.1 h1.2 e he;rw[hb]at h2;simpa using h2
theorem Np{b:Nat→Bool}{i:Nat}{o:Oper}(h:TX b o):TX (Wh b i) o:=fun k e he hb=>by
 unfold Wh;split
 ·rfl
 ·exact h k e he hb
theorem Vr{listed:Array Bool}{j:Nat}(h:listed.getD j false=true):listed.getD j true=true:=by
 rcases Nat.lt_or_ge j listed.size with h'|h'
 ·simp[h']at h⊢;exact h
 ·simp[Array.getElem?_eq_none h']at h
theorem QN{listed:Array Bool}{i:Nat}(hi:i < listed.size):(fun j=>(listed.setIfInBounds i true).getD j true)=Wh (fun j=>listed.getD j true) i:=by
 funext j;unfold Wh;by_cases h:j=i
 ·subst h;rw[if_pos rfl];simp[Array.getD_eq_getD_getElem?,hi]
 ·rw[if_neg h,getD_set_ne true (Ne.symm h)]
theorem Ps{ops:Array Oper}{F:(Nat→Bool)→St}{Q':Exit→Act→World→Prop}(hf:VR ops=true)
 (hs:∀(j:Nat) (o:Oper),ops[j]? =some o→∀b,b j=false→TX b o→Va ops b→Xb P C o (F b) fun s=>St.le C s (F (Wh b j)))
 (hQ:∀a w,(F fun _=>true).rel C a w→Q' .normal a w):
 ∀(f:Nat) (listed:Array Bool) (a:Act) (w:World),listed.size=ops.size→listed.toList.count false=f→Va ops (fun j=>listed.getD j true)→(F fun j=>listed.getD j true).rel C a w→wpAny P .any ops Q' f listed a w:=by
 intro f;induction f with
 |zero=>
  intro listed a w hsz hc hcl H;have hall:∀j,listed.getD j true=true:=fun j=>by
   rcases Nat.lt_or_ge j listed.size with h'|h'
   ·have hm:=List.count_eq_zero.1 hc;simp only[Array.getD_eq_getD_getElem?,Array.getElem?_eq_getElem h',Option.getD_some];rcases hx:listed[j]with _|_
    ·exact absurd (by rw[←hx];simp) hm
    ·rfl
   ·simp[Array.getD_eq_getD_getElem?,Array.getElem?_eq_none h']
  refine⟨List.eq_nil_iff_forall_not_mem.2 fun i hi=>?_,hQ a w ?_⟩
  ·have:=(mem_ready.1 hi).1;rw[hall i]at this;cases this
  ·have e:(fun j=>listed.getD j true)=fun _=>true:=funext hall
   rwa [e]at H
 |succ f ih=>
  intro listed a w hsz hc hcl H;refine⟨fun h0=>?_,fun i hi=>?_⟩
  ·exfalso;have hex:∃j,listed.getD j true=false:=by
    have hm:false∈listed.toList:=List.count_pos_iff.1 (by omega);obtain⟨j,hj,he⟩:=List.getElem_of_mem hm;exact⟨j,by simp only[Array.length_toList]at hj;simp only[Array.getElem_toList]at he;simp[Array.getD_eq_getD_getElem?,hj,he]⟩
   obtain⟨j,hj,hmin⟩:=Gh hex;have hjs:j < ops.size:=by
    rcases Nat.lt_or_ge j listed.size with h'|h'
    ·omega
    ·simp[Array.getElem?_eq_none h']at hj
   have hmem:j∈Region.ready .any ops listed:=mem_ready.2 ⟨hj,_,Array.getElem?_eq_getElem hjs,fun e he hb=>by
    have hlt:=(RR hf (Array.getElem?_eq_getElem hjs)).2 e he hb;cases hx:listed.getD e.on false with
    |true=>rfl
    |false=>
     have hin:e.on < listed.size:=by omega
     have:=hmin e.on (getD_in hin hx);omega⟩
   rw[h0]at hmem;cases hmem
  ·obtain⟨hun,o,ho,hall⟩:=mem_ready.1 hi;have his:i < listed.size:=by rw[hsz];exact(Array.getElem?_eq_some_iff.1 ho).1
   obtain⟨hg,hfw⟩:=RR hf ho;have haft:TX (fun j=>listed.getD j true) o:=fun k e he hb=>Vr (hall e (Array.mem_of_getElem? he) hb)
   have hcnt:(listed.setIfInBounds i true).toList.count false=f:=by
    have hfalse:listed.toList[i]'(by simpa using his)=false:=by
     have:=hun;simp[Array.getD_eq_getD_getElem?,his]at this;simpa using this
    rw[Array.toList_setIfInBounds,List.count_set (by simpa using his),hfalse,hc];simp
   unfold wpOp;simp only[ho];have hw:Region.wanted o (yielded ops a.tmps)=true:=by unfold Region.wanted;rw[hg]
   rw[hw,if_pos rfl];refine .inl (Oper.wp_mono (fun a' w' ⟨s',hle,hr⟩=>?_) (hs i o ho _ hun haft hcl Q' a w H).2);refine ih _ a' w' (by simpa using hsz) hcnt ?_ ?_
   ·rw[QN his];intro j o' hj hbj;by_cases hji:j=i
    ·subst hji;rw[ho]at hj;cases hj;exact Np haft
    ·exact Np (hcl j o' hj (by unfold Wh at hbj;rwa [if_neg hji]at hbj))
   ·rw[QN his];exact hle a' w' hr
theorem Km{id n:Nat}{l:List Oper}{Q:Exit→St→Prop}(F:(Nat→Bool)→St)(hn:l.length=n)(hm:P.follows .mixedOrders=true)(hB:(Region.noSelect l.toArray&&JT l.toArray&&VR l.toArray)=true)
 (hs:gS P C F l.toArray 0 l) (hQ:Q .normal (F fun _=>true)):W8 P C (.region id l.toArray true) Q (F fun j=>decide (n≤j)):=fun a w H=>by
 simp only[Bool.and_eq_true]at hB;obtain⟨⟨hsel,hnd⟩,hf⟩:=hB;refine Iv hm hnd ?_;have e0:(fun j=>(Array.replicate l.toArray.size false).getD j true)=fun j=>decide (n≤j):=by
  funext j;simp only[Array.getD_eq_getD_getElem?,Array.getElem?_replicate,List.size_toArray,hn];by_cases h:j < n
  ·rw[if_pos h,decide_eq_false (by omega)];rfl
  ·rw[if_neg h,decide_eq_true (by omega)];rfl
 refine Ps (Q':=fun e a' w'=>e= .normal∧∃s',Q e s'∧s'.rel C a' w') hf (fun j o ho b h1 h2 h3=>?_) (fun a' w' h=>⟨rfl,_,hQ,h⟩) _ _ a _ (by simp) (by simp) ?_ ?_
 ·have:=TU (l:=l) (k:=0) (j:=j) hs (by simpa using ho) b (by rwa [Nat.zero_add]) h2 h3;rwa [Nat.zero_add]at this
 ·intro j o ho hb;have hj:j < l.toArray.size:=(Array.getElem?_eq_some_iff.1 ho).1;have:(Array.replicate l.toArray.size false).getD j true=true:=hb;rw[Array.getD_eq_getD_getElem?,Array.getElem?_replicate,if_pos hj]at this;cases this
 ·rw[e0];obtain⟨hd,S,ψ,hh',hl⟩:=H;have hb:Below w.heap.size w {w with drawn:=w.drawn+1}:=⟨rfl,rfl,rfl,Nat.le_refl _,fun _ _=>rfl⟩
  exact⟨hd,S,ψ,hh'.grow hb (fun _ h=>h) (fun _ h=>.inl h) hh'.lt,AC (show Ext w S _ ψ {w with drawn:=w.drawn+1} S _ ψ from Ext.grow _ ψ (fun k hk=>rfl) fun _ h=>h) _ _ hl⟩
theorem Rp{p:Nat}:Cn p []=true:=rfl
theorem C7{p:Nat}{x:AV}{l:List AV}(hx:Er p x=true)(hl:Cn p l=true):Cn p (x::l)=true:=by unfold Cn;rw[hx,hl];rfl
theorem VZ{p:Nat}{c:Bool}{x y:AV}(hx:Er p x=true)(hy:Er p y=true):Er p (bif c then x else y)=true:=by cases c;exact hy;exact hx
theorem Un{p:Nat}{c:Bool}{x y:AV}(hc:c=false)(hy:Er p y=true):Er p (bif c then x else y)=true:=by subst hc;exact hy
theorem Rq{p:Nat}:List.all [] (WB p)=true:=rfl
theorem EA{p:Nat}{x:ABlk}{l:List ABlk}(hx:WB p x=true)(hl:l.all (WB p)=true):(x::l).all (WB p)=true:=by rw[List.all_cons,hx,hl];rfl
theorem I3{p:Nat}{c:Bool}{x y:ABlk}(hx:WB p x=true)(hy:WB p y=true):WB p (bif c then x else y)=true:=by cases c;exact hy;exact hx
theorem GZ{t:List AV}{h h':List ABlk}(k:Nat)(e:h++List.replicate k .dead=h'):St.le C ⟨t,h⟩ ⟨t,h'⟩:=by
 subst e;induction k with
 |zero=>simpa using St.le.refl
 |succ k ih=>
  refine ih.trans ?_;have:=Lf (C:=C) (t:=t) (h:=h++List.replicate k .dead);rwa [List.append_assoc,←List.replicate_succ']at this
theorem UL{b:Bool}(h:b=true)(x y:ABlk):(bif b then x else y)=x:=by subst h;rfl
theorem GW{b:Bool}(h:b=false)(x y:ABlk):(bif b then x else y)=y:=by subst h;rfl
theorem Bg{F:(Nat→Bool)→St}{ops:Array Oper}{k:Nat}{o:Oper}{rest:List Oper}(h1:∀b,b k=false→TX b o→Va ops b→Xb P C o (F b) fun s=>St.le C s (F (Wh b k)))(h2:gS P C F ops (k+1) rest):gS P C F ops k (o::rest):=⟨h1,h2⟩
theorem RP{F:(Nat→Bool)→St}{ops:Array Oper}{k:Nat}:gS P C F ops k []:=trivial
theorem Ch{ops:Array Oper}{b:Nat→Bool}(hc:Va ops b){i j k:Nat}{o:Oper}{e:Go.Edge}(hj:ops[j]? =some o)(hk:o.after[k]? =some e)(hb:Region.binds .any e=true)(he:e.on=i)(hi:b i=false):b j=false:=by
 cases h:b j with
 |false=>rfl
 |true=>
  have:=hc j o hj h k e hk hb;rw[he,hi]at this;cases this
end
end Mu
end
section
namespace Mu
open Go Go.RowKit Go.Proofs
section
variable{P:Program}{C:Ctx}
variable{t:List AV}{h:List ABlk}{o:Oper}
end
section
variable{P:Program}{C:Ctx}{t:List AV}{h:List ABlk}{o:Oper}
end
theorem VY{Q:Exit→St→Prop}{s:St}(s':St)(e:s=s')(h:Q .normal s'):Q .normal s:=by rw[e];exact h
theorem V0{x y:AV}{l l':List AV}(h1:x=y)(h2:l=l'):x::l=y::l':=by rw[h1,h2]
theorem WZ.of_eq{h:List ABlk}{α:Type}{T:Ty α}{x y:AV}{d:α}(e:x=y)(hf:WZ h T y d):WZ h T x d:=by rw[e];exact hf
section
variable{G:World→Prop}{P:Program}{f:FuncId}{fn:Go.Func}{c:Code}{args:List AV}{ι:Type}{R:Res}{Rs:ι→Res}{val:ι→Value}{t:Tmp}{n:Nat}
end
section
variable{G:World→Prop}{P:Program}{C:Ctx}{o:Oper}{t:List AV}{h:List ABlk}{ι:Type}{Rs:ι→Res}{val:ι→Value}
end
end Mu
end
section
namespace Mu
open Go Go.RowKit Go.Proofs Go.Maps
end Mu
end
section
namespace Go.Proofs
open Go.Shelf
def Try.cmpIntP_ren:Go.Shelf.Ren:=⟨fun|5=>44|7=>64|n=>n,fun|22=>3|3=>3|4=>4|n=>n,fun|n=>n⟩
theorem Try.cmpIntP:Go.Proofs.SlLaysC2.n5 Try.prog Try.cmpIntP_ren:={
 mixed:=by kernel_rfl
 f5:=⟨Try.f44.name,by decide,Try.func44.trans (congrArg some (by kernel_rfl))⟩
 f7:=⟨Try.f64.name,by decide,Try.func64.trans (congrArg some (by kernel_rfl))⟩
 t3:=Try.underlying3
 a3:=Try.isAgg3
 z3:=Try.sizeOf3
 v3:=Try.zeroValue3
 t4:=Try.underlying4
 a4:=Try.isAgg4
 z4:=Try.sizeOf4
 v4:=Try.zeroValue4
 t22:=Try.underlying3
 a22:=Try.isAgg3
 z22:=Try.sizeOf3
 v22:=Try.zeroValue3}
end Go.Proofs
end
section
namespace Mu
open Go Go.RowKit Go.Proofs Go.Shelf Go.Lib Go.Sort
theorem Vf(a b:Int)(g:Nat)(ty:TypeId)(W:World)(h:W.heap[g]? =some (.cells #[.int .i64 a,.int .i64 b] ty)):
 Calls Try.prog 43 #[.slice (some ⟨g,0,none⟩) 2 2] W fun e w'=>e= .returned (.int .i64 (if a≠0 then a else b))∧w'=W:=by
 have c0:W.cell? ⟨g,0,none⟩=some (.int .i64 a):=by simp[World.cell?,h]
 have c1:W.cell? ⟨g,1,none⟩=some (.int .i64 b):=by simp[World.cell?,h]
 go_enter Try.func43,Try.ntmps43
 go_wp2
 refine wp_loop_rounds 3 ?_;rw[rounds_succ];by_cases ha:a=0
 ·subst ha
  go_wp2
  rw[rounds_succ];by_cases hb:b=0
  ·subst hb
   go_wp2
   rw[rounds_succ]
   go_wp2
   go_ret
   exact⟨rfl,rfl⟩
  ·go_wp2
   go_ret
   exact⟨rfl,rfl⟩
 ·go_wp2
  go_ret
  exact⟨by simp,rfl⟩
end Mu
end
section
namespace Mu
open Go Go.RowKit Go.Proofs Go.Maps Go.Shelf
section
variable{α β:Type}
def Pq(l:List (Int×α)):Prop:=l.Pairwise fun p q=>p.1 < q.1
def FB(l:List (Int×α))(k:Int):Option α:=(l.find? fun p=>p.1 ==k).map (·.2)
def KP(l:List (Int×α))(k:Int)(v:α):List (Int×α):=l.filter (fun p=>decide (p.1 < k))++(k,v)::l.filter fun p=>decide (k < p.1)
def FA(l:List (Int×α)):List Int:=l.map (·.1)
instance(l:List (Int×α)):Decidable (Pq l):=by unfold Pq;infer_instance
theorem Pq.nil:Pq ([]:List (Int×α)):=List.Pairwise.nil
theorem Pq.put{l:List (Int×α)}(h:Pq l)(k:Int)(v:α):Pq (KP l k v):=by
 unfold KP Pq;rw[List.pairwise_append,List.pairwise_cons];refine⟨h.filter _,⟨fun p hp=>by simpa using(List.mem_filter.1 hp).2,h.filter _⟩,fun p hp q hq=>?_⟩;have h1:p.1 < k:=by simpa using(List.mem_filter.1 hp).2
 rcases List.mem_cons.1 hq with rfl|hq
 ·exact h1
 ·have h2:k < q.1:=by simpa using(List.mem_filter.1 hq).2
  omega
theorem mem_setK{l:List (Int×α)}{k:Int}{v:α}{p:Int×α}:p∈KP l k v↔p=(k,v)∨(p∈l∧p.1≠k):=by
 unfold KP;rw[List.mem_append,List.mem_cons,List.mem_filter,List.mem_filter];simp only[decide_eq_true_eq];constructor
 ·rintro(⟨h1,h2⟩|h|⟨h1,h2⟩)
  ·exact .inr ⟨h1,by omega⟩
  ·exact .inl h
  ·exact .inr ⟨h1,by omega⟩
 ·rintro(h|⟨h1,h2⟩)
  ·exact .inr (.inl h)
  ·rcases Int.lt_or_gt_of_ne h2 with h3|h3
   ·exact .inl ⟨h1,h3⟩
   ·exact .inr (.inr ⟨h1,h3⟩)
theorem Pq.uniq{l:List (Int×α)}(h:Pq l){p q:Int×α}(hp:p∈l)(hq:q∈l)(e:p.1=q.1):p=q:=by
 induction l with
 |nil=>cases hp
 |cons x l ih=>
  have h:=List.pairwise_cons.1 h;rcases List.mem_cons.1 hp with h1|h1 <;> rcases List.mem_cons.1 hq with h2|h2
  ·rw[h1,h2]
  ·have:=h.1 q h2;rw[h1]at e;omega
  ·have:=h.1 p h1;rw[h2]at e;omega
  ·exact ih h.2 h1 h2
theorem Gn{l:List (Int×α)}(h:Pq l){k:Int}{v:α}:FB l k=some v↔(k,v)∈l:=by
 unfold FB;constructor
 ·intro e;obtain⟨p,hp,rfl⟩:=Option.map_eq_some_iff.1 e;have h1:=List.find?_some hp;have h2:=List.mem_of_find?_eq_some hp;have h3:p.1=k:=by simpa using h1
  rw[←h3];exact h2
 ·intro hm;cases e:l.find? fun p=>p.1 ==k with
  |none=>
   have:=List.find?_eq_none.1 e _ hm;simp at this
  |some p=>
   have h1:p.1=k:=by simpa using List.find?_some e
   have:=h.uniq (List.mem_of_find?_eq_some e) hm h1;rw[this];rfl
theorem RO{l:List (Int×α)}{k:Int}:FB l k=none↔∀p∈l,p.1≠k:=by
 unfold FB;rw[Option.map_eq_none_iff,List.find?_eq_none];simp
theorem Gl{l:List (Int×α)}(h:Pq l)(k x:Int)(v:α):FB (KP l k v) x=if x=k then some v else FB l x:=by
 by_cases e:x=k
 ·rw[if_pos e,Gn (h.put k v),mem_setK,e];exact .inl rfl
 ·rw[if_neg e];cases hg:FB l x with
  |none=>
   rw[RO]at hg⊢;intro p hp;rcases mem_setK.1 hp with rfl|hp
   ·exact fun e'=>e e'.symm
   ·exact hg p hp.1
  |some u=>
   rw[Gn h]at hg;rw[Gn (h.put k v),mem_setK];exact .inr ⟨hg,e⟩
def JV(e:α→β)(l:List (Int×α)):List (Int×β):=l.map fun p=>(p.1,e p.2)
theorem Gm(e:α→β)(l:List (Int×α))(k:Int):FB (JV e l) k=(FB l k).map e:=by
 unfold FB JV;induction l with
 |nil=>rfl
 |cons p l ih=>
  rw[List.map_cons,List.find?_cons,List.find?_cons];cases p.1 ==k
  ·exact ih
  ·rfl
theorem S7(e:α→β)(l:List (Int×α))(k:Int)(v:α):JV e (KP l k v)=KP (JV e l) k (e v):=by
 simp[JV,KP,List.filter_map,Function.comp_def]
theorem Ta{l:List (Int×α)}(k:Int)(v:α):(KP l k v).length≤l.length+1:=by
 unfold KP;rw[List.length_append,List.length_cons];have:∀l:List (Int×α),(l.filter fun p=>decide (p.1 < k)).length+(l.filter fun p=>decide (k < p.1)).length≤l.length:=by
  intro l;induction l with
  |nil=>simp
  |cons p l ih=>
   rw[List.filter_cons,List.filter_cons];by_cases h1:p.1 < k
   ·have h2:¬k < p.1:=by omega
    simp only[h1,h2,decide_true,decide_false,if_true,List.length_cons];simp only[Bool.false_eq_true,if_false];omega
   ·by_cases h2:k < p.1
    ·simp only[h1,h2,decide_true,decide_false,if_true,List.length_cons];simp only[Bool.false_eq_true,if_false];omega
    ·simp only[h1,h2,decide_false,List.length_cons];simp only[Bool.false_eq_true,if_false];omega
 have:=this l;omega
end
def Uh(v:Value):Option (DataW Value×List MemPlace):=some (.held v,[])
def Mj(l:List (Int×Value)):DataW Value:=.map (l.map fun p=>(Lit.int .i64 p.1,.held p.2))
def WA{α:Type}(l:List (Int×α)):Prop:=Pq l∧∀p∈l,NL p.1
theorem T8(a b:Int):(Lit.int .i64 a).sameKey (.int .i64 b)=(a ==b):=by rw[Bool.eq_iff_iff];simp[Lit.sameKey]
theorem Hz(l:List (Int×Value))(k:Int):has (Mj l) (.int .i64 k)=(FB l k).isSome:=by
 unfold Mj FB;rw[has_eq,List.any_map,Option.isSome_map];induction l with
 |nil=>rfl
 |cons p l ih=>
  rw[List.any_cons,List.find?_cons];simp only[Function.comp,T8]at ih⊢;cases p.1 ==k
  ·simpa using ih
  ·rfl
theorem E8(l:List (Int×Value))(k:Int)(z:DataW Value):(Mj l).atKey (.int .i64 k) z=((FB l k).map DataW.held).getD z:=by
 unfold Mj FB DataW.atKey;simp only;induction l with
 |nil=>rfl
 |cons p l ih=>
  rw[List.map_cons,List.find?_cons,List.find?_cons];simp only[T8];cases p.1 ==k
  ·exact ih
  ·rfl
theorem Q1(l:List (Int×Value)):Maps.size (Mj l)=l.length:=by simp[Mj,size_eq]
theorem RC{x:Int}(h:NL x):WideAt.IsKeyLit (.int .i64 x):=U4.key (keyOf_int_mk Try.underlying3 h)
theorem P9{l:List (Int×Value)}(h:WA l):Canon (Mj l):=⟨_,rfl,List.pairwise_map.2 (h.1.imp fun{p q} hpq=>by simp[Lit.before];exact hpq),fun p hp=>by
 obtain⟨q,hq,rfl⟩:=List.mem_map.1 hp;exact RC (h.2 q hq)⟩
theorem FV{l:List (Int×Value)}{k:Lit}(h:has (Mj l) k=true):∃p∈l,k= .int .i64 p.1:=by
 unfold Mj at h;rw[has_eq]at h;obtain⟨q,hq,hs⟩:=List.any_eq_true.1 h;obtain⟨p,hp,rfl⟩:=List.mem_map.1 hq;exact⟨p,hp,(WideAt.sameKey_eq hs).symm⟩
theorem WA.put{α:Type}{l:List (Int×α)}(h:WA l){k:Int}(hk:NL k)(v:α):WA (KP l k v):=⟨h.1.put k v,fun p hp=>by
 rcases mem_setK.1 hp with rfl|hp
 ·exact hk
 ·exact h.2 p hp.1⟩
theorem WA.nil{α:Type}:WA ([]:List (Int×α)):=⟨Pq.nil,fun p hp=>by cases hp⟩
theorem Tg{l:List (Int×Value)}(h:WA l){k:Int}(hk:NL k)(v:Value)(hc:Canon ((Mj l).put (.int .i64 k) (.held v))):(Mj l).put (.int .i64 k) (.held v)=Mj (KP l k v):=by
 have hm:IsMap (Mj l):=⟨_,rfl⟩
 refine Maps.ext hc (P9 (h.put hk v)) (fun x=>?_) fun x z hx=>?_
 ·by_cases e:x= .int .i64 k
  ·subst e;rw[has_put_same hm (RC hk),Hz,Gl h.1,if_pos rfl];rfl
  ·rw[has_put_other e];cases h1:has (Mj l) x with
   |true=>
    obtain⟨p,hp,rfl⟩:=FV h1;rw[Hz]at h1⊢;rw[Gl h.1,if_neg fun e'=>e (by rw[e']),h1]
   |false=>
    cases h2:has (Mj (KP l k v)) x with
    |false=>rfl
    |true=>
     obtain⟨p,hp,rfl⟩:=FV h2;rw[Hz,Gl h.1,if_neg fun e'=>e (by rw[e']),←Hz,h1]at h2;cases h2
 ·by_cases e:x= .int .i64 k
  ·subst e;rw[atKey_put_same hm (RC hk),E8,Gl h.1,if_pos rfl];rfl
  ·rw[has_put_other e]at hx;rw[atKey_put_other e];obtain⟨p,hp,rfl⟩:=FV hx;rw[E8,E8,Gl h.1,if_neg fun e'=>e (by rw[e'])]
def NA(w:World)(b:Nat)(l:List (Int×Value)):Prop:=WA l∧w.ownsMap Try.prog 3 Uh b l.length (Mj l)
theorem NA.lt{w:World}{b:Nat}{l:List (Int×Value)}(h:NA w b l):b < w.heap.size:=h.2.lt
theorem NA.keep{w w':World}{b:Nat}{l:List (Int×Value)}(h:NA w b l)(hk:w'.heap[b]? =w.heap[b]?):NA w' b l:=by
 obtain⟨h0,es,clock,h1,h2⟩:=h;exact⟨h0,es,clock,hk.trans h1,h2⟩
theorem Rc{w:World}{b n:Nat}{D:DataW Value}(h:w.ownsMap Try.prog 3 Uh b n D):w.ownsMap Try.prog 3 Uh b (Maps.size D) D:=by
 obtain⟨es,clock,h1,h2,h3,rfl⟩:=h;refine⟨es,clock,h1,h2,?_,rfl⟩;rw[size_eq,length_read];exact Nat.le_refl _
theorem NA.of{w:World}{b n:Nat}{l:List (Int×Value)}(h:WA l)(hw:w.ownsMap Try.prog 3 Uh b n (Mj l)):NA w b l:=⟨h,by have:=Rc hw;rwa [Q1]at this⟩
theorem PR(w:World):NA (w.alloc (.map #[] 0)) w.heap.size []:=⟨WA.nil,World.ownsMap_made w _ _ _⟩
section
variable{w:World}{b:Nat}{l:List (Int×Value)}{ty e:TypeId}
theorem NA.look(h:NA w b l)(hty:Try.prog.underlying ty=some (.map 3 e)){z:Value}(hz:(zeroValue e).run Try.prog w= .ok z w){k:Int}(hk:NL k):(Instr.lookup ty (.map (some b)) (.int .i64 k) false).run Try.prog w= .ok ((FB l k).getD z) w:=by
 obtain⟨v,ps,hrun,hv⟩:=h.2.lookup U4 hty hz (zd:=.held z) (zp:=[]) rfl (keyOf_int_mk Try.underlying3 hk);rw[hrun];rw[E8]at hv;unfold Uh at hv;cases hg:FB l k with
 |none=>rw[hg]at hv;cases hv;rfl
 |some u=>rw[hg]at hv;cases hv;rfl
theorem NA.put(h:NA w b l)(hty:Try.prog.underlying ty=some (.map 3 e))(hn:l.length < maxLen){k:Int}(hk:NL k)(v:Value):∃w',(Instr.mapUpdate ty (.map (some b)) (.int .i64 k) v).run Try.prog w= .ok () w'∧NA w' b (KP l k v)∧w.grownBy w' (some b)∧w'.heap.size=w.heap.size:=by
 obtain⟨w',hrun,hown,ht⟩:=h.2.store U4 hty hn (keyOf_int_mk Try.underlying3 hk) (d:=.held v) (ps:=[]) rfl;refine⟨w',hrun,?_,ht.grown,?_⟩
 ·rw[Tg h.1 hk v (hown.canon U4)]at hown;exact .of (h.1.put hk v) hown
 ·obtain⟨es,clock,es',clock',hb,rfl⟩:=ht;simp[Go.ChangeMaps.setBlock]
end
def O3{α:Type}(e:α→Value)(l:List (Int×α))(m:Nat):Res:=⟨[],fun g=>g=m,fun w _=>NA w m (JV e l),fun h hk _ _=>h.keep (hk m rfl)⟩
def VW(R:Res)(m:Nat)(l:List (Int×Value)):Prop:=∀w T,R.R w T→NA w m l
theorem VW.self{α:Type}{e:α→Value}{l:List (Int×α)}{m:Nat}:VW (O3 e l m) m (JV e l):=fun _ _ h=>h
structure SetM'(R R':Res)(m:Nat)(l l':List (Int×Value)):Prop where
 has:VW R m l
 mrk:R'.mrk=R.mrk
 mem:R.F m
 sub:∀g,R'.F g→R.F g
 put:∀w w' T,R.R w T→(∀k,k≠m→k < w.heap.size→w'.heap[k]? =w.heap[k]?)→NA w' m l'→R'.R w' T
theorem SetM'.self{α:Type}{e:α→Value}{l l':List (Int×α)}{m:Nat}:SetM' (O3 e l m) (O3 e l' m) m (JV e l) (JV e l'):=⟨VW.self,rfl,rfl,fun _ h=>h,fun _ _ _ _ _ h=>h⟩
section
variable{C:Ctx}{t:List AV}{h:List ABlk}{o:Oper}{K:St→Prop}{ty e:TypeId}{x y z:Operand}{m:Nat}{R:Res}{l:List (Int×Value)}{k:Int}
theorem Qt{α:Type}(en:α→Value)(ho:o.op= .makeMap ty none)(hK:∀m,K ⟨Bn t o.dst (.lit (.map (some m))),h++[.res (O3 en [] m)]⟩):Xb Try.prog C o ⟨t,h⟩ K:=by
 refine IZ (ι:=Nat) (Rs:=O3 en []) (val:=fun m=>.map (some m)) (fun _=>rfl) (fun S ψ w ρ H hρ=>?_) hK;have he:(execOp ρ o).run Try.prog w= .ok (.value (.map (some w.heap.size))) (w.alloc (.map #[] 0)):=by simp[execOp,ho,run_makeMap]
 rw[he];have hbl:=(Below.refl w.heap.size w).alloc (Nat.le_refl _) (.map #[] 0);refine⟨⟨hbl.os,hbl.tape,hbl.output,hbl.size,fun k hk _=>hbl.block k hk⟩,w.heap.size,rfl,PR w,fun k hk=>?_⟩;have hk:k=w.heap.size:=hk;subst hk;exact⟨.inr (Nat.le_refl _),by simp⟩
theorem Oz(i:Nat){zv:Value}(ho:o.op= .lookup ty x y false)(hty:Try.prog.underlying ty=some (.map 3 e))(hz:∀w,(zeroValue e).run Try.prog w= .ok zv w)(hx:WO t x= .lit (.map (some m)))(hy:WO t y= .lit (.int .i64 k))(hk:NL k)(hi:h[i]? =some (.res R))(hR:VW R m l):
 Az Try.prog C t h o (.lit ((FB l k).getD zv)):=
 AL fun T ψ w ρ H hρ=>by
  have h1:=hρ x (by simp[ho,Op.operands]);have h2:=hρ y (by simp[ho,Op.operands]);rw[hx]at h1;rw[hy]at h2;unfold AV.rel at h1 h2;have hrun:=(hR w T (H.blk i _ hi).2).look hty (hz w) hk;refine⟨_,by simp[execOp,ho,h1,h2,hrun,Result.andThen];rfl,?_⟩;unfold AV.rel;rfl
theorem TM(i:Nat){R':Res}{v:Value}(ho:o.op= .mapUpdate ty x y z)(hty:Try.prog.underlying ty=some (.map 3 e))(hx:WO t x= .lit (.map (some m)))(hy:WO t y= .lit (.int .i64 k))(hz:WO t z= .lit v)(hk:NL k)(hn:l.length < maxLen)(hi:h[i]? =some (.res R))(hR:SetM' R R' m l (KP l k v))
 (hK:K ⟨Bn t o.dst (.lit undef),h.set i (.res R')⟩):Xb Try.prog C o ⟨t,h⟩ K:=by
 refine Ea (ι:=Unit) (Rs:=fun _=>R') (val:=fun _=>undef) hi (fun _=>hR.mrk) (fun T ψ w ρ H hRw hlt hρ=>?_) (fun _=>hK);have h1:=hρ x (by simp[ho,Op.operands]);have h2:=hρ y (by simp[ho,Op.operands]);have h3:=hρ z (by simp[ho,Op.operands]);rw[hx]at h1;rw[hy]at h2;rw[hz]at h3;unfold AV.rel at h1 h2 h3;obtain⟨w',hrun,hm',hg,hsz⟩:=(hR.has w T hRw).put hty hn hk v;have he:(execOp ρ o).run Try.prog w= .ok .skip w':=by
  simp[execOp,ho,h1,h2,h3,hrun,Result.andThen]
 rw[he];refine⟨⟨hg.os,hg.tape,hg.output,hg.size,fun q hq hn=>hg.block q hq fun e=>hn (by cases e;exact hR.mem)⟩,(),rfl,hR.put w w' T hRw (fun q hq hl=>hg.block q hl fun e=>hq (by cases e;rfl)) hm',fun g hg'=>⟨.inl (hR.sub g hg'),by have:=hlt g (hR.sub g hg');omega⟩⟩
end
def UW(w:World)(m r:Nat)(l:List (Int×Value))(ks:List Int):Prop:=WA l∧∃(left:Lit→Bool) (cnt:Nat),
 w.ranges Try.prog 3 Uh m r l.length (Mj l) left cnt∧(∀x,NL x→left (.int .i64 x)=((FB l x).isSome&&!ks.contains x))∧(∀x∈ks,(FB l x).isSome=true)∧ks.Nodup
def W9(w:World)(r:Nat)(q:Int)(v:Value):Prop:=(Instr.entry (.pointer (some ⟨r,0,none⟩))).run Try.prog w= .ok (.tuple #[.int .i64 q,v]) w
theorem ME{H:Type}{P:Program}{k:TypeId}{R:Value→Option (DataW H×List MemPlace)}{w w':World}{b r n:Nat}{D:DataW H}{left:Lit→Bool}{cnt:Nat}(h:w.ranges P k R b r n D left cnt)(hb:w'.heap[b]? =w.heap[b]?)(hr:w'.heap[r]? =w.heap[r]?):w'.ranges P k R b r n D left cnt:=by
 obtain⟨es,clock,since,seen,c0,h1,F,hs,hD,h2,rest⟩:=h;exact⟨es,clock,since,seen,c0,hb.trans h1,F,hs,hD,hr.trans h2,rest⟩
theorem UW.keep{w w':World}{m r:Nat}{l:List (Int×Value)}{ks:List Int}(h:UW w m r l ks)(hb:w'.heap[m]? =w.heap[m]?)(hr:w'.heap[r]? =w.heap[r]?):UW w' m r l ks:=by
 obtain⟨h0,left,cnt,h1,h2⟩:=h;exact⟨h0,left,cnt,ME h1 hb hr,h2⟩
theorem W9.keep{w w':World}{m r:Nat}{l:List (Int×Value)}{ks:List Int}{q:Int}{v:Value}(h:UW w m r l ks)(ha:W9 w r q v)(hb:w'.heap[m]? =w.heap[m]?)(hr:w'.heap[r]? =w.heap[r]?):W9 w' r q v:=by
 obtain⟨_,left,cnt,⟨es,clock,since,seen,c0,h1,_,_,_,h2,_⟩,_⟩:=h;unfold W9 at ha⊢;have e1:(getObj r).run Try.prog w= .ok (.mapIter (some m) since seen c0) w:=by simp[getObj,Sem.run,h2]
 have e2:(getObj m).run Try.prog w= .ok (.map es clock) w:=by simp[getObj,Sem.run,h1]
 have e3:(getObj r).run Try.prog w'= .ok (.mapIter (some m) since seen c0) w':=by simp[getObj,Sem.run,hr,h2]
 have e4:(getObj m).run Try.prog w'= .ok (.map es clock) w':=by simp[getObj,Sem.run,hb,h1]
 unfold Instr.entry at ha⊢;simp only[Sem.run_bind,e1,e3,Result.andThen_ok]at ha⊢;cases hs:seen.back? with
 |none=>rw[hs]at ha;simp[stuck]at ha
 |some stamp=>
  rw[hs]at ha;simp only[Sem.run_bind,e2,e4,Result.andThen_ok]at ha⊢;by_cases hc:clock !=c0
  ·simp[hc,unsupported]at ha
  ·cases hf:es.find? (fun x=>x.born ==stamp)with
   |none=>simp[hc,hf,unsupported]at ha
   |some e=>
    simp[hc,hf]at ha⊢;exact ha
def T9{α:Type}(e:α→Value)(l:List (Int×α))(ks:List Int)(m r:Nat):Res:=⟨[],fun g=>g=m∨g=r,fun w _=>UW w m r (JV e l) ks,fun h hk _ _=>h.keep (hk m (.inl rfl)) (hk r (.inr rfl))⟩
def WU{α:Type}(e:α→Value)(l:List (Int×α))(ks:List Int)(q:Int)(v:α)(m r:Nat):Res:=⟨[],fun g=>g=m∨g=r,fun w _=>UW w m r (JV e l) ks∧W9 w r q (e v),fun h hk _ _=>⟨h.1.keep (hk m (.inl rfl)) (hk r (.inr rfl)),W9.keep h.1 h.2 (hk m (.inl rfl)) (hk r (.inr rfl))⟩⟩
section
variable{C:Ctx}{t:List AV}{h:List ABlk}{o:Oper}{K:St→Prop}{ty ee:TypeId}{x:Operand}{m r:Nat}{α:Type}{e:α→Value}{l:List (Int×α)}{ks:List Int}
theorem Qs(i:Nat)(ho:o.op= .range ty x)(hty:Try.prog.underlying ty=some (.map 3 ee))(hi:h[i]? =some (.res (O3 e l m)))
 (hx:WO t x= .lit (.map (some m))) (hK:∀r,K ⟨Bn t o.dst (.lit (.pointer (some ⟨r,0,none⟩))),h.set i (.res (T9 e l [] m r))⟩):Xb Try.prog C o ⟨t,h⟩ K:=by
 refine Ea (ι:=Nat) (Rs:=fun r=>T9 e l [] m r) (val:=fun r=>.pointer (some ⟨r,0,none⟩)) hi (fun _=>rfl) (fun T ψ w ρ H hRw hlt hρ=>?_) hK;have h1:=hρ x (by simp[ho,Op.operands]);rw[hx]at h1;unfold AV.rel at h1;obtain⟨h0,hown⟩:=(show NA w m (JV e l)from hRw)
 obtain⟨w',hrun,hr,hg,hsz⟩:=hown.range U4 hty;have he:(execOp ρ o).run Try.prog w= .ok (.value (.pointer (some ⟨w.heap.size,0,none⟩))) w':=by
  simp[execOp,ho,h1,hrun,Result.andThen]
 rw[he];have hm:=hown.lt;refine⟨Gr.of_grownBy hg |> fun G=>⟨G.os,G.tape,G.output,G.size,fun k hk hn=>G.block k hk fun e=>by cases e⟩,w.heap.size,rfl,⟨h0,_,_,hr,fun x hx=>by simp[Hz],(fun _ hx=>by cases hx),List.nodup_nil⟩,fun k hk=>?_⟩;rcases(show k=m∨k=w.heap.size from hk)with rfl|rfl
 ·exact⟨.inl rfl,by omega⟩
 ·exact⟨.inr (Nat.le_refl _),by omega⟩
theorem Sw(i:Nat)(ho:o.op= .next x false)(hi:h[i]? =some (.res (T9 e l ks m r)))
 (hx:WO t x= .lit (.pointer (some ⟨r,0,none⟩))) (hK0:ks.Nodup→(∀q,q∈ks↔q∈FA l)→K ⟨Bn t o.dst (.lit (.tuple #[.bool false])),h.set i (.res (T9 e l ks m r))⟩)
 (hK1:∀q v,ks.Nodup→(∀q∈ks,q∈FA l)→NL q→FB l q=some v→q∉ks→K ⟨Bn t o.dst (.lit (.tuple #[.bool true,.int .i64 q,e v])),h.set i (.res (WU e l (ks++[q]) q v m r))⟩):Xb Try.prog C o ⟨t,h⟩ K:=by
 have hmem:∀q,(FB (JV e l) q).isSome=true↔q∈FA l:=fun q=>by
  rw[Gm,Option.isSome_map];unfold FA FB;rw[Option.isSome_map,List.find?_isSome];simp
 refine Ea (ι:={p:Option (Int×α) // ks.Nodup∧(∀q∈ks,q∈FA l)∧match p with|none=>∀q,q∈ks↔q∈FA l|some (q,v)=>NL q∧FB l q=some v∧q∉ks})
  (Rs:=fun p=>match p.1 with|none=>T9 e l ks m r|some (q,c)=>WU e l (ks++[q]) q c m r) (val:=fun p=>match p.1 with|none=>.tuple #[.bool false]|some (q,c)=>.tuple #[.bool true,.int .i64 q,e c]) hi ?_ (fun T ψ w ρ H hRw hlt hρ=>?_) ?_
 ·rintro⟨_|⟨q,c⟩,hp⟩ <;> rfl
 ·have h1:=hρ x (by simp[ho,Op.operands]);rw[hx]at h1;unfold AV.rel at h1;obtain⟨h0,left,cnt,hr,hl,hks,hnd⟩:=(show UW w m r (JV e l) ks from hRw)
  have hks':∀q∈ks,q∈FA l:=fun q hq=>(hmem q).1 (hks q hq)
  have hm:=hr.owns.lt;have hrl:=hr.lt;rcases hr.next U4 o.type with⟨_,hno,hrun⟩|⟨key,v,kl,y,w',cnt',hkey,hleft,hv,hat,hrun,hr',_,hg,hsz,hent⟩
  ·have he:(execOp ρ o).run Try.prog w= .ok (.value (.tuple #[.bool false])) w:=by
    simp[execOp,ho,h1,hrun,Result.andThen]
   rw[he];refine⟨⟨rfl,rfl,rfl,Nat.le_refl _,fun _ _ _=>rfl⟩,⟨none,hnd,hks',fun q=>⟨hks' q,fun hq=>?_⟩⟩,rfl,hRw,fun k hk=>⟨.inl hk,?_⟩⟩
   ·obtain⟨p,hp,rfl⟩:=List.mem_map.1 hq;have hw:=h0.2 (p.1,e p.2) (List.mem_map.2 ⟨p,hp,rfl⟩);have:=hl p.1 hw;rw[hno,(hmem p.1).2 hq]at this;simpa using this
   ·rcases(show k=m∨k=r from hk)with rfl|rfl
    ·exact hm
    ·exact hrl
  ·obtain⟨q,rfl,rfl,hq⟩:=Maps.keyOf_int_inv Try.underlying3 hkey;have hlq:=hl q hq;rw[hleft]at hlq;have hlq:(FB (JV e l) q).isSome=true∧q∉ks:=by simpa using hlq.symm
   obtain⟨c,hc⟩:∃c,FB l q=some c:=by
    have:=hlq.1;rw[Gm,Option.isSome_map]at this;exact Option.isSome_iff_exists.1 this
   have hvc:v=e c:=by
    have:=hat (.held undef);rw[E8,Gm,hc]at this;unfold Uh at hv;cases hv;simpa using this.symm
   subst hvc;have he:(execOp ρ o).run Try.prog w= .ok (.value (.tuple #[.bool true,.int .i64 q,e c])) w':=by
    simp[execOp,ho,h1,hrun,Result.andThen]
   rw[he];refine⟨Gr.of_grownBy hg |> fun G=>⟨G.os,G.tape,G.output,G.size,fun k hk hn=>G.block k hk fun e=>hn (by cases e;exact .inr rfl)⟩,⟨some (q,c),hnd,hks',hq,hc,hlq.2⟩,rfl,⟨⟨h0,_,_,hr',fun x hx=>?_,fun x hx=>?_,?_⟩,hent⟩,fun k hk=>⟨.inl hk,?_⟩⟩
   ·rw[hl x hx,T8];by_cases hxq:x=q
    ·subst hxq;simp
    ·simp[hxq]
   ·rcases List.mem_append.1 hx with hx|hx
    ·exact hks x hx
    ·rw[List.mem_singleton.1 hx];exact hlq.1
   ·rw[List.nodup_append];exact⟨hnd,by simp,fun a ha b hb=>by
     rw[List.mem_singleton.1 hb];exact fun e=>hlq.2 (e▸ha)⟩
   ·rcases(show k=m∨k=r from hk)with rfl|rfl <;> omega
 ·rintro⟨_|⟨q,c⟩,h1,h2,hp⟩
  ·exact hK0 h1 hp
  ·exact hK1 q c h1 h2 hp.1 hp.2.1 hp.2.2
theorem Nw(i:Nat){q:Int}{v:α}(ho:o.op= .entry x)(hi:h[i]? =some (.res (WU e l ks q v m r)))(hx:WO t x= .lit (.pointer (some ⟨r,0,none⟩))):
 Az Try.prog C t h o (.tup [.lit (.int .i64 q),.lit (e v)]):=
 AL fun S' ψ w ρ H hρ=>by
  have h1:=hρ x (by simp[ho,Op.operands]);rw[hx]at h1;unfold AV.rel at h1;obtain⟨_,ha⟩:=(show UW w m r (JV e l) ks∧W9 w r q (e v)from(H.blk i _ hi).2)
  refine⟨.tuple #[.int .i64 q,e v],by simp[execOp,ho,h1,(show _=_ from ha),Result.andThen],?_⟩;simp only[AV.rel,Ah];exact⟨[_,_],rfl,_,_,rfl,rfl,_,_,rfl,rfl,rfl⟩
end
end Mu
end
section
namespace Mu
open Go Go.RowKit
def Res.and(A B:Res):Res:=⟨[],fun g=>A.F g∨B.F g,fun w S=>A.R w S∧B.R w S∧∀g,A.F g→¬B.F g,fun h hk hb hs=>⟨A.keep h.1 (fun k e=>hk k (.inl e)) hb hs,B.keep h.2.1 (fun k e=>hk k (.inr e)) hb hs,h.2.2⟩⟩
section
variable{C:Ctx}{t:List AV}{h:List ABlk}{A B:Res}
theorem E9(i j:Nat)(hij:i≠j)(hi:h[i]? =some (.res A))(hj:h[j]? =some (.res B))(hA:A.mrk= []:=by rfl)(hB:B.mrk= []:=by rfl):St.le C ⟨t,h⟩ ⟨t,(h.set j .dead).set i (.res (A.and B))⟩:=
 Ow hij hi hj hA hB rfl (fun _ e=>e) fun _ _ h1 h2 h3=>⟨h1,h2,h3⟩
theorem IU(i j:Nat)(hij:i≠j)(hi:h[i]? =some (.res (A.and B)))(hj:h[j]? =some .dead)(h1:A.mrk= []:=by rfl)(h2:B.mrk= []:=by rfl):St.le C ⟨t,h⟩ ⟨t,(h.set i (.res A)).set j (.res B)⟩:=fun a w ⟨hd,S,ψ,H,hl⟩=>by
 have hB:=H.blk i _ hi;have hil:=(List.getElem?_eq_some_iff.1 hi).1;have hjl:=(List.getElem?_eq_some_iff.1 hj).1;obtain⟨r1,r2,hdis⟩:=hB.2;have hj':(h.set i (.res A))[j]? =some .dead:=by rw[List.getElem?_set_ne hij];exact hj
 have hget:∀k b,((h.set i (.res A)).set j (.res B))[k]? =some b→(k=i∧b= .res A)∨(k=j∧b= .res B)∨(k≠i∧k≠j∧h[k]? =some b):=fun k b hb=>by
  by_cases hkj:k=j
  ·subst hkj;rw[List.getElem?_set_self (by simpa using hjl)]at hb;cases hb;exact .inr (.inl ⟨rfl,rfl⟩)
  ·rw[List.getElem?_set_ne (Ne.symm hkj)]at hb;by_cases hki:k=i
   ·subst hki;rw[List.getElem?_set_self hil]at hb;cases hb;exact .inl ⟨rfl,rfl⟩
   ·rw[List.getElem?_set_ne (Ne.symm hki)]at hb;exact .inr (.inr ⟨hki,hkj,hb⟩)
 have X1:Ext w S h ψ w S (h.set i (.res A)) (AX ψ i (ψ i)):=Ext.set (fun _ _=>rfl) hi (fun c' hc=>by simp[ABlk.ver]at hc) fun h=>by simp[AP]at h
 have X2:Ext w S (h.set i (.res A)) (AX ψ i (ψ i)) w S ((h.set i (.res A)).set j (.res B)) (AX (AX ψ i (ψ i)) j (AX ψ i (ψ i) j)):=Ext.set (fun _ _=>rfl) hj' (fun c' hc=>by simp[ABlk.ver]at hc) fun h=>by simp[AP]at h
 have e:∀(φ:Nat→Value) k,AX φ k (φ k)=φ:=fun φ k=>funext fun q=>by unfold AX;split <;> simp_all
 rw[e]at X1;rw[e,e]at X2;have X:Ext w S h ψ w S ((h.set i (.res A)).set j (.res B)) ψ:=⟨fun _ _=>rfl,fun _ h=>h,by simp,fun k c' hk hv=>by
  obtain⟨c1,k1,k2,k3⟩:=X2.ver k c' (by simpa using hk) hv;obtain⟨c2,k4,k5,k6⟩:=X1.ver k c1 hk k1;exact⟨c2,k4,by omega,fun e'=>⟨rfl,by rw[(k3 (by omega)).2,(k6 (by omega)).2]⟩⟩,fun k hk hv=>⟨(X1.box k hk (X2.box k (by simpa using hk) hv).1).1,rfl⟩⟩
 refine⟨?_,S,ψ,⟨H.bel,H.nlt,H.lt,H.sub,H.new,fun k b hb=>?_,fun k q hkq hk hq g g1 g2=>?_⟩,AC X _ _ hl⟩
 ·rw[hd];show WE h=_;rw[CQ hj' (by show B.mrk.map Mi= [];rw[h2];rfl),CQ hi (by show A.mrk.map Mi= [].map Mi;rw[h1])]
 ·rcases hget k b hb with⟨rfl,rfl⟩|⟨rfl,rfl⟩|⟨_,_,hb⟩
  ·exact⟨fun g hg=>hB.1 g (.inl hg),r1⟩
  ·exact⟨fun g hg=>hB.1 g (.inr hg),r2⟩
  ·exact(H.blk k b hb).keep X fun g _=>⟨rfl,fun h=>h⟩
 ·have key:∀k,ABlk.live ((h.set i (.res A)).set j (.res B))[k]? =true→WL ((h.set i (.res A)).set j (.res B))[k]? (ψ k) g→(k=i∧A.F g)∨(k=j∧B.F g)∨(k≠i∧k≠j∧ABlk.live h[k]? =true∧WL h[k]? (ψ k) g):=fun k k1 k2=>by
   obtain⟨b,hb⟩:=C8 k1;rw[hb]at k1 k2;rcases hget k b hb with⟨rfl,rfl⟩|⟨rfl,rfl⟩|⟨q1,q2,hb'⟩
   ·exact .inl ⟨rfl,k2⟩
   ·exact .inr (.inl ⟨rfl,k2⟩)
   ·exact .inr (.inr ⟨q1,q2,by rw[hb'];exact k1,by rw[hb'];exact k2⟩)
  have no:∀k,k≠i→ABlk.live h[k]? =true→WL h[k]? (ψ k) g→(A.F g∨B.F g)→False:=fun k q1 q3 q4 q5=>
   H.dis k i q1 q3 (by rw[hi];rfl) g q4 (by rw[hi];exact q5)
  rcases key k hk g1 with⟨e1,f1⟩|⟨e1,f1⟩|⟨a1,a2,a3,a4⟩ <;> rcases key q hq g2 with⟨e2,f2⟩|⟨e2,f2⟩|⟨b1,b2,b3,b4⟩
  ·exact hkq (e1.trans e2.symm)
  ·exact hdis g f1 f2
  ·exact no q b1 b3 b4 (.inl f1)
  ·exact hdis g f2 f1
  ·exact hkq (e1.trans e2.symm)
  ·exact no q b1 b3 b4 (.inr f1)
  ·exact no k a1 a3 a4 (.inl f2)
  ·exact no k a1 a3 a4 (.inr f2)
  ·exact H.dis k q hkq a3 b3 g a4 b4
theorem W8.upto{P:Program}{c:Code}{Q:Exit→St→Prop}{s:St}(H:W8 P C c (fun e s=>∃s',Q e s'∧St.le C s s') s):W8 P C c Q s:=fun a w Hr=>wpIn_mono (H a w Hr) fun _ a' w' ⟨_,⟨s2,h1,h2⟩,r⟩=>⟨s2,h1,h2 a' w' r⟩
theorem Wi{Q:Exit→St→Prop}{e:Exit}{s s':St}(h:St.le C s s')(q:Q e s'):∃s',Q e s'∧St.le C s s':=⟨s',q,h⟩
theorem Le(i:Nat)(hi:h[i]? =some (.res (A.and B)))(h1:A.mrk= []:=by rfl)(h2:B.mrk= []:=by rfl):St.le C ⟨t,h⟩ ⟨t,h.set i (.res A)++[.res B]⟩:=Ot hi rfl h1 h2 (fun _ e=>e) fun _ _ e=>e
end
end Mu
end
section
namespace Mu
open Go Go.RowKit Go.Proofs Go.Maps
theorem Lo(w:World):(zeroValue 3).run Try.prog w= .ok (.int .i64 0) w:=by kernel_rfl
section
variable{C:Ctx}{t:List AV}{h:List ABlk}{o:Oper}{K:St→Prop}{ty e:TypeId}{x y z:Operand}{m:Nat}{ik:IntKind}{l:List (Int×Int)}{k:Int}
theorem Oy(i:Nat)(ho:o.op= .lookup ty x y false)(hty:Try.prog.underlying ty=some (.map 3 e))(hz:∀w,(zeroValue e).run Try.prog w= .ok (.int ik 0) w)(hx:WO t x= .lit (.map (some m)))(hy:WO t y= .lit (.int .i64 k))(hk:Wd .i64 k=true)(hi:h[i]? =some (.res (O3 (Value.int ik) l m))):
 Az Try.prog C t h o (.lit (.int ik ((FB l k).getD 0))):=by
 have h1:=Oz (C:=C) i ho hty hz hx hy hk hi VW.self;rw[Gm]at h1;cases hg:FB l k with
 |none=>rw[hg]at h1;exact h1
 |some v=>rw[hg]at h1;exact h1
theorem TL(i:Nat){v:Int}(ho:o.op= .mapUpdate ty x y z)(hty:Try.prog.underlying ty=some (.map 3 e))(hx:WO t x= .lit (.map (some m)))(hy:WO t y= .lit (.int .i64 k))(hz:WO t z= .lit (.int ik v))(hk:Wd .i64 k=true)(hn:l.length < maxLen)(hi:h[i]? =some (.res (O3 (Value.int ik) l m)))
 (hK:K ⟨Bn t o.dst (.lit undef),h.set i (.res (O3 (Value.int ik) (KP l k v) m))⟩):Xb Try.prog C o ⟨t,h⟩ K:=
 TM (l:=JV (Value.int ik) l) i ho hty hx hy hz hk (by simpa[JV]using hn) hi (by have:=SetM'.self (e:=Value.int ik) (l:=l) (l':=KP l k v) (m:=m);rwa [S7]at this) hK
end
end Mu
end
section
namespace Mu
open Go Go.RowKit Go.Proofs
def TT(p:Int→Bool)(l:List Int):Int:=match l.findIdx? p with|some i=>(i:Int)|none=> -1
theorem UC{p:Int→Bool}{l:List Int}{k:Nat}(h:∀x∈l.take k,p x=false){x:Int}(hx:l[k]? =some x)(hp:p x=true):TT p l=(k:Int):=by
 have:l.findIdx? p=some k:=by
  rw[List.findIdx?_eq_some_iff_getElem];obtain⟨hk,e⟩:=List.getElem?_eq_some_iff.1 hx;refine⟨hk,by rw[e];exact hp,fun j hj=>?_⟩;have:=h (l[j]'(by omega)) (by
   rw[List.mem_take_iff_getElem];exact⟨j,by omega,rfl⟩)
  rw[this];simp
 unfold TT;rw[this]
theorem RK{p:Int→Bool}{l:List Int}(h:∀x∈l,p x=false):TT p l= -1:=by
 have:l.findIdx? p=none:=by
  rw[List.findIdx?_eq_none_iff];exact h
 unfold TT;rw[this]
theorem Px{p:Int→Bool}{l:List Int}{k:Nat}(h:∀x∈l.take k,p x=false){x:Int}(hx:l[k]? =some x)(hp:p x=false):∀y∈l.take (k+1),p y=false:=by
 rw[List.take_add_one,hx];intro y hy;rcases List.mem_append.1 hy with hy|hy
 ·exact h y hy
 ·rw[List.mem_singleton.1 hy];exact hp
theorem UB(l:List Int)(hl:l.length≤2147483648)(f:FuncId)(caps:List AV)(hcl:Bm caps=true)(p:Int→Bool)(hp:∀x∈l,Fn Try.prog f (.lit (.int .i64 x)::caps) (.lit (.bool (p x)))):Fn Try.prog 74 [.bs tInt l,.fn f caps] (.lit (.int .i64 (TT p l))):=by
 have hcf:AV.cl (.fn f caps)=true:=by unfold AV.cl;exact hcl
 refine AM Try.func74 rfl (by kernel_rfl) rfl Try.ntmps74 fun C hC=>?_
 simp only[List.length_cons,List.length_nil,Nat.reduceAdd,Nat.reduceSub,List.replicate_succ,List.replicate_zero,List.cons_append,List.nil_append];refine wR ?_;refine Aq fun K2 h2=>?_
 refine wR ?_;refine Aj ?_;refine Cv (fun k:Nat=>⟨(.bs tInt l::.fn f caps::A5 (.lit (.int .i64 (l.length:Int))::.lit (.int .i64 (k:Int))::Xf [])),[]⟩) (fun k=>k≤l.length∧∀x∈l.take k,p x=false) (fun k=>l.length - k) 0 ⟨Nat.zero_le _,by simp⟩ (AA) ?_;rintro k ⟨hk,hno⟩;refine wR ?_;refine Aq fun K6 h6=>?_
 refine An rfl (fun hb7=>?_) (fun hb7=>?_)
 ·have hlt:k < l.length:=by simpa using hb7
  obtain⟨x,hx⟩:∃x,l[k]? =some x:=⟨_,List.getElem?_eq_getElem hlt⟩
  have hpx:=hp x (List.mem_of_getElem? hx);refine As ?_;refine h6 _ ?_;refine nT ?_;refine Aq fun K8 h8=>?_
  refine Aj ?_;refine wR ?_;refine wR ?_;refine An rfl (fun hb11=>?_) (fun hb11=>?_)
  ·refine wR ?_;rw[UC hno hx hb11];exact AH ⟨.inr rfl,W0.cl rfl⟩
  ·refine As ?_;refine h8 _ ?_;refine nT ?_;refine Wg ?_;refine Am ⟨k+1,⟨by omega,Px hno hx hb11⟩,by omega,AA⟩
 ·refine AI ?_;refine h2 _ ?_;refine nT ?_;refine wR ?_;have hke:k=l.length:=by have:¬k < l.length:=(by simpa using hb7);omega
  rw[RK (by rw[hke,List.take_length]at hno;exact hno)];exact AH ⟨.inr rfl,W0.cl rfl⟩
end Mu
end
section
namespace Mu
open Go Go.RowKit Go.ChangeShapes Go.WideShapes Go.Proofs
def Fd(cells:List Value)(off:Nat)(news:List Value):List Value:=cells.take off++news++cells.drop (off+news.length)
def SI(g sz cap l m:Nat):Value:=.slice (if cap=l then some ⟨g,0,none⟩else some ⟨g,l * sz,none⟩) (m - l) (cap - l)
theorem Ew{cells:List Value}{off:Nat}{news:List Value}(h:off+news.length≤cells.length):(Fd cells off news).length=cells.length:=by
 unfold Fd;simp;omega
theorem DE(P:Program){w:World}{g off:Nat}{cells news:List Value}{e:TypeId}(hg:w.heap[g]? =some (.cells cells.toArray e (0,0)))(hle:off+news.length≤cells.length)(h1:∀u∈news,u.oneCell'=true):
 w.setCells g off news=w.setRow g (Fd cells off news).toArray:=by
 have a:=run_storeCells_cells (P:=P) g off news 0 w (fun j hj=>by simp[World.cell?,hg];omega) (fun j hj=>by simp[World.frozen?,hg]) h1;have b:=run_storeCells_at (P:=P) g off e news 0 cells.toArray w hg (by simpa using hle) h1;rw[a]at b;simpa[Fd]using b
section
variable{P:Program}{C:Ctx}{t:List AV}{h:List ABlk}{o:Oper}{K:St→Prop}
theorem Kk{ty:TypeId}{x:Operand}{lo hi:Option Operand}{g n cap l m sz:Nat}[ES P ty sz](ho:o.op= .slice ty x lo hi none)(hx:WO t x= .lit (.slice (some ⟨g,0,none⟩) n cap))(hl:TY t 0 lo l)(hm:TY t n hi m)(h1:l≤m)(h2:m≤cap):
 Az P C t h o (.lit (SI g sz cap l m)):=
 AL fun S ψ w ρ H hρ=>by
  have hx':=hρ x (by rw[ho];simp[Op.operands]);have hlo:=hl.val (h:=h) (w:=w) (S:=S) (ψ:=ψ) (ρ:=ρ) fun y hy=>hρ y (by rw[ho,hy];simp[Op.operands])
  have hhi:=hm.val (h:=h) (w:=w) (S:=S) (ψ:=ψ) (ρ:=ρ) fun y hy=>hρ y (by rw[ho,hy];simp[Op.operands])
  rw[hx]at hx';unfold AV.rel at hx';have hr:=OQ (P:=P) (w:=w) (a:=some ⟨g,0,none⟩) (len:=n) (cap:=cap) (ES.eq (P:=P) (ty:=ty) (n:=sz)) hlo hhi h1 h2;have e:(Value.slice (if cap=l then some ⟨g,0,none⟩else(some (⟨g,0,none⟩:Addr)).map (·.add (l * sz))) (m - l) (cap - l))=SI g sz cap l m:=by
   unfold SI;split <;> simp[add_plain]
  rw[e]at hr;refine⟨SI g sz cap l m,by simp[execOp,ho,hx',hr],?_⟩;unfold AV.rel;rfl
theorem Ox{ty:TypeId}{x:Operand}{hi:Option Operand}{g n cap m sz:Nat}[ES P ty sz](ho:o.op= .slice ty x none hi none)(hx:WO t x= .lit (.slice (some ⟨g,0,none⟩) n cap))(hm:TY t n hi m)(h2:m≤cap):
 Az P C t h o (.lit (.slice (some ⟨g,0,none⟩) m cap)):=by
 have e:SI g sz cap 0 m= .slice (some ⟨g,0,none⟩) m cap:=by
  unfold SI;split <;> simp
 rw[←e];exact Kk ho hx rfl hm (Nat.zero_le _) h2
theorem ST{S:Nat→Prop}{w:World}{g off:Nat}{cells news:List Value}{e:TypeId}(hg:w.heap[g]? =some (.cells cells.toArray e (0,0))){v:Value}:
 Turns w S (fun k=>k=g) (fun _:Unit=>TQ g (Fd cells off news) e) (fun _=>v) v (w.setRow g (Fd cells off news).toArray):=by
 have hgr:=Br w g (Fd cells off news).toArray;refine⟨⟨hgr.os,hgr.tape,hgr.output,hgr.size,fun k hk hn=>hgr.block k hk fun e=>hn (by injection e)⟩,(),rfl,setRow_heap w g _ _ e _ hg,fun k hk=>?_⟩;have hk:k=g:=hk;subst hk;exact⟨.inl rfl,Nat.lt_of_lt_of_le (Array.getElem?_eq_some_iff.1 hg).1 hgr.size⟩
theorem QD(z:Value)(n:Nat):(Builtin.zeroCells z.cells n).toList.length=n * z.cells.size:=by
 simp[Builtin.zeroCells]
def Pr(P:Program)(e:TypeId)(n:Nat):List Value:=(Builtin.zeroCells (((P.info? e).bind (·.zero)).getD undef).cells n).toList
theorem OK{e:TypeId}{ti:TypeInfo}{z:Value}(h1:P.info? e=some ti)(h2:ti.zero=some z)(n:Nat):Pr P e n=(Builtin.zeroCells z.cells n).toList:=by
 unfold Pr;rw[h1];simp only[Option.bind_some,h2,Option.getD_some]
theorem QE{ty e:TypeId}{sz bytes:Nat}[RT P ty e sz bytes](n:Nat):(Pr P e n).length=n * sz:=by
 obtain⟨q1,ti,z,q2,q3,q4,q5,q6⟩:=Eb (RT.eq (P:=P) (ty:=ty) (e:=e) (n:=sz) (bytes:=bytes));rw[OK q2 q3,QD,q6]
theorem Qw{ty:TypeId}{x:Operand}{i g cap l m sz bytes:Nat}{e:TypeId}{cells:List Value}{zs:List Value}[RT P ty e sz bytes][ZC P e zs](h1z:zs.all (·.oneCell')=true)(ho:o.op= .call {callee:=.builtin .clear,args:=#[x],argTypes:=#[ty]})
 (hx:WO t x= .lit (SI g sz cap l m)) (hi:h[i]? =some (.res (TQ g cells e))) (hc:cells.length=cap * sz) (hm:m≤cap)
 (hK:K ⟨Bn t o.dst (.lit (.tuple #[])),h.set i (.res (TQ g (Fd cells (l * sz) (Pr P e (m - l))) e))⟩):Xb P C o ⟨t,h⟩ K:=by
 obtain⟨q1,ti,z,q2,q3,q4,q5,q6⟩:=Eb (RT.eq (P:=P) (ty:=ty) (e:=e) (n:=sz) (bytes:=bytes));rw[OK q2 q3]at hK;have hzz:z.cells.toList=zs:=by
  have:=ZC.eq (P:=P) (ty:=e) (zs:=zs);unfold CS at this;rw[q2]at this;simp only[Option.bind_some,q3,Option.map_some,Option.some.injEq]at this;exact this
 have hzl:(Builtin.zeroCells z.cells (m - l)).toList.length=(m - l) * sz:=by rw[QD,q6]
 have hz1:∀u∈(Builtin.zeroCells z.cells (m - l)).toList,u.oneCell'=true:=fun u hu=>by
  have hu':u∈Builtin.zeroCells z.cells (m - l):=by simpa using hu
  unfold Builtin.zeroCells at hu';obtain⟨j,hj,rfl⟩:=Array.mem_map.1 hu';have hj:=Array.mem_range.1 hj;have hjz:j % z.cells.size < z.cells.size:=Nat.mod_lt _ (by
   rcases Nat.eq_zero_or_pos z.cells.size with h|h
   ·rw[h,Nat.mul_zero]at hj;omega
   ·exact h)
  rw[getElem!_pos z.cells (j % z.cells.size) hjz];exact List.all_eq_true.1 h1z _ (by rw[←hzz];simp)
 refine Ea (ι:=Unit) (Rs:=fun _=>TQ g (Fd cells (l * sz) (Builtin.zeroCells z.cells (m - l)).toList) e) (val:=fun _=>.tuple #[]) hi (fun _=>rfl) (fun S ψ w ρ H hR hlt hρ=>?_) fun _=>hK
 have hx':=hρ x (by simp[ho,Op.operands,Call.operands]);rw[hx]at hx';unfold AV.rel at hx';have hg:w.heap[g]? =some (.cells cells.toArray e (0,0)):=hR;have hres:(execOp ρ o).run P w= .ok (.value (.tuple #[])) (w.setRow g (Fd cells (l * sz) (Builtin.zeroCells z.cells (m - l)).toList).toArray):=by
  by_cases hlm:m≤l
  ·have e0:m - l=0:=by omega
   have e1:(Builtin.zeroCells z.cells (m - l)).toList= []:=List.eq_nil_of_length_eq_zero (by rw[hzl,e0,Nat.zero_mul]);have e2:Fd cells (l * sz) []=cells:=by unfold Fd;simp
   rw[e1,e2,setRow_self w g cells.toArray e (0,0) hg];unfold SI at hx';rw[e0]at hx';simp only[execOp,ho,resolve,invoke,builtin];split at hx' <;> simp[hx',Builtin.clear_,run_underlying q1]
  ·have hne:¬cap=l:=by omega
   unfold SI at hx';rw[if_neg hne]at hx';have hle:l * sz+(m - l) * sz≤cells.length:=by
    rw[hc,←Nat.add_mul];exact Nat.mul_le_mul_right _ (by omega)
   have hst:=run_storeCells_at (P:=P) g (l * sz) e (Builtin.zeroCells z.cells (m - l)).toList 0 cells.toArray w hg (by rw[hzl];simpa using hle) hz1;obtain⟨q,hq⟩:∃q,m - l=q+1:=⟨m - l - 1,by omega⟩
   have hzv:(zeroValue e).run P w= .ok z w:=by simp[zeroValue,typeInfo,q2,q3]
   rw[hq]at hx' hst⊢;simp only[Nat.add_zero]at hst;simp[execOp,ho,resolve,invoke,builtin,hx',Builtin.clear_,run_underlying q1,hzv,hst,Fd]
 rw[hres];exact ST hg
def TI{α:Type}(T:Ty α)(cells:List Value)(l:List α):Prop:=∀w S j d,l[j]? =some d→T.RS w S ((cells.drop (j * T.size)).take T.size) d
end
section
variable{P:Program}{C:Ctx}{t:List AV}{h:List ABlk}{c:Code}{Q:Exit→St→Prop}
theorem NC(i:Nat){ver:Nat}{e:TypeId}{α:Type}{T:Ty α}{l:List α}(hi:h[i]? =some (.row ver e T l))(hn:S3 i h=true)(hne:l≠[])(hfl:∀w w' S S' cs d,T.RS w S cs d→T.RS w' S' cs d)(h1T:QC T)(t':Value→List AV)(ht:∀v,Opn i ver v t (t' v))
 (hK:∀g cap cells,cells.length=cap * T.size→l.length≤cap→cap≤maxLen→TI T cells l→(∀u∈cells.take (l.length * T.size),u.oneCell'=true)→W8 P C c Q ⟨t' (.slice (some ⟨g,0,none⟩) l.length cap),h.set i (.res (TQ g cells e))⟩):W8 P C c Q ⟨t,h⟩:=fun a w ⟨hd,S,ψ,H,hl⟩=>by
 have hB:=H.blk i _ hi;have hlt:=hB.lt rfl;obtain⟨cells,h1,h0,h2,h3⟩:=id hB;rcases h1.2 with⟨_,e0⟩|⟨g,cap,cur,e1,e2,e3,e4,e5,e6,e7⟩
 ·exact absurd (List.eq_nil_of_length_eq_zero e0) hne
 ·have hlt':=hlt g (by rw[e1];rfl);have H':=H.desc (b':=.res (TQ g cur.toList e)) (v':=ψ i) hi rfl (LM hn) ⟨fun k hk=>by
   have hk:k=g:=hk;subst hk;obtain⟨a1,a2,a3⟩:=hlt';exact⟨a1,a3,a2⟩,by show w.heap[g]? =_;rw[e3]⟩ fun k hk=>by
    have hk:k=g:=hk;subst hk;rw[e1];rfl
  rw[OJ]at H';have hcl:l.length * T.size≤cur.toList.length:=by
   have e8:cur.toList.length=cap * T.size:=by simpa using e6
   rw[e8];exact Nat.mul_le_mul_right _ e4
  have hpart:∀j d,l[j]? =some d→(cells.drop (j * T.size)).take T.size=(cur.toList.drop (j * T.size)).take T.size:=fun j d hj=>by
   have hjl:=(List.getElem?_eq_some_iff.1 hj).1;have hle:(j+1) * T.size≤l.length * T.size:=Nat.mul_le_mul_right _ (by omega);rw[Nat.add_mul,Nat.one_mul]at hle;rw[←e7,List.drop_take,List.take_take,Nat.min_eq_left (by omega)]
  have hone:∀u∈cells,u.oneCell'=true:=fun u hu=>by
   obtain⟨j,hj,rfl⟩:=List.mem_iff_getElem.1 hu;have hjl:j < l.length * T.size:=by rw[←h1.1];exact hj
   have hq:j / T.size < l.length:=(Nat.div_lt_iff_lt_mul h0).2 hjl;have hR:=h2 (j / T.size) _ (List.getElem?_eq_getElem hq);refine h1T _ _ _ _ hR _ (List.mem_iff_getElem?.2 ⟨j % T.size,?_⟩);rw[List.getElem?_take_of_lt (Nat.mod_lt _ h0),List.getElem?_drop,Nat.mul_comm,Nat.div_add_mod,List.getElem?_eq_getElem hj]
  have hK':=hK g cap cur.toList (by rw[Array.length_toList,e6]) e4 e5 (fun w' S' j d hj=>by
   rw[←hpart j d hj];exact hfl _ _ _ _ _ _ (h2 j d hj)) (by rw[e7];exact hone)
  refine hK' a w ⟨by rw[hd];exact(CQ (b':=.res (TQ g cur.toList e)) hi rfl).symm,S,ψ,H',?_⟩;rw[←e1];refine(ht (ψ i)).rel (fun u hu=>?_) hl;unfold AV.rel at hu;exact(hu.2 _ (by rw[hi];rfl)).2 rfl
theorem KF(i:Nat){ver g cap:Nat}{e:TypeId}{cells:List Value}{α:Type}{T:Ty α}{l:List α}{t':List AV}(hi:h[i]? =some (.res (TQ g cells e)))(hn:S3 i h=true)(hc:cells.length=cap * T.size)(hle:l.length≤cap)(hm:cap≤maxLen)(h0:0 < T.size)(hR:TI T cells l)
 (ht:Cls i ver (.slice (some ⟨g,0,none⟩) l.length cap) t t'):St.le C ⟨t,h⟩ ⟨t',h.set i (.row ver e T l)⟩:=fun a w ⟨hd,S,ψ,H,hl⟩=>by
 have hB:=H.blk i _ hi;have hg:w.heap[g]? =some (.cells cells.toArray e (0,0)):=hB.2;have hmul:l.length * T.size≤cells.length:=by rw[hc];exact Nat.mul_le_mul_right _ hle
 have hown:w.ownsRow 0 e T.size (.slice (some ⟨g,0,none⟩) l.length cap) l.length (cells.take (l.length * T.size)):=
  ⟨by rw[List.length_take];omega,.inr ⟨g,cap,cells.toArray,rfl,Nat.zero_le _,hg,hle,hm,by rw[List.size_toArray,hc],rfl⟩⟩
 have H':=H.desc (b':=.row ver e T l) (v':=.slice (some ⟨g,0,none⟩) l.length cap) hi rfl (LM hn) ⟨_,hown,h0,fun j d hj=>by
  have hjl:=(List.getElem?_eq_some_iff.1 hj).1;have hle:(j+1) * T.size≤l.length * T.size:=Nat.mul_le_mul_right _ (by omega);rw[Nat.add_mul,Nat.one_mul]at hle;rw[List.drop_take,List.take_take,Nat.min_eq_left (by omega)];exact hR w S j d hj,fun k hk=>by
  obtain⟨a1,a2,_⟩:=hB.1 k (show k=g by simpa[Value.ownBlock]using hk.symm);exact⟨a1,a2⟩⟩ fun k hk=>by
   have:g=k:=by simpa[WL,Bl]using hk
   exact this.symm
 exact⟨by rw[hd];exact(CQ (b':=.row ver e T l) hi rfl).symm,S,_,H',ht.rel (List.getElem?_eq_some_iff.1 hi).1 rfl hl⟩
end
section
variable{C:Ctx}{h:List ABlk}{S:Nat→Prop}{ψ:Nat→Value}{w:World}{t t':List AV}
end
section
variable{α0:Type}{P:Program}{C:Ctx}{t:List AV}{h:List ABlk}{o:Oper}{K:St→Prop}
theorem Sx{ty e:TypeId}{bytes m:Nat}{α:Type}{T:Ty α}[RT P ty e m bytes](p:Nat)(ho:o.op= .buildSlice ty 0 #[])(h0:0 < T.size)(hp:h[p]? =some .dead)(hn:h.all (WB p)=true)(hnt:Cn p t=true)(hK:K ⟨Bn t o.dst (.own p 0),h.set p (.row 0 e T [])⟩):Xb P C o ⟨t,h⟩ K:=by
 rintro Q' a w ⟨hd,S,ψ,hh',hl⟩;refine⟨fun c e=>(by rw[ho]at e;cases e),?_⟩;have ho':o.op= .buildSlice ty ([]:List Operand).length (C6 []):=ho;have hrun:=Fg (P:=P) (ρ:=a.eval) (w:=w) ho';rw[Lv (RT.eq (P:=P) (ty:=ty) (e:=e) (n:=m) (bytes:=bytes)) (by simp) (fun v hv=>by cases hv)]at hrun;have hb:Below w.heap.size w (w.alloc (.cells (([].map a.eval).flatMap fun v=>v.cells.toList).toArray e)):=(Below.refl _ _).alloc (Nat.le_refl _) _;have hown:(w.alloc (.cells (([].map a.eval).flatMap fun v=>v.cells.toList).toArray e)).ownsRow w.heap.size e T.size (.slice (some ⟨w.heap.size,0,none⟩) 0 0) 0 []:=
  ⟨by simp,.inr ⟨w.heap.size,0,#[],rfl,Nat.le_refl _,heap_alloc_new w _,Nat.le_refl _,Nat.zero_le _,by simp,by simp⟩⟩
 have hB:H5 C.N (w.alloc (.cells (([].map a.eval).flatMap fun v=>v.cells.toList).toArray e)) S (h.set p (.row 0 e T [])) (AX ψ p (.slice (some ⟨w.heap.size,0,none⟩) 0 0)) (.slice (some ⟨w.heap.size,0,none⟩) 0 0) (.row 0 e T ([]:List α)):=
  ⟨[],hown.mono (Nat.zero_le _),h0,fun i d hd=>by simp at hd,fun g hg=>by
   have hlt:=hown.lt g hg;exact⟨fun hN=>by have:=hh'.nlt _ hN;have:=hh'.bel.size;omega,fun hS=>by have:=hh'.lt _ hS;omega⟩⟩
 unfold Oper.wp;rw[hrun];have H1:=hh'.revive hp hn hb hB fun g hg=>by simp[WL,Bl]at hg;omega
 have hl1:=AC (Ext.grow h ψ (fun k hk=>hb.block k (hh'.lt k hk)) fun _ h=>h) _ _ hl;have hl2:=Ck (b:=.row 0 e T ([]:List α)) (ψ':=AX ψ p (.slice (some ⟨w.heap.size,0,none⟩) 0 0)) (fun i hi=>AY hi) _ _ hnt hl1;refine⟨_,hK,by rw[put_defers,hd];exact(CQ (b':=.row 0 e T ([]:List α)) hp rfl).symm,S,_,H1,GP hl2 o.dst ?_⟩;unfold AV.rel;refine⟨by simpa using(List.getElem?_eq_some_iff.1 hp).1,fun c hc=>?_⟩;rw[List.getElem?_set_self (List.getElem?_eq_some_iff.1 hp).1]at hc;simp only[ABlk.ver,Option.some.injEq]at hc;exact⟨by omega,fun _=>AR.symm⟩
def TJ(h:List ABlk)(x x':AV):Prop:=∀(C:Ctx) (S:Nat→Prop) (ψ:Nat→Value) (w:World) (v:Value),HRel C h S ψ w→AV.rel w S h ψ x v→AV.rel w (fun k=>k < w.heap.size) [] ψ0 x' v
inductive LendWs (h:List ABlk):List AV→List AV→Prop
 |nil:LendWs h [] []
 |cons {x x':AV} {l l':List AV} (hx:TJ h x x') (hl:LendWs h l l'):LendWs h (x::l) (x'::l')
theorem LendWs.rel{w:World}{S:Nat→Prop}{ψ:Nat→Value}(H:HRel C h S ψ w){l l':List AV}(hl:LendWs h l l'):∀{vs:List Value},Ah w S h ψ l vs→Ah w (fun k=>k < w.heap.size) [] ψ0 l' vs:=by
 induction hl with
 |nil=>intro vs hr;unfold Ah at hr⊢;exact hr
 |cons hx _ ih=>
  intro vs hr;unfold Ah at hr⊢;obtain⟨v,vs',e,h1,h2⟩:=hr;exact⟨v,vs',e,hx C S ψ w v H h1,ih h2⟩
theorem TJ.of{x x':AV}(hl:LendV h x x'):TJ h x x':=fun _ _ _ _ _ H hr=>LendV.rel H hl hr
theorem TJ.cl{x:AV}(hx:AV.cl x=true):TJ h x x:=.of (.cl hx)
theorem TJ.own{i ver:Nat}{e:TypeId}{α:Type}{T:Ty α}{d:List α}(hi:h[i]? =some (.row ver e T d)):TJ h (.own i ver) (.bs T d):=.of (.own hi)
theorem G0{f:FuncId}{args:Array Operand}{tys:Array TypeId}{xs:List AV}{u:Value}
 (ho:o.op= .call {callee:=.value (.func f),args:=args,argTypes:=tys}) (hF:Fn P f xs (.lit u)) (hx:LendWs h (args.toList.map (WO t)) xs):Az P C t h o (.lit u):=by
 intro S ψ w ρ H hρ;have h1:ρ (.func f)= .func (.func f) #[] #[]:=by
  have:=hρ (.func f) (by rw[ho];exact Array.mem_append.2 (.inl (by simp)));simpa[WO,AV.rel]using this
 rw[CZ ho hF.1 ρ w h1];refine⟨rfl,?_⟩;have h2:Ah w S h ψ (args.toList.map (WO t)) (args.toList.map ρ):=Cm fun x hx'=>hρ x (by rw[ho];exact Array.mem_append.2 (.inr (Array.mem_toList_iff.1 hx')))
 have h3:=hF.2 w _ (args.toList.map ρ) (fun _ h=>h) (hx.rel H h2);rw[show(args.map ρ)=(args.toList.map ρ).toArray from(by rw[←Array.toList_map])];refine h3.mono ?_;rintro e w' ⟨v,he,hb,S',k1,k2,k3,k4⟩;refine⟨v,he,hb,S,fun _ h=>h,fun _ h=>.inl h,fun k hk=>Nat.lt_of_lt_of_le (H.lt k hk) hb.size,?_⟩;unfold AV.rel at k4⊢;exact k4
theorem Nx{f:FuncId}{args:Array Operand}{tys:Array TypeId}{xs:List AV}{u:Value}
 (ho:o.op= .call {callee:=.value (.func f),args:=args,argTypes:=tys}) (hF:Fn P f xs (.lit u)) (hx:LendWs h (args.toList.map (WO t)) xs):Az P C t h o (.lit u):=G0 ho hF hx
theorem NG{f:FuncId}{args:Array Operand}{tys:Array TypeId}{xs:List AV}{e:TypeId}{α:Type}{T:Ty α}{l:List α}
 (ho:o.op= .call {callee:=.value (.func f),args:=args,argTypes:=tys}) (hF:Mc P f xs e T l) (h0:0 < T.size) (hfl:∀w S S' cs d,T.RS w S cs d→T.RS w S' cs d) (hx:LendWs h (args.toList.map (WO t)) xs)
 (hK:K ⟨Bn t o.dst (.own h.length 0),h++[.row 0 e T l]⟩):Xb P C o ⟨t,h⟩ K:=by
 rintro Q' a w ⟨hd,S,ψ,H,hl⟩;refine⟨fun c e=>(by rw[ho]at e;cases e),?_⟩;have h2:Ah w S h ψ (args.toList.map (WO t)) (args.toList.map a.eval):=Cm fun x _=>BC hl x
 unfold Oper.wp;rw[CZ ho hF.1 a.eval w rfl];simp only[Oper.upon];rw[show(args.map a.eval)=(args.toList.map a.eval).toArray from(by rw[←Array.toList_map])];refine(hF.2 w _ (args.toList.map a.eval) (fun _ h=>h) (hx.rel H h2)).mono ?_;rintro r w' ⟨v,cells,rfl,hb,hown,hR⟩;have X:Ext w S h ψ w' S (h++[.row 0 e T l]) (AX ψ h.length v):=Ext.push _ _ fun k hk=>hb.block k (H.lt k hk)
 have hB:H5 C.N w' S (h++[.row 0 e T l]) (AX ψ h.length v) v (.row 0 e T l):=
  ⟨cells,hown.mono (Nat.zero_le _),h0,fun i d hd=>hfl _ _ _ _ _ (hR i d hd),fun g hg=>by
   have hlt:=hown.lt g hg;exact⟨fun hN=>by have:=H.nlt _ hN;have:=H.bel.size;omega,fun hS=>by have:=H.lt _ hS;omega⟩⟩
 refine⟨_,hK,Lt (s:=⟨t,h⟩) hd hl (H.push hb hB (RU hown)) X ?_⟩;unfold AV.rel;refine⟨by simp,fun c' hc'=>?_⟩;rw[List.getElem?_append_right (Nat.le_refl _)]at hc';simp[ABlk.ver]at hc';exact⟨by omega,fun _=>AR.symm⟩
theorem Cw{f:FuncId}{args:Array Operand}{tys:Array TypeId}{xs:List AV}{e:TypeId}{α:Type}{T:Ty α}{l:List α}(i:Nat)(hi:h.length=i)
 (ho:o.op= .call {callee:=.value (.func f),args:=args,argTypes:=tys}) (hF:Mc P f xs e T l) (h0:0 < T.size) (hfl:∀w S S' cs d,T.RS w S cs d→T.RS w S' cs d) (hx:LendWs h (args.toList.map (WO t)) xs)
 (hK:K ⟨Bn t o.dst (.own i 0),h++[.row 0 e T l]⟩):Xb P C o ⟨t,h⟩ K:=by
 subst hi;exact NG ho hF h0 hfl hx hK
end
section
variable{P:Program}{C:Ctx}{t:List AV}{h:List ABlk}{o:Oper}{K:St→Prop}
end
def Sp(P:Program)(f:FuncId)(args:List AV)(e:TypeId){α:Type}(T:Ty α)(l:List α):Prop:=
 Dl P f=true∧∀(w:World) (S:Nat→Prop) (vs:List Value),(∀k,S k→k < w.heap.size)→Ah w S [] ψ0 args vs→
  Calls P f vs.toArray w fun r w'=>∃v cells,r= .returned v∧Below w.heap.size w w'∧w'.ownsRow w.heap.size e T.size v l.length cells∧
   ∃S':Nat→Prop,(∀k,S k→S' k)∧(∀k,S' k→S k∨w.heap.size≤k)∧(∀k,S' k→k < w'.heap.size)∧(∀i d,l[i]? =some d→T.RS w' S' ((cells.drop (i * T.size)).take T.size) d)∧∀g,v.ownBlock=some g→¬S' g
section
variable{P:Program}{C:Ctx}{t:List AV}{h:List ABlk}{o:Oper}{K:St→Prop}
theorem Qa{f:FuncId}{args:Array Operand}{tys:Array TypeId}{xs:List AV}{e:TypeId}{α:Type}{T:Ty α}{l:List α}{a:Act}{w:World}{S:Nat→Prop}{ψ:Nat→Value}{Q':Exit→Act→World→Prop}{K':Act→World→Prop}
 (ho:o.op= .call {callee:=.value (.func f),args:=args,argTypes:=tys}) (hF:Sp P f xs e T l) (hx:args.toList.map (WO t)=xs) (hc:Bm xs=true) (H:HRel C h S ψ w) (hl:Ah w S h ψ t a.tmps.toList)
 (hK:∀v cells w' S',Below w.heap.size w w'→w'.ownsRow w.heap.size e T.size v l.length cells→(∀k,S k→S' k)→HRel C h S' ψ w'→(∀i d,l[i]? =some d→T.RS w' S' ((cells.drop (i * T.size)).take T.size) d)→(∀g,v.ownBlock=some g→¬S' g)→K' (a.put o.dst v) w'):
 o.wp P a w K' Q':=by
 have h2:Ah w S h ψ xs (args.toList.map a.eval):=by
  rw[←hx];exact Cm fun x _=>BC hl x
 unfold Oper.wp;rw[CZ ho hF.1 a.eval w rfl];simp only[Oper.upon];rw[show(args.map a.eval)=(args.toList.map a.eval).toArray from(by rw[←Array.toList_map])];refine(hF.2 w S (args.toList.map a.eval) H.lt (B5 _ _ hc h2)).mono ?_;rintro r w' ⟨v,cells,rfl,hb,hown,S',k1,k2,k3,k4,k5⟩;exact hK v cells w' S' hb hown k1 (H.grow hb k1 k2 k3) k4 k5
theorem HRel.addAt{S:Nat→Prop}{ψ:Nat→Value}{w:World}{b:ABlk}{v:Value}{p:Nat}(H:HRel C h S ψ w)(hp:h[p]? =some .dead)(hn:h.all (WB p)=true)(hB:H5 C.N w S (h.set p b) (AX ψ p v) v b)(hd:∀g,WL (some b) v g→∀i,ABlk.live h[i]? =true→¬WL h[i]? (ψ i) g):
 HRel C (h.set p b) S (AX ψ p v) w:=by
 have hpl:=(List.getElem?_eq_some_iff.1 hp).1;refine⟨H.bel,H.nlt,H.lt,H.sub,H.new,fun i c hi=>?_,fun i j hij hi hj g h1 h2=>?_⟩
 ·by_cases hip:i=p
  ·subst hip;rw[List.getElem?_set_self hpl]at hi;cases hi;rw[AR];exact hB
  ·rw[List.getElem?_set_ne (Ne.symm hip)]at hi;rw[AY hip];have hc:=H.blk i c hi;have hnr:=List.all_eq_true.1 hn c (List.mem_of_getElem? hi);cases c with
   |dead=>trivial
   |box cells=>
    obtain⟨g,cs,e,k1,k2,k3,k4,k5⟩:=hc;exact⟨g,cs,e,k1,k2,k3,k4,Ck (fun i hi=>AY hi) _ _ hnr k5⟩
   |row ver e T l=>exact hc
   |res R=>exact hc
 ·by_cases hip:i=p
  ·subst hip;rw[AR,List.getElem?_set_self hpl]at h1;have hji:j≠i:=Ne.symm hij;rw[AY hji,List.getElem?_set_ne (Ne.symm hji)]at h2;rw[List.getElem?_set_ne (Ne.symm hji)]at hj;exact hd g h1 j hj h2
  ·rw[AY hip,List.getElem?_set_ne (Ne.symm hip)]at h1;rw[List.getElem?_set_ne (Ne.symm hip)]at hi;by_cases hjp:j=p
   ·subst hjp;rw[AR,List.getElem?_set_self hpl]at h2;exact hd g h2 i hi h1
   ·rw[AY hjp,List.getElem?_set_ne (Ne.symm hjp)]at h2;rw[List.getElem?_set_ne (Ne.symm hjp)]at hj;exact H.dis i j hij hi hj g h1 h2
theorem Uk{S:Nat→Prop}{ψ:Nat→Value}{w w':World}{e:TypeId}{α:Type}{T:Ty α}{l:List α}{ver sz n:Nat}{cells:List Value}{v:Value}(H:HRel C h S ψ w)(hv:w'.ownsRow w.heap.size e sz v n cells):∀g,WL (some (.row ver e T l)) v g→∀i,ABlk.live h[i]? =true→¬WL h[i]? (ψ i) g:=fun g hg i hi hgi=>by
 have h1:=RU hv g hg;obtain⟨c,hc⟩:=C8 hi;rw[hc]at hgi;have:=((H.blk i c hc).lt (by rw[←hc];exact hi) g hgi).2.1;omega
theorem KH{f:FuncId}{args:Array Operand}{tys:Array TypeId}{xs:List AV}{e:TypeId}{α:Type}{T:Ty α}{l:List α}(p:Nat)
 (ho:o.op= .call {callee:=.value (.func f),args:=args,argTypes:=tys}) (hx:args.toList.map (WO t)=xs) (hF:Sp P f xs e T l) (h0:0 < T.size) (hc:Bm xs=true) (hp:h[p]? =some .dead) (hn:h.all (WB p)=true) (hnt:Cn p t=true)
 (hK:K ⟨Bn t o.dst (.own p 0),h.set p (.row 0 e T l)⟩):Xb P C o ⟨t,h⟩ K:=by
 rintro Q' a w ⟨hd,S,ψ,H,hl⟩;refine⟨fun c e=>(by rw[ho]at e;cases e),?_⟩;refine Qa ho hF hx hc H hl fun v cells w' S' hb hown hS H' hR hN=>?_
 have hlt:=hown.lt;have hB:H5 C.N w' S' (h.set p (.row 0 e T l)) (AX ψ p v) v (.row 0 e T l):=⟨cells,hown.mono (Nat.zero_le _),h0,hR,fun g hg=>⟨fun hN'=>by have:=H.nlt _ hN';have:=H.bel.size;have:=(hlt g hg).1;omega,hN g hg⟩⟩
 have hl1:=AC (Ext.grow h ψ (fun k hk=>hb.block k (H.lt k hk)) hS) _ _ hl;have hl2:=Ck (b:=.row 0 e T l) (ψ':=AX ψ p v) (fun i hi=>AY hi) _ _ hnt hl1;refine⟨_,hK,by rw[put_defers,hd];exact(CQ (b':=.row 0 e T l) hp rfl).symm,S',_,H'.addAt hp hn hB (Uk H hown),GP hl2 o.dst ?_⟩;unfold AV.rel;refine⟨by simpa using(List.getElem?_eq_some_iff.1 hp).1,fun c hc=>?_⟩;rw[List.getElem?_set_self (List.getElem?_eq_some_iff.1 hp).1]at hc;simp only[ABlk.ver,Option.some.injEq]at hc;exact⟨by omega,fun _=>AR.symm⟩
end
end Mu
end
section
namespace Mu
open Go Go.RowKit Go.Proofs
end Mu
end
section
namespace Mu
open Go Go.RowKit Go.Proofs Go.Maps
section
variable{C:Ctx}{t:List AV}{h:List ABlk}{o:Oper}{K:St→Prop}
end
end Mu
end
section
namespace Mu
open Go Go.RowKit Go.Proofs Go.Maps Go.Shelf
attribute [local go_sem] Oper.semAt_some
end Mu
end
section
namespace Mu
open Go Go.RowKit Go.Proofs Go.Maps
end Mu
end
section
namespace Mu
open Go Go.RowKit Go.Proofs
def Ey(x:Ins):Bool:=Wd .u8 x.op&&Wd .i64 x.d&&Wd .i64 x.a&&Wd .i64 x.b&&Wd .u32 x.n&&Wd .i64 x.f&&Wd .i64 x.l1&&Wd .i64 x.l2&&x.args.all (Wd .i64)
def D0(b:Block):Bool:=VO b.name&&b.ins.all Ey
def Oa(f:Func):Bool:=VO f.name&&Wd .i64 f.args&&Wd .i64 f.regs&&f.blocks.all D0
def Q0(b:Block):Bool:=decide (b.ins.length+1≤2097152)&&b.ins.all fun x=>decide (x.args.length+8≤2097152)
def QZ(f:Func):Bool:=decide (f.blocks.length≤2097152)&&f.blocks.all Q0
def M8(f:Func):Bool:=Oa f&&QZ f&&decide ((Jo f).length≤2097152)&&decide ((QA f).length≤2097152)
theorem BP{x:Ins}:Ey x=true↔okIns x:=by
 unfold Ey;simp only[Bool.and_eq_true,List.all_eq_true];exact⟨fun⟨⟨⟨⟨⟨⟨⟨⟨a,b⟩,c⟩,d⟩,e⟩,f⟩,g⟩,i⟩,j⟩=>⟨a,b,c,d,e,f,g,i,j⟩,fun h=>⟨⟨⟨⟨⟨⟨⟨⟨h.op,h.d⟩,h.a⟩,h.b⟩,h.n⟩,h.f⟩,h.l1⟩,h.l2⟩,h.args⟩⟩
theorem DO{b:Block}:D0 b=true↔okBlock b:=by
 unfold D0;simp only[Bool.and_eq_true,List.all_eq_true];exact⟨fun⟨a,b⟩=>⟨QU a,fun x hx=>BP.1 (b x hx)⟩,fun h=>⟨decide_eq_true h.name,fun x hx=>BP.2 (h.ins x hx)⟩⟩
theorem JR{f:Func}:Oa f=true↔okFunc f:=by
 unfold Oa;simp only[Bool.and_eq_true,List.all_eq_true];exact⟨fun⟨⟨⟨a,b⟩,c⟩,d⟩=>⟨QU a,b,c,fun x hx=>DO.1 (d x hx)⟩,fun h=>⟨⟨⟨decide_eq_true h.name,h.args⟩,h.regs⟩,fun x hx=>DO.2 (h.blocks x hx)⟩⟩
structure FineF(f:Func):Prop where
 ok:okFunc f
 small:smallF f
 reads:(Jo f).length≤2097152
 all:(QA f).length≤2097152
 ins:∀b∈f.blocks,b.ins.length+1≤2097152
theorem BL{f:Func}:M8 f=true↔FineF f:=by
 unfold M8 QZ Q0;simp only[Bool.and_eq_true,List.all_eq_true,decide_eq_true_eq];exact⟨fun⟨⟨⟨a,b,c⟩,d⟩,e⟩=>⟨JR.1 a,⟨b,fun x hx=>⟨Nat.le_of_succ_le (c x hx).1,(c x hx).2⟩⟩,d,e,fun x hx=>(c x hx).1⟩,
  fun h=>⟨⟨⟨JR.2 h.ok,h.small.blocks,fun x hx=>⟨h.ins x hx,(h.small.all x hx).all⟩⟩,h.reads⟩,h.all⟩⟩
def JM(x:Ins):M (List Int):=M.chk (Ey x&&decide (x.args.length≤2097152)) (M.ok (readsC x))
theorem N4{x:Ins}{r:List Int}(H:(JM x).to r):Fn Try.prog 52 [.agg (B8 x)] (.bs tInt r):=by
 obtain⟨c,H⟩:=Ag.1 H;obtain rfl:=Ab.1 H;rw[Bool.and_eq_true]at c;exact FJ x (BP.1 c.1) (of_decide_eq_true c.2)
def Ih(x:Ins):M (Int×Bool):=M.chk (Ey x) (M.ok (if Bo x then x.d else 0,Bo x))
theorem MG{x:Ins}{r:Int×Bool}(H:(Ih x).to r):Fn Try.prog 53 [.agg (B8 x)] (.tup [.lit (.int .i64 r.1),.lit (.bool r.2)]):=by
 obtain⟨c,H⟩:=Ag.1 H;obtain rfl:=Ab.1 H;exact Fi x (BP.1 c)
def Bw(a b:List Int):M Bool:=M.chk (decide (a.length≤2097152)) (M.ok (decide (a=b)))
theorem Bv{a b:List Int}{r:Bool}(H:(Bw a b).to r):Fn Try.prog 9 [.bs tInt a,.bs tInt b] (.lit (.bool r)):=by
 obtain⟨c,H⟩:=Ag.1 H;obtain rfl:=Ab.1 H;exact T7 a b (of_decide_eq_true c)
def OX(f:Func):M (List Int):=M.chk (M8 f) (M.ok (CO f))
theorem PH{f:Func}{r:List Int}(H:(OX f).to r):Fn Try.prog 25 [.agg (Ap f)] (.bs tInt r):=by
 obtain⟨c,H⟩:=Ag.1 H;obtain rfl:=Ab.1 H;have c:=BL.1 c;exact MC f c.ok c.small c.all
def Hn(f:Func):M Bool:=M.chk (M8 f) (M.ok (Fm f))
theorem GO{f:Func}{r:Bool}(H:(Hn f).to r):Fn Try.prog 6 [.agg (Ap f)] (.lit (.bool r)):=by
 obtain⟨c,H⟩:=Ag.1 H;obtain rfl:=Ab.1 H;have c:=BL.1 c;exact PY f c.ok c.small c.all
noncomputable section
def GJ(x:Ins):M (List Int):=M.chk (Ey x&&decide (x.args.length≤2097152)) (M.ok (readsC x))
def FI(x:Ins):M (Int×Bool):=M.chk (Ey x) (M.ok (if Bo x then x.d else 0,Bo x))
theorem Kt{x:Ins}{r:Int×Bool}(H:(FI x).to r):Fn Try.prog 86 [.agg (B8 x)] (.tup [.lit (.int .i64 r.1),.lit (.bool r.2)]):=by
 obtain⟨c,H⟩:=Ag.1 H;obtain rfl:=Ab.1 H;exact Jy x (BP.1 c)
def VA:List Int→Bool
 | []=>true
 |x::l=>l.all (fun y=>decide (x < y))&&VA l
theorem L7:∀{l:List Int},VA l=true↔Xa l
 | []=>by simp[VA,Xa]
 |x::l=>by
  unfold VA;rw[Bool.and_eq_true,L7,List.all_eq_true];unfold Xa;rw[List.pairwise_cons];simp
def Cb(l:List Int)(n:Int):M (Int×Bool):=M.chk (VA l&&decide (l.length≤2147483648)) (M.ok (((l.countP (· < n):Nat):Int),l.contains n))
theorem DD{l:List Int}{n:Int}{r:Int×Bool}(H:(Cb l n).to r):Fn Try.prog 47 [.bs tInt l,.lit (.int .i64 n)] (.tup [.lit (.int .i64 r.1),.lit (.bool r.2)]):=by
 obtain⟨c,H⟩:=Ag.1 H;obtain rfl:=Ab.1 H;rw[Bool.and_eq_true]at c;exact Q4 l n (L7.1 c.1) (of_decide_eq_true c.2)
end
end Mu
end
section
namespace Go.Proofs
open Go.Shelf
def Try.lays112_ren:Go.Shelf.Ren:=⟨fun|112=>65|n=>n,fun|28=>27|3=>3|0=>0|4=>4|n=>n,fun|n=>n⟩
theorem Try.lays112:Go.Proofs.Lays.n112 Try.prog Try.lays112_ren:={
 mixed:=by kernel_rfl
 f112:=Try.func65.trans (congrArg some (by kernel_rfl))
 t0:=Try.underlying0
 a0:=Try.isAgg0
 z0:=Try.sizeOf0
 v0:=Try.zeroValue0
 t3:=Try.underlying3
 a3:=Try.isAgg3
 z3:=Try.sizeOf3
 v3:=Try.zeroValue3
 t4:=Try.underlying4
 a4:=Try.isAgg4
 z4:=Try.sizeOf4
 v4:=Try.zeroValue4
 t28:=Try.underlying27
 a28:=Try.isAgg27
 z28:=Try.sizeOf27
 v28:=Try.zeroValue27}
end Go.Proofs
end
section
namespace Mu
open Go Go.RowKit Go.Proofs
section
variable{P:Program}{C:Ctx}{t:List AV}{h:List ABlk}{o:Oper}
theorem Fa{x:Operand}{i ver k off:Nat}{e:TypeId}{α:Type}{T:Ty α}{l:List α}(ho:o.op= .nilCheck x)(hx:WO t x= .rp i ver k off)(hi:h[i]? =some (.row ver e T l)):Az P C t h o (.rp i ver k off):=
 AL fun S ψ w ρ _ hρ=>by
  have h1:=hρ x (by simp[ho,Op.operands]);rw[hx]at h1;have h2:=h1;unfold AV.rel at h1;obtain⟨g,n,c,_,h5⟩:=(h1.2 _ (by rw[hi];rfl)).2 rfl;rw[h5]at h2;exact⟨.pointer (some ⟨g,k * DZ h[i]?+off,none⟩),by simp[execOp,ho,h5],h2⟩
theorem Sn.bs{α0 β:Type}{T:Ty α0}{enc:α0→List AV}[EncOf T enc]{d d':α0}{off:Nat}{T2:Ty β}{l2:List β}(ho:off+1≤T.size)(he:(enc d).take off++[.bs T2 l2]++(enc d).drop (off+1)=enc d')
 (hput:∀(w:World) (S:Nat→Prop) (cs:List Value),Ah w S [] ψ0 (enc d') cs→T.RS w S cs d'):Sn h T d off (.bs T2 l2) 1 d':=fun C S ψ w v cs H hv hcs=>by
 have h1:v.oneCell'=true:=WY.bs (h:=h) (T:=T2) (l:=l2) C S ψ w v H hv;have hu:v.cells.toList= [v]:=by rw[HN h1]
 refine⟨by rw[hu];rfl,ho,fun x hx=>by rw[hu]at hx;rw[List.mem_singleton.1 hx];exact h1,hput w S _ ?_⟩;have he1:Ah w S [] ψ0 (enc d) cs:=EncOf.ok (T:=T) (enc:=enc) w S [] ψ0 cs d hcs;rw[←he,hu];refine BD (BD (Hj he1 off) ?_) (Hm he1 (off+1));unfold Ah;refine⟨v,[],rfl,by unfold AV.rel at hv⊢;exact hv,?_⟩;unfold Ah;rfl
theorem Lm{α0 β:Type}{T:Ty α0}{enc:α0→List AV}[EncOf T enc]{ty:TypeId}{x y:Operand}{i ver k off:Nat}{e:TypeId}{l:List α0}{d:α0}{K:St→Prop}(d':α0){T2:Ty β}{l2:List β}[SZ P ty 1](ho:o.op= .store ty x y)(hx:WO t x= .rp i ver k off)(hy:WO t y= .bs T2 l2)(hi:h[i]? =some (.row ver e T l))(hk:l[k]? =some d)
 (ho2:off+1≤T.size) (he:(enc d).take off++[.bs T2 l2]++(enc d).drop (off+1)=enc d') (hput:∀(w:World) (S:Nat→Prop) (cs:List Value),Ah w S [] ψ0 (enc d') cs→T.RS w S cs d')
 (hK:K ⟨Bn t o.dst (.lit undef),h.set i (.row ver e T (l.set k d'))⟩):Xb P C o ⟨t,h⟩ K:=
 IY (s:=⟨t,h⟩) ho hx hi hk (by rw[show WO (St.mk t h).t y=_ from hy];exact Sn.bs ho2 he hput) SZ.eq hK
theorem TO{ty:TypeId}{x z:Operand}{ik:IntKind}{b:Int}{i ver n:Nat}{e:TypeId}{α:Type}{T:Ty α}{l:List α}{K:St→Prop}[ES P ty n](ho:o.op= .slice ty x none (some z) none)(hx:WO t x= .own i ver)(hi:h[i]? =some (.row ver e T l))(hs:T.size=n)(hz:WO t z= .lit (.int ik b))(hc:Wk l 0 b=true)
 (hK:K ⟨Bn t o.dst (.own i (ver+1)),h.set i (.row (ver+1) e T (l.take b.toNat))⟩):Xb P C o ⟨t,h⟩ K:=by
 obtain⟨h1,h2,h3⟩:=NS.1 hc;exact Qv ho hx hi hs (OD hz h2) h3 hK
end
theorem NZ{base:Nat}{v:Value}{zs:List Int}{w:World}(hown:EP w base v zs)(hn:zs.length≤2147483648):
 Calls Try.prog 65 #[v] w fun e w'=>e= .returned (.tuple #[])∧EP w' base v zs.reverse∧w.grownBy w' v.ownBlock:=by
 rcases hown.2 with⟨rfl,h0⟩|⟨g,cap,cur,rfl,hbase,hb,h1,h2,h3,h4⟩
 ·have:zs= []:=List.eq_nil_of_length_eq_zero h0;subst this;refine(Any.slices_Reverse_int_empty Try.lays112 _ _ _).mono fun e w' ⟨he,hw⟩=>?_
  subst hw;exact⟨he,by simpa using hown,World.grownBy.refl _ _⟩
 ·refine(Any.slices_Reverse_int Try.lays112 g 0 cap zs w (Ir hb h4) (by omega)).mono fun e w' ⟨he,nn,hw⟩=>?_
  subst hw;have hr:=ownsRow_sortedI (os:=#[]) (n:=nn) (ts:=zs.reverse) (ss:=zs) (by simp) hbase hb h1 h2 h3;have hg:=grownBy_sortedI (w:=w) (g:=g) (n:=nn) (os:=#[]) zs.reverse.toArray;rw[Go.Sort.grow_empty]at hr hg;exact⟨he,.of hr (by simp) rfl,hg⟩
section
variable{C:Ctx}{t:List AV}{h:List ABlk}{o:Oper}{K:St→Prop}
theorem Qr{x:Operand}{tys:Array TypeId}{i ver:Nat}{l:List Int}(ho:o.op= .call {callee:=.value (.func 65),args:=#[x],argTypes:=tys})(hx:WO t x= .own i ver)(hi:h[i]? =some (.row ver 3 tInt l))(hl:l.length≤2147483648)
 (hK:K ⟨Bn t o.dst .any,h.set i (.row ver 3 tInt l.reverse)⟩):Xb Try.prog C o ⟨t,h⟩ K:=by
 rintro Q' a w ⟨hd,S,ψ,H,hl'⟩;refine⟨fun c e=>(by rw[ho]at e;cases e),?_⟩;have hx':=BC hl' x;rw[show WO (St.mk t h).t x= .own i ver from hx]at hx';unfold AV.rel at hx';have hv:=(hx'.2 _ (by rw[hi];rfl)).2 rfl;have hBi:=H.blk i _ hi;have hlt:=hBi.lt rfl;obtain⟨hO,hw⟩:=Hh hBi;unfold Oper.wp;rw[CZ ho (by kernel_rfl) a.eval w rfl];simp only[Oper.upon];rw[show(#[x].map a.eval)= #[ψ i]from by simp[hv]];refine(NZ hO hl).mono ?_;rintro r w' ⟨rfl,hO',hgr⟩;have hgr':w.grownBy w' (Bl (ψ i)):=by
  have e:Bl (ψ i)=(ψ i).ownBlock:=by
   rcases hO.2 with⟨e,_⟩|⟨g,cap,cur,e,_⟩ <;> rw[e] <;> rfl
  rw[e];exact hgr
 have hblk:∀k,S k→w'.heap[k]? =w.heap[k]?:=fun k hk=>hgr'.block k (H.lt k hk) fun e=>(hlt k e.symm).2.2 hk
 have X:Ext w S h ψ w' S (h.set i (.row ver 3 tInt l.reverse)) (AX ψ i (ψ i)):=Ext.set hblk hi (fun c' hc=>by
  simp only[ABlk.ver,Option.some.injEq]at hc;exact⟨ver,rfl,by omega,fun _=>⟨rfl,rfl⟩⟩) fun h=>by simp[AP]at h
 exact⟨_,hK,Gz (s:=⟨t,h⟩) hi hd hl' (H.set hi rfl (Gr.of_grownBy hgr') X (Jc hO' (fun r hr=>hw r (List.mem_reverse.1 hr)) fun g hg=>⟨(hlt g (AQ hg)).1,(hlt g (AQ hg)).2.2⟩) fun g hg=>.inl hg) X (by unfold AV.rel;trivial)⟩
end
theorem B4:∀(w:World) (S S':Nat→Prop) (cs:List Value) (d:Int),tInt.RS w S cs d→tInt.RS w S' cs d:=fun _ _ _ _ _ h=>FF.2 (FF.1 h)
noncomputable section
structure FStep where
 b:Int
 next:List Int
def Hb:Ty FStep:=(tInt.cons (tInt.slice.cons D9)).via (fun x=>⟨x.1,x.2.1⟩) (fun d=>(d.b,d.next,()))
theorem OP{w:World}{S:Nat→Prop}{cs:List Value}{x:FStep}:Hb.RS w S cs x↔∃s1:Value,cs= [.int .i64 x.b,s1]∧Wc .i64 x.b∧tInt.slice.RS w S [s1] x.next:=by
 constructor
 ·rintro⟨⟨_,_,rfl,⟨rfl,h0⟩,_,_,rfl,h1,rfl⟩,_⟩;have k1:=h1;obtain⟨A1,c1,rfl,_⟩:=h1;exact⟨_,rfl,h0,k1⟩
 ·rintro⟨s1,rfl,h0,h1⟩;exact⟨⟨[_],_,rfl,⟨rfl,h0⟩,[_],_,rfl,h1,rfl⟩,rfl⟩
@[reducible] def EF(x:FStep):List AV:=[.lit (.int .i64 x.b),.bs tInt x.next]
theorem Nb:W4 Hb EF:=by
 intro w S h ψ cs d H;obtain⟨s1,rfl,h0,h1⟩:=OP.1 H;simp only[EF,Ah,AV.rel];exact⟨_,_,rfl,rfl,_,_,rfl,h1,rfl⟩
theorem PM:QC Hb:=Fj Nb fun d x hx=>by
 simp only[EF,List.mem_cons,List.not_mem_nil,or_false]at hx;rcases hx with rfl|rfl <;> first|exact .inl ⟨_,rfl,rfl⟩|exact .inr ⟨_,_,_,rfl⟩
instance VK:EncOf Hb EF:=⟨Nb,PM,by decide⟩
structure okFStep(x:FStep):Prop where
 b:Wc .i64 x.b
theorem MJ{w:World}{S:Nat→Prop}{cs:List Value}{h:List ABlk}{ψ:Nat→Value}{x:FStep}(ho:okFStep x)(H:Ah w S h ψ (EF x) cs):Hb.RS w S cs x:=by
 simp only[EF,Ah,AV.rel]at H;obtain⟨_,_,rfl,rfl,_,_,rfl,h1,rfl⟩:=H;exact OP.2 ⟨_,rfl,ho.b,h1⟩
instance VJ:Inhabited FStep:=⟨⟨0,[]⟩⟩
def Ez(x:FStep):Bool:=Wd .i64 x.b
theorem JS{x:FStep}(h:Ez x=true):okFStep x:=by
 unfold Ez at h;exact⟨h⟩
theorem M7{h:List ABlk}{x:FStep}(hk:Ez x=true):WZ h Hb (.agg (EF x)) x:=Md (enc:=EF) fun _ _ _ _ H=>MJ (JS hk) H
theorem Rj:GQ Try.prog 82=some [(0,1),(1,1)]:=by kernel_rfl
instance VI:FO Try.prog 82 0 0:=⟨by kernel_rfl⟩
instance VH:FO Try.prog 82 1 1:=⟨by kernel_rfl⟩
instance VG:ZC Try.prog 82 [.int .i64 0,.slice none 0 0]:=⟨by kernel_rfl⟩
instance Vq:ES Try.prog 83 2:=⟨by kernel_rfl⟩
instance Vp:SL Try.prog 83:=⟨by kernel_rfl⟩
instance Vo:RT Try.prog 83 82 2 32:=⟨by kernel_rfl⟩
def HF(f:Func)(b:Int):M (List Int):=M.chk (M8 f) (M.ok (nextL f b))
theorem GU{f:Func}{b:Int}{r:List Int}(H:(HF f b).to r):Fn Try.prog 22 [.agg (Ap f),.lit (.int .i64 b)] (.bs tInt r):=by
 obtain⟨c,H⟩:=Ag.1 H;obtain rfl:=Ab.1 H;have c1:=BL.1 c;exact M5 f b c1.ok c1.small.blocks fun b hb=>(c1.small.all b hb).ins
def D4(f:Func)(without:Int):((List Bool)×(List FStep)×(List Int))→M (((List Bool)×(List FStep)×(List Int))⊕((List Int))):=fun(l8,l10,l12)=>M.cnd (decide ((l10.length:Int) > 0)) (M.chk (Bq l10 (IntKind.i64.wrap ((l10.length:Int) - 1))) (M.cnd ((((ixD l10 (IntKind.i64.wrap ((l10.length:Int) - 1))).next).length:Int) ==0) (M.chk (Wd .i64 ((ixD l10 (IntKind.i64.wrap ((l10.length:Int) - 1))).b)) (M.chk (GC (l12.length+ [(ixD l10 (IntKind.i64.wrap ((l10.length:Int) - 1))).b].length) 8) (M.chk (Wk l10 0 (IntKind.i64.wrap ((l10.length:Int) - 1))) (M.ok (.inl (l8,List.take (Int.toNat (IntKind.i64.wrap ((l10.length:Int) - 1))) l10,l12++[(ixD l10 (IntKind.i64.wrap ((l10.length:Int) - 1))).b])))))) (M.chk (Bq ((ixD l10 (IntKind.i64.wrap ((l10.length:Int) - 1))).next) 0) (M.chk (Wk ((ixD l10 (IntKind.i64.wrap ((l10.length:Int) - 1))).next) 1 (((ixD l10 (IntKind.i64.wrap ((l10.length:Int) - 1))).next).length:Int)) (M.chk (Ez ⟨(ixD l10 (IntKind.i64.wrap ((l10.length:Int) - 1))).b,Wj ((ixD l10 (IntKind.i64.wrap ((l10.length:Int) - 1))).next) 1 (((ixD l10 (IntKind.i64.wrap ((l10.length:Int) - 1))).next).length:Int)⟩) (M.chk (Bq l8 (ixD ((ixD l10 (IntKind.i64.wrap ((l10.length:Int) - 1))).next) 0)) (M.cnd ((!(ixD l8 (ixD ((ixD l10 (IntKind.i64.wrap ((l10.length:Int) - 1))).next) 0)))&&((ixD ((ixD l10 (IntKind.i64.wrap ((l10.length:Int) - 1))).next) 0) !=without)) (M.chk (Bq l8 (ixD ((ixD l10 (IntKind.i64.wrap ((l10.length:Int) - 1))).next) 0)) (M.bnd (HF f (ixD ((ixD l10 (IntKind.i64.wrap ((l10.length:Int) - 1))).next) 0)) fun r30=>M.chk (Ez ⟨ixD ((ixD l10 (IntKind.i64.wrap ((l10.length:Int) - 1))).next) 0,r30⟩) (M.chk (GC ((l10.set (Int.toNat (IntKind.i64.wrap ((l10.length:Int) - 1))) ⟨(ixD l10 (IntKind.i64.wrap ((l10.length:Int) - 1))).b,Wj ((ixD l10 (IntKind.i64.wrap ((l10.length:Int) - 1))).next) 1 (((ixD l10 (IntKind.i64.wrap ((l10.length:Int) - 1))).next).length:Int)⟩).length+([⟨ixD ((ixD l10 (IntKind.i64.wrap ((l10.length:Int) - 1))).next) 0,r30⟩]:List FStep).length) 32) (M.ok (.inl (l8.set (Int.toNat (ixD ((ixD l10 (IntKind.i64.wrap ((l10.length:Int) - 1))).next) 0)) true,(l10.set (Int.toNat (IntKind.i64.wrap ((l10.length:Int) - 1))) ⟨(ixD l10 (IntKind.i64.wrap ((l10.length:Int) - 1))).b,Wj ((ixD l10 (IntKind.i64.wrap ((l10.length:Int) - 1))).next) 1 (((ixD l10 (IntKind.i64.wrap ((l10.length:Int) - 1))).next).length:Int)⟩)++([⟨ixD ((ixD l10 (IntKind.i64.wrap ((l10.length:Int) - 1))).next) 0,r30⟩]:List FStep),l12)))))) (M.ok (.inl (l8,l10.set (Int.toNat (IntKind.i64.wrap ((l10.length:Int) - 1))) ⟨(ixD l10 (IntKind.i64.wrap ((l10.length:Int) - 1))).b,Wj ((ixD l10 (IntKind.i64.wrap ((l10.length:Int) - 1))).next) 1 (((ixD l10 (IntKind.i64.wrap ((l10.length:Int) - 1))).next).length:Int)⟩,l12)))))))))) (M.ok (.inr l12))
def DQ(f:Func)(without:Int):M (List Int):=M.cnd (((f.blocks.length:Int) ==0)||(without ==0)) (M.ok ([]:List Int)) (M.chk (JW (f.blocks.length:Int) 1) (M.chk (Bq (List.replicate (Int.toNat (f.blocks.length:Int)) false) 0) (M.bnd (HF f 0) fun r5=>M.chk (Ez ⟨0,r5⟩) (M.bnd (M.loop (D4 f without) ((List.replicate (Int.toNat (f.blocks.length:Int)) false).set (Int.toNat 0) true,[⟨0,r5⟩],([]:List Int))) fun l15=>M.ok l15))))
theorem J7{f:Func}{without:Int}{r:List Int}(H:(DQ f without).to r):Mc Try.prog 58 [.agg (Ap f),.lit (.int .i64 without)] 3 tInt r:=by
 delta DQ at H;try dsimp only at H
 refine F8 Try.func58 rfl (by kernel_rfl) rfl Try.ntmps58 B4 fun C hC=>?_
 simp only[List.length_cons,List.length_nil,Nat.reduceAdd,Nat.reduceSub,List.replicate_succ,List.replicate_zero,List.cons_append,List.nil_append];refine wS (sB (sT (wN ?_)));refine Aq fun Khs1 hs1=>?_
 refine wS (sT (sT (sT (sT (sT ?_)))));refine Wo rfl ?_;refine Wo rfl (sT (wN ?_));refine An rfl (fun hb2=>?_) (fun hb2=>?_)
 ·have H:=Au hb2 H;refine wS (sT (wN ?_));obtain rfl:=Ab.1 H;refine Be _ (Dk 4 3 tInt rfl (by decide)) ?_;exact AH ⟨.inr rfl,rfl,1,0,rfl,rfl⟩
 ·have H:=Av hb2 H;refine As ?_;refine hs1 _ ?_;refine nT ?_;refine wS (sT (wN ?_));obtain⟨c3,H⟩:=Ag.1 H;refine wS (sT (sT (sT ?_)));(refine AT rfl (Gd 1 rfl (T:=Ty.bool) (e:=4) (v:=.bool false) (bytes:=1) (false:Bool) rfl (by kernel_rfl) rfl (fun _ _=>rfl) rfl rfl c3 ?_);refine Dz (ht:=(Al (Al Ge))) ?_);refine sT (wN ?_);obtain⟨c4,H⟩:=Ag.1 H;refine wS (sT ?_);refine sA (hq:=AS rfl (Aw (Aw Iu)) rfl Mk rfl c4) (ht:=(Al (Al GK))) ?_;(refine AT rfl (BW rfl rfl rfl (A0 c4) WZ.bool rfl ?_);refine Dz (ht:=Mw) ?_);refine wN ?_;obtain⟨r5,k5,H⟩:=Af.1 H;have k5:=GU k5;obtain⟨c6,H⟩:=Ag.1 H;refine wS (sT (sC k5 ?_));refine sA (hq:=BR (rs:=[.lit (.int .i64 0),.bs tInt r5]) rfl Rj rfl rfl) (ht:=(Al (Al (Al GL)))) ?_;(refine AT rfl (H7 2 rfl (xs:=[.tmp 26]) (T:=Hb) (ds:=[⟨0,r5⟩]) rfl rfl rfl (RT.eq (n:=2) (bytes:=32)) (by decide) (by decide) (.cons (M7 c6) .nil) ?_);refine Dz (ht:=(Al (Al (Al Hf)))) ?_);refine sT (wN ?_);refine Be _ (Dk 5 3 tInt rfl (by decide)) ?_;obtain⟨z13,HX13,Hl13⟩:=Af.1 H;refine AE (β:=((List Int))×(Nat)) (fun q13=>z13=q13.1) (fun q13=>⟨A5 (.own 3 q13.2::Xc (A4 [])),[.dead,.dead,.dead,.row q13.2 3 tInt q13.1]⟩) ?_ ?_
  ·refine Aj ?_;refine AJ HX13 (fun s13 b13=>⟨.any::.lit (.int .i64 without)::.ptr 0 0::A2 (.own 3 b13.2.2::.own 1 b13.1::.own 2 b13.2.1::Xc (A2 [])),[.box (Ap f),.row b13.1 4 Ty.bool s13.1,.row b13.2.1 82 Hb s13.2.1,.row b13.2.2 3 tInt s13.2.2]⟩) (0,0,0) (?_) ?_
   ·try dsimp only
    exact AA
   ·rintro⟨l8,l10,l12⟩ ⟨v7,v9,v11⟩ x13 H Hr13;try dsimp only
    dsimp only[D4]at H;refine Aq fun Khs16 hs16=>?_
    refine wS (sT (sT (sT (wN ?_))));refine An rfl (fun hb17=>?_) (fun hb17=>?_)
    ·have H:=Au hb17 H;refine As ?_;refine hs16 _ ?_;refine nT ?_;refine Aj ?_;obtain⟨c18,H⟩:=Ag.1 H;refine wS (sT (sT (sT (sT ?_))));refine sA (hq:=AS rfl (Aw (Aw (Aw Ji))) rfl (Ar M1) rfl c18) (ht:=(Ak Hf)) ?_;refine sT (wN ?_);refine Aq fun Khs19 hs19=>?_
     refine wS (sT ?_);refine sA (hq:=Fa rfl (Ar IN) rfl) (ht:=(Ak Ge)) ?_;refine sA (hq:=B1 rfl (Ar H8) rfl) (ht:=(Ak Id)) ?_;refine sA (hq:=AO rfl (Ar Iu) rfl (A0 c18) rfl) (ht:=(Ak GK)) ?_;refine sT (sT (wN ?_));refine An rfl (fun hb20=>?_) (fun hb20=>?_)
     ·have H:=Au hb20 H;obtain⟨c21,H⟩:=Ag.1 H;obtain⟨c22,H⟩:=Ag.1 H;refine wS (sT (sT ?_));refine sA (hq:=Fa rfl (Ar (Aw Gx)) rfl) (ht:=(Ak (Al JC))) ?_;refine sA (hq:=B1 rfl (Ar (Aw IN)) rfl) (ht:=(Ak (Al Ge))) ?_;refine sA (hq:=AO rfl (Ar (Aw H8)) rfl (A0 c18) rfl) (ht:=(Ak (Al Id))) ?_;refine sA (hq:=Az.lt (xs:=[.tmp 46]) (T:=tInt) (ds:=[(ixD l10 (IntKind.i64.wrap ((l10.length:Int) - 1))).b]) rfl rfl rfl (by rfl) (by decide) (.cons (WZ.int c21) .nil)) (ht:=(Ak (Al GK))) (hk:=?_);refine sP c22 (sT (wN ?_));obtain⟨c23,H⟩:=Ag.1 H;refine wS (sT (sT (sT (sT ?_))));(refine AT rfl (TO rfl rfl rfl rfl rfl c23 ?_);refine Dz (ht:=(Ak (Al (Al Ge)))) ?_);refine sT (wN ?_);refine AI ?_;repeat(first|refine AU ?_|refine exO (by decide) ?_|refine asE ?_)
      refine WN ?_;have e13:=Ab.1 H;repeat(first|refine WV ?_|refine asN ?_)
      refine Am ⟨_,(v7,v9+1,v11+1),e13.symm,?_⟩;try dsimp only
      exact AA
     ·have H:=Av hb20 H;refine As ?_;refine hs19 _ ?_;refine nT ?_;obtain⟨c24,H⟩:=Ag.1 H;refine wS (sT ?_);refine sA (hq:=Fa rfl (Ar (Aw (Aw Iu))) rfl) (ht:=(Ak (Al (Al GK)))) ?_;refine sA (hq:=B1 rfl (Ar (Aw (Aw Ji))) rfl) (ht:=(Ak (Al (Al (Al Hg))))) ?_;refine sA (hq:=AO rfl (Ar (Aw (Aw (Aw Kv)))) rfl (A0 c18) rfl) (ht:=(Ak (Al (Al (Al IF))))) ?_;refine sX c24 (sT (sT (wN ?_)));obtain⟨c25,H⟩:=Ag.1 H;obtain⟨c26,H⟩:=Ag.1 H;refine wS (sT (sT ?_));refine sA (hq:=Fa rfl (Ar (Aw (Aw (Aw H8)))) rfl) (ht:=(Ak (Al (Al (Al Id))))) ?_;refine sA (hq:=B1 rfl (Ar (Aw (Aw (Aw Iu)))) rfl) (ht:=(Ak (Al (Al (Al GK))))) ?_;refine sA (hq:=AO rfl (Ar (Aw (Aw (Aw Ji)))) rfl (A0 c18) rfl) (ht:=(Ak (Ak Hg))) ?_;refine sA (hq:=Lg rfl (Ar (Ar Kv)) rfl Mk c25) (ht:=(Ak (Ak IF))) ?_;refine sA (hq:=Fa rfl (Ar (Aw (Aw (Aw IN)))) rfl) (ht:=(Ak (Ak GL))) ?_;refine sA (hq:=B1 rfl (Ar (Ar M1)) rfl) (ht:=(Ak (Ak Hf))) ?_;(refine AT rfl (Lm ⟨(ixD l10 (IntKind.i64.wrap ((l10.length:Int) - 1))).b,Wj ((ixD l10 (IntKind.i64.wrap ((l10.length:Int) - 1))).next) 1 (((ixD l10 (IntKind.i64.wrap ((l10.length:Int) - 1))).next).length:Int)⟩ rfl rfl rfl rfl (A0 c18) (by decide) rfl (fun _ _ _ hr=>MJ (JS c26) hr) ?_);refine Dz (ht:=Mw) ?_);refine wN ?_;obtain⟨c27,H⟩:=Ag.1 H;refine wS (sT (sT ?_));refine sA (hq:=AS rfl (Ar (Ar IN)) rfl (Ar (Ar H8)) rfl c27) (ht:=(Ak (Ak Id))) ?_;refine sA (hq:=AO rfl (Ar (Ar Iu)) rfl (A0 c27) rfl) (ht:=(Ak (Ak GK))) ?_;refine sT (sT ?_);refine Wn rfl ?_;refine Wn rfl ?_;refine Wn rfl (sT (wN ?_));refine An rfl (fun hb28=>?_) (fun hb28=>?_)
      ·have H:=Au hb28 H;obtain⟨c29,H⟩:=Ag.1 H;refine wS (sT (sT ?_));refine sA (hq:=AS rfl (Ar (Ar (Aw Iu))) rfl (Ar (Ar (Aw Ji))) rfl c29) (ht:=(Ak (Ak (Al (Al Hg))))) ?_;(refine AT rfl (BW rfl rfl rfl (A0 c29) WZ.bool rfl ?_);refine Dz (ht:=Mw) ?_);refine wN ?_;obtain⟨r30,k30,H⟩:=Af.1 H;have k30:=GU k30;obtain⟨c31,H⟩:=Ag.1 H;obtain⟨c32,H⟩:=Ag.1 H;refine We (sT (sT (sT (sT (sC k30 ?_)))));refine sA (hq:=BR (rs:=[.lit (.int .i64 (ixD ((ixD l10 (IntKind.i64.wrap ((l10.length:Int) - 1))).next) 0)),.bs tInt r30]) rfl Rj rfl rfl) (ht:=(Ak (Ak (Al (Al Id))))) (hk:=?_);refine sA (hq:=Az.lt (xs:=[.tmp 86]) (T:=Hb) (ds:=[⟨ixD ((ixD l10 (IntKind.i64.wrap ((l10.length:Int) - 1))).next) 0,r30⟩]) rfl rfl rfl (by rfl) (by decide) (.cons (M7 c31) .nil)) (ht:=(Ak (Ak (Al (Al GK))))) (hk:=?_);refine sP c32 (sT (wN ?_));have e13:=Ab.1 H;repeat(first|refine WV ?_|refine asN ?_)
       refine Am ⟨_,(v7,v9+1,v11),e13.symm,?_⟩;try dsimp only
       exact AA
      ·have H:=Av hb28 H;refine As ?_;have e13:=Ab.1 H;repeat(first|refine WV ?_|refine asN ?_)
       refine Am ⟨_,(v7,v9,v11),e13.symm,?_⟩;try dsimp only
       exact AA
    ·have H:=Av hb17 H;refine AI ?_;repeat(first|refine AU ?_|refine exO (by decide) ?_|refine asE ?_)
     refine WN ?_;have e13:=Hr13 _ (Ab.1 H).symm;repeat(first|refine WV ?_|refine asN ?_)
     refine Am ⟨(_,v11),e13.symm,?_⟩;try dsimp only
     exact WH (Cut.dead (Cut.dead (Cut.dead (Cut.cons (Cut.nil _)))))
  ·rintro⟨l15,v14⟩ hz13;try dsimp only at hz13
   have H:=Hl13;rw[hz13]at H;try dsimp only
   refine wS (sT (sT (wN ?_)));obtain rfl:=Ab.1 H;exact AH ⟨.inr rfl,rfl,3,v14,rfl,rfl⟩
def Df(r2:List Int):(Int×(List Bool))→M ((Int×(List Bool))⊕((List Bool))):=fun(x3,l5)=>M.cnd (decide (x3 < (r2.length:Int))) (M.chk (Bq r2 x3) (M.chk (Bq l5 (ixD r2 x3)) (M.ok (.inl (IntKind.i64.wrap (x3+1),l5.set (Int.toNat (ixD r2 x3)) true))))) (M.ok (.inr l5))
def ED(f:Func):M (List Bool):=M.chk (JW (f.blocks.length:Int) 1) (M.bnd (DQ f (-1)) fun r2=>M.bnd (M.loop (Df r2) (0,List.replicate (Int.toNat (f.blocks.length:Int)) false)) fun l9=>M.ok l9)
theorem Ky{f:Func}{r:List Bool}(H:(ED f).to r):Fn Try.prog 31 [.agg (Ap f)] (.bs Ty.bool r):=by
 delta ED at H;try dsimp only at H
 refine AM Try.func31 rfl (by kernel_rfl) rfl Try.ntmps31 fun C hC=>?_
 simp only[List.length_cons,List.length_nil,Nat.reduceAdd,Nat.reduceSub,List.replicate_succ,List.replicate_zero,List.cons_append,List.nil_append];refine wS (sB (sT (wN ?_)));obtain⟨c1,H⟩:=Ag.1 H;refine wS (sT (sT (sT ?_)));(refine AT rfl (Gd 1 rfl (T:=Ty.bool) (e:=4) (v:=.bool false) (bytes:=1) (false:Bool) rfl (by kernel_rfl) rfl (fun _ _=>rfl) rfl rfl c1 ?_);refine Dz (ht:=(Al IF)) ?_);refine sT (wN ?_);obtain⟨r2,k2,H⟩:=Af.1 H;have k2:=J7 k2;obtain⟨z7,HX7,Hl7⟩:=Af.1 H;refine AE (β:=((List Bool))×(Nat)) (fun q7=>z7=q7.1) (fun q7=>⟨A3 (.own 1 q7.2::Xf (A8 [])),[.dead,.row q7.2 4 Ty.bool q7.1,.dead]⟩) ?_ ?_
 ·refine wS (sT ?_);(refine AT rfl (Cw 2 rfl rfl k2 (by decide) B4 (.cons (.cl rfl) (.cons (.cl rfl) .nil)) ?_);refine Dz (ht:=(Al Hf)) ?_);refine sT (sT (wN ?_));refine Aj ?_;refine AJ HX7 (fun s7 b7=>⟨A3 (.own 1 b7.1::A7 (.own 2 b7.2::.lit (.int .i64 (r2.length:Int))::.lit (.int .i64 s7.1)::A8 [])),[.dead,.row b7.1 4 Ty.bool s7.2,.row b7.2 3 tInt r2]⟩) (0,0) (?_) ?_
  ·try dsimp only
   exact WH (Cut.dead (Cut.cons (Cut.cons (Cut.nil _))))
  ·rintro⟨x3,l5⟩ ⟨v4,v6⟩ x7 H Hr7;try dsimp only
   dsimp only[Df]at H;refine wS (sT (wN ?_));refine Aq fun Khs10 hs10=>?_
   refine An rfl (fun hb11=>?_) (fun hb11=>?_)
   ·have H:=Au hb11 H;refine As ?_;refine hs10 _ ?_;refine nT ?_;refine Aq fun Khs12 hs12=>?_
    refine Aj ?_;obtain⟨c13,H⟩:=Ag.1 H;refine wS ?_;refine sA (hq:=AS rfl (Aw Gx) rfl (Aw H8) rfl c13) (ht:=(Al GK)) ?_;refine sA (hq:=AO rfl (Aw Ji) rfl (A0 c13) rfl) (ht:=(Al (Al Hg))) ?_;refine sT (wN ?_);obtain⟨c14,H⟩:=Ag.1 H;refine We (sT (sT ?_));refine sA (hq:=AS rfl (Aw (Aw J4)) rfl (Aw (Aw M1)) rfl c14) (ht:=(Al (Al Hf))) ?_;(refine AT rfl (BW rfl rfl rfl (A0 c14) WZ.bool rfl ?_);refine Dz (ht:=Mw) ?_);refine wN ?_;refine hs12 _ ?_;refine nT ?_;refine We (sT (sT (wN ?_)));have e7:=Ab.1 H;repeat(first|refine WV ?_|refine asN ?_)
    refine Am ⟨_,(v4,v6),e7.symm,?_⟩;try dsimp only
    exact AA
   ·have H:=Av hb11 H;refine AI ?_;repeat(first|refine AU ?_|refine exO (by decide) ?_|refine asE ?_)
    refine WN ?_;have e7:=Hr7 _ (Ab.1 H).symm;repeat(first|refine WV ?_|refine asN ?_)
    refine Am ⟨(_,v4),e7.symm,?_⟩;try dsimp only
    exact WH (Cut.cons (Cut.cons (Cut.dead (Cut.nil _))))
 ·rintro⟨l9,v8⟩ hz7;try dsimp only at hz7
  have H:=Hl7;rw[hz7]at H;try dsimp only
  refine wS (sT (sT (wN ?_)));obtain rfl:=Ab.1 H;exact AH ⟨.inr rfl,W0.own rfl⟩
def Gp(f:Func):M (List Int):=M.bnd (DQ f (-1)) fun r1=>M.chk (decide (r1.length≤2147483648)) (M.ok (List.reverse r1))
theorem M6{f:Func}{r:List Int}(H:(Gp f).to r):Fn Try.prog 45 [.agg (Ap f)] (.bs tInt r):=by
 delta Gp at H;try dsimp only at H
 refine AM Try.func45 rfl (by kernel_rfl) rfl Try.ntmps45 fun C hC=>?_
 simp only[List.length_cons,List.length_nil,Nat.reduceAdd,Nat.reduceSub,List.replicate_succ,List.replicate_zero,List.cons_append,List.nil_append];refine wS (sB (sT (wN ?_)));obtain⟨r1,k1,H⟩:=Af.1 H;have k1:=J7 k1;refine wS (sT ?_);(refine AT rfl (Cw 1 rfl rfl k1 (by decide) B4 (.cons (.cl rfl) (.cons (.cl rfl) .nil)) ?_);refine Dz (ht:=Ge) ?_);refine sT (wN ?_);obtain⟨c2,H⟩:=Ag.1 H;refine wS (sT ?_);(refine AT rfl (Qr rfl rfl rfl (of_decide_eq_true c2) ?_);refine Dz (ht:=GK) ?_);refine wN ?_;refine wS (sT (sT (wN ?_)));obtain rfl:=Ab.1 H;exact AH ⟨.inr rfl,W0.own rfl⟩
def CG(a:List Int)(bP1:List Int):(Int×(List Int))→M ((Int×(List Int))⊕((List Int))):=fun(x1,l3)=>M.cnd (decide (x1 < (a.length:Int))) (M.bnd (M.chk (Bq a x1) (M.bnd (Cb bP1 (ixD a x1)) fun r13=>M.cnd r13.2 (M.chk (Wd .i64 (ixD a x1)) (M.chk (GC (l3.length+ [ixD a x1].length) 8) (M.ok (l3++[ixD a x1])))) (M.ok l3))) fun l10=>M.ok (.inl (IntKind.i64.wrap (x1+1),l10))) (M.ok (.inr l3))
def Em(a:List Int)(bP1:List Int):M (List Int):=M.bnd (M.loop (CG a bP1) (0,([]:List Int))) fun l6=>M.ok l6
theorem LY{a:List Int}{bP1:List Int}{r:List Int}(H:(Em a bP1).to r):Mc Try.prog 46 [.bs tInt a,.bs tInt bP1] 3 tInt r:=by
 delta Em at H;try dsimp only at H
 refine F8 Try.func46 rfl (by kernel_rfl) rfl Try.ntmps46 B4 fun C hC=>?_
 simp only[List.length_cons,List.length_nil,Nat.reduceAdd,Nat.reduceSub,List.replicate_succ,List.replicate_zero,List.cons_append,List.nil_append];refine wS (sT (wN ?_));refine wS (sT (wN ?_));refine Be _ (Dk 5 3 tInt rfl (by decide)) ?_;obtain⟨z4,HX4,Hl4⟩:=Af.1 H;refine AE (β:=((List Int))×(Nat)) (fun q4=>z4=q4.1) (fun q4=>⟨A5 (.own 0 q4.2::Xe (A3 [])),[.row q4.2 3 tInt q4.1]⟩) ?_ ?_
 ·refine wS (sT (sT (sT (wN ?_))));refine Aj ?_;refine AJ HX4 (fun s4 b4=>⟨.any::.bs tInt bP1::A3 (.own 0 b4::A4 (.bs tInt a::.lit (.int .i64 (a.length:Int))::.lit (.int .i64 s4.1)::Xf (A6 []))),[.row b4 3 tInt s4.2]⟩) 0 (?_) ?_
  ·try dsimp only
   exact AA
  ·rintro⟨x1,l3⟩ v2 x4 H Hr4;try dsimp only
   dsimp only[CG]at H;refine wS (sT (wN ?_));refine Aq fun Khs7 hs7=>?_
   refine An rfl (fun hb8=>?_) (fun hb8=>?_)
   ·have H:=Au hb8 H;refine As ?_;refine hs7 _ ?_;refine nT ?_;obtain⟨z11,HX11,Hl11⟩:=Af.1 H;refine AE (β:=((List Int))×(Nat)) (fun q11=>z11=q11.1) (fun q11=>⟨.any::.bs tInt bP1::A3 (.own 0 q11.2::A4 (.bs tInt a::.lit (.int .i64 (a.length:Int))::.lit (.int .i64 x1)::Xf (A6 []))),[.row q11.2 3 tInt q11.1]⟩) ?_ ?_
    ·have H:=HX11;refine Aj ?_;obtain⟨c12,H⟩:=Ag.1 H;refine wS (sX c12 (sT (sT (wN ?_))));obtain⟨r13,k13,H⟩:=Af.1 H;have k13:=DD k13;refine wS (sT (sT (sC k13 (sT (sT (sT (sT (sT (wN ?_)))))))));refine wS (sT (wN ?_));refine An rfl (fun hb14=>?_) (fun hb14=>?_)
     ·have H:=Au hb14 H;obtain⟨c15,H⟩:=Ag.1 H;obtain⟨c16,H⟩:=Ag.1 H;refine We (sT (sT ?_));refine sA (hq:=Az.lt (xs:=[.tmp 24]) (T:=tInt) (ds:=[ixD a x1]) rfl rfl rfl (by rfl) (by decide) (.cons (WZ.int c15) .nil)) (ht:=(Al (Al (Al IF)))) ?_;refine sP c16 (sT (wN ?_));have e11:=Ab.1 H;repeat(first|refine WV ?_|refine asN ?_)
      refine Am ⟨(_,v2+1),e11.symm,?_⟩;try dsimp only
      exact AA
     ·have H:=Av hb14 H;refine As ?_;have e11:=Ab.1 H;repeat(first|refine WV ?_|refine asN ?_)
      refine Am ⟨(_,v2),e11.symm,?_⟩;try dsimp only
      exact AA
    ·rintro⟨l10,v9⟩ hz11;try dsimp only at hz11
     have H:=Hl11;rw[hz11]at H;try dsimp only
     refine We (sT (sT (wN ?_)));have e4:=Ab.1 H;repeat(first|refine WV ?_|refine asN ?_)
     refine Am ⟨_,v9,e4.symm,?_⟩;try dsimp only
     exact AA
   ·have H:=Av hb8 H;refine AI ?_;repeat(first|refine AU ?_|refine exO (by decide) ?_|refine asE ?_)
    refine WN ?_;have e4:=Hr4 _ (Ab.1 H).symm;repeat(first|refine WV ?_|refine asN ?_)
    refine Am ⟨(_,v2),e4.symm,?_⟩;try dsimp only
    exact AA
 ·rintro⟨l6,v5⟩ hz4;try dsimp only at hz4
  have H:=Hl4;rw[hz4]at H;try dsimp only
  refine wS (sT (sT (wN ?_)));obtain rfl:=Ab.1 H;exact AH ⟨.inr rfl,rfl,0,v5,rfl,rfl⟩
end
def Dc(p:Int→Bool)(l:List Int)(j:Nat):List Int:=(l.take j).filter fun x=>!p x
theorem Ed{p:Int→Bool}{l:List Int}{j:Nat}{x:Int}(hx:l[j]? =some x):Dc p l (j+1)=if p x then Dc p l j else Dc p l j++[x]:=by
 unfold Dc;rw[List.take_add_one,hx,List.filter_append];cases h:p x <;> simp[h]
structure DelJ(p:Int→Bool)(l:List Int)(k0:Nat)(q:List Int×Nat):Prop where
 len:q.1.length=l.length
 j:q.2≤l.length
 k0:k0 < q.2
 pre:q.1.take (Dc p l q.2).length=Dc p l q.2
 post:q.1.drop q.2=l.drop q.2
 lt:(Dc p l q.2).length < q.2
theorem P3{p:Int→Bool}{l:List Int}{k0:Nat}(hk:k0 < l.length)(hn:∀x∈l.take k0,p x=false){x:Int}(hx:l[k0]? =some x)(hp:p x=true):DelJ p l k0 (l,k0+1):=by
 have e:Dc p l (k0+1)=l.take k0:=by
  rw[Ed hx,if_pos hp];unfold Dc;exact List.filter_eq_self.2 fun y hy=>by rw[hn y hy];rfl
 have hl:(l.take k0).length=k0:=by rw[List.length_take];omega
 exact⟨rfl,hk,Nat.lt_succ_self _,by rw[e,hl],rfl,by rw[e,hl];exact Nat.lt_succ_self _⟩
theorem R7{p:Int→Bool}{l:List Int}{k0:Nat}{cur:List Int}{j:Nat}(H:DelJ p l k0 (cur,j)){x:Int}(hx:l[j]? =some x)(hp:p x=true):DelJ p l k0 (cur,j+1):=by
 have hj:=(List.getElem?_eq_some_iff.1 hx).1;have e:Dc p l (j+1)=Dc p l j:=by rw[Ed hx,if_pos hp]
 have:=H.lt;have:=H.k0;refine⟨H.len,hj,by simp only at *;omega,by rw[e];exact H.pre,?_,by rw[e];simp only at *;omega⟩;have:=congrArg (List.drop 1) H.post;rw[List.drop_drop,List.drop_drop]at this;exact this
theorem R8{p:Int→Bool}{l:List Int}{k0:Nat}{cur:List Int}{j:Nat}(H:DelJ p l k0 (cur,j)){x:Int}(hx:l[j]? =some x)(hp:p x=false):DelJ p l k0 (cur.set (Dc p l j).length x,j+1):=by
 have hj:=(List.getElem?_eq_some_iff.1 hx).1;have e:Dc p l (j+1)=Dc p l j++[x]:=by rw[Ed hx,if_neg (by rw[hp];simp)]
 have h1:(Dc p l j).length < j:=H.lt;have h2:cur.length=l.length:=H.len;have h3:k0 < j:=H.k0;have h4:cur.take (Dc p l j).length=Dc p l j:=H.pre;have h5:cur.drop j=l.drop j:=H.post;refine⟨by simp[h2],hj,by simp only;omega,?_,?_,by rw[e,List.length_append];simp only[List.length_cons,List.length_nil];omega⟩
 ·simp only;rw[e,List.length_append,List.length_cons,List.length_nil,Nat.zero_add,List.take_add_one,List.getElem?_set_self (by omega),List.take_set_of_le (Nat.le_refl _),h4];rfl
 ·simp only;rw[List.drop_set_of_lt (by omega)];have:=congrArg (List.drop 1) h5;rw[List.drop_drop,List.drop_drop]at this;exact this
theorem To{p:Int→Bool}{l:List Int}{k0:Nat}{cur:List Int}{j:Nat}(H:DelJ p l k0 (cur,j)):cur[j]? =l[j]?:=by
 have:=congrArg (fun z=>z[0]?) H.post;simp only[List.getElem?_drop,Nat.add_zero]at this;exact this
theorem RJ{p:Int→Bool}{l:List Int}:(TT p l= -1∧l.filter (fun x=>!p x)=l)∨∃(k:Nat) (x:Int),TT p l=(k:Int)∧k < l.length∧(∀y∈l.take k,p y=false)∧l[k]? =some x∧p x=true:=by
 unfold TT;cases h:l.findIdx? p with
 |none=>
  rw[List.findIdx?_eq_none_iff]at h;exact .inl ⟨rfl,List.filter_eq_self.2 fun y hy=>by rw[h y hy];rfl⟩
 |some k=>
  obtain⟨h1,h2,h3⟩:=List.findIdx?_eq_some_iff_getElem.1 h;refine .inr ⟨k,l[k],rfl,h1,fun y hy=>?_,List.getElem?_eq_getElem h1,h2⟩;obtain⟨j,hj,rfl⟩:=List.mem_take_iff_getElem.1 hy;have:=h3 j (by omega);simpa using this
theorem RF:∀(w w':World) (S S':Nat→Prop) (cs:List Value) (d:Int),tInt.RS w S cs d→tInt.RS w' S' cs d:=fun _ _ _ _ _ _ h=>FF.2 (FF.1 h)
theorem Ri{cells news:List Value}{off j:Nat}(h:off≤cells.length):(Fd cells off news)[j]? =if j < off then cells[j]? else if j < off+news.length then news[j - off]? else cells[j]?:=by
 unfold Fd;have h1:(cells.take off).length=off:=by rw[List.length_take];omega
 by_cases hj:j < off
 ·rw[if_pos hj,List.append_assoc,List.getElem?_append_left (by omega),List.getElem?_take_of_lt hj]
 ·rw[if_neg hj];by_cases hj2:j < off+news.length
  ·rw[if_pos hj2,List.getElem?_append_left (by rw[List.length_append];omega),List.getElem?_append_right (by omega),h1]
  ·rw[if_neg hj2,List.getElem?_append_right (by rw[List.length_append];omega),List.getElem?_drop,List.length_append,h1];congr 1;omega
theorem Tu{A B:List Value}{m k sz:Nat}(h:∀q,q < sz→A[m * sz+q]? =B[k * sz+q]?):(A.drop (m * sz)).take sz=(B.drop (k * sz)).take sz:=by
 apply List.ext_getElem?;intro q;by_cases hq:q < sz
 ·rw[List.getElem?_take_of_lt hq,List.getElem?_take_of_lt hq,List.getElem?_drop,List.getElem?_drop,h q hq]
 ·rw[List.getElem?_eq_none (by rw[List.length_take];omega),List.getElem?_eq_none (by rw[List.length_take];omega)]
theorem SU{cells news:List Value}{l l':List Int}{i:Nat}(hR:TI tInt cells l)(hi:i * 1≤cells.length)(hl:l'=l.take i):TI tInt (Fd cells (i * 1) news) l':=fun w S j d hj=>by
 subst hl;rw[List.getElem?_take]at hj;split at hj
 ·rename_i hji;have:=hR w S j d hj;have e:((Fd cells (i * 1) news).drop (j * tInt.size)).take tInt.size=(cells.drop (j * tInt.size)).take tInt.size:=Tu fun q hq=>by
   have hq:q < 1:=hq;show(Fd cells (i * 1) news)[j * 1+q]? =cells[j * 1+q]?;rw[Ri hi,if_pos (by omega)]
  rw[e];exact this
 ·cases hj
theorem P5(l:List Int)(f:FuncId)(caps:List AV)(hcf:AV.cl (.fn f caps)=true)(hI:Fn Try.prog 74 [.bs tInt l,.fn f caps] (.lit (.int .i64 (-1)))):Li Try.prog 55 3 tInt l [.fn f caps] l:=by
 refine H4 Try.func55 rfl (by kernel_rfl) rfl Try.ntmps55 B4 fun C=>?_
 simp only[List.length_cons,List.length_nil,Nat.reduceAdd,Nat.reduceSub,List.replicate_succ,List.replicate_zero,List.cons_append,List.nil_append];refine wR ?_;refine wR (hx:=by((repeat(first|refine sA (hq:=G0 rfl hI (.cons (.own rfl) (.cons (.cl hcf) .nil))) ?_|refine sA ?_|refine Fy ?_|refine sAG (hk:=?_)|refine Mg (hk:=?_)));exact Lr rfl)) (hk:=?_);refine Aq fun K3 h3=>?_
 refine wR ?_;refine An rfl (fun hb5=>?_) (fun hb5=>?_)
 ·refine wR ?_;exact AH ⟨.inr rfl,0,0,rfl,rfl,rfl⟩
 ·have hb5:((-1:Int) == -1)=false:=hb5;cases hb5
theorem P4(l:List Int)(hl:l.length≤2147483648)(hok:∀x∈l,Wc .i64 x)(f:FuncId)(caps:List AV)(hcf:AV.cl (.fn f caps)=true)(p:Int→Bool)(hp:∀x∈l,Fn Try.prog f (.lit (.int .i64 x)::caps) (.lit (.bool (p x))))(k0:Nat)(x0:Int)
 (hk0:k0 < l.length) (hno:∀y∈l.take k0,p y=false) (hx0:l[k0]? =some x0) (hp0:p x0=true) (hI:Fn Try.prog 74 [.bs tInt l,.fn f caps] (.lit (.int .i64 (k0:Int)))):Li Try.prog 55 3 tInt l [.fn f caps] (l.filter fun x=>!p x):=by
 refine H4 Try.func55 rfl (by kernel_rfl) rfl Try.ntmps55 B4 fun C=>?_
 simp only[List.length_cons,List.length_nil,Nat.reduceAdd,Nat.reduceSub,List.replicate_succ,List.replicate_zero,List.cons_append,List.nil_append];refine wR ?_;refine wR (hx:=by((repeat(first|refine sA (hq:=G0 rfl hI (.cons (.own rfl) (.cons (.cl hcf) .nil))) ?_|refine sA ?_|refine Fy ?_|refine sAG (hk:=?_)|refine Mg (hk:=?_)));exact Lr rfl)) (hk:=?_);refine Aq fun K3 h3=>?_
 refine wR ?_;refine An rfl (fun hb5=>?_) (fun hb5=>?_)
 ·have hb5:((k0:Int) == -1)=true:=hb5;have:=eq_of_beq hb5;omega
 ·refine As ?_;refine h3 _ ?_;refine nT ?_;refine Aq fun K8 h8=>?_
  refine wR ?_;refine Aj ?_;refine Cv (fun q:List Int×Nat=>⟨(.own 0 0::.fn f caps::A3 (.lit (.int .i64 ((Dc p l q.2).length:Int))::.lit (.int .i64 (q.2:Int))::Xe (Xf (A5 [])))),[.row 0 3 tInt q.1]⟩) (DelJ p l k0) (fun q=>l.length - q.2) (l,k0+1) (P3 hk0 hno hx0 hp0) (by rw[show(Dc p l (k0+1)).length=k0 from by rw[Ed hx0,if_pos hp0];unfold Dc;rw[List.filter_eq_self.2 fun y hy=>by rw[hno y hy];rfl,List.length_take];omega];exact AA) ?_;rintro⟨cur,j⟩ H;have hcl':cur.length=l.length:=H.len;have hjl:j≤l.length:=H.j;have hkj:(Dc p l j).length < j:=H.lt;dsimp only;refine Aq fun K11 h11=>?_
  refine wR ?_;refine An rfl (fun hb13=>?_) (fun hb13=>?_)
  ·have hlt:j < l.length:=by have:(j:Int) < (cur.length:Int):=of_decide_eq_true hb13;omega
   obtain⟨x,hx⟩:∃x,l[j]? =some x:=⟨_,List.getElem?_eq_getElem hlt⟩
   have hxc:cur[j]? =some x:=(To H).trans hx;have hpx:=hp x (List.mem_of_getElem? hx);have hox:=hok x (List.mem_of_getElem? hx);obtain⟨y,hy⟩:∃y,cur[(Dc p l j).length]? =some y:=⟨_,List.getElem?_eq_getElem (by omega)⟩
   refine As ?_;refine h11 _ ?_;refine nT ?_;refine Aq fun K14 h14=>?_
   refine Aj ?_;refine wR (hx:=by((repeat(first|refine sA (hq:=AO rfl rfl rfl hxc rfl) ?_|refine sA ?_|refine Fy ?_|refine sAG (hk:=?_)|refine Mg (hk:=?_)));exact Lr rfl)) ?_;refine wR ?_;refine An rfl (fun hb17=>?_) (fun hb17=>?_)
   ·refine wR (hx:=by((repeat(first|(refine AT rfl (BW rfl rfl rfl hy (WZ.int hox) rfl ?_);refine Wm ?_)|refine sA ?_|refine Fy ?_|refine sAG (hk:=?_)|refine Mg (hk:=?_)));exact Lr rfl)) (hk:=?_);refine Wg ?_;refine h14 _ ?_;refine nT ?_;refine Wg ?_;have hpx':p x=false:=by have:(!p x)=true:=hb17;simpa using this
    refine Am ⟨(cur.set (Dc p l j).length x,j+1),R8 H hx hpx',by dsimp only;omega,?_⟩;dsimp only;have e:((Dc p l (j+1)).length:Int)=((Dc p l j).length:Int)+1:=by rw[Ed hx,if_neg (by rw[hpx'];simp)];simp
    rw[e];exact WH (Cut.cons (Cut.nil _))
   ·refine As ?_;refine h14 _ ?_;refine nT ?_;refine Wg ?_;have hpx':p x=true:=by have:(!p x)=false:=hb17;simpa using this
    refine Am ⟨(cur,j+1),R7 H hx hpx',by dsimp only;omega,?_⟩;dsimp only;have e:((Dc p l (j+1)).length:Int)=((Dc p l j).length:Int):=by rw[Ed hx,if_pos hpx']
    rw[e];exact WH (Cut.cons (Cut.nil _))
  ·refine AI ?_;refine h8 _ ?_;refine nT ?_;have hje:j=l.length:=by have:¬(j:Int) < (cur.length:Int):=of_decide_eq_false hb13;omega
   subst hje;have hpre:Dc p l l.length=l.filter fun x=>!p x:=by unfold Dc;rw[List.take_length]
   have hpt:=H.pre;simp only at hpt;rw[hpre]at hpt hkj⊢;generalize hF:(l.filter fun x=>!p x)=F at hpt hkj⊢;refine NC 0 rfl rfl (by intro e;rw[e]at hcl';simp at hcl';omega) RF Je (fun v=>(.lit v::A4 (.lit (.int .i64 (F.length:Int))::Xe (Xf (A6 []))))) (fun v=>(by(repeat(first|exact Opn.nil|refine Opn.own ?_|refine Opn.any ?_|refine Opn.keep rfl ?_)))) fun g cap cells hc hle hm hR h1=>?_
   have hc:cells.length=cap * 1:=hc;refine wR (hx:=by((repeat(first|refine sA (hq:=Kk rfl rfl ⟨_,rfl⟩ rfl (by omega) hle) ?_|(refine AT rfl (Qw (i:=0) (by decide) rfl rfl rfl hc hle ?_);refine Wm ?_)|refine sA ?_|refine Fy ?_|refine sAG (hk:=?_)|refine Mg (hk:=?_)));exact Lr rfl)) (hk:=?_);refine wR (hx:=by((repeat(first|refine sA (hq:=Ox rfl rfl ⟨_,rfl⟩ (by omega)) ?_|refine sA ?_|refine Fy ?_|refine sAG (hk:=?_)|refine Mg (hk:=?_)));exact Lr rfl)) (hk:=?_);have hRe:=SU (news:=Pr Try.prog 3 (cur.length - F.length)) hR (i:=F.length) (by omega) hpt.symm;have hce:(Fd cells (F.length * 1) (Pr Try.prog 3 (cur.length - F.length))).length=cap * tInt.size:=by
    rw[Ew (by rw[QE (ty:=27)];omega)];exact hc
   refine Be _ (KF 0 (ver:=1) (t':=(A4 (.own 0 1::Xe (Xf (A7 []))))) rfl rfl hce (by omega) hm (by decide) hRe (by(try simp only[Bn,List.set_cons_zero,List.set_cons_succ]);(repeat(first|exact Cls.nil|refine Cls.own ?_|refine Cls.any ?_|refine Cls.keep rfl ?_)))) ?_;exact AH ⟨.inr rfl,0,1,rfl,rfl,rfl⟩
theorem Tp(l:List Int)(hl:l.length≤2147483648)(hok:∀x∈l,Wc .i64 x)(f:FuncId)(caps:List AV)(hcl:Bm caps=true)(p:Int→Bool)(hp:∀x∈l,Fn Try.prog f (.lit (.int .i64 x)::caps) (.lit (.bool (p x)))):Li Try.prog 55 3 tInt l [.fn f caps] (l.filter fun x=>!p x):=by
 have hcf:AV.cl (.fn f caps)=true:=by unfold AV.cl;exact hcl
 have hI:=UB l hl f caps hcl p hp;rcases RJ (p:=p) (l:=l)with⟨e1,e2⟩|⟨k0,x0,e1,hk0,hno,hx0,hp0⟩
 ·rw[e1]at hI;rw[e2];exact P5 l f caps hcf hI
 ·rw[e1]at hI;exact P4 l hl hok f caps hcf p hp k0 x0 hk0 hno hx0 hp0 hI
end Mu
end
section
namespace Go.Proofs
open Go.Shelf
def Try.laysI_ren:Go.Shelf.Ren:=⟨fun|21=>48|27=>68|28=>69|35=>95|39=>65|n=>n,fun|22=>27|3=>3|0=>0|4=>4|n=>n,fun|n=>n⟩
theorem Try.laysI:Go.Proofs.Lays2.n21 Try.prog Try.laysI_ren:={
 mixed:=by kernel_rfl
 f21:=Try.func48.trans (congrArg some (by kernel_rfl))
 f27:=Try.func68.trans (congrArg some (by kernel_rfl))
 f28:=Try.func69.trans (congrArg some (by kernel_rfl))
 f35:=Try.func95.trans (congrArg some (by kernel_rfl))
 f39:=Try.func65.trans (congrArg some (by kernel_rfl))
 t0:=Try.underlying0
 a0:=Try.isAgg0
 z0:=Try.sizeOf0
 v0:=Try.zeroValue0
 t3:=Try.underlying3
 a3:=Try.isAgg3
 z3:=Try.sizeOf3
 v3:=Try.zeroValue3
 t4:=Try.underlying4
 a4:=Try.isAgg4
 z4:=Try.sizeOf4
 v4:=Try.zeroValue4
 t22:=Try.underlying27
 a22:=Try.isAgg27
 z22:=Try.sizeOf27
 v22:=Try.zeroValue27
 i3:=by kernel_rfl}
end Go.Proofs
end
section
namespace Mu
open Go Go.RowKit Go.ChangeShapes Go.WideShapes Go.Proofs
theorem Is(w:World){base n old:Nat}{xs:List Int}(hbase:base≤w.heap.size)(hx:xs.length=n)(hn:n≤maxLen){cur:Array Value}(hc:cur.size=grownCap w n old 3)(ht:cur.toList.take n=xs.map (Value.int .i64)){w':World}(hw:w'.heap[w.heap.size]? =some (.cells cur 3 (0,0))):
 EP w' base (.slice (some ⟨w.heap.size,0,none⟩) n (grownCap w n old 3)) xs:=
 .of (n:=n) (cs:=xs.map (Value.int .i64)) ⟨by simp[hx],.inr ⟨w.heap.size,_,cur,rfl,hbase,hw,grownCap_ge w n old _,grownCap_le_maxLen w n old _ hn,by rw[hc,Nat.mul_one],by rw[Nat.mul_one];exact ht⟩⟩ hx.symm rfl
theorem Rh{cells news:List Value}{off:Nat}(h:off+news.length≤cells.length):(Fd cells off news).take (off+news.length)=cells.take off++news:=by
 unfold Fd;rw[List.take_append_of_le_length (by simp;omega),List.take_of_length_le (by simp;omega)]
theorem PX{C D:List Value}{b:Value}{i n:Nat}(hi:i≤n)(hC:n+1≤C.length)(hD:D.length=n - i):(Fd (Fd C (i+1) D) i [b]).take (n+1)=C.take i++b::D:=by
 unfold Fd;have h1:(C.take (i+1)++D++C.drop (i+1+D.length)).take i=C.take i:=by
  rw[List.append_assoc,List.take_append_of_le_length (by simp;omega),List.take_take,Nat.min_eq_left (by omega)]
 have h2:(C.take (i+1)++D++C.drop (i+1+D.length)).drop (i+ [b].length)=D++C.drop (i+1+D.length):=by
  rw[List.append_assoc,List.drop_left' (by simp;omega)]
 rw[h1,h2,←List.append_assoc,List.take_append_of_le_length (by simp;omega),List.take_of_length_le (by simp;omega),List.append_assoc];rfl
theorem PW{C D:List Value}{b:Value}{i n:Nat}(hi:i≤n)(hC:n+1≤C.length)(hD:D.length=n - i):(Fd (Fd C i [b]) (i+1) D).take (n+1)=C.take i++b::D:=by
 unfold Fd;have h1:(C.take i++[b]++C.drop (i+ [b].length)).take (i+1)=C.take i++[b]:=by
  rw[List.take_left' (by simp;omega)]
 rw[h1,List.take_append_of_le_length (by simp;omega),List.take_of_length_le (by simp;omega),List.append_assoc];rfl
theorem Jd(l:List Int):∀u∈l.map (Value.int .i64),u.oneCell'=true:=fun u hu=>by
 obtain⟨x,_,rfl⟩:=List.mem_map.1 hu;rfl
theorem PV{base:Nat}{v u:Value}{zs:List Int}{b:Int}{w:World}{i:Nat}(hown:EP w base v zs)(hu:EP w base u [b])(hi:i≤zs.length)(hn:zs.length≤2147483648)(hne:∀g,v.ownBlock=some g→u.ownBlock≠some g)(hbase:base≤w.heap.size):
 Calls Try.prog 48 #[v,.int .i64 (i:Int),u] w fun e w'=>∃v',e= .returned v'∧EP w' base v' (zs.take i++b::zs.drop i)∧w.grownBy w' v.ownBlock∧(v'.ownBlock=v.ownBlock∨v'.ownBlock=some w.heap.size):=by
 obtain⟨g2,c2,cur2,rfl,h20,h21,h22,h23,h24,h25⟩:∃g2 c2 cur2,u= .slice (some ⟨g2,0,none⟩) 1 c2∧base≤g2∧w.heap[g2]? =some (.cells cur2 3 (0,0))∧1≤c2∧c2≤maxLen∧cur2.size=c2 * 1∧cur2.toList.take (1 * 1)= [Value.int .i64 b]:=by
  rcases hu.2 with⟨_,h0⟩|⟨g,cap,cur,h⟩
  ·cases h0
  ·exact⟨g,cap,cur,h⟩
 have hvs:∀j x,[Value.int .i64 b][j]? =some x→w.cell? ⟨g2,0+j,none⟩=some x:=fun j x hx=>by
  have:=hu.cells (g:=g2) rfl j x hx;simpa[add_plain]using this
 have h1v:∀x∈[Value.int .i64 b],x.oneCell'=true:=Jd [b];have hl:(zs.take i++b::zs.drop i).length=zs.length+1:=by simp;omega
 have hlm:zs.length+1≤maxLen:=by unfold maxLen;omega
 rcases hown.2 with⟨rfl,h0⟩|⟨g,cap,cur,rfl,hb,hg,h1,h2,h3,h4⟩
 ·have hz:zs= []:=List.eq_nil_of_length_eq_zero h0;subst hz;have hi0:i=0:=by simpa using hi
  subst hi0;refine(Any2.slices_Insert_int_end_grow Try.laysI none 0 0 g2 0 1 c2 [] [.int .i64 b] w (by omega) (Nat.le_refl _) (by omega) (by omega) rfl rfl (fun _=>rfl) (fun a h=>by cases h) hvs h1v).mono fun e w' ⟨he,hw⟩=>?_
  subst hw;refine⟨_,he,Is w (n:=0+1) (old:=0) (xs:=[b]) hbase rfl (by unfold maxLen;omega) (cur:=_) ?_ ?_ (heap_alloc_new w.drew _),⟨rfl,rfl,rfl,by simp,fun k hk _=>heap_alloc_old w.drew _ hk⟩,.inr rfl⟩
  ·have:=grownCap_ge w (0+1) 0 3;simp only[List.nil_append,Array.size_append,List.size_toArray,size_zeroCells,List.length_cons,List.length_nil];show 0+1+_ * 1=_;rw[Nat.mul_one];show 0+1+(grownCap w (0+1) 0 3 - (0+1))=grownCap w (0+1) 0 3;omega
  ·simp
 ·have hgl:g < w.heap.size:=(Array.getElem?_eq_some_iff.1 hg).1;have hgg:g2≠g:=fun e=>hne g rfl (by rw[e];rfl)
  have hcl:(zs.map (Value.int .i64)).length=zs.length:=by simp
  have hcs:∀j x,(zs.map (Value.int .i64))[j]? =some x→w.cell? ⟨g,0+j,none⟩=some x:=fun j x hx=>by
   have:=hown.cells (g:=g) rfl j x hx;simpa[add_plain]using this
  have hg':w.heap[g]? =some (.cells cur.toList.toArray 3 (0,0)):=by simpa using hg
  have hcur:cur.toList.length=cap:=by simpa using h3
  have h4':cur.toList.take zs.length=zs.map (Value.int .i64):=by simpa using h4
  have hsp:∀j,j < cap→(w.cell? ⟨g,0+j,none⟩).isSome=true:=fun j hj=>by
   have:j < cur.size:=by omega
   simp[World.cell?,hg,this]
  have hfz:∀j,w.frozen? ⟨g,j,none⟩=false:=fun j=>by simp[World.frozen?,hg]
  by_cases hin:i=zs.length
  ·subst hin;rw[List.take_length,List.drop_length];by_cases hroom:zs.length+1≤cap
   ·refine(Any2.slices_Insert_int_end_room Try.laysI g 0 zs.length cap g2 0 1 c2 [.int .i64 b] w (by omega) hroom (by unfold maxLen at h2;omega) rfl (fun j hj=>by rw[show 0+zs.length+j=0+(zs.length+j)by omega];exact hsp _ (by omega)) (fun j _=>hfz _) hvs h1v).mono fun e w' ⟨he,hw⟩=>?_
    have hle:0+zs.length+ [Value.int .i64 b].length≤cur.toList.length:=by rw[hcur];simp;omega
    rw[DE Try.prog hg' hle h1v]at hw;subst hw;refine⟨_,he,.of (n:=zs.length+1) (cs:=(zs++[b]).map (Value.int .i64)) ⟨by simp,.inr ⟨g,cap,_,rfl,hb,setRow_heap w g _ _ _ _ hg,hroom,h2,by rw[List.size_toArray,Ew hle,hcur,Nat.mul_one],?_⟩⟩ (by simp) rfl,Br w g _,.inl rfl⟩;have:=Rh hle;rw[Nat.mul_one,show zs.length+1=0+zs.length+ [Value.int .i64 b].length by simp,this,Nat.zero_add,h4'];simp
   ·refine(Any2.slices_Insert_int_end_grow Try.laysI (some ⟨g,0,none⟩) zs.length cap g2 0 1 c2 (zs.map (Value.int .i64)) [.int .i64 b] w (by omega) h1 (by omega) (by omega) hcl rfl (fun h=>by cases h) (fun a ha j x hx=>by cases ha;exact hown.cells (g:=g) rfl j x hx) hvs h1v).mono fun e w' ⟨he,hw⟩=>?_
    subst hw;refine⟨_,he,Is w (n:=zs.length+1) (old:=cap) (xs:=zs++[b]) hbase (by simp) hlm (cur:=_) ?_ ?_ (heap_alloc_new w.drew _),⟨rfl,rfl,rfl,by simp,fun k hk _=>heap_alloc_old w.drew _ hk⟩,.inr rfl⟩
    ·have:=grownCap_ge w (zs.length+1) cap 3;simp only[Array.size_append,List.size_toArray,size_zeroCells,List.length_append,List.length_map,List.length_cons,List.length_nil];show zs.length+(0+1)+(grownCap w (zs.length+1) cap 3 - (zs.length+1)) * 1=grownCap w (zs.length+1) cap 3;omega
    ·rw[Array.toList_append,List.take_append_of_le_length (by simp),List.take_of_length_le (by simp)];simp
  ·have hi':i < zs.length:=by omega
   have hdl:(((zs.map (Value.int .i64)).drop i)).length=zs.length - i:=by simp
   have h1d:∀x∈(zs.map (Value.int .i64)).drop i,x.oneCell'=true:=fun x hx=>Jd zs x (List.mem_of_mem_drop hx)
   by_cases hroom:zs.length+1≤cap
   ·refine(Any2.slices_Insert_int_shift Try.laysI g 0 zs.length cap i g2 0 1 c2 (zs.map (Value.int .i64)) [.int .i64 b] w hi' (by omega) hroom (by unfold maxLen at h2;omega) hgg hcl rfl hcs (fun j hj=>hsp j (by omega)) (fun j _=>hfz _) hvs (Jd zs) h1v 3 3 cur2.size cur.size (by simp[World.shape?,h21]) (by simp[World.shape?,hg]) (by omega) (by simp[World.frozen?,h21]) (by simp[World.frozen?,h21])).mono fun e w' ⟨he,hw⟩=>?_
    have hle1:0+(i+1)+((zs.map (Value.int .i64)).drop i).length≤cur.toList.length:=by rw[hcur,hdl];omega
    have hgd:w.drew.heap[g]? =some (.cells cur.toList.toArray 3 (0,0)):=hg';rw[DE Try.prog hgd hle1 h1d]at hw;have hg1:=setRow_heap w.drew g _ (Fd cur.toList (0+(i+1)) ((zs.map (Value.int .i64)).drop i)).toArray _ _ hgd;have hle2:0+i+ [Value.int .i64 b].length≤(Fd cur.toList (0+(i+1)) ((zs.map (Value.int .i64)).drop i)).length:=by rw[Ew hle1,hcur];simp;omega
    rw[DE Try.prog hg1 hle2 h1v,setRow_setRow]at hw;subst hw;refine⟨_,he,.of (n:=zs.length+1) (cs:=(zs.take i++b::zs.drop i).map (Value.int .i64)) ⟨by simp;omega,.inr ⟨g,cap,_,rfl,hb,setRow_heap w.drew g _ _ _ _ hgd,hroom,h2,by rw[List.size_toArray,Ew hle2,Ew hle1,hcur,Nat.mul_one],?_⟩⟩ hl.symm rfl,⟨(Br w.drew g _).os,(Br w.drew g _).tape,(Br w.drew g _).output,(Br w.drew g _).size,(Br w.drew g _).block⟩,.inl rfl⟩;rw[Nat.mul_one,List.toList_toArray,Nat.zero_add,Nat.zero_add,PX (n:=zs.length) hi (by rw[hcur];exact hroom) hdl];have e:=congrArg (List.take i) h4';rw[List.take_take,Nat.min_eq_left hi]at e;rw[e];simp
   ·refine(Any2.slices_Insert_int_grow Try.laysI g 0 zs.length cap i g2 0 1 c2 (zs.map (Value.int .i64)) [.int .i64 b] w hi' (by omega) h1 (by omega) (by omega) hcl rfl hcs hvs (Jd zs) h1v).mono fun e w' ⟨he,hw⟩=>?_
    have hG:=grownCap_ge w (zs.length+1) cap 3;obtain⟨C0,hC0,hl0,ht0⟩:∃C0:List Value,(((zs.map (Value.int .i64)).take i).toArray++Builtin.zeroCells (Value.int .i64 0).cells (zs.length+1 - i)++Builtin.zeroCells (Value.int .i64 0).cells (grownCap w (zs.length+1) cap 3 - (zs.length+1)))=C0.toArray∧C0.length=grownCap w (zs.length+1) cap 3∧C0.take i=(zs.map (Value.int .i64)).take i:=by
     refine⟨_,(Array.toArray_toList (xs:=_)).symm,?_,?_⟩
     ·have e1:(Value.int .i64 0).cells.size=1:=rfl;simp only[Array.length_toList,Array.size_append,List.size_toArray,size_zeroCells,List.length_take,List.length_map,e1];omega
     ·rw[Array.toList_append,Array.toList_append,List.append_assoc];exact List.take_left' (by simp;omega)
    have hw:w'=(((w.alloc (.cells C0.toArray 3)).drew.setCells w.heap.size i [.int .i64 b]).drew).setCells w.heap.size (i+1) ((zs.map (Value.int .i64)).drop i):=by
     rw[←hC0];exact hw
    have hg0:(w.alloc (.cells C0.toArray 3)).drew.heap[w.heap.size]? =some (.cells C0.toArray 3 (0,0)):=heap_alloc_new w _;have hle1:i+ [Value.int .i64 b].length≤C0.length:=by rw[hl0];simp;omega
    rw[DE Try.prog hg0 hle1 h1v]at hw;have hg1:=setRow_heap (w.alloc (.cells C0.toArray 3)).drew w.heap.size _ (Fd C0 i [.int .i64 b]).toArray _ _ hg0;have hle2:i+1+((zs.map (Value.int .i64)).drop i).length≤(Fd C0 i [.int .i64 b]).length:=by rw[Ew hle1,hl0,hdl];omega
    have hg1':((w.alloc (.cells C0.toArray 3)).drew.setRow w.heap.size (Fd C0 i [.int .i64 b]).toArray).drew.heap[w.heap.size]? =some (.cells (Fd C0 i [.int .i64 b]).toArray 3 (0,0)):=hg1;rw[DE Try.prog hg1' hle2 h1d]at hw;have hfin:=setRow_heap ((w.alloc (.cells C0.toArray 3)).drew.setRow w.heap.size (Fd C0 i [.int .i64 b]).toArray).drew w.heap.size _ (Fd (Fd C0 i [.int .i64 b]) (i+1) ((zs.map (Value.int .i64)).drop i)).toArray _ _ hg1';rw[←hw]at hfin;refine⟨_,he,Is w (n:=zs.length+1) (old:=cap) hbase hl hlm (cur:=_) ?_ ?_ hfin,?_,.inr rfl⟩
    ·rw[List.size_toArray,Ew hle2,Ew hle1,hl0]
    ·rw[List.toList_toArray,PW (n:=zs.length) hi (by rw[hl0];exact hG) hdl,ht0];simp
    ·have k1:w.grownBy (w.alloc (.cells C0.toArray 3)).drew (some w.heap.size):=⟨rfl,rfl,rfl,by simp[World.drew],fun k hk _=>heap_alloc_old w _ hk⟩
     subst hw;refine⟨rfl,rfl,rfl,by simp[World.drew,World.setRow],fun k hk _=>?_⟩;have hks:k≠w.heap.size:=by omega
     have a1:=(Br ((w.alloc (.cells C0.toArray 3)).drew.setRow w.heap.size (Fd C0 i [.int .i64 b]).toArray).drew w.heap.size (Fd (Fd C0 i [.int .i64 b]) (i+1) ((zs.map (Value.int .i64)).drop i)).toArray).block k (by simp[World.drew,World.setRow];omega) (fun e=>hks (by injection e));have a2:=(Br (w.alloc (.cells C0.toArray 3)).drew w.heap.size (Fd C0 i [.int .i64 b]).toArray).block k (by simp[World.drew];omega) (fun e=>hks (by injection e));exact a1.trans (a2.trans (heap_alloc_old w _ hk))
section
variable{C:Ctx}{t:List AV}{h:List ABlk}{o:Oper}{K:St→Prop}
theorem Qu{x y z:Operand}{tys:Array TypeId}{i ver k ver2:Nat}{l:List Int}{n b:Int}(hik:i≠k)(ho:o.op= .call {callee:=.value (.func 48),args:=#[x,y,z],argTypes:=tys})(hx:WO t x= .own i ver)(hi:h[i]? =some (.row ver 3 tInt l))(hy:WO t y= .lit (.int .i64 n))(hn:0≤n∧n.toNat≤l.length)
 (hz:WO t z= .own k ver2) (hk:h[k]? =some (.row ver2 3 tInt [b])) (hl:l.length≤2147483648)
 (hK:K ⟨Bn t o.dst (.own i (ver+1)),h.set i (.row (ver+1) 3 tInt (l.take n.toNat++b::l.drop n.toNat))⟩):Xb Try.prog C o ⟨t,h⟩ K:=by
 rintro Q' a w ⟨hd,S,ψ,H,hl'⟩;refine⟨fun c e=>(by rw[ho]at e;cases e),?_⟩;have hx':=BC hl' x;have hy':=BC hl' y;have hz':=BC hl' z;rw[show WO (St.mk t h).t x= .own i ver from hx]at hx';rw[show WO (St.mk t h).t y=_ from hy]at hy';rw[show WO (St.mk t h).t z= .own k ver2 from hz]at hz';unfold AV.rel at hx' hy' hz';have hv:=(hx'.2 _ (by rw[hi];rfl)).2 rfl;have hu:=(hz'.2 _ (by rw[hk];rfl)).2 rfl;have hBi:=H.blk i _ hi;have hlt:=hBi.lt rfl;obtain⟨hO,hw⟩:=Hh hBi;obtain⟨hO2,hw2⟩:=Hh (H.blk k _ hk);have hne:∀g,(ψ i).ownBlock=some g→(ψ k).ownBlock≠some g:=fun g h1 h2=>by
  refine H.dis i k hik (by rw[hi];rfl) (by rw[hk];rfl) g ?_ ?_
  ·rw[hi];exact AQ h1
  ·rw[hk];exact AQ h2
 have hni:n=((n.toNat:Nat):Int):=by omega
 unfold Oper.wp;rw[CZ ho (by kernel_rfl) a.eval w rfl];simp only[Oper.upon];rw[show(#[x,y,z].map a.eval)= #[ψ i,.int .i64 ((n.toNat:Nat):Int),ψ k]from by simp[hv,hu,hy',←hni]];refine(PV hO hO2 hn.2 hl hne (Nat.zero_le _)).mono ?_;rintro r w' ⟨v',rfl,hO',hgr,hb'⟩;have hbψ:(ψ i).ownBlock=Bl (ψ i):=by
  rcases hO.2 with⟨e1,_⟩|⟨g',cap,cur,e1,_⟩ <;> rw[e1] <;> rfl
 have hbv:∀g,Bl v'=some g→v'.ownBlock=some g:=fun g hg=>by
  rcases hO'.2 with⟨e1,_⟩|⟨g',cap,cur,e1,_⟩
  ·rw[e1]at hg;simp[Bl]at hg
  ·rw[e1]at hg⊢;simpa[Bl,Value.ownBlock]using hg
 have hNS:∀g,(ψ i).ownBlock=some g→¬C.N g∧¬S g:=fun g hg=>⟨(hlt g (AQ hg)).1,(hlt g (AQ hg)).2.2⟩
 have hblk:∀q,S q→w'.heap[q]? =w.heap[q]?:=fun q hq=>hgr.block q (H.lt q hq) fun e=>(hNS q e.symm).2 hq
 have X:Ext w S h ψ w' S (h.set i (.row (ver+1) 3 tInt (l.take n.toNat++b::l.drop n.toNat))) (AX ψ i v'):=Ext.set hblk hi (fun c' hc=>by
  simp only[ABlk.ver,Option.some.injEq]at hc;exact⟨ver,rfl,by omega,fun e=>by omega⟩) fun h=>by simp[AP]at h
 have hNew:∀g,v'.ownBlock=some g→¬C.N g∧¬S g:=fun g hg=>by
  rcases hb' with e1|e1
  ·rw[e1]at hg;exact hNS g hg
  ·rw[e1]at hg;cases hg;exact⟨fun hN=>by have:=H.nlt _ hN;have:=H.bel.size;omega,fun hS=>by have:=H.lt _ hS;omega⟩
 have hok:By (l.take n.toNat++b::l.drop n.toNat):=fun r hr=>by
  rcases List.mem_append.1 hr with h1|h1
  ·exact hw r (List.mem_of_mem_take h1)
  ·rcases List.mem_cons.1 h1 with h1|h1
   ·rw[h1];exact hw2 b (by simp)
   ·exact hw r (List.mem_of_mem_drop h1)
 refine⟨_,hK,Gz (s:=⟨t,h⟩) hi hd hl' (H.set hi rfl (Gr.of_grownBy (by rw[←hbψ];exact hgr)) X (Jc hO' hok hNew) fun g hg=>?_) X ?_⟩
 ·have hg':=hbv g hg;rcases hb' with e1|e1
  ·left;show Bl (ψ i)=some g;rw[←hbψ,←e1];exact hg'
  ·right;rw[e1]at hg';cases hg';exact Nat.le_refl _
 ·unfold AV.rel;refine⟨by simp[(List.getElem?_eq_some_iff.1 hi).1],fun c' hc'=>?_⟩;rw[List.getElem?_set_self (List.getElem?_eq_some_iff.1 hi).1]at hc';simp only[ABlk.ver,Option.some.injEq]at hc';exact⟨by omega,fun _=>by rw[AR]⟩
end
end Mu
end
section
namespace Mu
open Go Go.RowKit Go.Proofs
theorem L1{v:Value}{xs:List Int}{x:Int}{w:World}{S:Nat→Prop}(h:tInt.slice.RS w S [v] xs)(hn:xs.length≤2147483648):
 Calls Try.prog 33 #[v,.int .i64 x] w fun e w'=>e= .returned (.bool (xs.contains x))∧w=w':=by
 obtain⟨A,c,rfl⟩:=BG h;by_cases hz:xs= []
 ·subst hz;refine(Try.slices_Contains_int_empty _ _ _ _).mono fun e w' ⟨he,hw⟩=>⟨he,hw.symm⟩
 ·have hpos:0 < xs.length:=List.length_pos_iff.2 hz;obtain⟨b,o,e,_⟩:=GD h (List.getElem?_eq_getElem hpos);cases e;refine(Try.slices_Contains_int b o xs.length c xs x w (Nat.le_refl _) (by omega) (fun j hj=>?_)).mono fun e w' ⟨he,hw⟩=>?_
  ·obtain⟨b',o',e',_,hc,_⟩:=GD h (List.getElem?_eq_getElem hj);cases e';rw[hc];simp[List.getD,hj]
  ·rw[List.take_length]at he;exact⟨he,hw.symm⟩
theorem Ng(xs:List Int)(x:Int)(hn:xs.length≤2147483648):Fn Try.prog 33 [.bs tInt xs,.lit (.int .i64 x)] (.lit (.bool (xs.contains x))):=by
 refine⟨by kernel_rfl,fun w S vs hS hr=>?_⟩;unfold Ah at hr;obtain⟨v,us,rfl,h1,h2⟩:=hr;obtain⟨u,us',rfl,h3,h4⟩:=by unfold Ah at h2;exact h2
 unfold Ah at h4;subst h4;unfold AV.rel at h1 h3;subst h3;refine(L1 h1 hn).mono fun e w' ⟨he,hw⟩=>?_
 subst hw;exact⟨_,he,Below.refl _ _,S,fun _ h=>h,fun _ h=>.inl h,hS,by unfold AV.rel;rfl⟩
def Ty.sliceN{α:Type}(T:Ty α):Ty (List α) where
 size:=1
 bulk:=T.slice.bulk
 RS:=fun w S cs ds=>T.slice.RS w S cs ds∧(ds= []→cs= [.slice none 0 0])
 len:=fun h=>T.slice.len h.1
 keepS:=fun h hb hS=>⟨T.slice.keepS h.1 hb hS,h.2⟩
theorem Ty.sliceN_nilS{α:Type}(T:Ty α)(w:World)(S:Nat→Prop):T.sliceN.RS w S [.slice none 0 0] []:=⟨T.slice_nilS w S,fun _=>rfl⟩
section
variable{P:Program}{C:Ctx}{t:List AV}{h:List ABlk}{o:Oper}{α:Type}{T:Ty α}
theorem UY{l:List α}(hl:(!l.isEmpty)=true):WZ h T.sliceN (.bs T l) l:=fun C S ψ w v H hv=>⟨WZ.bs C S ψ w v H hv,fun e=>by subst e;cases hl⟩
theorem P2(T:Ty α):W4 T.sliceN fun l=>[.bs T l]:=fun w S h ψ cs d H=>M9 T w S h ψ cs d H.1
theorem UJ(T:Ty α):W4 T.sliceN fun l=>[.tv T.sliceN l]:=fun w S h ψ cs d H=>by
 obtain⟨A,c,rfl,_⟩:=id H.1;unfold Ah;refine⟨_,_,rfl,?_,?_⟩
 ·unfold AV.rel;exact H
 ·unfold Ah;rfl
instance(T:Ty α):EncOf T.sliceN fun l=>[.bs T l]:=⟨P2 T,fun w S cs d H=>one1_slice w S cs d H.1,Nat.zero_lt_one⟩
theorem KG{ty:TypeId}{x:Operand}{n i ver k off:Nat}{e:TypeId}{l:List (List α)}{d:List α}[AG P ty false n](ho:o.op= .load ty x)(hx:WO t x= .rp i ver k off)(hi:h[i]? =some (.row ver e T.sliceN l))(hk:l[k]? =some d)(h0:off=0:=by rfl):Az P C t h o (.tv T.sliceN d):=by
 subst h0;exact CR ho AG.eq hx (G1.rp hi hk (UJ T)) rfl
theorem Vh{w:World}{S:Nat→Prop}{v:Value}{l:List α}(hv:T.sliceN.RS w S [v] l):∃A n c,v= .slice A n c∧A.isNone=l.isEmpty:=by
 obtain⟨⟨A,c,e,hl,hc,hi⟩,h2⟩:=hv;cases e;refine⟨A,_,_,rfl,?_⟩;cases l with
 |nil=>cases h2 rfl;rfl
 |cons x l=>
  obtain⟨b,o,rfl,_⟩:=hi 0 x rfl;rfl
theorem QP{ty:TypeId}(h:GT P ty=true):∃e,P.underlying ty=some (.slice e):=by
 unfold GT at h;split at h
 ·exact⟨_,by assumption⟩
 ·cases h
theorem OA{xt yt:TypeId}{x y:Operand}{l:List α}[SL P xt](ho:o.op= .binOp .eql xt x y yt)(hx:WO t x= .tv T.sliceN l)(hy:WO t y= .lit (.slice none 0 0)):Az P C t h o (.lit (.bool l.isEmpty)):=
 AL fun S ψ w ρ _ hρ=>by
  have h1:=hρ x (by simp[ho,Op.operands]);have h2:=hρ y (by simp[ho,Op.operands]);rw[hx]at h1;rw[hy]at h2;unfold AV.rel at h1 h2;obtain⟨A,n,c,hv,hA⟩:=Vh h1;obtain⟨e,he⟩:=QP (SL.eq (P:=P) (ty:=xt));refine⟨.bool A.isNone,?_,by rw[hA];unfold AV.rel;rfl⟩;simp[execOp,ho,hv,h2,eqGuard,binOp,run_equal_slice_nil _ _ _ _ _ _ he]
end
def FH(l:List Int):M (List Int):=M.chk (decide (l.length≤2147483648)) (M.ok l)
theorem GB{l:List Int}{r:List Int}(H:(FH l).to r):Mc Try.prog 49 [.bs tInt l] 3 tInt r:=by
 obtain⟨c,H⟩:=Ag.1 H;obtain rfl:=Ab.1 H;refine⟨by kernel_rfl,fun w S vs hS hr=>?_⟩;unfold Ah at hr;obtain⟨v,us,rfl,h1,h2⟩:=hr;unfold Ah at h2;subst h2;unfold AV.rel at h1;have hR:tInt.slice.R w w.heap.size [v] l:=VD h1 hS;obtain⟨A,ca,rfl⟩:=BG hR;refine(Nh hR (of_decide_eq_true c)).mono ?_;rintro e w' ⟨v',rfl,hO,hb⟩;refine⟨v',_,rfl,hb,hO,fun i d hd=>?_⟩;show tInt.RS w' S (((l.map (Value.int .i64)).drop (i * 1)).take 1) d;have hi:(l.map (Value.int .i64))[i]? =some (.int .i64 d):=by rw[List.getElem?_map,hd];rfl
 rw[Nat.mul_one,List.take_one,List.head?_drop,hi];obtain⟨_,_,_,_,hw⟩:=GD hR hd;exact FF.2 ⟨rfl,hw.2⟩
def CY(l:List Int)(n:Int):M Bool:=M.chk (decide (l.length≤2147483648)) (M.ok (l.contains n))
theorem EU{l:List Int}{n:Int}{r:Bool}(H:(CY l n).to r):Fn Try.prog 33 [.bs tInt l,.lit (.int .i64 n)] (.lit (.bool r)):=by
 obtain⟨c,H⟩:=Ag.1 H;obtain rfl:=Ab.1 H;exact Ng l n (of_decide_eq_true c)
noncomputable section
def En(f:Func):M (List (List Int)):=M.chk (M8 f) (M.ok (Gy f f.blocks.length))
theorem Fo{f:Func}{r:List (List Int)}(H:(En f).to r):Fn Try.prog 30 [.agg (Ap f)] (.bs tInt.slice r):=by
 obtain⟨c,H⟩:=Ag.1 H;obtain rfl:=Ab.1 H;have c1:=BL.1 c;exact Sb f c1.ok c1.small
def Ba(s1:List Int)(s2:List Int):Int→M (Int⊕((Unit)⊕(Bool))):=fun x3=>M.cnd (decide (x3 < (s1.length:Int))) (M.chk (Bq s1 x3) (M.chk (Bq s2 x3) (M.cnd ((ixD s1 x3) !=(ixD s2 x3)) (M.ok (.inr (.inr false))) (M.ok (.inl (IntKind.i64.wrap (x3+1))))))) (M.ok (.inr (.inl ())))
def BE(s1:List Int)(s2:List Int):M Bool:=M.cnd ((s1.length:Int) !=(s2.length:Int)) (M.ok false) (M.els (M.loop (Ba s1 s2) 0) fun _=>M.ok true)
theorem Fx{s1:List Int}{s2:List Int}{r:Bool}(H:(BE s1 s2).to r):Fn Try.prog 50 [.bs tInt s1,.bs tInt s2] (.lit (.bool r)):=by
 delta BE at H;try dsimp only at H
 refine AM Try.func50 rfl (by kernel_rfl) rfl Try.ntmps50 fun C hC=>?_
 simp only[List.length_cons,List.length_nil,Nat.reduceAdd,Nat.reduceSub,List.replicate_succ,List.replicate_zero,List.cons_append,List.nil_append];refine wS (sT (wN ?_));refine Aq fun Khs1 hs1=>?_
 refine wS (sT (sT (sT (sT (sT (wN ?_))))));refine An rfl (fun hb2=>?_) (fun hb2=>?_)
 ·have H:=Au hb2 H;refine wS (sT (wN ?_));obtain rfl:=Ab.1 H;exact AH ⟨.inr rfl,W0.cl rfl⟩
 ·have H:=Av hb2 H;refine As ?_;refine hs1 _ ?_;refine nT ?_;obtain⟨z4,HX4,Hl4,Hq4⟩:=Ce H;refine AE (β:=(Unit)×(Unit)) (fun q4=>z4= .inl q4.1) (fun q4=>⟨Xe (A6 []),[]⟩) ?_ ?_
  ·refine wS (sT (sT (sT (wN ?_))));refine Aj ?_;refine AJ HX4 (fun s4 b4=>⟨.bs tInt s1::.bs tInt s2::Xf (.lit (.int .i64 (s1.length:Int))::.lit (.int .i64 s4)::Xf (A2 [])),[]⟩) () (?_) ?_
   ·try dsimp only
    exact AA
   ·rintro x3 _ x4 H Hr4;try dsimp only
    dsimp only[Ba]at H;refine wS (sT (wN ?_));refine Aq fun Khs5 hs5=>?_
    refine An rfl (fun hb6=>?_) (fun hb6=>?_)
    ·have H:=Au hb6 H;refine As ?_;refine hs5 _ ?_;refine nT ?_;refine Aq fun Khs7 hs7=>?_
     refine Aj ?_;refine wS (sT (sT (wN ?_)));obtain⟨c8,H⟩:=Ag.1 H;obtain⟨c9,H⟩:=Ag.1 H;refine dS 9 (hq:=?_);refine qT (qT (qX c8 (qT (qT (qT (qX c9 (qT (qT (qN (wN ?_))))))))));refine An rfl (fun hb10=>?_) (fun hb10=>?_)
     ·have H:=Au hb10 H;refine wS (sT (wN ?_));have H:=Ab.2 (Hq4 _ (Hr4 _ (Ab.1 H).symm).symm);obtain rfl:=Ab.1 H;exact AH ⟨.inr rfl,W0.cl rfl⟩
     ·have H:=Av hb10 H;refine As ?_;refine hs7 _ ?_;refine nT ?_;refine We (sT (sT (wN ?_)));have e4:=Ab.1 H;repeat(first|refine WV ?_|refine asN ?_)
      refine Am ⟨_,(),e4.symm,?_⟩;try dsimp only
      exact AA
    ·have H:=Av hb6 H;refine AI ?_;repeat(first|refine AU ?_|refine exO (by decide) ?_|refine asE ?_)
     refine WN ?_;have e4:=Hr4 _ (Ab.1 H).symm;repeat(first|refine WV ?_|refine asN ?_)
     refine Am ⟨(_,()),e4.symm,?_⟩;try dsimp only
     exact AA
  ·rintro⟨_,_⟩ hz4;try dsimp only at hz4
   have H:=Hl4 _ hz4;try dsimp only
   refine wS (sT (wN ?_));obtain rfl:=Ab.1 H;exact AH ⟨.inr rfl,W0.cl rfl⟩
def Cj(r1:List Int)(r2:List (List Int))(l15:List (List Int))(x13:Int):((List Int)×Bool×Int)→M (((List Int)×Bool×Int)⊕((List Int))):=fun(l29,some30,x31)=>M.cnd (decide (x31 < ((ixD r2 (ixD r1 x13)).length:Int))) (M.bnd (M.chk (Bq (ixD r2 (ixD r1 x13)) x31) (M.chk (Bq l15 (ixD (ixD r2 (ixD r1 x13)) x31)) (M.cnd ((ixD l15 (ixD (ixD r2 (ixD r1 x13)) x31)).isEmpty) (M.ok (l29,some30)) (M.cnd (!some30) (M.chk (Bq l15 (ixD (ixD r2 (ixD r1 x13)) x31)) (M.ok (ixD l15 (ixD (ixD r2 (ixD r1 x13)) x31),true))) (M.chk (Bq l15 (ixD (ixD r2 (ixD r1 x13)) x31)) (M.bnd (Em l29 (ixD l15 (ixD (ixD r2 (ixD r1 x13)) x31))) fun r48=>M.ok (r48,some30))))))) fun(l38,some39)=>M.ok (.inl (l38,some39,IntKind.i64.wrap (x31+1)))) (M.ok (.inr l29))
def B0(r1:List Int)(r2:List (List Int)):(Bool×Int×(List (List Int)))→M ((Bool×Int×(List (List Int)))⊕(Bool×(List (List Int)))):=fun(more12,x13,l15)=>M.cnd (decide (x13 < (r1.length:Int))) (M.bnd (M.chk (Bq r1 x13) (M.chk (Bq r2 (ixD r1 x13)) (M.bnd (M.loop (Cj r1 r2 l15 x13) ([],false,0)) fun l34=>M.bnd (M.cnd ((ixD r1 x13) ==0) (M.ok []) (M.ok l34)) fun l49=>M.bnd (Cb l49 (ixD r1 x13)) fun r53=>M.bnd (M.cnd (!r53.2) (M.bnd (FH l49) fun r58=>M.chk (Wd .i64 (ixD r1 x13)) (M.chk (decide (0≤r53.1∧Int.toNat r53.1≤r58.length)) (M.chk (decide (r58.length≤2147483648)) (M.ok (List.take (Int.toNat r53.1) r58++(ixD r1 x13)::List.drop (Int.toNat r53.1) r58))))) (M.ok l49)) fun l54=>M.chk (Bq l15 (ixD r1 x13)) (M.bnd (BE l54 (ixD l15 (ixD r1 x13))) fun r63=>M.cnd (!r63) (M.chk (Bq l15 (ixD r1 x13)) (M.chk (!l54.isEmpty) (M.ok (true,l15.set (Int.toNat (ixD r1 x13)) l54)))) (M.ok (more12,l15)))))) fun(more22,l24)=>M.ok (.inl (more22,IntKind.i64.wrap (x13+1),l24))) (M.ok (.inr (more12,l15)))
def Fp(r1:List Int)(r2:List (List Int)):(Bool×(List (List Int)))→M ((Bool×(List (List Int)))⊕((List (List Int)))):=fun(more4,l6)=>M.cnd more4 (M.bnd (M.loop (B0 r1 r2) (false,0,l6)) fun(more17,l19)=>M.ok (.inl (more17,l19))) (M.ok (.inr l6))
def BQ(f:Func):M (List (List Int)):=M.bnd (Gp f) fun r1=>M.bnd (En f) fun r2=>M.chk (JW (f.blocks.length:Int) 24) (M.bnd (M.loop (Fp r1 r2) (true,List.replicate (Int.toNat (f.blocks.length:Int)) [])) fun l9=>M.ok l9)
theorem IP{f:Func}{r:List (List Int)}(H:(BQ f).to r):Fn Try.prog 19 [.agg (Ap f)] (.bs tInt.sliceN r):=by
 delta BQ at H;try dsimp only at H
 refine AM Try.func19 rfl (by kernel_rfl) rfl Try.ntmps19 fun C hC=>?_
 simp only[List.length_cons,List.length_nil,Nat.reduceAdd,Nat.reduceSub,List.replicate_succ,List.replicate_zero,List.cons_append,List.nil_append];refine wS (sB (sT (wN ?_)));obtain⟨r1,k1,H⟩:=Af.1 H;have k1:=M6 k1;obtain⟨r2,k2,H⟩:=Af.1 H;have k2:=Fo k2;refine dS 6 (hq:=?_);refine qT (qC k1 (qT (qC k2 (qT (qT (qN (wN ?_)))))));obtain⟨c3,H⟩:=Ag.1 H;refine wS (sT (sT (sT ?_)));(refine AT rfl (Gd 1 rfl (T:=tInt.sliceN) (e:=27) (v:=.slice none 0 0) (bytes:=24) ([]:List Int) rfl (by kernel_rfl) rfl (fun w S=>tInt.sliceN_nilS w S) rfl rfl c3 ?_);refine Dz (ht:=(Al (Al Id))) ?_);refine sT (wN ?_);obtain⟨z7,HX7,Hl7⟩:=Af.1 H;refine AE (β:=((List (List Int)))×(Nat)) (fun q7=>z7=q7.1) (fun q7=>⟨A5 (.own 1 q7.2::Xc (A2 [])),[.dead,.row q7.2 27 tInt.sliceN q7.1]⟩) ?_ ?_
 ·refine wS (sT (wN ?_));refine Aj ?_;refine AJ HX7 (fun s7 b7=>⟨A3 (.bs tInt r1::.bs tInt.slice r2::.own 1 b7::.lit (.bool s7.1)::Xc [.any]),[.dead,.row b7 27 tInt.sliceN s7.2]⟩) 0 (?_) ?_
  ·try dsimp only
   exact WH (Cut.dead (Cut.cons (Cut.nil _)))
  ·rintro⟨more4,l6⟩ v5 x7 H Hr7;try dsimp only
   dsimp only[Fp]at H;refine Aq fun Khs10 hs10=>?_
   refine wS (sT (wN ?_));refine An rfl (fun hb11=>?_) (fun hb11=>?_)
   ·have H:=Au hb11 H;refine As ?_;refine hs10 _ ?_;refine nT ?_;obtain⟨z16,HX16,Hl16⟩:=Af.1 H;refine F9 (β:=(Bool×(List (List Int)))×(Nat)) (fun q16=>z16=q16.1) (fun q16=>⟨A3 (.bs tInt r1::.bs tInt.slice r2::.own 1 q16.2::.lit (.bool q16.1.1)::Xc [.any]),[.dead,.row q16.2 27 tInt.sliceN q16.1.2]⟩) ?_ ?_
    ·refine Aj ?_;refine wS (sT (wN ?_));refine wS (sT (sT (sT (wN ?_))));refine Aj ?_;refine AJ HX16 (fun s16 b16=>⟨A3 (.bs tInt r1::.bs tInt.slice r2::.own 1 b16::.lit (.bool s16.1)::Xf (A7 (.bs tInt r1::.lit (.int .i64 (r1.length:Int))::.lit (.int .i64 s16.2.1)::Xd (Xe [.any])))),[.dead,.row b16 27 tInt.sliceN s16.2.2]⟩) v5 (?_) ?_
     ·try dsimp only
      exact AA
     ·rintro⟨more12,x13,l15⟩ v14 x16 H Hr16;try dsimp only
      dsimp only[B0]at H;refine wS (sT (wN ?_));refine Aq fun Khs20 hs20=>?_
      refine An rfl (fun hb21=>?_) (fun hb21=>?_)
      ·have H:=Au hb21 H;refine As ?_;refine hs20 _ ?_;refine nT ?_;obtain⟨z25,HX25,Hl25⟩:=Af.1 H;refine AE (β:=(Bool×(List (List Int)))×(Nat)) (fun q25=>z25=q25.1) (fun q25=>⟨A3 (.bs tInt r1::.bs tInt.slice r2::.own 1 q25.2::.lit (.bool q25.1.1)::Xf (A7 (.bs tInt r1::.lit (.int .i64 (r1.length:Int))::.lit (.int .i64 x13)::Xd (Xe [.any])))),[.dead,.row q25.2 27 tInt.sliceN q25.1.2]⟩) ?_ ?_
       ·have H:=HX25;refine Aj ?_;obtain⟨c26,H⟩:=Ag.1 H;refine wS (sX c26 (sT (sT (wN ?_))));refine wS (sT (wN ?_));refine wS (sT (wN ?_));refine Be _ (Jp 9 tInt rfl) ?_;obtain⟨c28,H⟩:=Ag.1 H;obtain⟨z33,HX33,Hl33⟩:=Af.1 H;refine AE (β:=((List Int))×(Nat)) (fun q33=>z33=q33.1) (fun q33=>⟨A3 (.bs tInt r1::.bs tInt.slice r2::.own 1 q33.2::.lit (.bool more12)::.any::.lit (.int .i64 (ixD r1 x13))::.bs tInt q33.1::Xf (A4 (.bs tInt r1::.lit (.int .i64 (r1.length:Int))::.lit (.int .i64 x13)::Xd (Xe [.any])))),[.dead,.row q33.2 27 tInt.sliceN l15]⟩) ?_ ?_
        ·refine wS (sT (sT (sX c28 (sT (sT (sT (wN ?_)))))));refine Aj ?_;refine AJ HX33 (fun s33 b33=>⟨A3 (.bs tInt r1::.bs tInt.slice r2::.own 1 b33::.lit (.bool more12)::.any::.lit (.int .i64 (ixD r1 x13))::.bs tInt s33.1::.lit (.bool s33.2.1)::Xf (A3 (.bs tInt r1::.lit (.int .i64 (r1.length:Int))::.lit (.int .i64 x13)::A6 (.bs tInt (ixD r2 (ixD r1 x13))::.lit (.int .i64 ((ixD r2 (ixD r1 x13)).length:Int))::.lit (.int .i64 s33.2.2)::Xd (Xf (A2 [])))))),[.dead,.row b33 27 tInt.sliceN l15]⟩) v14 (?_) ?_
         ·try dsimp only
          exact AA
         ·rintro⟨l29,some30,x31⟩ v32 x33 H Hr33;try dsimp only
          dsimp only[Cj]at H;refine wS (sT (wN ?_));refine Aq fun Khs36 hs36=>?_
          refine An rfl (fun hb37=>?_) (fun hb37=>?_)
          ·have H:=Au hb37 H;refine As ?_;refine hs36 _ ?_;refine nT ?_;obtain⟨z41,HX41,Hl41⟩:=Af.1 H;refine AE (β:=((List Int)×Bool)×(Nat)) (fun q41=>z41=q41.1) (fun q41=>⟨A3 (.bs tInt r1::.bs tInt.slice r2::.own 1 q41.2::.lit (.bool more12)::.any::.lit (.int .i64 (ixD r1 x13))::.bs tInt q41.1.1::.lit (.bool q41.1.2)::Xf (A3 (.bs tInt r1::.lit (.int .i64 (r1.length:Int))::.lit (.int .i64 x13)::A6 (.bs tInt (ixD r2 (ixD r1 x13))::.lit (.int .i64 ((ixD r2 (ixD r1 x13)).length:Int))::.lit (.int .i64 x31)::Xd (Xf (A2 [])))))),[.dead,.row q41.2 27 tInt.sliceN l15]⟩) ?_ ?_
           ·have H:=HX41;refine Aj ?_;obtain⟨c42,H⟩:=Ag.1 H;refine wS (sX c42 (sT (sT (wN ?_))));refine Aj ?_;obtain⟨c43,H⟩:=Ag.1 H;refine wS (sT (sT ?_));refine sA (hq:=AS rfl (Ar (Aw Iu)) rfl (Ar (Aw Ji)) rfl c43) (ht:=(Ak (Al (Al Hg)))) ?_;refine sA (hq:=KG rfl (Ar (Aw (Aw Kv))) rfl (A0 c43)) (ht:=(Ak (Al (Al IF)))) ?_;refine sA (hq:=OA rfl (Ar (Aw (Aw J4))) Mk) (ht:=(Ak (Al (Al GL)))) ?_;refine sT (wN ?_);refine An rfl (fun hb44=>?_) (fun hb44=>?_)
            ·have H:=Au hb44 H;refine As ?_;have e41:=Ab.1 H;repeat(first|refine WV ?_|refine asN ?_)
             refine Am ⟨(_,v32),e41.symm,?_⟩;try dsimp only
             exact AA
            ·have H:=Av hb44 H;refine wS (sT (sT (sT (wN ?_))));refine An rfl (fun hb45=>?_) (fun hb45=>?_)
             ·have H:=Au hb45 H;obtain⟨c46,H⟩:=Ag.1 H;refine We (sT (sT ?_));refine sA (hq:=AS rfl (Ar (Aw (Aw Iu))) rfl (Ar (Aw (Aw Ji))) rfl c46) (ht:=(Ak (Al (Al (Al Hg))))) ?_;refine sA (hq:=AO rfl (Ar (Aw (Aw (Aw Kv)))) rfl (A0 c46) rfl) (ht:=(Ak (Al (Al (Al IF))))) ?_;refine sT (sT (wN ?_));have e41:=Ab.1 H;repeat(first|refine WV ?_|refine asN ?_)
              refine Am ⟨(_,v32),e41.symm,?_⟩;try dsimp only
              exact AA
             ·have H:=Av hb45 H;obtain⟨c47,H⟩:=Ag.1 H;obtain⟨r48,k48,H⟩:=Af.1 H;have k48:=LY k48;refine We (sT (sT (sT ?_)));refine sA (hq:=AS rfl (Ar (Aw Kv)) rfl (Ar (Aw J4)) rfl c47) (ht:=(Ak (Al GL))) ?_;refine sA (hq:=AO rfl (Ar (Aw M1)) rfl (A0 c47) rfl) (ht:=(Ak (Al Hf))) ?_;(refine AT rfl (Cw 2 rfl rfl k48 (by decide) B4 (.cons (.cl rfl) (.cons (.cl rfl) .nil)) ?_);refine Dz (ht:=(Ak (Al JC))) ?_);refine sT (wN ?_);have e41:=Ab.1 H;repeat(first|refine WV ?_|refine asN ?_)
              refine Am ⟨(_,v32),e41.symm,?_⟩;try dsimp only
              refine(Pm hC 2 rfl (by(simp only[fzH,Dm,AV.fz,ABlk.fz,List.map_cons,List.map_nil,List.drop_zero,List.take_succ_cons,List.take_zero,List.set_cons_succ,List.set_cons_zero,and_self,and_true,true_and,if_true,Nat.reduceEqDiff,false_and,if_false];first|done|exact rfl)) (by(simp only[fzH,Dm,AV.fz,ABlk.fz,List.map_cons,List.map_nil,List.drop_zero,List.take_succ_cons,List.take_zero,List.set_cons_succ,List.set_cons_zero,and_self,and_true,true_and,if_true,Nat.reduceEqDiff,false_and,if_false];first|done|exact rfl))).trans ?_;exact WH (Cut.cons (Cut.cons (Cut.nil _)))
           ·rintro⟨⟨l38,some39⟩,v40⟩ hz41;try dsimp only at hz41
            have H:=Hl41;rw[hz41]at H;try dsimp only at H⊢
            refine We (sT (sT (wN ?_)));have e33:=Ab.1 H;repeat(first|refine WV ?_|refine asN ?_)
            refine Am ⟨_,v40,e33.symm,?_⟩;try dsimp only
            exact AA
          ·have H:=Av hb37 H;refine AI ?_;repeat(first|refine AU ?_|refine exO (by decide) ?_|refine asE ?_)
           refine WN ?_;have e33:=Hr33 _ (Ab.1 H).symm;repeat(first|refine WV ?_|refine asN ?_)
           refine Am ⟨(_,v32),e33.symm,?_⟩;try dsimp only
           exact AA
        ·rintro⟨l34,v35⟩ hz33;try dsimp only at hz33
         have H:=Hl33;rw[hz33]at H;try dsimp only
         obtain⟨z51,HX51,Hl51⟩:=Af.1 H;refine AE (β:=((List Int))×(Nat)) (fun q51=>z51=q51.1) (fun q51=>⟨A3 (.bs tInt r1::.bs tInt.slice r2::.own 1 q51.2::.lit (.bool more12)::.any::.lit (.int .i64 (ixD r1 x13))::.bs tInt q51.1::Xf (A4 (.bs tInt r1::.lit (.int .i64 (r1.length:Int))::.lit (.int .i64 x13)::Xd (Xe [.any])))),[.dead,.row q51.2 27 tInt.sliceN l15]⟩) ?_ ?_
         ·have H:=HX51;refine wS (sT (sT (wN ?_)));refine An rfl (fun hb52=>?_) (fun hb52=>?_)
          ·have H:=Au hb52 H;refine We (sT (wN ?_));have e51:=Ab.1 H;repeat(first|refine WV ?_|refine asN ?_)
           refine Am ⟨(_,v35),e51.symm,?_⟩;try dsimp only
           refine(Jp 9 tInt rfl).trans ?_;exact AA
          ·have H:=Av hb52 H;refine As ?_;have e51:=Ab.1 H;repeat(first|refine WV ?_|refine asN ?_)
           refine Am ⟨(_,v35),e51.symm,?_⟩;try dsimp only
           exact AA
         ·rintro⟨l49,v50⟩ hz51;try dsimp only at hz51
          have H:=Hl51;rw[hz51]at H;try dsimp only
          obtain⟨r53,k53,H⟩:=Af.1 H;have k53:=DD k53;refine wS (sT (sT (sC k53 (sT (sT (sT (sT (sT (wN ?_)))))))));obtain⟨z56,HX56,Hl56⟩:=Af.1 H;refine AE (β:=((List Int))×(Nat)) (fun q56=>z56=q56.1) (fun q56=>⟨A3 (.bs tInt r1::.bs tInt.slice r2::.own 1 q56.2::.lit (.bool more12)::.any::.lit (.int .i64 (ixD r1 x13))::.bs tInt q56.1::Xf (A4 (.bs tInt r1::.lit (.int .i64 (r1.length:Int))::.lit (.int .i64 x13)::Xd (Xe [.any])))),[.dead,.row q56.2 27 tInt.sliceN l15]⟩) ?_ ?_
          ·have H:=HX56;refine wS (sT (sT (wN ?_)));refine An rfl (fun hb57=>?_) (fun hb57=>?_)
           ·have H:=Au hb57 H;obtain⟨r58,k58,H⟩:=Af.1 H;have k58:=GB k58;obtain⟨c59,H⟩:=Ag.1 H;obtain⟨c60,H⟩:=Ag.1 H;obtain⟨c61,H⟩:=Ag.1 H;refine We (sT ?_);(refine AT rfl (Cw 2 rfl rfl k58 (by decide) B4 (.cons (.cl rfl) .nil) ?_);refine Dz (ht:=(Ak (Ak Id))) ?_);refine sT (sT ?_);(refine AT rfl (H7 3 rfl (xs:=[.tmp 72]) (T:=tInt) (ds:=[ixD r1 x13]) rfl rfl rfl (RT.eq (n:=1) (bytes:=8)) (by decide) (by decide) (.cons (WZ.int c59) .nil) ?_);refine Dz (ht:=(Ak (Ak (Al IF)))) ?_);(refine AT rfl (Qu (by decide) rfl rfl rfl rfl (of_decide_eq_true c60) rfl rfl (of_decide_eq_true c61) ?_);refine Dz (ht:=(Ak (Ak (Al GL)))) ?_);refine sT (wN ?_);have e56:=Ab.1 H;repeat(first|refine WV ?_|refine asN ?_)
            refine Am ⟨(_,v50),e56.symm,?_⟩;try dsimp only
            refine(Pm hC 2 rfl (by(simp only[fzH,Dm,AV.fz,ABlk.fz,List.map_cons,List.map_nil,List.drop_zero,List.take_succ_cons,List.take_zero,List.set_cons_succ,List.set_cons_zero,and_self,and_true,true_and,if_true,Nat.reduceEqDiff,false_and,if_false];first|done|exact rfl)) (by(simp only[fzH,Dm,AV.fz,ABlk.fz,List.map_cons,List.map_nil,List.drop_zero,List.take_succ_cons,List.take_zero,List.set_cons_succ,List.set_cons_zero,and_self,and_true,true_and,if_true,Nat.reduceEqDiff,false_and,if_false];first|done|exact rfl))).trans ?_;exact WH (Cut.cons (Cut.cons (Cut.nil _)))
           ·have H:=Av hb57 H;refine As ?_;have e56:=Ab.1 H;repeat(first|refine WV ?_|refine asN ?_)
            refine Am ⟨(_,v50),e56.symm,?_⟩;try dsimp only
            exact AA
          ·rintro⟨l54,v55⟩ hz56;try dsimp only at hz56
           have H:=Hl56;rw[hz56]at H;try dsimp only
           obtain⟨c62,H⟩:=Ag.1 H;obtain⟨r63,k63,H⟩:=Af.1 H;have k63:=Fx k63;refine wS (sT (sT (sT ?_)));refine sA (hq:=AS rfl (Ar (Ar (Aw IN))) rfl (Ar (Ar (Aw H8))) rfl c62) (ht:=(Ak (Ak (Al Id)))) ?_;refine sA (hq:=AO rfl (Ar (Ar (Aw Iu))) rfl (A0 c62) rfl) (ht:=(Ak (Ak (Al GK)))) ?_;refine sC k63 (sT (wN ?_));refine An rfl (fun hb64=>?_) (fun hb64=>?_)
           ·have H:=Au hb64 H;obtain⟨c65,H⟩:=Ag.1 H;obtain⟨c66,H⟩:=Ag.1 H;refine We (sT (sT (sT ?_)));refine sA (hq:=AS rfl (Ar (Ar (Aw (Aw M1)))) rfl (Ar (Ar (Aw (Aw Gx)))) rfl c65) (ht:=(Ak (Ak (Al (Al Ge))))) ?_;(refine AT rfl (BW rfl rfl rfl (A0 c65) (UY c66) rfl ?_);refine Dz (ht:=Mw) ?_);refine sT (wN ?_);have e25:=Ab.1 H;repeat(first|refine WV ?_|refine asN ?_)
            refine Am ⟨(_,v55),e25.symm,?_⟩;try dsimp only
            exact AA
           ·have H:=Av hb64 H;refine As ?_;have e25:=Ab.1 H;repeat(first|refine WV ?_|refine asN ?_)
            refine Am ⟨(_,v55),e25.symm,?_⟩;try dsimp only
            exact AA
       ·rintro⟨⟨more22,l24⟩,v23⟩ hz25;try dsimp only at hz25
        have H:=Hl25;rw[hz25]at H;try dsimp only at H⊢
        refine We (sT (sT (wN ?_)));have e16:=Ab.1 H;repeat(first|refine WV ?_|refine asN ?_)
        refine Am ⟨_,v23,e16.symm,?_⟩;try dsimp only
        exact AA
      ·have H:=Av hb21 H;refine AI ?_;repeat(first|refine AU ?_|refine exO (by decide) ?_|refine asE ?_)
       refine WN ?_;have e16:=Hr16 _ (Ab.1 H).symm;repeat(first|refine WV ?_|refine asN ?_)
       refine Am ⟨(_,v14),e16.symm,?_⟩;try dsimp only
       exact AA
    ·rintro⟨⟨more17,l19⟩,v18⟩ s16 hz16 hle16;try dsimp only at hz16
     try dsimp only at hle16
     have H:=Hl16;rw[hz16]at H;try dsimp only at H
     have e7:=Ab.1 H;repeat(first|refine WV ?_|refine asN ?_)
     refine Am ⟨_,v18,e7.symm,?_⟩;try dsimp only
     refine St.le.trans hle16 ?_;exact AA
   ·have H:=Av hb11 H;refine AI ?_;repeat(first|refine AU ?_|refine exO (by decide) ?_|refine asE ?_)
    refine WN ?_;have e7:=Hr7 _ (Ab.1 H).symm;repeat(first|refine WV ?_|refine asN ?_)
    refine Am ⟨(_,v5),e7.symm,?_⟩;try dsimp only
    exact AA
 ·rintro⟨l9,v8⟩ hz7;try dsimp only at hz7
  have H:=Hl7;rw[hz7]at H;try dsimp only
  refine wS (sT (sT (wN ?_)));obtain rfl:=Ab.1 H;exact AH ⟨.inr rfl,W0.own rfl⟩
end
section
variable{h:List ABlk}{i:Nat}
inductive LendX (h:List ABlk) (i:Nat):List AV→List AV→Prop
 |nil:LendX h i [] []
 |boxI {j:Nat} {n:Int} {l l':List AV} (hij:i≠j) (hj:h[j]? =some (.box [.lit (.int .i64 n)])) (hw:Wd .i64 n=true) (hl:LendX h i l l'):LendX h i (.ptr j 0::l) (.bp tInt n 0::l')
 |boxS {j:Nat} {α:Type} {T:Ty α} {d:List α} {l l':List AV} (hij:i≠j) (hj:h[j]? =some (.box [.bs T d])) (hl:LendX h i l l'):LendX h i (.ptr j 0::l) (.bp T.slice d 0::l')
variable{C:Ctx}{w:World}{S:Nat→Prop}{ψ:Nat→Value}
theorem V1(H:HRel C h S ψ w)(hli:ABlk.live h[i]? =true)(hfi:∀g,Bl (ψ i)=some g→WL h[i]? (ψ i) g){j:Nat}{x:AV}{v:Value}{α:Type}{T:Ty α}{d:α}(hij:i≠j)(hj:h[j]? =some (.box [x]))(hp:∀u,AV.rel w S h ψ x u→T.RS w S [u] d)(hS:∀k,S k→k < w.heap.size∧Bl (ψ i)≠some k)(hr:AV.rel w S h ψ (.ptr j 0) v):
 AV.rel w (fun k=>k < w.heap.size∧Bl (ψ i)≠some k) [] ψ0 (.bp T d 0) v:=by
 unfold AV.rel at hr⊢;obtain⟨g,hg,hv⟩:=hr.2 (by rw[hj];rfl);obtain⟨g',cs,e',hg',_,_,hw,hcs⟩:=H.blk _ _ hj;rw[hg]at hg';cases hg';have hlt:g < w.heap.size:=(Array.getElem?_eq_some_iff.1 hw).1;obtain⟨u,us,rfl,hu,hus⟩:=by unfold Ah at hcs;exact hcs
 unfold Ah at hus;subst hus;refine⟨g,0,hv,⟨hlt,fun e=>?_⟩,[u],T.keepS (hp u hu) (fun _ _=>rfl) hS,fun j' u' hj'=>?_⟩
 ·exact H.dis i j hij hli (by rw[hj];rfl) g (hfi g e) (by rw[hj,hg];rfl)
 ·cases j' with
  |zero=>
   simp only[List.getElem?_cons_zero,Option.some.injEq]at hj';subst hj';unfold World.cell?;simp[hw]
  |succ j'=>simp at hj'
theorem LendX.rel(H:HRel C h S ψ w)(hli:ABlk.live h[i]? =true)(hfi:∀g,Bl (ψ i)=some g→WL h[i]? (ψ i) g)(hS:∀k,S k→k < w.heap.size∧Bl (ψ i)≠some k){l l':List AV}(hl:LendX h i l l'):
 ∀{vs:List Value},Ah w S h ψ l vs→Ah w (fun k=>k < w.heap.size∧Bl (ψ i)≠some k) [] ψ0 l' vs:=by
 induction hl with
 |nil=>intro vs hr;unfold Ah at hr⊢;exact hr
 |boxI hij hj hw _ ih=>
  intro vs hr;unfold Ah at hr⊢;obtain⟨v,us,rfl,h1,h2⟩:=hr;refine⟨v,us,rfl,V1 H hli hfi hij hj (fun u hu=>?_) hS h1,ih h2⟩;unfold AV.rel at hu;subst hu;exact⟨rfl,hw⟩
 |boxS hij hj _ ih=>
  intro vs hr;unfold Ah at hr⊢;obtain⟨v,us,rfl,h1,h2⟩:=hr;refine⟨v,us,rfl,V1 H hli hfi hij hj (fun u hu=>?_) hS h1,ih h2⟩;unfold AV.rel at hu;exact hu
inductive LendF (h:List ABlk) (i:Nat):AV→AV→Prop
 |cl {x:AV} (hx:AV.cl x=true):LendF h i x x
 |fn {f:FuncId} {l l':List AV} (hl:LendX h i l l'):LendF h i (.fn f l) (.fn f l')
theorem LendF.of_eq{x y z:AV}(e:x=y)(hf:LendF h i y z):LendF h i x z:=by rw[e];exact hf
inductive LendFs (h:List ABlk) (i:Nat):List AV→List AV→Prop
 |nil:LendFs h i [] []
 |cons {x x':AV} {l l':List AV} (hx:LendF h i x x') (hl:LendFs h i l l'):LendFs h i (x::l) (x'::l')
theorem LendFs.rel(H:HRel C h S ψ w)(hli:ABlk.live h[i]? =true)(hfi:∀g,Bl (ψ i)=some g→WL h[i]? (ψ i) g)(hS:∀k,S k→k < w.heap.size∧Bl (ψ i)≠some k){l l':List AV}(hl:LendFs h i l l'):
 ∀{vs:List Value},Ah w S h ψ l vs→Ah w (fun k=>k < w.heap.size∧Bl (ψ i)≠some k) [] ψ0 l' vs:=by
 induction hl with
 |nil=>intro vs hr;unfold Ah at hr⊢;exact hr
 |cons hx _ ih=>
  intro vs hr;unfold Ah at hr⊢;obtain⟨v,us,rfl,h1,h2⟩:=hr;refine⟨v,us,rfl,?_,ih h2⟩;cases hx with
  |cl hc=>exact DU _ _ hc (Gu (Ext.grow h ψ (fun _ _=>rfl) hS:Ext w S h ψ w (fun k=>k < w.heap.size∧Bl (ψ i)≠some k) h ψ) _ _ h1)
  |fn hl=>
   unfold AV.rel at h1⊢;obtain⟨cs,e,hcs⟩:=h1;exact⟨cs,e,hl.rel H hli hfi hS hcs⟩
end
theorem NF{P:Program}{C:Ctx}{o:Oper}{t:List AV}{h:List ABlk}{K:St→Prop}{f:FuncId}{x:Operand}{more:List Operand}{args:Array Operand}{tys:Array TypeId}{i ver:Nat}{e:TypeId}{α:Type}{T:Ty α}{l l':List α}{xs:List AV}
 (ho:o.op= .call {callee:=.value (.func f),args:=args,argTypes:=tys}) (ha:args.toList=x::more) (hF:Li P f e T l xs l') (hx:WO t x= .own i ver) (hi:h[i]? =some (.row ver e T l)) (hflat:∀w S S' cs d,T.RS w S cs d→T.RS w S' cs d) (hm:LendFs h i (more.map (WO t)) xs)
 (hK:K ⟨Bn t o.dst (.own i (ver+1)),h.set i (.row (ver+1) e T l')⟩):Xb P C o ⟨t,h⟩ K:=by
 rintro Q' a w ⟨hd,S,ψ,H,hl⟩;refine⟨fun c e=>(by rw[ho]at e;cases e),?_⟩;have hx':=BC hl x;rw[show WO (St.mk t h).t x= .own i ver from hx]at hx';unfold AV.rel at hx';have hv:=(hx'.2 _ (by rw[hi];rfl)).2 rfl;have hBi:=H.blk i _ hi;have hlt:=hBi.lt rfl;have hfi:∀g,Bl (ψ i)=some g→WL h[i]? (ψ i) g:=fun g hg=>by rw[hi];exact hg
 have hSS:∀k,S k→k < w.heap.size∧Bl (ψ i)≠some k:=fun k hk=>⟨H.lt k hk,fun e=>(hlt k e).2.2 hk⟩
 have h1:Ah w S h ψ (more.map (WO t)) (more.map a.eval):=Cm fun x _=>BC hl x
 have h2:=hm.rel H (by rw[hi];rfl) hfi hSS h1;unfold Oper.wp;rw[CZ ho hF.1 a.eval w rfl];simp only[Oper.upon];have hB0:H5 C.N w (fun k=>k < w.heap.size∧Bl (ψ i)≠some k) [] ψ0 (ψ i) (.row 0 e T l):=by
  obtain⟨cells,k1,k0,k2,k3⟩:=hBi;exact⟨cells,k1,k0,fun j d hd=>hflat _ _ _ _ _ (k2 j d hd),fun g hg=>⟨(k3 g hg).1,fun hs=>hs.2 (AQ hg)⟩⟩
 have hc:=hF.2 C.N _ w (ψ i) (more.map a.eval) (fun k hk=>Nat.lt_of_lt_of_le (H.nlt k hk) H.bel.size) (fun k hk=>hk.1) hB0 h2;rw[show(args.map a.eval)=(ψ i::more.map a.eval).toArray from by
  obtain rfl:args=(x::more).toArray:=by rw[←ha]
  simp[hv]]
 refine hc.mono ?_;rintro r w' ⟨v',rfl,hgr,hB',hor⟩;have hblk:∀k,S k→w'.heap[k]? =w.heap[k]?:=fun k hk=>hgr.block k (H.lt k hk) fun e=>(hlt k e.symm).2.2 hk
 have hBS:H5 C.N w' S [] ψ0 v' (.row 0 e T l'):=by
  obtain⟨cells,k1,k0,k2,k3⟩:=hB';refine⟨cells,k1,k0,fun j d hd=>hflat _ _ _ _ _ (k2 j d hd),fun g hg=>⟨(k3 g hg).1,fun hs=>?_⟩⟩;rcases hor g (AQ hg)with h3|h3
  ·exact(hlt g h3).2.2 hs
  ·have:=H.lt g hs;omega
 have X:Ext w S h ψ w' S (h.set i (.row (ver+1) e T l')) (AX ψ i v'):=Ext.set hblk hi (fun c' hc=>by
  simp only[ABlk.ver,Option.some.injEq]at hc;exact⟨ver,rfl,by omega,fun e=>by omega⟩) fun h=>by simp[AP]at h
 refine⟨_,hK,Gz (s:=⟨t,h⟩) hi hd hl (H.set hi rfl (Gr.of_grownBy hgr) X hBS hor) X ?_⟩;unfold AV.rel;refine⟨by simp[(List.getElem?_eq_some_iff.1 hi).1],fun c' hc'=>?_⟩;rw[List.getElem?_set_self (List.getElem?_eq_some_iff.1 hi).1]at hc';simp only[ABlk.ver,Option.some.injEq]at hc';exact⟨by omega,fun _=>by rw[AR]⟩
theorem Sq{P:Program}{f:FuncId}{args:List AV}{e:TypeId}{α:Type}{T:Ty α}{l:List α}(H:Mc P f args e T l):Sp P f args e T l:=
 ⟨H.1,fun w S vs hS hr=>(H.2 w S vs hS hr).mono fun r w' ⟨v,cells,h1,h2,h3,h4⟩=>⟨v,cells,h1,h2,h3,S,fun _ h=>h,fun _ h=>.inl h,fun k hk=>Nat.lt_of_lt_of_le (hS k hk) h2.size,h4,fun g hg hs=>by
  have:=(h3.lt g hg).1;have:=hS g hs;omega⟩⟩
noncomputable section
def Vt(q:Int→M Bool):List Int→M (List Int)
 | []=>M.ok []
 |x::l=>M.bnd (q x) fun b=>M.bnd (Vt q l) fun r=>M.ok (if b then r else x::r)
open Classical in
def U9(q:Int→M Bool)(x:Int):Bool:=if h:∃b,(q x).to b then h.choose else false
theorem UF{q:Int→M Bool}{x:Int}{b:Bool}(h:(q x).to b):(q x).to (U9 q x):=by
 unfold U9;rw[dif_pos ⟨b,h⟩];exact Exists.choose_spec (⟨b,h⟩:∃b,(q x).to b)
theorem Pb{q:Int→M Bool}:∀{l r:List Int},(Vt q l).to r→(∀x∈l,(q x).to (U9 q x))∧r=l.filter fun x=>!U9 q x
 | [],r,h=>by
  obtain rfl:=Ab.1 h;exact⟨fun x hx=>(by cases hx),rfl⟩
 |x::l,r,h=>by
  obtain⟨b,h1,h2⟩:=Af.1 h;obtain⟨r',h3,h4⟩:=Af.1 h2;obtain rfl:=Ab.1 h4;obtain⟨h5,h6⟩:=Pb h3;have h7:=UF h1;have hb:U9 q x=b:=Cd h7 h1;refine⟨fun y hy=>?_,?_⟩
  ·rcases List.mem_cons.1 hy with rfl|hy
   ·exact h7
   ·exact h5 y hy
  ·rw[List.filter_cons,hb,←h6];cases b <;> rfl
theorem UG{q:Int→M Bool}{l r:List Int}(H:(Vt q l).to r)(hl:l.length≤2147483648)(hw:l.all (Wd .i64)=true){f:FuncId}{caps:List AV}(hp:∀x b,(q x).to b→Fn Try.prog f (.lit (.int .i64 x)::caps) (.lit (.bool b)))(hc:Bm caps=true:=by rfl):
 Li Try.prog 55 3 tInt l [.fn f caps] r:=by
 obtain⟨h1,rfl⟩:=Pb H;exact Tp l hl (fun x hx=>EQ (List.all_eq_true.1 hw x hx)) f caps hc (U9 q) fun x hx=>hp x _ (h1 x hx)
theorem RY{q:Int→M Bool}{p:Int→Bool}:∀{l:List Int},(∀x∈l,(q x).to (p x))→(Vt q l).to (l.filter fun x=>!p x)
 | [],_=>Ad _
 |x::l,h=>by
  have h1:=RY fun y hy=>h y (List.mem_cons_of_mem _ hy)
  refine Ac (h x (by simp)) (Ac h1 ?_);rw[List.filter_cons];cases p x <;> exact Ad _
instance U5:ZC Try.prog 34 [.slice none 0 0]:=⟨by kernel_rfl⟩
def FY(bP0:Int)(c0:List (List Int))(c1:Int):M Bool:=M.chk (Bq c0 bP0) (M.bnd (CY (ixD c0 bP0) c1) fun r2=>M.ok (!r2))
theorem Kz{bP0:Int}{c0:List (List Int)}{c1:Int}{r:Bool}(H:(FY bP0 c0 c1).to r):Fn Try.prog 56 [.lit (.int .i64 bP0),.bp tInt.sliceN.slice c0 0,.bp tInt c1 0] (.lit (.bool r)):=by
 delta FY at H;try dsimp only at H
 refine AM Try.func56 rfl (by kernel_rfl) rfl Try.ntmps56 fun C hC=>?_
 simp only[List.length_cons,List.length_nil,Nat.reduceAdd,Nat.reduceSub,List.replicate_succ,List.replicate_zero,List.cons_append,List.nil_append];refine wS (sT (wN ?_));obtain⟨c1,H⟩:=Ag.1 H;obtain⟨r2,k2,H⟩:=Af.1 H;have k2:=EU k2;refine dS 8 (hq:=?_);refine qT (qT (qX c1 (qT (qT (qC k2 (qT (qT (qN (wN ?_)))))))));obtain rfl:=Ab.1 H;exact AH ⟨.inr rfl,W0.cl rfl⟩
def Ee(f:Func)(hP1:Int):M (List Int):=M.cnd ((decide (hP1 < 0))||(decide (hP1≥(f.blocks.length:Int)))) (M.ok ([]:List Int)) (M.bnd (BQ f) fun r3=>M.bnd (En f) fun r4=>M.chk (Bq r4 hP1) (M.bnd (FH (ixD r4 hP1)) fun r6=>M.chk (Wd .i64 hP1) (M.chk (decide (r6.length≤2147483648)) (M.chk (r6.all (Wd .i64)) (M.bnd (Vt (fun z=>FY z r3 hP1) r6) fun r10=>M.ok r10)))))
theorem IQ{f:Func}{hP1:Int}{r:List Int}(H:(Ee f hP1).to r):Mc Try.prog 27 [.agg (Ap f),.lit (.int .i64 hP1)] 3 tInt r:=by
 delta Ee at H;try dsimp only at H
 refine F8 Try.func27 rfl (by kernel_rfl) rfl Try.ntmps27 B4 fun C hC=>?_
 simp only[List.length_cons,List.length_nil,Nat.reduceAdd,Nat.reduceSub,List.replicate_succ,List.replicate_zero,List.cons_append,List.nil_append];refine wS (sB ?_);(refine AT rfl (Xb.boxI 1 rfl rfl (Ny.one (WY.lit rfl)).weak ?_);refine Dz (ht:=Hf) ?_);refine sT (wN ?_);refine Aq fun Khs1 hs1=>?_
 refine wS (sT (sT (sT ?_)));refine Wo rfl ?_;refine Wo rfl ?_;refine Wo rfl ?_;refine Wo rfl ?_;refine Wo rfl (sT (wN ?_));refine An rfl (fun hb2=>?_) (fun hb2=>?_)
 ·have H:=Au hb2 H;refine wS (sT (wN ?_));obtain rfl:=Ab.1 H;refine Be _ (Dk 4 3 tInt rfl (by decide)) ?_;exact AH ⟨.inr rfl,rfl,2,0,rfl,rfl⟩
 ·have H:=Av hb2 H;refine As ?_;refine hs1 _ ?_;refine nT ?_;obtain⟨r3,k3,H⟩:=Af.1 H;have k3:=IP k3;refine wS (sT (sC k3 (Wp (sW (wN ?_)))));obtain⟨r4,k4,H⟩:=Af.1 H;have k4:=Fo k4;obtain⟨c5,H⟩:=Ag.1 H;obtain⟨r6,k6,H⟩:=Af.1 H;have k6:=Sq (GB k6);obtain⟨c7,H⟩:=Ag.1 H;obtain⟨c8,H⟩:=Ag.1 H;obtain⟨c9,H⟩:=Ag.1 H;obtain⟨r10,k10,H⟩:=Af.1 H;have k10:=UG k10 (of_decide_eq_true c8) c9 fun _ _ H=>Kz H
  refine Be ⟨.agg (Ap f)::.lit (.int .i64 hP1)::.ptr 0 0::.ptr 1 0::.lit (.slice none 0 0)::.ptr 2 0::.lit (.int .i64 hP1)::.lit (.bool (decide (hP1 < 0)))::.lit (.bool (decide (hP1 < 0)))::A5 (.lit (.bool ((decide (hP1 < 0))||(decide (hP1≥(f.blocks.length:Int)))))::.agg (Ap f)::.bs tInt.sliceN r3::A8 []),[.box (Ap f),.box [.lit (.int .i64 hP1)],.box [.bs tInt.sliceN r3],.dead]⟩ (St.le.trans AA (GZ 1 rfl)) ?_;refine Aq fun Kg11 hg11=>?_
  refine Km (n:=9) (fun b=>⟨.agg (Ap f)::.lit (.int .i64 hP1)::.ptr 0 0::.ptr 1 0::(bif b 8 then .own 3 (0+1)else .lit (.slice none 0 0))::.ptr 2 0::.lit (.int .i64 hP1)::.lit (.bool (decide (hP1 < 0)))::.lit (.bool (decide (hP1 < 0)))::A5 [.lit (.bool ((decide (hP1 < 0))||(decide (hP1≥(f.blocks.length:Int))))),.agg (Ap f),.bs tInt.sliceN r3,(bif b 0 then .agg (Ap f)else .any),(bif b 1 then .bs tInt.slice r4 else .any),(bif b 2 then .lit (.int .i64 hP1)else .any),(bif b 3 then .bp tInt.slice (ixD r4 hP1) 0 else .any),(bif b 4 then .bs tInt (ixD r4 hP1)else .any),(bif b 5 then .own 3 0 else .any),(bif b 6 then .fn 56 [.ptr 2 0,.ptr 1 0]else .any),(bif b 7 then .own 3 (0+1)else .any)],[.box (Ap f),.box [.lit (.int .i64 hP1)],.box [.bs tInt.sliceN r3],(bif b 7 then .row (0+1) 3 tInt r10 else(bif b 5 then .row 0 3 tInt r6 else .dead))]⟩) rfl (by kernel_rfl) (by kernel_rfl) ?_ (hg11 _ ?_)
  ·refine Bg (fun b hb ha hc=>?_) ?_
   ·try dsimp only
    refine Bz (AB rfl M1 rfl rfl) ?_;exact St.le.refl
   refine Bg (fun b hb ha hc=>?_) ?_
   ·have h0:b 0=true:=ha 0 _ rfl rfl;try dsimp only
    refine Bz (AF rfl (V0 ((Aw (Aw J4)).trans (B7 h0 _ _)) rfl) k4 rfl rfl) ?_;exact St.le.refl
   refine Bg (fun b hb ha hc=>?_) ?_
   ·try dsimp only
    refine Bz (BF rfl Gx rfl rfl) ?_;exact St.le.refl
   refine Bg (fun b hb ha hc=>?_) ?_
   ·have h1:b 1=true:=ha 0 _ rfl rfl;have h2:b 2=true:=ha 1 _ rfl rfl;try dsimp only
    refine Bz (Ct rfl ((Aw (Aw M1)).trans (B7 h1 _ _)) ((Aw (Aw Gx)).trans (B7 h2 _ _)) rfl c5) ?_;exact St.le.refl
   refine Bg (fun b hb ha hc=>?_) ?_
   ·have h3:b 3=true:=ha 0 _ rfl rfl;try dsimp only
    refine Bz (BU rfl ((Aw (Aw IN)).trans (B7 h3 _ _)) rfl) ?_;exact St.le.refl
   refine Bg (fun b hb ha hc=>?_) ?_
   ·have h4:b 4=true:=ha 0 _ rfl rfl;have h7:b 7=false:=Ch hc (i:=5) (j:=7) (k:=0) rfl rfl rfl rfl hb;have h8:b 8=false:=Ch hc (i:=5) (j:=8) (k:=7) rfl rfl rfl rfl hb;have u7:Wh b 5 7=false:=h7;try dsimp only
    refine KH 3 rfl (V0 ((Aw (Aw H8)).trans (B7 h4 _ _)) rfl) k6 (by decide) rfl (congrArg some ((GW h7 _ _).trans (GW hb _ _))) (by repeat(first|exact Rq|refine EA rfl ?_|refine EA (I3 rfl rfl) ?_|refine EA (I3 rfl (I3 rfl rfl)) ?_|refine EA (I3 rfl (I3 rfl (I3 rfl rfl))) ?_)) (by repeat(first|exact Rp|refine C7 rfl ?_|refine C7 (Un hb rfl) ?_|refine C7 (Un h7 rfl) ?_|refine C7 (Un h8 rfl) ?_|refine C7 (VZ rfl rfl) ?_)) ?_;simp only[GW u7];exact St.le.refl
   refine Bg (fun b hb ha hc=>?_) ?_
   ·try dsimp only
    refine Bz (Fb rfl) ?_;exact St.le.refl
   refine Bg (fun b hb ha hc=>?_) ?_
   ·have h5:b 5=true:=ha 0 _ rfl rfl;have h6:b 6=true:=ha 1 _ rfl rfl;try dsimp only
    refine NF (i:=3) (more:=[.tmp 23]) rfl rfl k10 ((Aw (Aw Iu)).trans (B7 h5 _ _)) (congrArg some ((GW hb _ _).trans (UL h5 _ _))) B4 (.cons (.of_eq ((Aw (Aw Ji)).trans (B7 h6 _ _)) (.fn (.boxS (j:=2) (by decide) rfl (.boxI (j:=1) (by decide) rfl c7 .nil)))) .nil) ?_;exact St.le.refl
   refine Bg (fun b hb ha hc=>?_) ?_
   ·have h7:b 7=true:=ha 0 _ rfl rfl;try dsimp only
    refine Bz (Az.assign rfl ((Aw (Aw (Aw Kv))).trans (B7 h7 _ _))) ?_;exact St.le.refl
   exact RP
  ·refine Be ⟨.agg (Ap f)::.lit (.int .i64 hP1)::.ptr 0 0::.ptr 1 0::.own 3 (0+1)::.ptr 2 0::.lit (.int .i64 hP1)::.lit (.bool (decide (hP1 < 0)))::.lit (.bool (decide (hP1 < 0)))::A5 [.lit (.bool ((decide (hP1 < 0))||(decide (hP1≥(f.blocks.length:Int))))),.agg (Ap f),.bs tInt.sliceN r3,.agg (Ap f),.bs tInt.slice r4,.lit (.int .i64 hP1),.bp tInt.slice (ixD r4 hP1) 0,.bs tInt (ixD r4 hP1),.own 3 0,.fn 56 [.ptr 2 0,.ptr 1 0],.own 3 (0+1)],[.box (Ap f),.box [.lit (.int .i64 hP1)],.box [.bs tInt.sliceN r3],.row (0+1) 3 tInt r10]⟩ St.le.refl ?_;obtain rfl:=Ab.1 H;exact AH ⟨.inr rfl,rfl,3,0+1,rfl,rfl⟩
end
def TA(l:Nat)(J:St→Prop)(Q:Exit→St→Prop):Exit→St→Prop
 | .goto l',s=>l'=l∧J s
 |e,s=>Q e s
section
variable{P:Program}{C:Ctx}
inductive GoOn (P:Program) (C:Ctx) (l:Nat) (y:Code) (Q:Exit→St→Prop):St→Prop
 |mk {s:St} (J:St→Prop) (h:W8 P C y (TA l J Q) s) (hJ:∀s',J s'→GoOn P C l y Q s'):GoOn P C l y Q s
theorem Qp{c y:Code}{Q:Exit→St→Prop}{s:St}(l:Nat)(hf:findLabel c l=some (.seq .skip y))(h:W8 P C c (TA l (GoOn P C l y Q) Q) s):W8 P C (.scope c) Q s:=fun a w H=>by
 intro b k cs hro hb hr;have hg:gotoIn l (.inScope c::k)=some (.code (.seq .skip y)::.inScope c::k):=by simp[gotoIn,hf]
 have s1:∀a₁ w₁,step P (lone (b.atR a₁ (.inScope c::k)) cs w₁)= .next (lone (b.atR a₁ k) cs w₁):=fun a₁ w₁=>step_lone_go (by simp[stepG,stepG.exec,Frame.atR])
 have h1:∀a₁ w₁,(lone (b.atR a₁ (.inScope c::k)) cs w₁).fenced P (WM C.rd):=fun a₁ w₁=>fenced_calm hb hr rfl
 have key:∀s,GoOn P C l y Q s→∀a w,s.rel C a w→∃e a' w',(∃s',Q e s'∧s'.rel C a' w')∧ArrivesIn (Machine.fenced P (WM C.rd)) P (lone (b.atR a (.code (.seq .skip y)::.inScope c::k)) cs w) b k cs e a' w':=by
  intro s hs;induction hs with
  |mk J hy hJ ih=>
   intro a w H;obtain⟨e,a₁,w₁,⟨s',hq,hr'⟩,harr⟩:=(Aq fun K hK=>As (hK _ hy):W8 P C (.seq .skip y) _ _) a w H b (.inScope c::k) cs hro hb hr;cases e with
   |normal=>exact⟨.normal,a₁,w₁,⟨s',hq,hr'⟩,StepsIn.trans harr (.one (h1 a₁ w₁) (s1 a₁ w₁))⟩
   |exit id=>
    refine⟨.exit id,a₁,w₁,⟨s',hq,hr'⟩,fun k' hk=>harr.1 k' (by simp[exitTo,hk]),fun hr2 hk=>?_⟩;obtain⟨k₁,h2,h3⟩:=harr.2 hr2 (by simp[exitTo,hk]);exact⟨k₁,h2,h3⟩
   |goto l'=>
    obtain⟨rfl,hJ'⟩:=hq;obtain⟨e₂,a₂,w₂,hq₂,harr₂⟩:=ih s' hJ' a₁ w₁ hr';exact⟨e₂,a₂,w₂,hq₂,.of_steps (harr.1 _ hg) harr₂⟩
   |ret=>exact⟨_,a₁,w₁,⟨s',hq,hr'⟩,harr⟩
   |panic ch=>exact⟨_,a₁,w₁,⟨s',hq,hr'⟩,harr⟩
   |outgrown=>exact⟨_,a₁,w₁,⟨s',hq,hr'⟩,harr⟩
 have h0:(lone (b.atR a (.code (.scope c)::k)) cs w).fenced P (WM C.rd):=fenced_calm hb hr rfl;have s0:step P (lone (b.atR a (.code (.scope c)::k)) cs w)= .next (lone (b.atR a (.code c::.inScope c::k)) cs w):=step_lone_go (by simp[stepG,stepG.exec,Frame.atR]);obtain⟨e,a₁,w₁,⟨s',hq,hr'⟩,harr⟩:=h a w H b (.inScope c::k) cs hro hb hr;cases e with
 |normal=>exact⟨.normal,a₁,w₁,⟨s',hq,hr'⟩,.head h0 s0 (StepsIn.trans harr (.one (h1 a₁ w₁) (s1 a₁ w₁)))⟩
 |exit id=>
  refine⟨.exit id,a₁,w₁,⟨s',hq,hr'⟩,fun k' hk=>.head h0 s0 (harr.1 k' (by simp[exitTo,hk])),fun hr2 hk=>?_⟩;obtain⟨k₁,h2,h3⟩:=harr.2 hr2 (by simp[exitTo,hk]);exact⟨k₁,h2,.head h0 s0 h3⟩
 |goto l'=>
  obtain⟨rfl,hJ'⟩:=hq;obtain⟨e₂,a₂,w₂,hq₂,harr₂⟩:=key s' hJ' a₁ w₁ hr';exact⟨e₂,a₂,w₂,hq₂,.of_steps (.head h0 s0 (harr.1 _ hg)) harr₂⟩
 |ret=>exact⟨_,a₁,w₁,⟨s',hq,hr'⟩,.of_steps (.one h0 s0) harr⟩
 |panic ch=>exact⟨_,a₁,w₁,⟨s',hq,hr'⟩,.of_steps (.one h0 s0) harr⟩
 |outgrown=>exact⟨_,a₁,w₁,⟨s',hq,hr'⟩,.of_steps (.one h0 s0) harr⟩
theorem Qq{y:Code}{l l':Nat}{Q:Exit→St→Prop}{s:St}(hg:GoOn P C l y Q s):W8 P C (.seq (.label l') y) (TA l (GoOn P C l y Q) Q) s:=
 Aq fun K hK=>W8.label (hK _ (by
  cases hg with
  |mk J h hJ=>
   refine h.mono fun e s' q=>?_
   cases e with
   |goto l'=>exact⟨q.1,hJ s' q.2⟩
   |_=>exact q))
theorem W8.goto{l:Nat}{Q:Exit→St→Prop}{s:St}(h:Q (.goto l) s):W8 P C (.goto l) Q s:=fun _ _ H=>wpIn_goto ⟨s,h,H⟩
theorem Qm{y:Code}{l:Nat}{Q:Exit→St→Prop}{s:St}{σ ρ β:Type}{step:σ→M (σ⊕ρ)}{s0:σ}{r:ρ}(H:(M.loop step s0).to r)(F:σ→β→St)(b0:β)(h0:St.le C s (F s0 b0))
 (hr:∀s' b x,(step s').to x→(∀r',x= .inr r'→r'=r)→W8 P C y (TA l (fun st=>∃s'' b',x= .inl s''∧St.le C st (F s'' b')) Q) (F s' b)):GoOn P C l y Q s:=by
 obtain⟨k,hk⟩:=IS.1 H;clear H;induction hk generalizing s b0 with
 |out hx=>exact .mk _ ((hr _ b0 _ hx fun r' e=>by cases e;rfl).le h0) fun s' ⟨_,_,e,_⟩=>by cases e
 |on hx hm ih=>
  refine .mk _ ((hr _ b0 _ hx fun r' e=>by cases e).le h0) fun s' ⟨s2,b',e,hle⟩=>?_
  cases e;exact ih b' hle hr
end
noncomputable section
def D8(f:Func):(Int×(List Int))→M ((Int×(List Int))⊕((List Int))):=fun(x1,l3)=>M.cnd (decide (x1 < (f.blocks.length:Int))) (M.bnd (M.bnd (Ee f x1) fun r12=>M.cnd (decide ((r12.length:Int) > 0)) (M.chk (Wd .i64 x1) (M.chk (GC (l3.length+ [x1].length) 8) (M.ok (l3++[x1])))) (M.ok l3)) fun l10=>M.ok (.inl (IntKind.i64.wrap (x1+1),l10))) (M.ok (.inr l3))
def CW(f:Func):M (List Int):=M.bnd (M.loop (D8 f) (0,([]:List Int))) fun l6=>M.ok l6
theorem EG{f:Func}{r:List Int}(H:(CW f).to r):Fn Try.prog 10 [.agg (Ap f)] (.bs tInt r):=by
 delta CW at H;try dsimp only at H
 refine AM Try.func10 rfl (by kernel_rfl) rfl Try.ntmps10 fun C hC=>?_
 simp only[List.length_cons,List.length_nil,Nat.reduceAdd,Nat.reduceSub,List.replicate_succ,List.replicate_zero,List.cons_append,List.nil_append];refine wS (sB (sT (wN ?_)));refine wS (sT (wN ?_));refine Be _ (Dk 3 3 tInt rfl (by decide)) ?_;obtain⟨z4,HX4,Hl4⟩:=Af.1 H;refine AE (β:=((List Int))×(Nat)) (fun q4=>z4=q4.1) (fun q4=>⟨A3 (.own 1 q4.2::Xf (A8 [])),[.dead,.row q4.2 3 tInt q4.1]⟩) ?_ ?_
 ·refine wS (sT (sT (sT (sT (wN ?_)))));refine Aj ?_;refine AJ HX4 (fun s4 b4=>⟨.any::.ptr 0 0::.any::.own 1 b4::A3 (.lit (.int .i64 (f.blocks.length:Int))::.lit (.int .i64 s4.1)::Xf (A3 [])),[.box (Ap f),.row b4 3 tInt s4.2]⟩) 0 (?_) ?_
  ·try dsimp only
   exact AA
  ·rintro⟨x1,l3⟩ v2 x4 H Hr4;try dsimp only
   dsimp only[D8]at H;refine wS (sT (wN ?_));refine Aq fun Khs7 hs7=>?_
   refine An rfl (fun hb8=>?_) (fun hb8=>?_)
   ·have H:=Au hb8 H;refine As ?_;refine hs7 _ ?_;refine nT ?_;obtain⟨z11,HX11,Hl11⟩:=Af.1 H;refine AE (β:=((List Int))×(Nat)) (fun q11=>z11=q11.1) (fun q11=>⟨.any::.ptr 0 0::.any::.own 1 q11.2::A3 (.lit (.int .i64 (f.blocks.length:Int))::.lit (.int .i64 x1)::Xf (A3 [])),[.box (Ap f),.row q11.2 3 tInt q11.1]⟩) ?_ ?_
    ·have H:=HX11;refine Aj ?_;refine wS (sT (sT (wN ?_)));obtain⟨r12,k12,H⟩:=Af.1 H;have k12:=IQ k12;refine wS (sT (sT ?_));(refine AT rfl (Cw 2 rfl rfl k12 (by decide) B4 (.cons (.cl rfl) (.cons (.cl rfl) .nil)) ?_);refine Dz (ht:=(Al Ge)) ?_);refine sT (sT (wN ?_));refine An rfl (fun hb13=>?_) (fun hb13=>?_)
     ·have H:=Au hb13 H;obtain⟨c14,H⟩:=Ag.1 H;obtain⟨c15,H⟩:=Ag.1 H;refine We (sT (sT ?_));refine sA (hq:=Az.lt (xs:=[.tmp 17]) (T:=tInt) (ds:=[x1]) rfl rfl rfl (by rfl) (by decide) (.cons (WZ.int c14) .nil)) (ht:=(Al (Al GL))) ?_;refine sP c15 (sT (wN ?_));have e11:=Ab.1 H;repeat(first|refine WV ?_|refine asN ?_)
      refine Am ⟨(_,v2+1),e11.symm,?_⟩;try dsimp only
      exact WH (Cut.cons (Cut.cons (Cut.nil _)))
     ·have H:=Av hb13 H;refine As ?_;have e11:=Ab.1 H;repeat(first|refine WV ?_|refine asN ?_)
      refine Am ⟨(_,v2),e11.symm,?_⟩;try dsimp only
      exact WH (Cut.cons (Cut.cons (Cut.nil _)))
    ·rintro⟨l10,v9⟩ hz11;try dsimp only at hz11
     have H:=Hl11;rw[hz11]at H;try dsimp only
     refine We (sT (sT (wN ?_)));have e4:=Ab.1 H;repeat(first|refine WV ?_|refine asN ?_)
     refine Am ⟨_,v9,e4.symm,?_⟩;try dsimp only
     exact AA
   ·have H:=Av hb8 H;refine AI ?_;repeat(first|refine AU ?_|refine exO (by decide) ?_|refine asE ?_)
    refine WN ?_;have e4:=Hr4 _ (Ab.1 H).symm;repeat(first|refine WV ?_|refine asN ?_)
    refine Am ⟨(_,v2),e4.symm,?_⟩;try dsimp only
    exact WH (Cut.dead (Cut.cons (Cut.nil _)))
 ·rintro⟨l6,v5⟩ hz4;try dsimp only at hz4
  have H:=Hl4;rw[hz4]at H;try dsimp only
  refine wS (sT (sT (wN ?_)));obtain rfl:=Ab.1 H;exact AH ⟨.inr rfl,W0.own rfl⟩
def D7(r4:List (List Int))(r5:List Bool):(Int×(List Int)×(List Int))→M ((Int×(List Int)×(List Int))⊕(List Int)):=fun(at7,l9,l11)=>M.cnd (at7 ==(l9.length:Int)) (M.chk (decide (l11.length≤2147483648)) (M.ok (.inr (List.mergeSort l11 fun x y=>decide (x≤y))))) (M.bnd (M.chk (Bq l9 at7) (M.chk (Bq r5 (ixD l9 at7)) (M.bnd (M.whn (ixD r5 (ixD l9 at7)) false (CY l11 (ixD l9 at7))) fun r23=>M.cnd ((ixD r5 (ixD l9 at7))&&(!r23)) (M.chk (Wd .i64 (ixD l9 at7)) (M.chk (GC (l11.length+ [ixD l9 at7].length) 8) (M.chk (Bq r4 (ixD l9 at7)) (M.chk (GC (l9.length+(ixD r4 (ixD l9 at7)).length) 8) (M.ok (l9++(ixD r4 (ixD l9 at7)),l11++[ixD l9 at7])))))) (M.ok (l9,l11))))) fun(l17,l19)=>M.ok (.inl (IntKind.i64.wrap (at7+1),l17,l19)))
def CH(f:Func)(hP1:Int):M (List Int):=M.bnd (Ee f hP1) fun r1=>M.cnd ((r1.length:Int) ==0) (M.ok []) (M.bnd (En f) fun r4=>M.bnd (ED f) fun r5=>M.chk (Wd .i64 hP1) (M.loop (D7 r4 r5) (0,r1,[hP1])))
theorem Ds{f:Func}{hP1:Int}{r:List Int}(H:(CH f hP1).to r):Fn Try.prog 12 [.agg (Ap f),.lit (.int .i64 hP1)] (.bs tInt r):=by
 delta CH at H;try dsimp only at H
 refine AM Try.func12 rfl (by kernel_rfl) rfl Try.ntmps12 fun C hC=>?_
 simp only[List.length_cons,List.length_nil,Nat.reduceAdd,Nat.reduceSub,List.replicate_succ,List.replicate_zero,List.cons_append,List.nil_append];refine wS (sB (sT (wN ?_)));refine Qp 0 rfl ?_;obtain⟨r1,k1,H⟩:=Af.1 H;have k1:=IQ k1;refine wS (sT (sT ?_));(refine AT rfl (Cw 1 rfl rfl k1 (by decide) B4 (.cons (.cl rfl) (.cons (.cl rfl) .nil)) ?_);refine Dz (ht:=(Al Ge)) ?_);refine sT (wN ?_);refine Aq fun Khs2 hs2=>?_
 refine wS (sT (sT (sT (wN ?_))));refine An rfl (fun hb3=>?_) (fun hb3=>?_)
 ·have H:=Au hb3 H;refine wS (sT (wN ?_));obtain rfl:=Ab.1 H;refine Be _ (Jp 4 tInt rfl) ?_;exact AH ⟨.inr rfl,W0.cl rfl⟩
 ·have H:=Av hb3 H;refine As ?_;refine hs2 _ ?_;refine nT ?_;obtain⟨r4,k4,H⟩:=Af.1 H;have k4:=Fo k4;obtain⟨r5,k5,H⟩:=Af.1 H;have k5:=Ky k5;refine dS 6 (hq:=?_);refine qT (qC k4 (qT (qC k5 (qT (qT (qN (wN ?_)))))));obtain⟨c6,H⟩:=Ag.1 H;refine wS (sT ?_);(refine AT rfl (H7 2 rfl (xs:=[.tmp 21]) (T:=tInt) (ds:=[hP1]) rfl rfl rfl (RT.eq (n:=1) (bytes:=8)) (by decide) (by decide) (.cons (WZ.int c6) .nil) ?_);refine Dz (ht:=(Al (Al Id))) ?_);refine sT (sT (wN ?_));refine Qq ?_;refine Qm H (fun s12 b12=>⟨A5 (.own 1 b12.1::.bs tInt.slice r4::.bs Ty.bool r5::.own 2 b12.2::.lit (.int .i64 s12.1)::Xd (A6 [])),[.dead,.row b12.1 3 tInt s12.2.1,.row b12.2 3 tInt s12.2.2]⟩) (0,0) (?_) ?_
  ·try dsimp only
   exact WH (Cut.dead (Cut.cons (Cut.cons (Cut.nil _))))
  ·rintro⟨at7,l9,l11⟩ ⟨v8,v10⟩ x12 H Hr12;try dsimp only
   dsimp only[D7]at H;refine Aq fun Khs13 hs13=>?_
   refine wS (sT (sT (sT (sT (wN ?_)))));refine An rfl (fun hb14=>?_) (fun hb14=>?_)
   ·have H:=Au hb14 H;obtain⟨c15,H⟩:=Ag.1 H;refine wS (sT ?_);(refine AT rfl (OF rfl rfl rfl (of_decide_eq_true c15) ?_);refine Dz (ht:=(Al (Al (Al JC)))) ?_);refine wN ?_;refine wS (sT (sT (wN ?_)));have H:=Ab.2 (Hr12 _ (Ab.1 H).symm);obtain rfl:=Ab.1 H;exact AH ⟨.inr rfl,W0.own rfl⟩
   ·have H:=Av hb14 H;refine As ?_;refine hs13 _ ?_;refine nT ?_;obtain⟨z20,HX20,Hl20⟩:=Af.1 H;refine AE (β:=((List Int)×(List Int))×(Nat×Nat)) (fun q20=>z20=q20.1) (fun q20=>⟨A5 (.own 1 q20.2.1::.bs tInt.slice r4::.bs Ty.bool r5::.own 2 q20.2.2::.lit (.int .i64 at7)::Xd (A6 [])),[.dead,.row q20.2.1 3 tInt q20.1.1,.row q20.2.2 3 tInt q20.1.2]⟩) ?_ ?_
    ·have H:=HX20;obtain⟨c21,H⟩:=Ag.1 H;refine wS (sT (sT ?_));refine sA (hq:=AS rfl (Aw (Aw (Aw Iu))) rfl (Aw (Aw (Aw Ji))) rfl c21) (ht:=(Ak Hg)) ?_;refine sA (hq:=AO rfl (Ar Kv) rfl (A0 c21) rfl) (ht:=(Ak IF)) ?_;refine sT (wN ?_);obtain⟨c22,H⟩:=Ag.1 H;obtain⟨r23,k23,H⟩:=Af.1 H;refine wS (sT (sT (sX c22 (sT (sT ?_)))));refine Wn rfl ?_;refine Wn rfl ?_;refine sG (g:=(ixD r5 (ixD l9 at7))) (hg:=DP rfl) (hq:=fun hg=>by((try simp only[B7 hg]);(try simp only[GE hg]);exact Nx rfl (EU (M.to_whn k23 hg)) (.cons (.own rfl) (.cons (.cl rfl) .nil)))) (ht:=(Ak (Al IF))) ?_;refine Wn rfl (sT (wN ?_));refine An rfl (fun hb24=>?_) (fun hb24=>?_)
     ·have H:=Au hb24 H;obtain⟨c25,H⟩:=Ag.1 H;obtain⟨c26,H⟩:=Ag.1 H;obtain⟨c27,H⟩:=Ag.1 H;obtain⟨c28,H⟩:=Ag.1 H;refine Be ⟨A5 (.own 1 v8::.bs tInt.slice r4::.bs Ty.bool r5::.own 2 v10::.lit (.int .i64 at7)::.lit (.int .i64 (ixD l9 at7))::Xf (A2 (.lit (.int .i64 at7)::.own 1 v8::.lit (.int .i64 (l9.length:Int))::.lit (.bool (at7 ==(l9.length:Int)))::A3 (.own 1 v8::.lit (.int .i64 at7)::.rp 1 v8 (Int.toNat at7) 0::.lit (.int .i64 (ixD l9 at7))::.bs Ty.bool r5::.lit (.int .i64 (ixD l9 at7))::.bp Ty.bool (ixD r5 (ixD l9 at7)) 0::.lit (.bool (ixD r5 (ixD l9 at7)))::.lit (.bool (ixD r5 (ixD l9 at7)))::A4 (.lit (.bool ((ixD r5 (ixD l9 at7))&&(!r23)))::Xf (A2 [])))))),[.dead,.row v8 3 tInt l9,.row v10 3 tInt l11]⟩ (St.le.trans AA (GZ 0 rfl)) ?_;refine Km (n:=12) (fun b=>⟨A5 ((bif b 11 then .own 1 (v8+1)else .own 1 v8)::.bs tInt.slice r4::.bs Ty.bool r5::(bif b 10 then .own 2 (v10+1)else .own 2 v10)::.lit (.int .i64 at7)::.lit (.int .i64 (ixD l9 at7))::Xf (A2 (.lit (.int .i64 at7)::.own 1 v8::.lit (.int .i64 (l9.length:Int))::.lit (.bool (at7 ==(l9.length:Int)))::A3 (.own 1 v8::.lit (.int .i64 at7)::.rp 1 v8 (Int.toNat at7) 0::.lit (.int .i64 (ixD l9 at7))::.bs Ty.bool r5::.lit (.int .i64 (ixD l9 at7))::.bp Ty.bool (ixD r5 (ixD l9 at7)) 0::.lit (.bool (ixD r5 (ixD l9 at7)))::.lit (.bool (ixD r5 (ixD l9 at7)))::A4 (.lit (.bool ((ixD r5 (ixD l9 at7))&&(!r23)))::(bif b 0 then .own 2 v10 else .any)::(bif b 1 then .lit (.int .i64 (ixD l9 at7))else .any)::(bif b 2 then .bs tInt [ixD l9 at7]else .any)::(bif b 3 then .own 2 (v10+1)else .any)::(bif b 4 then .own 1 v8 else .any)::(bif b 5 then .bs tInt.slice r4 else .any)::(bif b 6 then .lit (.int .i64 (ixD l9 at7))else .any)::(bif b 7 then .bp tInt.slice (ixD r4 (ixD l9 at7)) 0 else .any)::(bif b 8 then .bs tInt (ixD r4 (ixD l9 at7))else .any)::(bif b 9 then .own 1 (v8+1)else .any)::A2 []))))),[.dead,(bif b 9 then .row (v8+1) 3 tInt (l9++(ixD r4 (ixD l9 at7)))else .row v8 3 tInt l9),(bif b 3 then .row (v10+1) 3 tInt (l11++[ixD l9 at7])else .row v10 3 tInt l11)]⟩) rfl (by kernel_rfl) (by kernel_rfl) ?_ ?_
      ·refine Bg (fun b hb ha hc=>?_) ?_
       ·have h10:b 10=false:=Ch hc (i:=0) (j:=10) (k:=2) rfl rfl rfl rfl hb;try dsimp only
        refine Bz (Az.move rfl ((Aw Kv).trans (VM h10 _ _))) ?_;exact St.le.refl
       refine Bg (fun b hb ha hc=>?_) ?_
       ·try dsimp only
        refine Bz (Az.move rfl (Aw M1)) ?_;exact St.le.refl
       refine Bg (fun b hb ha hc=>?_) ?_
       ·have h1:b 1=true:=ha 0 _ rfl rfl;try dsimp only
        refine Bz (Az.lt (xs:=[.tmp 45]) (T:=tInt) (ds:=[ixD l9 at7]) rfl rfl rfl (by rfl) (by decide) (.cons (WZ.of_eq ((Ar (Aw H8)).trans (B7 h1 _ _)) (WZ.int c25)) .nil)) ?_;exact St.le.refl
       refine Bg (fun b hb ha hc=>?_) ?_
       ·have h0:b 0=true:=ha 0 _ rfl rfl;have h2:b 2=true:=ha 1 _ rfl rfl;try dsimp only
        refine Gv rfl ((Ar (Aw IN)).trans (B7 h0 _ _)) (congrArg some (GW hb _ _)) ((Ar (Aw Iu)).trans (B7 h2 _ _)) rfl c26 ?_;exact St.le.refl
       refine Bg (fun b hb ha hc=>?_) ?_
       ·have h11:b 11=false:=Ch hc (i:=4) (j:=11) (k:=6) rfl rfl rfl rfl hb;try dsimp only
        refine Bz (Az.move rfl (H8.trans (VM h11 _ _))) ?_;exact St.le.refl
       refine Bg (fun b hb ha hc=>?_) ?_
       ·try dsimp only
        refine Bz (Az.move rfl Iu) ?_;exact St.le.refl
       refine Bg (fun b hb ha hc=>?_) ?_
       ·try dsimp only
        refine Bz (Az.move rfl (Aw M1)) ?_;exact St.le.refl
       refine Bg (fun b hb ha hc=>?_) ?_
       ·have h5:b 5=true:=ha 0 _ rfl rfl;have h6:b 6=true:=ha 1 _ rfl rfl;try dsimp only
        refine Bz (Ct rfl ((Ar (Aw (Aw J4))).trans (B7 h5 _ _)) ((Ar (Aw (Aw M1))).trans (B7 h6 _ _)) rfl c27) ?_;exact St.le.refl
       refine Bg (fun b hb ha hc=>?_) ?_
       ·have h7:b 7=true:=ha 0 _ rfl rfl;try dsimp only
        refine Bz (BU rfl ((Ar (Aw (Aw Gx))).trans (B7 h7 _ _)) rfl) ?_;exact St.le.refl
       refine Bg (fun b hb ha hc=>?_) ?_
       ·have h4:b 4=true:=ha 0 _ rfl rfl;have h8:b 8=true:=ha 1 _ rfl rfl;try dsimp only
        refine Gv rfl ((Ar (Aw (Aw Kv))).trans (B7 h4 _ _)) (congrArg some (GW hb _ _)) ((Ar (Aw (Aw IN))).trans (B7 h8 _ _)) rfl c28 ?_;exact St.le.refl
       refine Bg (fun b hb ha hc=>?_) ?_
       ·have h3:b 3=true:=ha 0 _ rfl rfl;try dsimp only
        refine Bz (Az.assign rfl ((Ar (Aw Ji)).trans (B7 h3 _ _))) ?_;exact St.le.refl
       refine Bg (fun b hb ha hc=>?_) ?_
       ·have h9:b 9=true:=ha 0 _ rfl rfl;try dsimp only
        refine Bz (Az.assign rfl ((Ar (Aw (Aw H8))).trans (B7 h9 _ _))) ?_;exact St.le.refl
       exact RP
      ·refine VY ⟨A5 (.own 1 (v8+1)::.bs tInt.slice r4::.bs Ty.bool r5::.own 2 (v10+1)::.lit (.int .i64 at7)::.lit (.int .i64 (ixD l9 at7))::Xf (A2 (.lit (.int .i64 at7)::.own 1 v8::.lit (.int .i64 (l9.length:Int))::.lit (.bool (at7 ==(l9.length:Int)))::A3 (.own 1 v8::.lit (.int .i64 at7)::.rp 1 v8 (Int.toNat at7) 0::.lit (.int .i64 (ixD l9 at7))::.bs Ty.bool r5::.lit (.int .i64 (ixD l9 at7))::.bp Ty.bool (ixD r5 (ixD l9 at7)) 0::.lit (.bool (ixD r5 (ixD l9 at7)))::.lit (.bool (ixD r5 (ixD l9 at7)))::A4 (.lit (.bool ((ixD r5 (ixD l9 at7))&&(!r23)))::.own 2 v10::.lit (.int .i64 (ixD l9 at7))::.bs tInt [ixD l9 at7]::.own 2 (v10+1)::.own 1 v8::.bs tInt.slice r4::.lit (.int .i64 (ixD l9 at7))::.bp tInt.slice (ixD r4 (ixD l9 at7)) 0::.bs tInt (ixD r4 (ixD l9 at7))::.own 1 (v8+1)::A2 []))))),[.dead,.row (v8+1) 3 tInt (l9++(ixD r4 (ixD l9 at7))),.row (v10+1) 3 tInt (l11++[ixD l9 at7])]⟩ rfl ?_;have e20:=Ab.1 H;repeat(first|refine WV ?_|refine asN ?_)
       refine Am ⟨(_,(v8+1,v10+1)),e20.symm,?_⟩;try dsimp only
       exact AA
     ·have H:=Av hb24 H;refine As ?_;have e20:=Ab.1 H;repeat(first|refine WV ?_|refine asN ?_)
      refine Am ⟨(_,(v8,v10)),e20.symm,?_⟩;try dsimp only
      exact AA
    ·rintro⟨⟨l17,l19⟩,⟨v16,v18⟩⟩ hz20;try dsimp only at hz20
     have H:=Hl20;rw[hz20]at H;try dsimp only at H⊢
     refine wS (sT (sT (sT (wN ?_))));refine W8.goto ?_;have e12:=Ab.1 H;refine⟨rfl,_,(v16,v18),e12.symm,?_⟩;try dsimp only
     exact AA
def CI(r12:List Int):(Int×(List Int))→M ((Int×(List Int))⊕((List Int))):=fun(x13,l15)=>M.cnd (decide (x13 < (r12.length:Int))) (M.chk (Bq r12 x13) (M.chk (Bq l15 (ixD r12 x13)) (M.chk (Wd .i64 (IntKind.i64.wrap ((ixD l15 (ixD r12 x13))+1))) (M.ok (.inl (IntKind.i64.wrap (x13+1),l15.set (Int.toNat (ixD r12 x13)) (IntKind.i64.wrap ((ixD l15 (ixD r12 x13))+1)))))))) (M.ok (.inr l15))
def Dh(f:Func)(r2:List Int):(Int×(List Int))→M ((Int×(List Int))⊕((List Int))):=fun(x3,l5)=>M.cnd (decide (x3 < (r2.length:Int))) (M.chk (Bq r2 x3) (M.bnd (CH f (ixD r2 x3)) fun r12=>M.bnd (M.loop (CI r12) (0,l5)) fun l18=>M.ok (.inl (IntKind.i64.wrap (x3+1),l18)))) (M.ok (.inr l5))
def CA(f:Func):M (List Int):=M.chk (JW (f.blocks.length:Int) 8) (M.bnd (CW f) fun r2=>M.bnd (M.loop (Dh f r2) (0,List.replicate (Int.toNat (f.blocks.length:Int)) 0)) fun l8=>M.ok l8)
theorem DS{f:Func}{r:List Int}(H:(CA f).to r):Fn Try.prog 14 [.agg (Ap f)] (.bs tInt r):=by
 delta CA at H;try dsimp only at H
 refine AM Try.func14 rfl (by kernel_rfl) rfl Try.ntmps14 fun C hC=>?_
 simp only[List.length_cons,List.length_nil,Nat.reduceAdd,Nat.reduceSub,List.replicate_succ,List.replicate_zero,List.cons_append,List.nil_append];refine wS (sB (sT (wN ?_)));obtain⟨c1,H⟩:=Ag.1 H;refine wS (sT (sT (sT ?_)));(refine AT rfl (Gd 1 rfl (T:=tInt) (e:=3) (v:=.int .i64 0) (bytes:=8) (0:Int) rfl (by kernel_rfl) rfl (fun _ _=>⟨rfl,by decide⟩) rfl rfl c1 ?_);refine Dz (ht:=(Al Hf)) ?_);refine sT (wN ?_);obtain⟨r2,k2,H⟩:=Af.1 H;have k2:=EG k2;obtain⟨z6,HX6,Hl6⟩:=Af.1 H;refine AE (β:=((List Int))×(Nat)) (fun q6=>z6=q6.1) (fun q6=>⟨A3 (.own 1 q6.2::Xe (Xf (A2 []))),[.dead,.row q6.2 3 tInt q6.1]⟩) ?_ ?_
 ·refine wS (sT (sC k2 (sT (sT (wN ?_)))));refine Aj ?_;refine AJ HX6 (fun s6 b6=>⟨.any::.ptr 0 0::.any::.own 1 b6::A9 (.bs tInt r2::.lit (.int .i64 (r2.length:Int))::.lit (.int .i64 s6.1)::Xe []),[.box (Ap f),.row b6 3 tInt s6.2]⟩) 0 (?_) ?_
  ·try dsimp only
   exact AA
  ·rintro⟨x3,l5⟩ v4 x6 H Hr6;try dsimp only
   dsimp only[Dh]at H;refine wS (sT (wN ?_));refine Aq fun Khs9 hs9=>?_
   refine An rfl (fun hb10=>?_) (fun hb10=>?_)
   ·have H:=Au hb10 H;refine As ?_;refine hs9 _ ?_;refine nT ?_;obtain⟨c11,H⟩:=Ag.1 H;obtain⟨r12,k12,H⟩:=Af.1 H;have k12:=Ds k12;obtain⟨z16,HX16,Hl16⟩:=Af.1 H;refine AE (β:=((List Int))×(Nat)) (fun q16=>z16=q16.1) (fun q16=>⟨.any::.ptr 0 0::.any::.own 1 q16.2::A9 (.bs tInt r2::.lit (.int .i64 (r2.length:Int))::.lit (.int .i64 x3)::Xe []),[.box (Ap f),.row q16.2 3 tInt q16.1]⟩) ?_ ?_
    ·refine Aj ?_;refine wS (sX c11 (sT (sT (wN ?_))));refine wS (sT (sT (sC k12 (sT (sT (wN ?_))))));refine Aj ?_;refine AJ HX16 (fun s16 b16=>⟨.any::.ptr 0 0::.any::.own 1 b16::A9 (.bs tInt r2::.lit (.int .i64 (r2.length:Int))::.lit (.int .i64 x3)::A5 (.bs tInt r12::.lit (.int .i64 (r12.length:Int))::.lit (.int .i64 s16.1)::Xf (A2 []))),[.box (Ap f),.row b16 3 tInt s16.2]⟩) v4 (?_) ?_
     ·try dsimp only
      exact AA
     ·rintro⟨x13,l15⟩ v14 x16 H Hr16;try dsimp only
      dsimp only[CI]at H;refine wS (sT (wN ?_));refine Aq fun Khs19 hs19=>?_
      refine An rfl (fun hb20=>?_) (fun hb20=>?_)
      ·have H:=Au hb20 H;refine As ?_;refine hs19 _ ?_;refine nT ?_;refine Aq fun Khs21 hs21=>?_
       refine Aj ?_;obtain⟨c22,H⟩:=Ag.1 H;refine wS (sX c22 (sT (sT (wN ?_))));obtain⟨c23,H⟩:=Ag.1 H;obtain⟨c24,H⟩:=Ag.1 H;refine We (sT (sT ?_));refine sA (hq:=AS rfl (Aw (Aw (Aw Gx))) rfl (Aw (Aw (Aw IN))) rfl c23) (ht:=(Al (Al (Al Ge)))) ?_;refine sA (hq:=AO rfl (Aw (Aw (Aw H8))) rfl (A0 c23) rfl) (ht:=(Al (Al (Al Id)))) ?_;refine sT ?_;refine sA (hq:=AS rfl (Aw (Aw (Aw Gx))) rfl (Aw (Aw (Aw IN))) rfl c23) (ht:=(Ak Hg)) ?_;(refine AT rfl (BW rfl rfl rfl (A0 c23) (WZ.int c24) rfl ?_);refine Dz (ht:=Mw) ?_);refine wN ?_;refine hs21 _ ?_;refine nT ?_;refine We (sT (sT (wN ?_)));have e16:=Ab.1 H;repeat(first|refine WV ?_|refine asN ?_)
       refine Am ⟨_,v14,e16.symm,?_⟩;try dsimp only
       exact AA
      ·have H:=Av hb20 H;refine AI ?_;repeat(first|refine AU ?_|refine exO (by decide) ?_|refine asE ?_)
       refine WN ?_;have e16:=Hr16 _ (Ab.1 H).symm;repeat(first|refine WV ?_|refine asN ?_)
       refine Am ⟨(_,v14),e16.symm,?_⟩;try dsimp only
       exact AA
    ·rintro⟨l18,v17⟩ hz16;try dsimp only at hz16
     have H:=Hl16;rw[hz16]at H;try dsimp only
     refine We (sT (sT (wN ?_)));have e6:=Ab.1 H;repeat(first|refine WV ?_|refine asN ?_)
     refine Am ⟨_,v17,e6.symm,?_⟩;try dsimp only
     exact AA
   ·have H:=Av hb10 H;refine AI ?_;repeat(first|refine AU ?_|refine exO (by decide) ?_|refine asE ?_)
    refine WN ?_;have e6:=Hr6 _ (Ab.1 H).symm;repeat(first|refine WV ?_|refine asN ?_)
    refine Am ⟨(_,v4),e6.symm,?_⟩;try dsimp only
    exact WH (Cut.dead (Cut.cons (Cut.nil _)))
 ·rintro⟨l8,v7⟩ hz6;try dsimp only at hz6
  have H:=Hl6;rw[hz6]at H;try dsimp only
  refine wS (sT (sT (wN ?_)));obtain rfl:=Ab.1 H;exact AH ⟨.inr rfl,W0.own rfl⟩
end
theorem Pf{caps:List AV}(h:Bm caps=true):∀vs:List Value,Bm (vs.map .lit++caps)=true
 | []=>h
 |v::vs=>by
  rw[List.map_cons,List.cons_append];unfold Bm;rw[Pf h vs];unfold AV.cl;rfl
theorem OH{P:Program}{C:Ctx}{o:Oper}{t:List AV}{h:List ABlk}{ι:Type}{Rs:ι→Res}{val:ι→Value}{i:Nat}{R:Res}{f:FuncId}{x:Operand}{args:Array Operand}{tys:Array TypeId}{l as_:List AV}{K:St→Prop}(hi:h[i]? =some (.res R))
 (ho:o.op= .call {callee:=.value x,args:=args,argTypes:=tys}) (hv:WO t x= .fn f l) (hF:IX P f R (as_++l) Rs val) (hm:∀p,(Rs p).mrk=R.mrk) (hx:args.toList.map (WO t)=as_) (hc:Bm (as_++l)=true)
 (hK:∀p,K ⟨Bn t o.dst (.lit (val p)),h.set i (.res (Rs p))⟩):Xb P C o ⟨t,h⟩ K:=Mf hi ho hv hF hm (by rw[hx]) hc hK
theorem Jz{x:Ins}{r:List Int}(H:(GJ x).to r):Mc Try.prog 85 [.agg (B8 x)] 3 tInt r:=by
 obtain⟨c,H⟩:=Ag.1 H;obtain rfl:=Ab.1 H;rw[Bool.and_eq_true]at c;have ho:=BP.1 c.1;have hl:=of_decide_eq_true c.2;exact⟨by kernel_rfl,fun w S vs hS hr=>by
  have hr':=AC (Ext.grow [] ψ0 (fun _ _=>rfl) hS) _ _ hr;obtain⟨v,rfl,hv⟩:=US hr';obtain⟨cs,rfl,hc⟩:=JF hv;refine(NT x w cs (JN ho hc) hl).mono ?_;rintro e w' ⟨v,rfl,hO,hb⟩;refine⟨v,_,rfl,hb,hO,fun i d hd=>?_⟩;show tInt.RS w' S ((((readsC x).map (Value.int .i64)).drop (i * 1)).take 1) d;have hi:((readsC x).map (Value.int .i64))[i]? =some (.int .i64 d):=by rw[List.getElem?_map,hd];rfl
  rw[Nat.mul_one,List.take_one,List.head?_drop,hi];exact FF.2 ⟨rfl,JH ho d (List.mem_of_getElem? hd)⟩⟩
noncomputable section
def FZ(x:Ins):M (List Int):=M.bnd (GJ x) fun r1=>M.bnd (M.bnd (FI x) fun r5=>M.cnd r5.2 (M.chk (Wd .i64 r5.1) (M.chk (GC (r1.length+ [r5.1].length) 8) (M.ok (r1++[r5.1])))) (M.ok r1)) fun l3=>M.ok l3
theorem Ok{x:Ins}{r:List Int}(H:(FZ x).to r):Fn Try.prog 62 [.agg (B8 x)] (.bs tInt r):=by
 delta FZ at H;try dsimp only at H
 refine AM Try.func62 rfl (by kernel_rfl) rfl Try.ntmps62 fun C hC=>?_
 simp only[List.length_cons,List.length_nil,Nat.reduceAdd,Nat.reduceSub,List.replicate_succ,List.replicate_zero,List.cons_append,List.nil_append];refine wS (sB (sT (wN ?_)));obtain⟨r1,k1,H⟩:=Af.1 H;have k1:=Jz k1;refine wS (sT ?_);(refine AT rfl (Cw 1 rfl rfl k1 (by decide) B4 (.cons (.cl rfl) .nil) ?_);refine Dz (ht:=GK) ?_);refine sT (wN ?_);obtain⟨z4,HX4,Hl4⟩:=Af.1 H;refine AE (β:=((List Int))×(Nat)) (fun q4=>z4=q4.1) (fun q4=>⟨A3 (.own 1 q4.2::Xf (A5 [])),[.dead,.row q4.2 3 tInt q4.1]⟩) ?_ ?_
 ·have H:=HX4;obtain⟨r5,k5,H⟩:=Af.1 H;have k5:=Kt k5;refine wS (sT (sC k5 (sT (sT (sT (sT (sT (wN ?_))))))));refine wS (sT (wN ?_));refine An rfl (fun hb6=>?_) (fun hb6=>?_)
  ·have H:=Au hb6 H;obtain⟨c7,H⟩:=Ag.1 H;obtain⟨c8,H⟩:=Ag.1 H;refine We (sT (sT ?_));refine sA (hq:=Az.lt (xs:=[.tmp 15]) (T:=tInt) (ds:=[r5.1]) rfl rfl rfl (by rfl) (by decide) (.cons (WZ.int c7) .nil)) (ht:=(Al (Al Hg))) ?_;refine sP c8 (sT (wN ?_));have e4:=Ab.1 H;repeat(first|refine WV ?_|refine asN ?_)
   refine Am ⟨(_,0+1),e4.symm,?_⟩;try dsimp only
   exact WH (Cut.dead (Cut.cons (Cut.nil _)))
  ·have H:=Av hb6 H;refine As ?_;have e4:=Ab.1 H;repeat(first|refine WV ?_|refine asN ?_)
   refine Am ⟨(_,0),e4.symm,?_⟩;try dsimp only
   exact WH (Cut.dead (Cut.cons (Cut.nil _)))
 ·rintro⟨l3,v2⟩ hz4;try dsimp only at hz4
  have H:=Hl4;rw[hz4]at H;try dsimp only
  refine wS (sT (sT (wN ?_)));obtain rfl:=Ab.1 H;exact AH ⟨.inr rfl,W0.own rfl⟩
section
variable{σ:Type}
def Cz(r1:List Int)(x2:Int):(Int×Int)→M ((Int×Int)⊕Int):=fun(n10,x11)=>M.cnd (decide (x11 < (if 4 < (ixD r1 x2)then 4 else(ixD r1 x2)))) (M.ok (.inl (IntKind.i64.wrap (n10 * 10),IntKind.i64.wrap (x11+1)))) (M.ok (.inr n10))
def Dg(step:σ→Int→Int→M σ)(n13:Int)(r25:List Int):(Int×σ)→M ((Int×σ)⊕σ):=fun(x26,s27)=>M.cnd (decide (x26 < (r25.length:Int))) (M.chk (Bq r25 x26) (M.bnd (step s27 (ixD r25 x26) n13) fun r34=>M.ok (.inl (IntKind.i64.wrap (x26+1),r34)))) (M.ok (.inr s27))
def Cy(step:σ→Int→Int→M σ)(f:Func)(x2:Int)(n13:Int):(Int×σ)→M ((Int×σ)⊕σ):=fun(x18,s19)=>M.cnd (decide (x18 < (((ixD f.blocks x2).ins).length:Int))) (M.chk (Bq ((ixD f.blocks x2).ins) x18) (M.bnd (FZ (ixD ((ixD f.blocks x2).ins) x18)) fun r25=>M.bnd (M.loop (Dg step n13 r25) (0,s19)) fun s29=>M.ok (.inl (IntKind.i64.wrap (x18+1),s29)))) (M.ok (.inr s19))
def DR(step:σ→Int→Int→M σ)(f:Func)(r1:List Int):(Int×σ)→M ((Int×σ)⊕σ):=fun(x2,s3)=>M.cnd (decide (x2 < (r1.length:Int))) (M.chk (Bq r1 x2) (M.bnd (M.loop (Cz r1 x2) (1,0)) fun n13=>M.chk (Bq f.blocks x2) (M.bnd (M.loop (Cy step f x2 n13) (0,s3)) fun s21=>M.ok (.inl (IntKind.i64.wrap (x2+1),s21))))) (M.ok (.inr s3))
def E4(step:σ→Int→Int→M σ)(f:Func)(s0:σ):M σ:=M.bnd (CA f) fun r1=>M.bnd (M.loop (DR step f r1) (0,s0)) fun s5=>M.ok s5
theorem Kb{R0:σ→Res}{fv:FuncId}{caps:List AV}(hm0:∀s,(R0 s).mrk= [])(hS:∀s w S S',(R0 s).R w S→(R0 s).R w S')(hcc:Bm caps=true){step:σ→Int→Int→M σ}(hdo:∀s x0 x1 s',(step s x0 x1).to s'→IX Try.prog fv (R0 s) ([.lit (.int .i64 x0),.lit (.int .i64 x1)]++caps) (fun _:Unit=>R0 s') (fun _=>.tuple #[])){f:Func}{s0:σ}{r:σ}(H:(E4 step f s0).to r):IX Try.prog 37 (R0 s0) [.agg (Ap f),.fn fv caps] (fun _:Unit=>R0 r) (fun _=>.tuple #[]):=by
 have hcl:∀x0 x1:Int,Bm ([.lit (.int .i64 x0),.lit (.int .i64 x1)]++caps)=true:=fun x0 x1=>Pf hcc [(.int .i64 x0),(.int .i64 x1)]
 delta E4 at H;try dsimp only at H
 refine EN Try.func37 rfl (by kernel_rfl) rfl Try.ntmps37 (hm0 _) (fun _=>hS _) fun C=>?_
 refine W8.upto ?_;simp only[List.length_cons,List.length_nil,Nat.reduceAdd,Nat.reduceSub,List.replicate_succ,List.replicate_zero,List.cons_append,List.nil_append];refine wS (sB (wN ?_));obtain⟨r1,k1,H⟩:=Af.1 H;have k1:=DS k1;refine wS (sT (sC k1 (sT (sT (wN ?_)))));obtain⟨z4,HX4,Hl4⟩:=Af.1 H;refine F9 (β:=(σ)×(Unit)) (fun q4=>z4=q4.1) (fun q4=>⟨Xd (Xf [.any]),[.res (R0 q4.1),.dead]⟩) ?_ ?_
 ·refine Aj ?_;refine AJ HX4 (fun s4 b4=>⟨.any::.fn fv caps::.ptr 1 0::A9 (.bs tInt r1::.lit (.int .i64 (r1.length:Int))::.lit (.int .i64 s4.1)::Xe (Xf (A6 []))),[.res (R0 s4.2),.box (Ap f)]⟩) () (?_) ?_
  ·try dsimp only
   exact AA
  ·rintro⟨x2,s3⟩ _ x4 H Hr4;try dsimp only
   dsimp only[DR]at H;refine wS (sT (wN ?_));refine Aq fun Khs6 hs6=>?_
   refine An rfl (fun hb7=>?_) (fun hb7=>?_)
   ·have H:=Au hb7 H;refine As ?_;refine hs6 _ ?_;refine nT ?_;refine Aq fun Khs8 hs8=>?_
    refine Aj ?_;obtain⟨c9,H⟩:=Ag.1 H;refine wS (sT (sX c9 (sT (sT (sT (wN ?_))))));refine wS (sT (wN ?_));obtain⟨z12,HX12,Hl12⟩:=Af.1 H;refine AE (β:=(Int)×(Unit)) (fun q12=>z12=q12.1) (fun q12=>⟨.any::.fn fv caps::.ptr 1 0::.any::.lit (.int .i64 x2)::.any::.lit (.int .i64 q12.1)::A5 (.bs tInt r1::.lit (.int .i64 (r1.length:Int))::.lit (.int .i64 x2)::Xe (Xf (A6 []))),[.res (R0 s3),.box (Ap f)]⟩) ?_ ?_
    ·refine wS (sT ?_);refine sA (hq:=Az.min2 rfl (Aw (Aw Gx)) Mk) (ht:=(Al (Al JC))) ?_;refine sT (wN ?_);refine Aj ?_;refine AJ HX12 (fun s12 b12=>⟨.any::.fn fv caps::.ptr 1 0::.any::.lit (.int .i64 x2)::.any::.lit (.int .i64 s12.1)::A5 (.bs tInt r1::.lit (.int .i64 (r1.length:Int))::.lit (.int .i64 x2)::A5 (.lit (.int .i64 (if 4 < (ixD r1 x2)then 4 else(ixD r1 x2)))::.lit (.int .i64 s12.2)::Xe (A9 []))),[.res (R0 s3),.box (Ap f)]⟩) () (?_) ?_
     ·try dsimp only
      exact AA
     ·rintro⟨n10,x11⟩ _ x12 H Hr12;try dsimp only
      dsimp only[Cz]at H;refine wS (sT (wN ?_));refine Aq fun Khs14 hs14=>?_
      refine An rfl (fun hb15=>?_) (fun hb15=>?_)
      ·have H:=Au hb15 H;refine As ?_;refine hs14 _ ?_;refine nT ?_;refine Aq fun Khs16 hs16=>?_
       refine Aj ?_;refine We (sT (sT (sT (wN ?_))));refine hs16 _ ?_;refine nT ?_;refine We (sT (sT (wN ?_)));have e12:=Ab.1 H;repeat(first|refine WV ?_|refine asN ?_)
       refine Am ⟨_,(),e12.symm,?_⟩;try dsimp only
       exact AA
      ·have H:=Av hb15 H;refine AI ?_;repeat(first|refine AU ?_|refine exO (by decide) ?_|refine asE ?_)
       refine WN ?_;have e12:=Hr12 _ (Ab.1 H).symm;repeat(first|refine WV ?_|refine asN ?_)
       refine Am ⟨(_,()),e12.symm,?_⟩;try dsimp only
       exact AA
    ·rintro⟨n13,_⟩ hz12;try dsimp only at hz12
     have H:=Hl12;rw[hz12]at H;try dsimp only
     obtain⟨c17,H⟩:=Ag.1 H;refine wS (sT (sT (sT (sX c17 (sT (sT (sT (sT (wN ?_)))))))));obtain⟨z20,HX20,Hl20⟩:=Af.1 H;refine F9 (β:=(σ)×(Unit)) (fun q20=>z20=q20.1) (fun q20=>⟨.any::.fn fv caps::.ptr 1 0::A9 (.bs tInt r1::.lit (.int .i64 (r1.length:Int))::.lit (.int .i64 x2)::Xe (Xf (A6 []))),[.res (R0 q20.1),.box (Ap f)]⟩) ?_ ?_
     ·refine Aj ?_;refine AJ HX20 (fun s20 b20=>⟨.any::.fn fv caps::.ptr 1 0::A3 (.lit (.int .i64 n13)::A5 (.bs tInt r1::.lit (.int .i64 (r1.length:Int))::.lit (.int .i64 x2)::Xf (A6 (.bs EO ((ixD f.blocks x2).ins)::.lit (.int .i64 (((ixD f.blocks x2).ins).length:Int))::.lit (.int .i64 s20.1)::Xf (A7 []))))),[.res (R0 s20.2),.box (Ap f)]⟩) () (?_) ?_
      ·try dsimp only
       exact AA
      ·rintro⟨x18,s19⟩ _ x20 H Hr20;try dsimp only
       dsimp only[Cy]at H;refine wS (sT (wN ?_));refine Aq fun Khs22 hs22=>?_
       refine An rfl (fun hb23=>?_) (fun hb23=>?_)
       ·have H:=Au hb23 H;refine As ?_;refine hs22 _ ?_;refine nT ?_;obtain⟨c24,H⟩:=Ag.1 H;obtain⟨r25,k25,H⟩:=Af.1 H;have k25:=Ok k25;obtain⟨z28,HX28,Hl28⟩:=Af.1 H;refine AE (β:=(σ)×(Unit)) (fun q28=>z28=q28.1) (fun q28=>⟨.any::.fn fv caps::.ptr 1 0::A3 (.lit (.int .i64 n13)::A5 (.bs tInt r1::.lit (.int .i64 (r1.length:Int))::.lit (.int .i64 x2)::Xf (A6 (.bs EO ((ixD f.blocks x2).ins)::.lit (.int .i64 (((ixD f.blocks x2).ins).length:Int))::.lit (.int .i64 x18)::Xf (A7 []))))),[.res (R0 q28.1),.box (Ap f),.dead]⟩) ?_ ?_
        ·refine Aj ?_;refine wS (sX c24 (sT (Wp (sW (wN ?_)))));refine wS (sT (sC k25 (sT (sT (wN ?_)))));refine Aj ?_;refine AJ HX28 (fun s28 b28=>⟨.any::.fn fv caps::.ptr 1 0::A3 (.lit (.int .i64 n13)::A5 (.bs tInt r1::.lit (.int .i64 (r1.length:Int))::.lit (.int .i64 x2)::Xf (A6 (.bs EO ((ixD f.blocks x2).ins)::.lit (.int .i64 (((ixD f.blocks x2).ins).length:Int))::.lit (.int .i64 x18)::A4 (.bs tInt r25::.lit (.int .i64 (r25.length:Int))::.lit (.int .i64 s28.1)::Xf []))))),[.res (R0 s28.2),.box (Ap f),.dead]⟩) () (?_) ?_
         ·try dsimp only
          exact WH (Cut.cons (Cut.cons (Cut.dead (Cut.nil _))))
         ·rintro⟨x26,s27⟩ _ x28 H Hr28;try dsimp only
          dsimp only[Dg]at H;refine wS (sT (wN ?_));refine Aq fun Khs30 hs30=>?_
          refine An rfl (fun hb31=>?_) (fun hb31=>?_)
          ·have H:=Au hb31 H;refine As ?_;refine hs30 _ ?_;refine nT ?_;refine Aq fun Khs32 hs32=>?_
           refine Aj ?_;obtain⟨c33,H⟩:=Ag.1 H;refine wS (sX c33 (sT (sT (wN ?_))));obtain⟨r34,k34,H⟩:=Af.1 H;refine We (sT (sT (sT ?_)));(refine AT rfl (OH (i:=0) rfl rfl rfl (hdo _ _ _ _ k34) (fun _=>(hm0 _).trans (hm0 _).symm) rfl (hcl _ _) fun _=>?_);refine Dz (ht:=(Ak (Al GK))) ?_);refine wN ?_;refine hs32 _ ?_;refine nT ?_;refine We (sT (sT (wN ?_)));have e28:=Ab.1 H;repeat(first|refine WV ?_|refine asN ?_)
           refine Am ⟨_,(),e28.symm,?_⟩;try dsimp only
           exact AA
          ·have H:=Av hb31 H;refine AI ?_;repeat(first|refine AU ?_|refine exO (by decide) ?_|refine asE ?_)
           refine WN ?_;have e28:=Hr28 _ (Ab.1 H).symm;repeat(first|refine WV ?_|refine asN ?_)
           refine Am ⟨(_,()),e28.symm,?_⟩;try dsimp only
           exact AA
        ·rintro⟨s29,_⟩ hz28;try dsimp only at hz28
         have H:=Hl28;rw[hz28]at H;try dsimp only
         refine We (sT (sT (wN ?_)));have e20:=Ab.1 H;repeat(first|refine WV ?_|refine asN ?_)
         refine Am ⟨_,(),e20.symm,?_⟩;try dsimp only
         exact WH (Cut.cons (Cut.cons (Cut.nil _)))
       ·have H:=Av hb23 H;refine AI ?_;repeat(first|refine AU ?_|refine exO (by decide) ?_|refine asE ?_)
        refine WN ?_;have e20:=Hr20 _ (Ab.1 H).symm;repeat(first|refine WV ?_|refine asN ?_)
        refine Am ⟨(_,()),e20.symm,?_⟩;try dsimp only
        exact AA
     ·rintro⟨s21,_⟩ s20 hz20 hle20;try dsimp only at hz20
      try dsimp only at hle20
      have H:=Hl20;rw[hz20]at H;repeat(first|refine WV ?_|refine asN ?_)
      refine hs8 _ (Be _ hle20 ?_);refine We (sT (sT (wN ?_)));have e4:=Ab.1 H;repeat(first|refine WV ?_|refine asN ?_)
      refine Am ⟨_,(),e4.symm,?_⟩;try dsimp only
      exact AA
   ·have H:=Av hb7 H;refine AI ?_;repeat(first|refine AU ?_|refine exO (by decide) ?_|refine asE ?_)
    refine WN ?_;have e4:=Hr4 _ (Ab.1 H).symm;repeat(first|refine WV ?_|refine asN ?_)
    refine Am ⟨(_,()),e4.symm,?_⟩;try dsimp only
    exact WH (Cut.cons (Cut.dead (Cut.nil _)))
 ·rintro⟨s5,_⟩ s4 hz4 hle4;try dsimp only at hz4
  try dsimp only at hle4
  have H:=Hl4;rw[hz4]at H;repeat(first|refine WV ?_|refine asN ?_)
  obtain rfl:=Ab.1 H;refine Wi hle4 ?_;exact⟨.inl rfl,(),by simp[WE,ABlk.mrk,hm0],rfl⟩
end
def Fr(x:Int)(n:Int)(f0:Int)(f1:Int):M (Int×Int):=M.cnd (x ==f0) (M.ok (f0,IntKind.i64.wrap (f1+n))) (M.ok (f0,f1))
theorem LZ{x:Int}{n:Int}{f0:Int}{f1:Int}{g0 g1:Nat}{r:Int×Int}(H:(Fr x n f0 f1).to r):IX Try.prog 38 (Res.and (Ml g0 [.lit (.int .i64 f0)]) (Ml g1 [.lit (.int .i64 f1)])) [.lit (.int .i64 x),.lit (.int .i64 n),.lit (.pointer (some ⟨g0,0,none⟩)),.lit (.pointer (some ⟨g1,0,none⟩))] (fun _:Unit=>(Res.and (Ml g0 [.lit (.int .i64 r.1)]) (Ml g1 [.lit (.int .i64 r.2)]))) (fun _=>.tuple #[]):=by
 delta Fr at H;try dsimp only at H
 refine EN Try.func38 rfl (by kernel_rfl) rfl Try.ntmps38 rfl (fun _ _ _ _ h=>h) fun C=>?_
 simp only[List.length_cons,List.length_nil,Nat.reduceAdd,Nat.reduceSub,List.replicate_succ,List.replicate_zero,List.cons_append,List.nil_append];refine Be _ (Le 0 rfl) ?_;refine W8.upto ?_;refine nT ?_;refine wS (sT ?_);refine sA (hq:=Bd (i:=0) (g:=g0) rfl M1 rfl rfl rfl) (ht:=GK) ?_;refine sT (wN ?_);refine An rfl (fun hb1=>?_) (fun hb1=>?_)
 ·have H:=Au hb1 H;refine We ?_;refine sA (hq:=Bd (i:=1) (g:=g1) rfl Gx rfl rfl rfl) (ht:=(Al IF)) ?_;refine sT (sT ?_);(refine AT rfl (UZ (i:=1) (g:=g1) (new:=[_]) rfl Gx rfl (Ny.one (WY.lit rfl)) rfl rfl (Nat.le_of_ble_eq_true rfl) ?_);refine Dz (ht:=Mw) ?_);refine wN ?_;repeat(first|refine WV ?_|refine asN ?_)
  obtain rfl:=Ab.1 H;refine Wi (St.le.trans (E9 0 1 (by decide) rfl rfl) St.le.refl) ?_;exact⟨.inl rfl,(),rfl,rfl⟩
 ·have H:=Av hb1 H;refine As ?_;repeat(first|refine WV ?_|refine asN ?_)
  obtain rfl:=Ab.1 H;refine Wi (St.le.trans (E9 0 1 (by decide) rfl rfl) St.le.refl) ?_;exact⟨.inl rfl,(),rfl,rfl⟩
def Cg(f:Func)(rP1:Int):M Int:=M.bnd (E4 (fun s x0 x1=>Fr x0 x1 s.1 s.2) f (rP1,0)) fun r3=>M.ok r3.2
theorem Cr{f:Func}{rP1:Int}{r:Int}(H:(Cg f rP1).to r):Fn Try.prog 15 [.agg (Ap f),.lit (.int .i64 rP1)] (.lit (.int .i64 r)):=by
 delta Cg at H;try dsimp only at H
 refine AM Try.func15 rfl (by kernel_rfl) rfl Try.ntmps15 fun C hC=>?_
 simp only[List.length_cons,List.length_nil,Nat.reduceAdd,Nat.reduceSub,List.replicate_succ,List.replicate_zero,List.cons_append,List.nil_append];refine wS (sB ?_);(refine AT rfl (Xb.boxI 1 rfl rfl (Ny.one (WY.lit rfl)).weak ?_);refine Dz (ht:=Hf) ?_);refine sT (wN ?_);refine wS (Wp (sW (wN ?_)));refine Ga 1 rfl rfl rfl (fun g1=>(.agg (Ap f)::.lit (.int .i64 rP1)::.ptr 0 0::.lit (.pointer (some ⟨g1,0,none⟩))::.lit (.int .i64 0)::.ptr 2 0::A4 [])) (fun g1=>(by(repeat(first|exact OpnB.nil|refine OpnB.ptr ?_|refine OpnB.any ?_|refine OpnB.keep rfl ?_)))) fun g1=>?_
 refine nT ?_;refine Ga 2 rfl rfl rfl (fun g2=>(.agg (Ap f)::.lit (.int .i64 rP1)::.ptr 0 0::.lit (.pointer (some ⟨g1,0,none⟩))::.lit (.int .i64 0)::.lit (.pointer (some ⟨g2,0,none⟩))::A4 [])) (fun g2=>(by(repeat(first|exact OpnB.nil|refine OpnB.ptr ?_|refine OpnB.any ?_|refine OpnB.keep rfl ?_)))) fun g2=>?_
 refine nT ?_;obtain⟨r3,k3,H⟩:=Af.1 H;have k3:=Kb (R0:=(fun s=>(Res.and (Ml g1 [.lit (.int .i64 s.1)]) (Ml g2 [.lit (.int .i64 s.2)])))) (fun _=>rfl) (fun _ _ _ _ h=>h) rfl (fun _ _ _ _ H=>LZ H) k3;refine wS (sT ?_);refine sA (hq:=Fb rfl) (ht:=GK) ?_;refine Pk rfl (E9 1 2 (by decide) rfl rfl) ?_;(refine AT rfl (I0 (i:=1) rfl rfl k3 (fun _=>rfl) rfl rfl fun _=>?_);refine Dz (ht:=(Al Hg)) ?_);refine wN ?_;refine Be _ (IU 1 2 (by decide) rfl rfl) ?_;refine nT ?_;refine wS ?_;refine sA (hq:=Bd (i:=2) (g:=g2) rfl H8 rfl rfl rfl) (ht:=(Al IF)) ?_;refine sT (wN ?_);obtain rfl:=Ab.1 H;exact AH ⟨.inr rfl,W0.cl rfl⟩
def EH(rP0:Int)(n:Int)(f0:List (Int×Int)):M ((List (Int×Int))):=M.chk (Wd .i64 rP0) (M.chk (decide (f0.length < maxLen)) (M.ok (KP f0 rP0 (IntKind.i64.wrap (((FB f0 rP0).getD 0)+n)))))
theorem KA{rP0:Int}{n:Int}{f0:List (Int×Int)}{g0 m0:Nat}{r:(List (Int×Int))}(H:(EH rP0 n f0).to r):IX Try.prog 40 (Res.and (Ml g0 [.lit (.map (some m0))]) (O3 (Value.int .i64) f0 m0)) [.lit (.int .i64 rP0),.lit (.int .i64 n),.lit (.pointer (some ⟨g0,0,none⟩))] (fun _:Unit=>(Res.and (Ml g0 [.lit (.map (some m0))]) (O3 (Value.int .i64) r m0))) (fun _=>.tuple #[]):=by
 delta EH at H;try dsimp only at H
 refine EN Try.func40 rfl (by kernel_rfl) rfl Try.ntmps40 rfl (fun _ _ _ _ h=>h) fun C=>?_
 simp only[List.length_cons,List.length_nil,Nat.reduceAdd,Nat.reduceSub,List.replicate_succ,List.replicate_zero,List.cons_append,List.nil_append];refine Be _ (Le 0 rfl) ?_;refine W8.upto ?_;refine nT ?_;obtain⟨c1,H⟩:=Ag.1 H;obtain⟨c2,H⟩:=Ag.1 H;refine We ?_;refine sA (hq:=Bd (i:=0) (g:=g0) rfl M1 rfl rfl rfl) (ht:=Ge) ?_;refine sT ?_;refine sA (hq:=Oy 1 rfl Try.underlying52 Lo H8 Iu c1 rfl) (ht:=GK) ?_;refine sT (sT ?_);(refine AT rfl (TL 1 rfl Try.underlying52 rfl rfl rfl c1 (of_decide_eq_true c2) rfl ?_);refine Dz (ht:=Mw) ?_);refine wN ?_;repeat(first|refine WV ?_|refine asN ?_)
 obtain rfl:=Ab.1 H;refine Wi (St.le.trans (E9 0 1 (by decide) rfl rfl) St.le.refl) ?_;exact⟨.inl rfl,(),rfl,rfl⟩
end
end Mu
end
section
namespace Mu
open Go Go.RowKit Go.Proofs Go.Shelf Go.Lib Go.Sort Go.Maps
def G6(m:List (Int×Int))(x:Int):Int:=(FB m x).getD 0
def WQ(m:List (Int×Int))(x y:Int):Int:=if compareInt (G6 m x) (G6 m y)≠0 then compareInt (G6 m x) (G6 m y)else compareInt x y
def WF(m:List (Int×Int))(x y:Int):Prop:=G6 m x < G6 m y∨(G6 m x=G6 m y∧x < y)
instance(m:List (Int×Int))(x y:Int):Decidable (WF m x y):=by unfold WF;infer_instance
theorem Us{m:List (Int×Int)}{x y:Int}:decide (WQ m x y < 0)=decide (WF m x y):=by
 rw[Bool.eq_iff_iff,decide_eq_true_eq,decide_eq_true_eq];unfold WQ WF;generalize G6 m x=a;generalize G6 m y=b;unfold compareInt;by_cases h1:a < b
 ·simp[h1]
 ·by_cases h2:b < a
  ·have:a≠b:=by omega
   simp[h1,h2,this]
  ·have e:a=b:=by omega
   by_cases h3:x < y
   ·simp[e,h3]
   ·by_cases h4:y < x <;> simp[e,h3,h4]
def U3(m:List (Int×Int))(x y:Int):Bool:=!decide (WF m y x)
def Gw(m:List (Int×Int))(l:List Int):List Int:=l.mergeSort (U3 m)
theorem Dn(m:List (Int×Int))(l:List Int):(Gw m l).Perm l:=List.mergeSort_perm _ _
theorem FG(m:List (Int×Int))(l:List Int):(Gw m l).Pairwise fun x y=>¬WF m y x:=by
 have h:=List.pairwise_mergeSort (le:=U3 m) (fun a b c h1 h2=>by
  unfold U3 at *;simp only[Bool.not_eq_true',decide_eq_false_iff_not]at *;unfold WF at *;omega) (fun a b=>by
  unfold U3;simp only[Bool.or_eq_true,Bool.not_eq_true',decide_eq_false_iff_not];unfold WF;omega) l
 exact h.imp fun h=>by unfold U3 at h;simpa using h
theorem KO{m:List (Int×Int)}{l l':List Int}(hp:l'.Perm l)(hs:l'.Pairwise fun x y=>¬WF m y x):l'=Gw m l:=
 List.Perm.eq_of_pairwise (le:=fun x y=>¬WF m y x) (fun a b _ _ h1 h2=>by unfold WF at h1 h2;omega) hs (FG m l) (hp.trans (Dn m l).symm)
theorem Tr(l:List (Int×Int))(g m:Nat)(ty:TypeId)(fr:Nat×Nat)(x y:Int)(hx:NL x)(hy:NL y)(W:World)(hg:W.heap[g]? =some (.cells #[.map (some m)] ty fr))(hm:NA W m (JV (Value.int .i64) l)):
 Calls Try.prog 42 #[.int .i64 x,.int .i64 y,.pointer (some ⟨g,0,none⟩)] W fun e w'=>e= .returned (.int .i64 (WQ l x y))∧∃q os,w'=grow (W.drewN q) os:=by
 have hgl:g < W.heap.size:=(Array.getElem?_eq_some_iff.1 hg).1;have hA:=fun W=>AnyG.cmp_Compare_int Try.cmpIntP (G6 l x) (G6 l y) W
 have hB:=fun W=>AnyG.cmp_Compare_int Try.cmpIntP x y W
 change∀W,Calls Try.prog 44 _ _ _ at hA;change∀W,Calls Try.prog 44 _ _ _ at hB;obtain⟨r,hr⟩:∃r,compareInt (G6 l x) (G6 l y)=r:=⟨_,rfl⟩
 obtain⟨s,hs⟩:∃s,compareInt x y=s:=⟨_,rfl⟩
 have hu:WQ l x y=if r≠0 then r else s:=by unfold WQ;rw[hr,hs]
 rw[hr]at hA;rw[hs]at hB;clear hr hs;have hO:=fun W=>Vf r s W.heap.size 3 (W.alloc (.cells #[.int .i64 r,.int .i64 s] 3)) (heap_alloc_new W _)
 rw[←hu]at hO;generalize WQ l x y=u at hO⊢;clear hu;have vx:∀W2:World,NA W2 m (JV (Value.int .i64) l)→(Instr.lookup 52 (.map (some m)) (.int .i64 x) false).run Try.prog W2= .ok (.int .i64 (G6 l x)) W2:=fun W2 h2=>by
  have:=h2.look Try.underlying52 (Lo W2) hx;rw[this,Gm];unfold G6;cases FB l x <;> rfl
 have vy:∀W2:World,NA W2 m (JV (Value.int .i64) l)→(Instr.lookup 52 (.map (some m)) (.int .i64 y) false).run Try.prog W2= .ok (.int .i64 (G6 l y)) W2:=fun W2 h2=>by
  have:=h2.look Try.underlying52 (Lo W2) hy;rw[this,Gm];unfold G6;cases FB l y <;> rfl
 generalize G6 l x=a at hA vx;generalize G6 l y=b at hA vy;have c0:W.cell? ⟨g,0,none⟩=some (.map (some m)):=by simp[World.cell?,hg]
 have lx:=vx W hm;have ly:=vy W hm;clear vx vy hm hg
 go_enter Try.func42,Try.ntmps42
 go_wp2_with (first|(go_at_call 44;first|((with_reducible refine(hA _).mono ?_);rintro e w' ⟨rfl,rfl⟩)|((with_reducible refine(hB _).mono ?_);rintro e w' ⟨rfl,rfl⟩))|(go_at_call 43;refine(hO _).mono ?_;rintro e w' ⟨rfl,rfl⟩))
 go_ret
 exact⟨rfl,0,_,alloc_eq_grow _ _⟩
section
variable{α:Type}[Inhabited α]{enc:α→Value}
theorem MZ{w:World}{g n:Nat}{os:Array Obj}{cur:Array Value}{e:TypeId}{fr:Nat×Nat}(d:Array α)(hb:w.heap[g]? =some (.cells cur e fr)):
 (sortWorld enc w g 0 n d os).heap[g]? =some (.cells (Go.Sort.putCells enc 0 d cur) e fr):=by
 have hg:g < w.heap.size:=(Array.getElem?_eq_some_iff.1 hb).1;unfold sortWorld;rw[heap_grow_old _ _ (by simpa using hg)];simp[putRow,mapBlock,Sort.ahead,Array.getElem?_modify,hb,onCells]
theorem FW{w:World}{g n:Nat}{os:Array Obj}(d:Array α):w.grownBy (sortWorld enc w g 0 n d os) (some g):=by
 unfold sortWorld;refine⟨rfl,rfl,rfl,by simp,fun k hk hne=>?_⟩;rw[heap_grow_old _ _ (by simpa using hk)];have:g≠k:=fun e=>hne (by rw[e])
 simp[putRow,mapBlock,Sort.ahead,Array.getElem?_modify,this]
theorem Ks(cur:Array Value)(d:Array α)(h:d.size≤cur.size):(Go.Sort.putCells enc 0 d cur).toList.take d.size=d.toList.map enc:=by
 apply List.ext_getElem?;intro j;by_cases hj:j < d.size
 ·rw[List.getElem?_take_of_lt hj,Array.getElem?_toList,List.getElem?_map,Array.getElem?_toList];have hjc:j < cur.size:=by omega
  simp[Go.Sort.putCells,hj,hjc]
 ·rw[List.getElem?_take_eq_none (by omega),List.getElem?_eq_none (by simp;omega)]
end
abbrev WX:Type:={x:Int // NL x}
instance Uy:Inhabited WX:=⟨⟨0,by unfold NL;decide⟩⟩
def Vu(x:WX):Value:=.int .i64 x.1
theorem RA{l:List (Int×Int)}{x y:WX}:ltOf (fun x y:WX=>WQ l x.1 y.1) x y=decide (WF l x.1 y.1):=Us
theorem V5(l:List (Int×Int)):SWO (ltOf fun x y:WX=>WQ l x.1 y.1) where
 irrefl x:=by rw[RA];simp[WF]
 trans x y z h1 h2:=by
  rw[RA,decide_eq_true_eq]at *;unfold WF at *;omega
 ntrans x y z h1 h2:=by
  rw[RA,decide_eq_false_iff_not]at *;unfold WF at *;omega
theorem V4(l:List (Int×Int))(x y:WX)(h1:ltOf (fun x y:WX=>WQ l x.1 y.1) x y=false)(h2:ltOf (fun x y:WX=>WQ l x.1 y.1) y x=false):x=y:=by
 rw[RA,decide_eq_false_iff_not]at h1 h2;unfold WF at h1 h2;exact Subtype.ext (by omega)
theorem QY{base:Nat}{v:Value}{zs:List Int}{w:World}{l:List (Int×Int)}{gb m:Nat}{ty:TypeId}{fr:Nat×Nat}(hown:EP w base v zs)(hn:zs.length≤2147483648)(hok:By zs)(hgb:w.heap[gb]? =some (.cells #[.map (some m)] ty fr))(hm:NA w m (JV (Value.int .i64) l))(hno:∀q,v.ownBlock=some q→q≠gb∧q≠m):
 Calls Try.prog 41 #[v,.func (.func 42) #[] #[.pointer (some ⟨gb,0,none⟩)]] w fun e w'=>e= .returned (.tuple #[])∧EP w' base v (Gw l zs)∧w.grownBy w' v.ownBlock:=by
 rcases hown.2 with⟨rfl,h0⟩|⟨g,cap,cur,rfl,hbase,hb,h1,h2,h3,h4⟩
 ·have:zs= []:=List.eq_nil_of_length_eq_zero h0;subst this;refine(AnyF.slices_SortFunc_none (P:=Try.prog) (ρ:=Try.sortFI_ren) {Try.sortFI with} none 0 _ w).mono fun e w' ⟨he,hw⟩=>?_
  subst hw;exact⟨he,by simpa[Gw]using hown,World.grownBy.refl _ _⟩
 ·have hgl:g < w.heap.size:=(Array.getElem?_eq_some_iff.1 hb).1;obtain⟨n1,n2⟩:=hno g rfl;obtain⟨dl,hdl⟩:∃dl:List WX,dl.map (·.1)=zs:=⟨zs.attach.map fun(x:{y // y∈zs})=>(⟨x.1,hok x.1 x.2⟩:WX),by rw[List.map_map];exact zs.attach_map_subtype_val⟩
  have hlen:dl.length=zs.length:=by rw[←hdl,List.length_map]
  have hH0:=Ir hb h4;have hH:Holds Vu w g 0 dl.toArray:=fun j hj=>by
   have hj':j < dl.length:=by simpa using hj
   obtain⟨k1,k2⟩:=hH0 j (by simp;omega);refine⟨?_,k2⟩;rw[k1];have e1:zs.toArray[j]! =zs[j]'(by omega):=by simp[getElem!_pos,show j < zs.length by omega]
   have e2:dl.toArray[j]! =dl[j]:=by simp[getElem!_pos,hj']
   rw[e1,e2];unfold Vu;simp only[←hdl,List.getElem_map]
  have eg:∀args w,(callFunc 42 args).run Try.prog w= .ok (.enter 42 args) w:=enters_of Try.func42 (by kernel_rfl) rfl;have hcall:=Any.slices_SortFunc_total Try.sortFI Vu (fun _=>rfl) (fun x y:WX=>WQ l x.1 y.1) (V5 l) 42 #[.pointer (some ⟨gb,0,none⟩)] g 0 cap dl.toArray w eg (fun mm os dk _ x y=>by
   have hgr:=FW (enc:=Vu) (w:=w) (g:=g) (n:=mm) (os:=os) dk;exact Tr l gb m ty fr x.1 y.1 x.2 y.2 _ ((hgr.block gb (Array.getElem?_eq_some_iff.1 hgb).1 fun e=>n1 (by cases e;rfl)).trans hgb) (hm.keep (hgr.block m hm.lt fun e=>n2 (by cases e;rfl)))) hH hgl (by simp;omega) (V4 l)
  have hz:dl.toArray.size=zs.length:=by simpa using hlen
  rw[hz]at hcall;refine hcall.mono fun e w' ⟨he,n,os,hw⟩=>?_
  subst hw;refine⟨he,?_,FW _⟩;have hts:(dl.toArray.toList.mergeSort fun x y=>!(ltOf fun x y:WX=>WQ l x.1 y.1) y x).map (·.1)=Gw l zs:=by
   rw[List.map_mergeSort (s:=U3 l) fun a _ b _=>by rw[RA];rfl];unfold Gw;rw[←hdl]
  generalize (dl.toArray.toList.mergeSort fun x y=>!(ltOf fun x y:WX=>WQ l x.1 y.1) y x)=ts at hts⊢;have hsl:(Gw l zs).length=zs.length:=(Dn l zs).length_eq;have htl:ts.length=zs.length:=by rw[←hsl,←hts,List.length_map]
  unfold EP;rw[hsl];refine⟨by rw[List.length_map,hsl,Nat.mul_one],.inr ⟨g,cap,_,rfl,hbase,MZ _ hb,h1,h2,by simp[Go.Sort.putCells,h3],?_⟩⟩;have e2:=Ks (enc:=Vu) cur ts.toArray (by simp only[List.size_toArray];rw[h3];omega);have e3:ts.toArray.size=zs.length * 1:=by simp;omega
  rw[e3]at e2;rw[e2,←hts,List.map_map];rfl
section
variable{C:Ctx}{t:List AV}{h:List ABlk}{o:Oper}{K:St→Prop}
theorem MQ{m:List (Int×Int)}{l:List Int}(h:By l):By (Gw m l):=fun r hr=>h r ((Dn m l).mem_iff.1 hr)
theorem Me{x y:Operand}{tys:Array TypeId}{i ver j1 j2 g m:Nat}{l:List Int}{ml:List (Int×Int)}(ho:o.op= .call {callee:=.value (.func 41),args:=#[x,y],argTypes:=tys})(hx:WO t x= .own i ver)(hy:WO t y= .fn 42 [.lit (.pointer (some ⟨g,0,none⟩))])
 (hi:h[i]? =some (.row ver 3 tInt l)) (h1:h[j1]? =some (.res (Ml g [.lit (.map (some m))]))) (h2:h[j2]? =some (.res (O3 (Value.int .i64) ml m))) (hij:i≠j1∧i≠j2) (hl:l.length≤2147483648)
 (hK:K ⟨Bn t o.dst .any,h.set i (.row ver 3 tInt (Gw ml l))⟩):Xb Try.prog C o ⟨t,h⟩ K:=by
 rintro Q' a w ⟨hd,S,ψ,H,hl'⟩;refine⟨fun c e=>(by rw[ho]at e;cases e),?_⟩;have hx':=BC hl' x;have hy':=BC hl' y;rw[show WO (St.mk t h).t x= .own i ver from hx]at hx';rw[show WO (St.mk t h).t y=_ from hy]at hy';unfold AV.rel at hx' hy';obtain⟨cs,hyv,hcs⟩:=hy';obtain⟨u,rfl,hu⟩:=US hcs;unfold AV.rel at hu;subst hu;have hv:=(hx'.2 _ (by rw[hi];rfl)).2 rfl;have hBi:=H.blk i _ hi;have hlt:=hBi.lt rfl;obtain⟨hO,hw⟩:=Hh hBi;obtain⟨cs1,e1,hb1,hr1⟩:=(H.blk j1 _ h1).2;obtain⟨u1,rfl,hu1⟩:=US hr1;unfold AV.rel at hu1;subst hu1;have hm1:NA w m (JV (Value.int .i64) ml):=(H.blk j2 _ h2).2;have hbe:Bl (ψ i)=(ψ i).ownBlock:=by
  rcases hO.2 with⟨e,_⟩|⟨g,cap,cur,e,_⟩ <;> rw[e] <;> rfl
 have hno:∀q,(ψ i).ownBlock=some q→q≠g∧q≠m:=fun q hq=>by
  have f1:WL h[i]? (ψ i) q:=by rw[hi];exact hbe.trans hq
  exact⟨fun e=>H.dis i j1 hij.1 (by rw[hi];rfl) (by rw[h1];rfl) q f1 (by rw[h1];exact e),fun e=>H.dis i j2 hij.2 (by rw[hi];rfl) (by rw[h2];rfl) q f1 (by rw[h2];exact e)⟩
 unfold Oper.wp;rw[CZ ho (by kernel_rfl) a.eval w rfl];simp only[Oper.upon];rw[show(#[x,y].map a.eval)= #[ψ i,.func (.func 42) #[] #[.pointer (some ⟨g,0,none⟩)]]from by simp[hv,hyv]];refine(QY hO hl hw hb1 hm1 hno).mono ?_;rintro r w' ⟨rfl,hO',hgr⟩;have hgr':w.grownBy w' (Bl (ψ i)):=by rw[hbe];exact hgr
 have hblk:∀k,S k→w'.heap[k]? =w.heap[k]?:=fun k hk=>hgr'.block k (H.lt k hk) fun e=>(hlt k e.symm).2.2 hk
 have X:Ext w S h ψ w' S (h.set i (.row ver 3 tInt (Gw ml l))) (AX ψ i (ψ i)):=Ext.set hblk hi (fun c' hc=>by
  simp only[ABlk.ver,Option.some.injEq]at hc;exact⟨ver,rfl,by omega,fun _=>⟨rfl,rfl⟩⟩) fun h=>by simp[AP]at h
 exact⟨_,hK,Gz (s:=⟨t,h⟩) hi hd hl' (H.set hi rfl (Gr.of_grownBy hgr') X (Jc hO' (MQ hw) fun g hg=>⟨(hlt g (AQ hg)).1,(hlt g (AQ hg)).2.2⟩) fun g hg=>.inl hg) X (by unfold AV.rel;trivial)⟩
end
end Mu
end
section
namespace Mu
open Go Go.RowKit
section
variable{P:Program}{C:Ctx}
theorem Wf{l:List Oper}{y:Code}{id:Nat}{Q:Exit→St→Prop}{s:St}(hx:∀K:St→Prop,(∀s',W8 P C y Q s'→K s')→Cs P C l.toArray K l s):W8 P C (.seq (.region id l.toArray false) y) Q s:=Aq fun _ hK=>W8.region (hx _ hK)
theorem V3{l:List Oper}{id:Nat}{Q:Exit→St→Prop}{s:St}(hx:∀K:St→Prop,(∀s',Q .normal s'→K s')→Cs P C l.toArray K l s):W8 P C (.region id l.toArray false) Q s:=W8.region (hx _ fun _ h=>h)
end
end Mu
end
section
namespace Mu
open Go Go.RowKit Go.Proofs Go.Shelf Go.Lib Go.Sort Go.Maps
instance Ux:ZC Try.prog 52 [.map none]:=⟨by kernel_rfl⟩
theorem GH{P:Program}{C:Ctx}{t:List AV}{h:List ABlk}{o:Oper}{x:Operand}{j:Nat}{xs:Array Value}{v:Value}(ho:o.op= .extract x j)(hx:WO t x= .lit (.tuple xs))(hr:xs[j]? =some v):Az P C t h o (.lit v):=
 AL fun S ψ w ρ _ hρ=>by
  have h1:=hρ x (by simp[ho,Op.operands]);rw[hx]at h1;unfold AV.rel at h1;exact⟨v,by simp[execOp,ho,h1,Instr.extract,hr],by unfold AV.rel;rfl⟩
theorem Oc{α:Type}{l:List (Int×α)}(h:Pq l):(FA l).Nodup:=by
 unfold FA;exact List.pairwise_map.2 (h.imp fun h=>by omega)
theorem Py{m:List (Int×Int)}{ks:List Int}(hm:Pq m)(hn:ks.Nodup)(h:∀q,q∈ks↔q∈FA m):Gw m ks=Gw m (FA m):=
 KO ((Dn m ks).trans ((List.perm_ext_iff_of_nodup hn (Oc hm)).2 h)) (FG m ks)
noncomputable section
def Ef(f:Func):M (List Int):=M.bnd (E4 (fun s x0 x1=>EH x0 x1 s) f ([]:List (Int×Int))) fun m=>M.chk (decide (m.length≤2097152∧Pq m)) (M.ok (Gw m (FA m)))
theorem F0{f:Func}{r:List Int}(H:(Ef f).to r):Fn Try.prog 17 [.agg (Ap f)] (.bs tInt r):=by
 obtain⟨s,k,H⟩:=Af.1 H;obtain⟨c,H⟩:=Ag.1 H;obtain rfl:=Ab.1 H;have c:=of_decide_eq_true c;refine AM Try.func17 rfl (by kernel_rfl) rfl Try.ntmps17 fun C hC=>?_
 simp only[List.length_cons,List.length_nil,Nat.reduceAdd,Nat.reduceSub,List.replicate_succ,List.replicate_zero,List.cons_append,List.nil_append];refine wR (hx:=by((refine AT rfl (Xb.boxI 0 rfl rfl Pn.agg ?_);refine Dz (ht:=IF) ?_);refine sA (hq:=Az.assign rfl Mk) (ht:=GL) ?_;exact Lr rfl)) ?_;refine Wf fun K1 hK1=>?_
 refine AT rfl (Qt (Value.int .i64) rfl fun m=>?_);refine Dz (ht:=Id) ?_;refine AT rfl (Sy 2 rfl rfl ?_);refine Dz (ht:=Hf) ?_;refine AT rfl (Gc (new:=[_]) rfl rfl rfl (Ny.one (WY.lit rfl)) rfl (Nat.le_of_ble_eq_true rfl) ?_);refine Dz (ht:=Mw) ?_;refine CC (hK1 _ ?_);refine Ga 2 rfl rfl rfl (fun g=>(.agg (Ap f)::.ptr 0 0::.lit (.slice none 0 0)::.lit (.pointer (some ⟨g,0,none⟩))::A2 (.lit (.map (some m))::Xf (A7 [])))) (fun g=>(by(repeat(first|exact OpnB.nil|refine OpnB.ptr ?_|refine OpnB.any ?_|refine OpnB.keep rfl ?_)))) fun g=>?_
 refine nT ?_;have k:=Kb (R0:=fun s=>Res.and (Ml g [.lit (.map (some m))]) (O3 (Value.int .i64) s m)) (fun _=>rfl) (fun _ _ _ _ h=>h) rfl (fun _ _ _ _ H=>KA H) k;refine wR (hx:=by(refine sA (hq:=AB rfl J4 rfl rfl) (ht:=GK) ?_;refine sA (hq:=Fb rfl) (ht:=(Al Hg)) ?_;refine Pk rfl (E9 2 1 (by decide) rfl rfl) ?_;(refine AT rfl (I0 (i:=2) rfl rfl k (fun _=>rfl) rfl rfl fun _=>?_);refine Dz (ht:=(Al IF)) ?_);exact Lr rfl)) ?_;refine Be _ (IU 2 1 (by decide) rfl rfl) ?_;refine nT ?_;refine wR (hx:=by(refine sA (hq:=Az.assign rfl Mk) (ht:=JC) ?_;exact Lr rfl)) ?_;refine Aq fun K5 h5=>?_
 refine Wf fun K6 hK6=>?_
 refine sA (hq:=Bd (i:=2) (g:=g) rfl Gx rfl rfl rfl) (ht:=(Al GL)) ?_;refine AT rfl (Qs 1 rfl Try.underlying52 rfl rfl fun rg=>?_);refine Dz (ht:=(Al Hf)) ?_;refine CC (hK6 _ ?_);refine Be _ (Dk 4 3 tInt rfl (by decide)) ?_;refine nT ?_;refine Aj ?_;have hkl:(FA s).length=s.length:=by simp[FA]
 refine Cv (fun p:List Int×Nat=>⟨(A3 (.lit (.pointer (some ⟨g,0,none⟩))::.own 3 p.2::A6 (.lit (.pointer (some ⟨rg,0,none⟩))::Xf (A2 [])))),[.dead,.res (T9 (Value.int .i64) s p.1 m rg),.res (Ml g [.lit (.map (some m))]),.row p.2 3 tInt p.1]⟩) (fun p=>p.1.Nodup∧∀q∈p.1,q∈FA s) (fun p=>s.length - p.1.length) ([],0) ⟨List.nodup_nil,fun q hq=>by cases hq⟩ (WH (Cut.dead (Cut.cons (Cut.cons (Cut.cons (Cut.nil _)))))) ?_;rintro⟨ks,ver⟩ ⟨hnd,hsub⟩
 (try dsimp only at hnd hsub);(try dsimp only)
 refine Aq fun K3 h3=>?_
 refine W8.region ?_;refine AT rfl (Sw 1 rfl rfl rfl (fun hn hall=>?_) (fun q v hn hs hw hq hnk=>?_))
 ·refine Wm ?_;refine sA (hq:=GH rfl rfl rfl) (ht:=(Al Ge)) ?_;refine CC ?_;refine h3 _ ?_;refine nT ?_;refine Aq fun K4 h4=>?_
  refine An rfl (fun hb5=>by cases hb5) (fun hb5=>?_);refine AI ?_;repeat(first|refine AU ?_|refine exO (by decide) ?_|refine asE ?_)
  refine WN ?_;refine h5 _ ?_;refine nT ?_;have hlen:ks.length≤2147483648:=by
   have:=LL hnd hsub;omega
  refine Be _ (Ns (i:=1) (R':=O3 (Value.int .i64) s m) rfl (fun _ h=>.inl h) (fun _ _ h=>by obtain⟨h0,left,cnt,h1,_⟩:=h;exact⟨h0,h1.owns⟩) rfl) ?_;refine nT ?_;refine wR (hx:=by(refine sA (hq:=Az.move rfl IN) (ht:=(Al (Al JC))) ?_;refine sA (hq:=Fb rfl) (ht:=(Al (Al Ge))) ?_;(refine AT rfl (Me (j1:=2) (j2:=1) (ml:=s) rfl rfl rfl rfl rfl rfl (by decide) hlen ?_);refine Dz (ht:=(Al (Al Id))) ?_);exact Lr rfl)) (hk:=?_);refine wR (hx:=by(refine sA (hq:=Az.move rfl IN) (ht:=(Al (Al GK))) ?_;refine sA (hq:=Az.assign rfl (Aw (Aw Ji))) (ht:=GL) ?_;exact Lr rfl)) ?_;rw[Py c.2 hnd hall];exact AH ⟨.inr rfl,W0.own rfl⟩
 ·refine Wm ?_;refine sA (hq:=GH rfl rfl rfl) (ht:=(Al Ge)) ?_;refine CC ?_;refine h3 _ ?_;refine nT ?_;refine Aq fun K4 h4=>?_
  refine An rfl (fun hb5=>?_) (fun hb5=>by cases hb5);refine As ?_;refine h4 _ ?_;refine nT ?_;refine Aj ?_;have hw':Wd .i64 q=true:=hw;have hq2:q∈FA s:=List.mem_map.2 ⟨(q,v),(Gn c.2).1 hq,rfl⟩;have hnd2:(ks++[q]).Nodup:=List.nodup_append.2 ⟨hnd,by simp,fun a ha b hb=>by rw[List.mem_singleton.1 hb];exact fun e=>hnk (e▸ha)⟩;have hsub2:∀x∈ks++[q],x∈FA s:=fun x hx=>(List.mem_append.1 hx).elim (hsub x) fun e=>by rw[List.mem_singleton.1 e];exact hq2
  have hlen:=LL hnd2 hsub2;rw[List.length_append,hkl]at hlen;have c15:GC (ks.length+ [q].length) 8=true:=by
   simp only[List.length_cons,List.length_nil]at hlen⊢;unfold GC maxLen;simp only[Bool.and_eq_true,decide_eq_true_eq];omega
  refine wR (hx:=by(refine sA (hq:=Nw 1 rfl rfl rfl) (ht:=(Al Id)) ?_;refine sA (hq:=Az.extract rfl (Aw Iu) rfl) (ht:=(Al GK)) ?_;refine sA (hq:=Az.assign rfl (Aw Ji)) (ht:=Ge) ?_;exact Lr rfl)) ?_;refine Wg (hx:=by(refine sA (hq:=Az.move rfl IN) (ht:=(Al (Al Hg))) ?_;refine sA (hq:=Az.move rfl H8) (ht:=(Al (Al IF))) ?_;refine sA (hq:=Az.lt (xs:=[.tmp 17]) (T:=tInt) (ds:=[q]) rfl rfl rfl (by rfl) (by decide) (.cons (WZ.int hw') .nil)) (ht:=(Al (Al GL))) ?_;(refine AT rfl (Gv rfl rfl rfl rfl rfl c15 ?_);refine Dz (ht:=(Al (Al Hf))) ?_);refine sA (hq:=Az.assign rfl (Aw (Aw Gx))) (ht:=JC) ?_;exact Lr rfl)) (hk:=?_);repeat(first|refine WV ?_|refine asN ?_)
  refine Am ⟨(ks++[q],ver+1),⟨hnd2,hsub2⟩,by simp only[List.length_append,List.length_cons,List.length_nil]at hlen⊢;omega,?_⟩;refine St.le.trans (Ns (i:=1) (R':=T9 (Value.int .i64) s (ks++[q]) m rg) rfl (fun _ h=>h) (fun _ _ h=>h.1) rfl) ?_;exact AA
end
end Mu
end
section
namespace Mu
open Go Go.RowKit Go.Proofs
theorem EP.keepB{w w':World}{base:Nat}{v:Value}{l:List Int}(h:EP w base v l)(hk:∀g,v.ownBlock=some g→w'.heap[g]? =w.heap[g]?):EP w' base v l:=by
 obtain⟨h1,h2⟩:=h;refine⟨h1,?_⟩;rcases h2 with h2|⟨g,cap,cur,hv,hg,hh,r⟩
 ·exact .inl h2
 ·exact .inr ⟨g,cap,cur,hv,hg,(hk g (by rw[hv];rfl)).trans hh,r⟩
structure RowsH(e:TypeId)(O n:Nat)(cv vs:List Value)(ls:List (List Int))(w:World):Prop where
 blk:w.heap[O]? =some (.cells cv.toArray e (0,0))
 lc:cv.length=ls.length
 ln:ls.length=n
 lm:n≤maxLen
 lv:vs.length=ls.length
 row:∀(k:Nat) (v:Value) (l:List Int),vs[k]? =some v→ls[k]? =some l→EP w 0 v l∧By l
 dis:∀(j k:Nat) (v v':Value) (g:Nat),j≠k→vs[j]? =some v→vs[k]? =some v'→v.ownBlock=some g→v'.ownBlock≠some g
 out:∀(k:Nat) (v:Value),vs[k]? =some v→v.ownBlock≠some O
theorem RowsH.cell{e:TypeId}{O n:Nat}{cv vs:List Value}{ls:List (List Int)}{w:World}(H:RowsH e O n cv vs ls w){k:Nat}{v:Value}(hk:cv[k]? =some v):w.cell? ⟨O,k,none⟩=some v:=by
 simp[World.cell?,H.blk,hk]
def Fh(e:TypeId)(O n:Nat)(cv vs:List Value)(ls:List (List Int)):Res where
 mrk:=[]
 F:=fun g=>g=O∨∃v∈vs,v.ownBlock=some g
 R:=fun w _=>RowsH e O n cv vs ls w
 keep:=fun H hk _ _=>⟨(hk O (.inl rfl)).trans H.blk,H.lc,H.ln,H.lm,H.lv,fun k v l h1 h2=>⟨(H.row k v l h1 h2).1.keepB fun g hg=>hk g (.inr ⟨v,List.mem_of_getElem? h1,hg⟩),(H.row k v l h1 h2).2⟩,H.dis,H.out⟩
theorem LW{α:Type}{l:List α}{k:Nat}{d:α}(h:k < l.length):l[k]? =some (l.getD k d):=by rw[List.getD_eq_getElem?_getD,List.getElem?_eq_getElem h];rfl
section
variable{P:Program}{C:Ctx}{o:Oper}{t:List AV}{h:List ABlk}{K:St→Prop}
def WJ(n:Nat)(z:Int):Bool:=decide (0≤z)&&decide (z.toNat < n)
theorem IW{ty:TypeId}{x y:Operand}{ik:IntKind}{g n c:Nat}{z:Int}[ES P ty 1](ho:o.op= .indexAddr ty x y)(hx:WO t x= .lit (.slice (some ⟨g,0,none⟩) n c))(hy:WO t y= .lit (.int ik z))(hz:WJ n z=true):
 Az P C t h o (.lit (.pointer (some ⟨g,z.toNat,none⟩))):=by
 unfold WJ at hz;simp only[Bool.and_eq_true,decide_eq_true_eq]at hz;have e:z=(z.toNat:Int):=by omega
 have:=So (P:=P) (n:=1) (C:=C) (h:=h) (k:=z.toNat) ho hx (by rw[hy,←e]) hz.2;rwa [show 0+z.toNat * 1=z.toNat by omega]at this
theorem OG{ty:TypeId}{x y:Operand}{k k':IntKind}{z:Int}{e:TypeId}{bytes:Nat}(ho:o.op= .makeSlice ty x y)(hz:GI P ty=some (e,.slice none 0 0,bytes))
 (hx:WO t x= .lit (.int k z)) (hy:WO t y= .lit (.int k' z)) (hb:JW z bytes=true)
 (hK:∀O:Nat,K ⟨Bn t o.dst (.lit (.slice (some ⟨O,0,none⟩) z.toNat z.toNat)),h++[.res (Fh e O z.toNat (List.replicate z.toNat (.slice none 0 0)) (List.replicate z.toNat (.slice none 0 0)) (List.replicate z.toNat []))]⟩):Xb P C o ⟨t,h⟩ K:=by
 refine IZ (ι:=Nat) (Rs:=fun O=>Fh e O z.toNat (List.replicate z.toNat (.slice none 0 0)) (List.replicate z.toNat (.slice none 0 0)) (List.replicate z.toNat [])) (val:=fun O=>.slice (some ⟨O,0,none⟩) z.toNat z.toNat) (fun _=>rfl) (fun S ψ w ρ H hρ=>?_) hK;unfold JW at hb;simp only[Bool.and_eq_true,decide_eq_true_eq]at hb;obtain⟨⟨h0,h1⟩,h2⟩:=hb;have hx':=hρ x (by simp[ho,Op.operands]);have hy':=hρ y (by simp[ho,Op.operands]);rw[hx]at hx';rw[hy]at hy';unfold AV.rel at hx' hy';unfold GI at hz;split at hz <;> try(cases hz;done)
 rename_i e' hu;obtain⟨i,hi,hz2⟩:=Option.bind_eq_some_iff.1 hz;obtain⟨z',hz',hz3⟩:=Option.bind_eq_some_iff.1 hz2;split at hz3 <;> try(cases hz3;done)
 rename_i h4;cases hz3;have hzn:z=((z.toNat:Nat):Int):=by omega
 have hrun:=run_make_row' (P:=P) ty e (.slice none 0 0) i.bytes hu (by rw[hi];simp[hz',h4.1]) rfl k k' z.toNat h2 (by unfold maxLen at h1;omega) w;rw[←hzn,MV]at hrun;have hex:(execOp ρ o).run P w= .ok (.value (.slice (some ⟨w.heap.size,0,none⟩) z.toNat z.toNat)) (w.alloc (.cells (List.replicate z.toNat (Value.slice none 0 0)).toArray e)):=by
  simp[execOp,ho,hx',hy',hrun]
 rw[hex];have hnil:∀(k:Nat) (v:Value),(List.replicate z.toNat (Value.slice none 0 0))[k]? =some v→v= .slice none 0 0:=fun k v hv=>(List.mem_replicate.1 (List.mem_of_getElem? hv)).2
 refine⟨⟨rfl,rfl,rfl,by simp,fun k hk _=>heap_alloc_old w _ hk⟩,w.heap.size,rfl,⟨heap_alloc_new w _,by simp,by simp,h1,by simp,fun k v l hv hl=>?_,fun j k v v' g _ hv _ hg=>?_,fun k v hv=>?_⟩,fun g hg=>?_⟩
 ·rw[hnil k v hv,(List.mem_replicate.1 (List.mem_of_getElem? hl)).2];exact⟨EP.nil _ _,fun x hx=>by cases hx⟩
 ·rw[hnil j v hv]at hg;cases hg
 ·rw[hnil k v hv];exact fun e=>by cases e
 ·rcases hg with hg|⟨v,hv,hg⟩
  ·subst hg;exact⟨.inr (Nat.le_refl _),by simp⟩
  ·rw[(List.mem_replicate.1 hv).2]at hg;cases hg
theorem Ma{ty e:TypeId}{x:Operand}{i O n:Nat}{cv vs:List Value}{ls:List (List Int)}{z:Int}[AG P ty false 1](ho:o.op= .load ty x)(hx:WO t x= .lit (.pointer (some ⟨O,z.toNat,none⟩)))(hi:h[i]? =some (.res (Fh e O n cv vs ls)))(hz:Bq ls z=true):Az P C t h o (.lit (cv.getD z.toNat undef)):=
 IV ho hx hi rfl fun w S hR=>by
  have H:RowsH e O n cv vs ls w:=hR;have hk:=(Bt.1 hz).2;rw[←H.lc]at hk;exact⟨cv.getD z.toNat undef,H.cell (LW hk),by unfold AV.rel;rfl⟩
theorem NH{ty e:TypeId}{x y:Operand}{i O n bytes:Nat}{vs:List Value}{ls:List (List Int)}{l2:List Int}{z:Int}(ho:o.op= .call {callee:=.builtin .append,args:=#[x,y],argTypes:=#[ty,ty]})(hT:JE P ty=some (3,1,bytes))
 (hx:WO t x= .lit (vs.getD z.toNat undef)) (hi:h[i]? =some (.res (Fh e O n vs vs ls))) (hy:WO t y= .bs tInt l2) (hz:Bq ls z=true) (hb:GC ((ixD ls z).length+l2.length) bytes=true)
 (hK:∀v':Value,K ⟨Bn t o.dst (.lit v'),h.set i (.res (Fh e O n vs (vs.set z.toNat v') (ls.set z.toNat (ixD ls z++l2))))⟩):Xb P C o ⟨t,h⟩ K:=by
 refine Ea (ι:=Value) (Rs:=fun v'=>Fh e O n vs (vs.set z.toNat v') (ls.set z.toNat (ixD ls z++l2))) (val:=fun v'=>v') hi (fun _=>rfl) (fun S ψ w ρ H hR hlt hρ=>?_) hK;have HR:RowsH e O n vs vs ls w:=hR;have hxv:=hρ x (by rw[ho];exact Array.mem_append.2 (.inr (by simp)));have hyv:=hρ y (by rw[ho];exact Array.mem_append.2 (.inr (by simp)));rw[hx]at hxv;rw[hy]at hyv;unfold AV.rel at hxv hyv;have hzl:=(Bt.1 hz).2;have hk:z.toNat < vs.length:=by rw[HR.lv];exact hzl
 have hv:=LW (d:=undef) hk;have hl:=A0 hz;obtain⟨hown,hok⟩:=HR.row _ _ _ hv hl;obtain⟨h1,ti,zz,h2,h3,h4,h5,h6⟩:=Eb hT;obtain⟨A,c,hyf⟩:=BG hyv;rw[hyf]at hyv;obtain⟨news,hnl,hsrc,hnR,hn1⟩:=Jv hyv fun cs d hcs=>Je _ _ _ _ hcs
 have hnews:news=l2.map (Value.int .i64)∧By l2:=by
  have hl2:news.length=l2.length:=by rw[hnl];exact Nat.mul_one _
  have hg:∀j d,l2[j]? =some d→news[j]? =some (Value.int .i64 d)∧Wc .i64 d:=fun j d hd=>by
   have:=hnR j d hd;rw[show tInt.size=1 from rfl,Nat.mul_one,List.take_one,List.head?_drop]at this;have hjl:j < news.length:=by rw[hl2];exact(List.getElem?_eq_some_iff.1 hd).1
   rw[List.getElem?_eq_getElem hjl]at this⊢;obtain⟨h7,h8⟩:=FF.1 this;exact⟨by simpa using h7,h8⟩
  refine⟨List.ext_getElem? fun j=>?_,fun r hr=>?_⟩
  ·rw[List.getElem?_map];cases hd:l2[j]? with
   |none=>rw[List.getElem?_eq_none (by rw[hl2];exact List.getElem?_eq_none_iff.1 hd)];rfl
   |some d=>exact(hg j d hd).1
  ·obtain⟨j,hj⟩:=List.getElem?_of_mem hr;exact(hg j r hj).2
 have hrb:=hb;unfold GC at hrb;simp only[Bool.and_eq_true,decide_eq_true_eq]at hrb;obtain⟨v',w',hrun,hown',hgr,hb'⟩:=Lu (P:=P) (ty:=o.type) (c:=c) (base:=0) h1 h2 h3 h4 h5 h6 (Nat.zero_lt_one) hown (hsrc w fun _ _=>rfl) hn1 hrb.1 hrb.2 (Nat.zero_le _);have hex:(execOp ρ o).run P w= .ok (.value v') w':=by
  unfold execOp;simp only[ho,resolve,invoke,builtin,Sem.run_bind,Sem.run_pure,Result.andThen_ok,List.map_toArray,List.map_cons,List.map_nil,hxv,hyf,hrun]
 rw[hex];have hown2:EP w' 0 v' (ixD ls z++l2):=EP.of (n:=(ixD ls z).length+l2.length) hown' (by simp) (by rw[List.map_append,hnews.1]);have hFb:∀g,(vs.getD z.toNat undef).ownBlock=some g→g=O∨∃v∈vs,v.ownBlock=some g:=fun g hg=>.inr ⟨_,List.mem_of_getElem? hv,hg⟩
 have hOl:O < w.heap.size:=hlt O (.inl rfl);have hnewB:∀g,v'.ownBlock=some g→(vs.getD z.toNat undef).ownBlock=some g∨g=w.heap.size:=fun g hg=>by
  rcases hb' with e1|e1
  ·exact .inl (e1▸hg)
  ·rw[e1]at hg;cases hg;exact .inr rfl
 have hset:∀(k:Nat) (v:Value),(vs.set z.toNat v')[k]? =some v→(k=z.toNat∧v=v')∨(k≠z.toNat∧vs[k]? =some v):=fun k v hkv=>by
  by_cases e:k=z.toNat
  ·subst e;rw[List.getElem?_set_self hk]at hkv;exact .inl ⟨rfl,(Option.some.inj hkv).symm⟩
  ·rw[List.getElem?_set_ne (Ne.symm e)]at hkv;exact .inr ⟨e,hkv⟩
 refine⟨⟨hgr.os,hgr.tape,hgr.output,hgr.size,fun k hk hn=>hgr.block k hk fun e=>hn (hFb k e.symm)⟩,v',rfl,⟨?_,?_,by rw[List.length_set];exact HR.ln,HR.lm,?_,fun k v l hkv hkl=>?_,fun j k v v2 g hjk hj hk2 hg=>?_,fun k v hkv=>?_⟩,fun g hg=>?_⟩
 ·exact(hgr.block O hOl fun e=>HR.out _ _ hv e.symm).trans HR.blk
 ·rw[List.length_set];exact HR.lc
 ·rw[List.length_set,List.length_set];exact HR.lv
 ·rcases hset k v hkv with⟨rfl,rfl⟩|⟨hne,hkv⟩
  ·rw[List.getElem?_set_self hzl]at hkl;cases hkl;exact⟨hown2,fun r hr=>(List.mem_append.1 hr).elim (hok r) (hnews.2 r)⟩
  ·rw[List.getElem?_set_ne (Ne.symm hne)]at hkl;obtain⟨h7,h8⟩:=HR.row k v l hkv hkl;exact⟨h7.keepB fun g hg=>hgr.block g (h7.lt g hg).2 fun e=>HR.dis k z.toNat v _ g hne hkv hv hg e.symm,h8⟩
 ·rcases hset j v hj with⟨rfl,rfl⟩|⟨hj1,hj2⟩
  ·rcases hset k v2 hk2 with⟨rfl,_⟩|⟨hk1,hk2⟩
   ·exact absurd rfl hjk
   ·rcases hnewB g hg with e1|e1
    ·exact HR.dis _ _ _ _ g (Ne.symm hk1) hv hk2 e1
    ·intro e2;obtain⟨l',hl'⟩:∃l',ls[k]? =some l':=⟨_,List.getElem?_eq_getElem (by rw[←HR.lv];exact(List.getElem?_eq_some_iff.1 hk2).1)⟩
     have:=((HR.row k v2 l' hk2 hl').1.lt g e2).2;omega
  ·rcases hset k v2 hk2 with⟨rfl,rfl⟩|⟨hk1,hk2⟩
   ·intro e2;rcases hnewB g e2 with e1|e1
    ·exact HR.dis _ _ _ _ g hj1 hj2 hv hg e1
    ·obtain⟨l',hl'⟩:∃l',ls[j]? =some l':=⟨_,List.getElem?_eq_getElem (by rw[←HR.lv];exact(List.getElem?_eq_some_iff.1 hj2).1)⟩
     have:=((HR.row j v l' hj2 hl').1.lt g hg).2;omega
   ·exact HR.dis j k v v2 g hjk hj2 hk2 hg
 ·rcases hset k v hkv with⟨rfl,rfl⟩|⟨_,hkv⟩
  ·intro e2;rcases hnewB O e2 with e1|e1
   ·exact HR.out _ _ hv e1
   ·omega
  ·exact HR.out k v hkv
 ·have hwl:w.heap.size≤w'.heap.size:=hgr.size;rcases hg with hg|⟨v,hvm,hg⟩
  ·subst hg;exact⟨.inl (.inl rfl),by omega⟩
  ·obtain⟨k,hk2⟩:=List.getElem?_of_mem hvm;rcases hset k v hk2 with⟨rfl,rfl⟩|⟨_,hk2⟩
   ·have hgl:=(hown2.lt g hg).2;rcases hnewB g hg with e1|e1
    ·exact⟨.inl (hFb g e1),hgl⟩
    ·exact⟨.inr (by omega),hgl⟩
   ·exact⟨.inl (.inr ⟨v,List.mem_of_getElem? hk2,hg⟩),by have:=hlt g (.inr ⟨v,List.mem_of_getElem? hk2,hg⟩);omega⟩
theorem OE{ty e:TypeId}{x y:Operand}{i O n:Nat}{cv vs0:List Value}{ls:List (List Int)}{z:Int}{v':Value}[SZ P ty 1](ho:o.op= .store ty x y)(hx:WO t x= .lit (.pointer (some ⟨O,z.toNat,none⟩)))(hy:WO t y= .lit v')(hi:h[i]? =some (.res (Fh e O n cv (vs0.set z.toNat v') ls)))(hz:Bq ls z=true)
 (hK:K ⟨Bn t o.dst (.lit undef),h.set i (.res (Fh e O n (cv.set z.toNat v') (vs0.set z.toNat v') ls))⟩):Xb P C o ⟨t,h⟩ K:=by
 refine Ea (ι:=Unit) (Rs:=fun _=>Fh e O n (cv.set z.toNat v') (vs0.set z.toNat v') ls) (val:=fun _=>undef) hi (fun _=>rfl) (fun S ψ w ρ H hR hlt hρ=>?_) (fun _=>hK);have h1:=hρ x (by simp[ho,Op.operands]);have h2:=hρ y (by simp[ho,Op.operands]);rw[hx]at h1;rw[hy]at h2;unfold AV.rel at h1 h2;have HR:RowsH e O n cv (vs0.set z.toNat v') ls w:=hR;have hzl:=(Bt.1 hz).2;have hk:z.toNat < cv.length:=by rw[HR.lc];exact hzl
 have hv:(vs0.set z.toNat v')[z.toNat]? =some v':=List.getElem?_set_self (by have:=HR.lv;rw[List.length_set]at this;omega);obtain⟨l,hl⟩:∃l,ls[z.toNat]? =some l:=⟨_,List.getElem?_eq_getElem hzl⟩
 have hown:=(HR.row _ _ _ hv hl).1;have hc1:v'.cells= #[v']∧v'.oneCell'=true:=by
  rcases hown.2 with⟨rfl,_⟩|⟨g,cap,cur,rfl,_⟩
  ·exact⟨rfl,rfl⟩
  ·exact⟨rfl,rfl⟩
 have hcell:w.cell? ⟨O,z.toNat,none⟩=some (cv.getD z.toNat undef):=HR.cell (LW hk);have hfz:w.frozen? ⟨O,z.toNat,none⟩=false:=by
  simp only[World.frozen?,HR.blk];simp
 have hsz:(P.info? ty).map (·.size)=some 1:=SZ.eq (P:=P) (ty:=ty) (n:=1);obtain⟨inf,hi',hsi⟩:=Option.map_eq_some_iff.1 hsz;have hst:(store ⟨O,z.toNat,none⟩ v' .plain).run P w= .ok () (w.setCell ⟨O,z.toNat,none⟩ v'):=by
  rw[run_store P w _ _ _ hc1.2,hcell];simp[hfz]
 have hrun:(execOp ρ o).run P w= .ok .skip (w.setCell ⟨O,z.toNat,none⟩ v'):=by
  simp[execOp,ho,h1,h2,Instr.storeAt,Instr.sureAddr,storeVar,Go.sizeOf,typeInfo,hi',hsi,storeCells,hc1.1,Addr.add];rw[hst];rfl
 rw[hrun];have hblk:∀k,k≠O→(w.setCell ⟨O,z.toNat,none⟩ v').heap[k]? =w.heap[k]?:=fun k hk=>by simp[World.setCell,Array.getElem?_modify,Ne.symm hk]
 refine⟨⟨rfl,rfl,rfl,by simp[World.setCell],fun k hk hn=>hblk k fun e=>hn (.inl e)⟩,(),rfl,⟨?_,by rw[List.length_set];exact HR.lc,HR.ln,HR.lm,HR.lv,fun k v l hkv hkl=>?_,HR.dis,HR.out⟩,fun g hg=>?_⟩
 ·simp[World.setCell,Array.getElem?_modify,HR.blk]
 ·obtain⟨h7,h8⟩:=HR.row k v l hkv hkl;exact⟨h7.keepB fun g hg=>hblk g fun e=>HR.out k v hkv (by rw[←e];exact hg),h8⟩
 ·exact⟨.inl hg,by have:=hlt g hg;simpa[World.setCell]using this⟩
end
theorem PD{e:TypeId}{O n:Nat}{vs:List Value}{ls:List (List Int)}{w:World}{S:Nat→Prop}(H:RowsH e O n vs vs ls w)(hO:S O)(hS:∀v∈vs,∀g,v.ownBlock=some g→S g):tInt.slice.slice.RS w S [.slice (some ⟨O,0,none⟩) n n] ls:=by
 have hm:=H.lm;have hn:=H.ln;subst hn;refine⟨some ⟨O,0,none⟩,ls.length,rfl,Nat.le_refl _,⟨hm,fun e=>by cases e⟩,fun k l hl=>⟨O,0,rfl,hO,?_⟩⟩;have hk:k < vs.length:=by rw[H.lv];exact(List.getElem?_eq_some_iff.1 hl).1
 have hv:=LW (d:=undef) hk;obtain⟨h1,h2⟩:=H.row k _ l hv hl;refine⟨[vs.getD k undef],DN (T:=tInt) h1 (fun j d hd=>?_) fun g hg=>hS _ (List.mem_of_getElem? hv) g hg,fun j u hj=>?_⟩
 ·show tInt.RS w S (((l.map (Value.int .i64)).drop (j * 1)).take 1) d;have hi:(l.map (Value.int .i64))[j]? =some (.int .i64 d):=by rw[List.getElem?_map,hd];rfl
  rw[Nat.mul_one,List.take_one,List.head?_drop,hi];exact FF.2 ⟨rfl,h2 d (List.mem_of_getElem? hd)⟩
 ·cases j with
  |zero=>
   simp only[List.getElem?_cons_zero,Option.some.injEq]at hj;subst hj;have e:0+k * tInt.slice.size+0=k:=by show 0+k * 1+0=k;omega
   rw[e];exact H.cell hv
  |succ j=>simp at hj
theorem Ou{C:Ctx}(hC:C.std){t:List AV}{h:List ABlk}(i j:Nat){e:TypeId}{O n:Nat}{vs:List Value}{ls:List (List Int)}(hi:h[i]? =some (.res (Fh e O n vs vs ls)))(hj:t[j]? =some (.lit (.slice (some ⟨O,0,none⟩) n n))):St.le C ⟨t,h⟩ ⟨t.set j (.bs tInt.slice ls),h.set i .dead⟩:=fun a w ⟨hd,S,ψ,H,hl⟩=>by
 have hB:=H.blk i _ hi;have hil:=(List.getElem?_eq_some_iff.1 hi).1;have HR:RowsH e O n vs vs ls w:=hB.2;have hS:∀k,S k→(S k∨(Fh e O n vs vs ls).F k):=fun k hk=>.inl hk
 have X1:Ext w S h ψ w S (h.set i .dead) (AX ψ i (ψ i)):=Ext.set (fun _ _=>rfl) hi (fun c' hc=>by simp[ABlk.ver]at hc) fun h=>by simp[AP]at h
 have eψ:AX ψ i (ψ i)=ψ:=funext fun q=>by unfold AX;split <;> simp_all
 rw[eψ]at X1;have X2:Ext w S (h.set i .dead) ψ w (fun k=>S k∨(Fh e O n vs vs ls).F k) (h.set i .dead) ψ:=Ext.grow _ _ (fun _ _=>rfl) hS;have hl2:=AC X2 _ _ (AC X1 _ _ hl);have hlive:∀j,ABlk.live (h.set i .dead)[j]? =true→j≠i∧(h.set i .dead)[j]? =h[j]?:=fun j hj=>by
  by_cases e:j=i
  ·subst e;rw[List.getElem?_set_self hil]at hj;simp[ABlk.live]at hj
  ·exact⟨e,List.getElem?_set_ne (Ne.symm e)⟩
 refine⟨hd.trans (CQ (b':=.dead) hi rfl).symm,fun k=>S k∨(Fh e O n vs vs ls).F k,ψ,⟨H.bel,H.nlt,fun k hk=>?_,fun k hk=>.inl (H.sub k hk),fun k hk=>?_,fun j b hjb=>?_,fun j k hjk hj hk g h1 h2=>?_⟩,?_⟩
 ·rcases hk with hk|hk
  ·exact H.lt k hk
  ·exact(hB.1 k hk).2.2
 ·rcases hk with hk|hk
  ·exact H.new k hk
  ·exact .inr (Nat.le_of_not_lt fun hlt=>(hB.1 k hk).1 (hC k hlt))
 ·by_cases hji:j=i
  ·subst hji;rw[List.getElem?_set_self hil]at hjb;cases hjb;trivial
  ·rw[List.getElem?_set_ne (Ne.symm hji)]at hjb;have hBj:=H.blk j b hjb;have hdis:ABlk.live (some b)=true→∀g,WL (some b) (ψ j) g→¬(Fh e O n vs vs ls).F g:=fun hlv g hg hF=>H.dis j i hji (by rw[hjb];exact hlv) (by rw[hi];rfl) g (by rw[hjb];exact hg) (by rw[hi];exact hF)
   cases b with
   |dead=>trivial
   |box cells'=>
    obtain⟨g,cs,e',k1,k2,k3,k4,k5⟩:=hBj;exact⟨g,cs,e',k1,k2,fun hk=>hk.elim k3 (hdis rfl g (by rw[k1];rfl)),k4,AC X2 _ _ (AC X1 _ _ k5)⟩
   |row v' e' T' l'=>
    obtain⟨cells',k1,k2,k3,k4⟩:=hBj;exact⟨cells',k1,k2,fun i d hd=>T'.keepS (k3 i d hd) (fun _ _=>rfl) hS,fun g hg=>⟨(k4 g hg).1,fun hk=>hk.elim (k4 g hg).2 (hdis rfl g (AQ hg))⟩⟩
   |res R=>
    obtain⟨k1,k2⟩:=hBj;exact⟨fun g hg=>⟨(k1 g hg).1,fun hk=>hk.elim (k1 g hg).2.1 (hdis rfl g hg),(k1 g hg).2.2⟩,R.keep k2 (fun _ _=>rfl) (fun _ _=>rfl) hS⟩
 ·obtain⟨_,e1⟩:=hlive j hj;obtain⟨_,e2⟩:=hlive k hk;rw[e1]at hj h1;rw[e2]at hk h2;exact H.dis j k hjk hj hk g h1 h2
 ·obtain⟨v,hv,hr⟩:=Bu hl2 hj;unfold AV.rel at hr;have e:a.tmps.toList.set j v=a.tmps.toList:=by
   refine List.ext_getElem? fun q=>?_
   rw[List.getElem?_set];split
   ·rename_i hq;subst hq;rw[if_pos (List.getElem?_eq_some_iff.1 hv).1,hv]
   ·rfl
  have key:=Hk hl2 j (x:=.bs tInt.slice ls) (v:=v) ?_
  ·rw[e]at key;exact key
  unfold AV.rel;rw[hr];exact PD HR (.inr (.inl rfl)) fun v hv g hg=>.inr (.inr ⟨v,hv,hg⟩)
end Mu
end
