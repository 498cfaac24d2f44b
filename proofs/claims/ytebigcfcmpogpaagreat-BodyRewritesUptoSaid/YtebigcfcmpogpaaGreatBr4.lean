/-
  Own texts laid together, part 4: MuAllP, MuLiveC, MuLiveQ, MuLiveR, MuAll, MuLiveF, MuSteps, ShelfK, MuKeys, MuPairM, MuPairS, MuPairG, MuCross, ShelfB, MuLaw17A, MuHint, MuRef14A, MuRef14B, MuOwnC, MuRef14C, MuRef12, MuLaw17B, MuLaw17C, MuRef14D, MuRef14E, MuRef14P, MuChkP, MuLaw17P, MuChkQ, MuRef14F, MuRef14G, MuBound, MuBound2, MuRef18A, MuRef18B, MuRef21P, MuCross18P, MuRef18C, MuEdgeP, MuRangeS, MuSplit, MuTurnM, MuPut, MuEdges, ShelfP, MuSortP.
  Conditions: as each part says.
-/
import Derived.Test.YtebigcfcmpogpaaGreatBr3
import Derived.DeepKeys4
import Derived.Maps.Range
import Derived.Shelf.Small.Bits
import Derived.Shelf.Small.Wraps
import Derived.Shelf.Strconv.Itoa0
import Derived.Shelf.Strconv.Itoa1
import Derived.Shelf.LaysM
import Derived.Shelf.Strconv.Itoa2
import Derived.Shelf.Strconv.Itoa3
import Derived.Ground.Names2Prog
import Derived.Shelf.Slices.SearchI
import Derived.Shelf.Slices.Empties
import Derived.Test.YtebigcfcmpogpaaGreatProg
import Derived.Shelf.SlSortCmp.WholeK
import Derived.Shelf.SlSortCmp.NoneTotal
import Derived.Shelf.SlicesG.Cmp
import Derived.Ground.SlsfProg
import Derived.Ground.SlgcProg
import Derived.StillTailTactics
import Derived.WalkKit
set_option linter.unusedSimpArgs false
set_option linter.unusedVariables false
set_option maxRecDepth 100000
set_option maxHeartbeats 4000000
section
namespace Mu
open Go
def SK(f:Func)(b:Nat):List Int:=(JB f f.blocks.length).getD b []
theorem Sh{f:Func}(m b:Nat)(hb:b < f.blocks.length):∀(pre:List (Blk f)) (ls:List (List Int)),ls.length=f.blocks.length→∀x,x∈(Km m pre ls).getD b []↔x∈ls.getD b []∨(x=(m:Int)∧∃y∈pre,y.1=b)
 | [],ls,_,x=>by simp[Km]
 |y::pre,ls,hl,x=>by
  show x∈(Km m pre (XB m ls y)).getD b []↔_;rw[Sh m b hb pre (XB m ls y) (by simp[XB,hl]) x];have key:x∈(XB m ls y).getD b []↔x∈ls.getD b []∨(x=(m:Int)∧y.1=b):=by
   unfold XB;by_cases hy:y.1=b
   ·rw[←hy,List.getD_eq_getElem?_getD,List.getElem?_set_self (by rw[hl];exact y.2)];simp
   ·rw[List.getD_eq_getElem?_getD,List.getElem?_set_ne hy,←List.getD_eq_getElem?_getD];simp[hy]
  rw[key];constructor
  ·rintro((h|h)|⟨h1,z,h2,h3⟩)
   ·exact .inl h
   ·exact .inr ⟨h.1,y,by simp,h.2⟩
   ·exact .inr ⟨h1,z,by simp[h2],h3⟩
  ·rintro(h|⟨h1,z,h2,h3⟩)
   ·exact .inl (.inl h)
   ·rcases List.mem_cons.1 h2 with rfl|h2
    ·exact .inl (.inr ⟨h1,h3⟩)
    ·exact .inr ⟨h1,z,h2,h3⟩
theorem PW{f:Func}(b:Nat)(hb:b < f.blocks.length):∀(m:Nat) (x:Int),x∈(JB f m).getD b []↔∃k:Nat,k < m∧Edge f k b∧x=(k:Int)
 |0,x=>by
  rw[JB,List.getD_eq_getElem?_getD,List.getElem?_replicate];split <;> simp
 |m+1,x=>by
  rw[JB,Sh m b hb _ _ (FH f m),PW b hb m];constructor
  ·rintro(⟨k,h1,h2,h3⟩|⟨h1,y,h2,h3⟩)
   ·exact⟨k,by omega,h2,h3⟩
   ·exact⟨m,by omega,⟨y,h2,h3⟩,h1⟩
  ·rintro⟨k,h1,h2,h3⟩;by_cases hk:k=m
   ·subst hk;obtain⟨y,h4,h5⟩:=h2;exact .inr ⟨h3,y,h4,h5⟩
   ·exact .inl ⟨k,by omega,h2,h3⟩
theorem Kb{f:Func}{k b:Nat}(h:Edge f k b):k < f.blocks.length∧b < f.blocks.length:=by
 obtain⟨y,h1,rfl⟩:=h;refine⟨?_,y.2⟩;unfold El at h1;rw[if_pos (by omega)]at h1;simp only[Int.toNat_natCast]at h1;cases hk:f.blocks[k]? with
 |none=>rw[hk]at h1;cases h1
 |some bl=>exact(List.getElem?_eq_some_iff.1 hk).1
theorem Vg{f:Func}{b:Nat}(hb:b < f.blocks.length)(x:Int):x∈SK f b↔∃k:Nat,Edge f k b∧x=(k:Int):=by
 unfold SK;rw[PW b hb];constructor
 ·rintro⟨k,_,h2,h3⟩;exact⟨k,h2,h3⟩
 ·rintro⟨k,h2,h3⟩;exact⟨k,(Kb h2).1,h2,h3⟩
def at_(Ss:List (Int→Bool))(k:Nat):Int→Bool:=Ss.getD k fun _=>false
theorem ZY{Ss:List (Int→Bool)}{k j:Nat}{S:Int→Bool}(hk:k < Ss.length):at_ (Ss.set k S) j=if j=k then S else at_ Ss j:=by
 unfold at_;by_cases hj:j=k
 ·subst hj;rw[if_pos rfl,List.getD_eq_getElem?_getD,List.getElem?_set_self hk];rfl
 ·rw[if_neg hj,List.getD_eq_getElem?_getD,List.getElem?_set_ne (Ne.symm hj),←List.getD_eq_getElem?_getD]
def M3(L:List Int)(Ss:List (Int→Bool)):Nat:=(Ss.map fun S=>L.length - (L.filter S).length).sum
theorem UZ{L:List Int}:∀{Ss:List (Int→Bool)} {k:Nat} {S N:Int→Bool},Ss[k]? =some S→(L.filter S).length < (L.filter N).length→M3 L (Ss.set k N) < M3 L Ss
 | [],k,S,N,h,_=>by simp at h
 |T::Ss,0,S,N,h,hlt=>by
  have h:T=S:=by simpa using h
  subst h;have:=List.length_filter_le N L;simp only[M3,List.set_cons_zero,List.map_cons,List.sum_cons];omega
 |T::Ss,k+1,S,N,h,hlt=>by
  have:=UZ (L:=L) (Ss:=Ss) (k:=k) (by simpa using h) hlt;simp only[M3,List.set_cons_succ,List.map_cons,List.sum_cons]at this⊢;omega
theorem Afa(L:List Int)(Ss:List (Int→Bool)):M3 L Ss≤Ss.length * L.length:=by
 induction Ss with
 |nil=>simp[M3]
 |cons S Ss ih=>
  simp only[M3,List.map_cons,List.sum_cons,List.length_cons]at ih⊢;rw[Nat.add_mul,Nat.one_mul];omega
structure AllI(f:Func)(L:List Int)(wait:List Nat)(Ss:List (Int→Bool)):Prop where
 len:Ss.length=f.blocks.length
 lt:∀b∈wait,b < f.blocks.length
 sound:∀k r,at_ Ss k r=true→LOut f k r
 sub:∀k,Sub L (at_ Ss k)
 closed:∀k b,Edge f k b→b∉wait→∀r,inS (Ch f b) (at_ Ss b) r=true→at_ Ss k r=true
structure AllJ(f:Func)(L:List Int)(b:Nat)(wait0:List Nat)(Ss0:List (Int→Bool))(pre:List Int)(wait:List Nat)(Ss:List (Int→Bool)):Prop where
 len:Ss.length=f.blocks.length
 lt:∀b∈wait,b < f.blocks.length
 sound:∀k r,at_ Ss k r=true→LOut f k r
 sub:∀k,Sub L (at_ Ss k)
 mono:∀k r,at_ Ss0 k r=true→at_ Ss k r=true
 kept:∀k,k∉wait→at_ Ss k=at_ Ss0 k∧k∉wait0
 done:∀k:Nat,(k:Int)∈pre→∀r,inS (Ch f b) (at_ Ss0 b) r=true→at_ Ss k r=true
 less:2 * M3 L Ss+wait.length≤2 * M3 L Ss0+wait0.length
theorem Xs{f:Func}{L:List Int}{wait:List Nat}(hw:∀b,b∈wait↔b < f.blocks.length):AllI f L wait (List.replicate f.blocks.length fun _=>false):=by
 have h0:∀k,at_ (List.replicate f.blocks.length fun _=>false) k=fun _=>false:=fun k=>by
  unfold at_;rw[List.getD_eq_getElem?_getD,List.getElem?_replicate];split <;> rfl
 refine⟨by simp,fun b hb=>(hw b).1 hb,fun k r hr=>(by rw[h0]at hr;cases hr),fun k x hx=>(by rw[h0]at hx;cases hx),fun k b he hb=>?_⟩;exact absurd ((hw b).2 (Kb he).2) hb
theorem AllI.split{f:Func}{L:List Int}{b:Nat}{wait0:List Nat}{Ss:List (Int→Bool)}(h:AllI f L (wait0++[b]) Ss):AllJ f L b wait0 Ss [] wait0 Ss:=
 ⟨h.len,fun c hc=>h.lt c (by simp[hc]),h.sound,h.sub,fun _ _ h=>h,fun k hk=>⟨rfl,hk⟩,fun k hk=>by simp at hk,Nat.le_refl _⟩
theorem AllJ.done_all{f:Func}{L:List Int}{b:Nat}{wait0 wait:List Nat}{Ss0 Ss:List (Int→Bool)}(h0:AllI f L (wait0++[b]) Ss0)(h:AllJ f L b wait0 Ss0 (SK f b) wait Ss):AllI f L wait Ss:=by
 refine⟨h.len,h.lt,h.sound,h.sub,fun k c he hc r hr=>?_⟩;obtain⟨k1,k2⟩:=h.kept c hc;rw[k1]at hr;by_cases hcb:c=b
 ·subst hcb;exact h.done k ((Vg (Kb he).2 _).2 ⟨k,he,rfl⟩) r hr
 ·exact h.mono k r (h0.closed k c he (by simp[k2,hcb]) r hr)
theorem AllJ.step{f:Func}{L:List Int}{b k:Nat}{wait0 wait:List Nat}{Ss0 Ss:List (Int→Bool)}{pre:List Int}{S:Int→Bool}(h0:AllI f L (wait0++[b]) Ss0)(h:AllJ f L b wait0 Ss0 pre wait Ss)(he:Edge f k b)(hS:Ss[k]? =some S)
 (hL:∀x∈Ch f b,∀r∈readsC x,r∈L):
 let N:=inS (Ch f b) (at_ Ss0 b)
 AllJ f L b wait0 Ss0 (pre++[(k:Int)]) (if(L.filter S).length < (L.filter (uni S N)).length then wait++[k]else wait) (Ss.set k (uni S N)):=by
 intro N;have hkl:k < Ss.length:=(List.getElem?_eq_some_iff.1 hS).1;have hat:at_ Ss k=S:=by unfold at_;rw[List.getD_eq_getElem?_getD,hS];rfl
 have hN:Sub L N:=(h0.sub b).inS hL;have hNl:∀r,N r=true→LOut f k r:=fun r hr=>Xl he (fun h=>h0.sound b r h) hr
 have hu:∀j r,at_ (Ss.set k (uni S N)) j r=true↔at_ Ss j r=true∨(j=k∧N r=true):=fun j r=>by
  rw[ZY hkl];by_cases hj:j=k
  ·subst hj;rw[if_pos rfl,hat];simp[uni]
  ·rw[if_neg hj];simp[hj]
 have hlen:(Ss.set k (uni S N)).length=f.blocks.length:=by simp[h.len]
 refine⟨hlen,fun c hc=>?_,fun j r hr=>?_,fun j r hr=>?_,fun j r hr=>(hu j r).2 (.inl (h.mono j r hr)),fun j hj=>?_,fun j hj r hr=>?_,?_⟩
 ·split at hc
  ·rcases List.mem_append.1 hc with h1|h1
   ·exact h.lt c h1
   ·have:c=k:=by simpa using h1
    subst this;exact(Kb he).1
  ·exact h.lt c hc
 ·rcases(hu j r).1 hr with h1|⟨rfl,h1⟩
  ·exact h.sound j r h1
  ·exact hNl r h1
 ·rcases(hu j r).1 hr with h1|⟨rfl,h1⟩
  ·exact h.sub j r h1
  ·exact hN r h1
 ·split at hj
  ·rename_i hlt;have hj':j∉wait∧j≠k:=by simpa using hj
   rw[ZY hkl,if_neg hj'.2];exact h.kept j hj'.1
  ·rename_i hlt;have e:uni S N=S:=Us hN (by omega);rw[e,ZY hkl];split
   ·rename_i hjk;subst hjk;rw[←hat];exact h.kept j hj
   ·exact h.kept j hj
 ·rw[List.mem_append]at hj;rcases hj with hj|hj
  ·exact(hu j r).2 (.inl (h.done j hj r hr))
  ·have:j=k:=by
    have:(j:Int)=(k:Int):=by simpa using hj
    omega
   exact(hu j r).2 (.inr ⟨this,hr⟩)
 ·have h1:=h.less;split
  ·rename_i hlt;have:=UZ (L:=L) hS hlt;simp only[List.length_append,List.length_singleton];omega
  ·rename_i hlt;have e:uni S N=S:=Us hN (by omega);rw[e];have:Ss.set k S=Ss:=by
    apply List.ext_getElem?;intro j;by_cases hj:k=j
    ·subst hj;rw[List.getElem?_set_self hkl,hS]
    ·rw[List.getElem?_set_ne hj]
   rw[this];exact h1
noncomputable def Pv(f:Func)(k:Nat):Int→Bool:=fun r=>@decide (LOut f k r) (Classical.propDecidable _)
theorem L4{f:Func}{k:Nat}{r:Int}:Pv f k r=true↔LOut f k r:=by simp[Pv]
theorem AllI.end_{f:Func}{L:List Int}{Ss:List (Int→Bool)}(h:AllI f L [] Ss):Ss=(List.range f.blocks.length).map (Pv f):=by
 have key:∀k r,LOut f k r→at_ Ss k r=true:=fun k r hl=>by
  induction hl with
  |read he h1=>exact h.closed _ _ he (by simp) _ (by rw[Rw,h1];rfl)
  |pass he h1 _ ih=>exact h.closed _ _ he (by simp) _ (by rw[Rw,h1,ih];simp)
 apply List.ext_getElem?;intro k;by_cases hk:k < f.blocks.length
 ·rw[List.getElem?_map,List.getElem?_range hk,List.getElem?_eq_getElem (by rw[h.len];exact hk)];congr 1;funext r;have e:at_ Ss k=Ss[k]'(by rw[h.len];exact hk):=by unfold at_;rw[List.getD_eq_getElem?_getD,List.getElem?_eq_getElem (by rw[h.len];exact hk)];rfl
  rw[←e];cases ho:Pv f k r
  ·cases ha:at_ Ss k r
   ·rfl
   ·have:=L4.2 (h.sound k r ha);rw[ho]at this;cases this
  ·exact key k r (L4.1 ho)
 ·rw[List.getElem?_eq_none (by rw[h.len];omega),List.getElem?_eq_none (by simp;omega)]
theorem Ads{L:List Int}{r:Int}:∀{ds:List Ins},(∀x∈ds,∀r∈readsC x,r∈L)→rdB r ds=true→r∈L
 | [],_,h=>by simp[rdB]at h
 |x::ds,hm,h=>by
  simp only[rdB,Bool.or_eq_true,Bool.and_eq_true,List.contains_iff_mem]at h;rcases h with h|⟨_,h⟩
  ·exact hm x (by simp) r h
  ·exact Ads (fun y hy=>hm y (by simp[hy])) h
theorem Acb{f:Func}{L:List Int}(hL:∀b∈f.blocks,∀x∈b.ins,∀r∈readsC x,r∈L)(b:Nat):∀x∈Ch f b,∀r∈readsC x,r∈L:=fun x hx=>by
 unfold Ch at hx;split at hx
 ·rename_i bl hbl;exact hL bl (List.mem_of_getElem? hbl) x hx
 ·cases hx
theorem Pu{f:Func}{L:List Int}(hL:∀b∈f.blocks,∀x∈b.ins,∀r∈readsC x,r∈L)(k:Nat):Sub L (Pv f k):=fun r hr=>by
 have key:∀k r,LOut f k r→r∈L:=fun k r hl=>by
  induction hl with
  |read he h1=>exact Ads (Acb hL _) h1
  |pass he h1 hl ih=>exact ih
 exact key k r (L4.1 hr)
end Mu
end
section
namespace Mu
open Go Go.RowKit Go.Proofs Go.Maps
theorem M0{k:Nat}(h:k≤9223372036854775807):wfI .i64 (k:Int):=by
 simp[wfI,Lit.wf,IntKind.min,IntKind.max,IntKind.signed,IntKind.bits];omega
theorem Oe{W:World}{base O c:Nat}{vs:List Value}{ls:List (List Int)}(h:RowsAt W base (fun _=>False) O vs ls)(hw:∀l∈ls,Br l)(hc:ls.length≤c∧c≤maxLen):
 tInt.slice.slice.RS W (fun k=>base≤k∧k < W.heap.size) [.slice (some ⟨O,0,none⟩) ls.length c] ls:=by
 have hO:O < W.heap.size:=(Array.getElem?_eq_some_iff.1 h.box).1;refine⟨_,c,rfl,hc.1,⟨hc.2,fun e=>by cases e⟩,fun i l hl=>⟨O,0,rfl,⟨h.out.2,hO⟩,?_⟩⟩;have hil:i < vs.length:=by rw[h.len];exact(List.getElem?_eq_some_iff.1 hl).1
 obtain⟨v,hv⟩:∃v,vs[i]? =some v:=⟨_,List.getElem?_eq_getElem hil⟩
 have ho:=h.own i v l hv hl;refine⟨[v],tInt.slice.keepS (MT ho fun x hx=>hw l (List.mem_of_getElem? hl) x hx) (fun _ _=>rfl) fun k hk=>h.lt hv hk,fun j u hu=>?_⟩;cases j with
 |zero=>
  cases hu;have:=h.cell hv;show W.cell? ⟨O,0+i * 1+0,none⟩=some v;rw[Nat.mul_one,Nat.zero_add,Nat.add_zero];exact this
 |succ j=>cases hu
theorem Af3(f:Func)(hl:f.blocks.length≤2097152):∀l∈JB f f.blocks.length,Br l:=fun l hm x hx=>by
 obtain⟨b,hb⟩:=List.mem_iff_getElem?.1 hm;have hbl:b < f.blocks.length:=by have:=(List.getElem?_eq_some_iff.1 hb).1;rwa [FH]at this
 have hx':x∈(JB f f.blocks.length).getD b []:=by rw[List.getD_eq_getElem?_getD,hb];exact hx
 obtain⟨k,h1,_,rfl⟩:=(PW b hbl _ _).1 hx';exact M0 (by omega)
theorem AC(f:Func)(ho:okFunc f)(hs:smallF f):Fn Tryz.prog 119 [.agg (Aq f)] (.bs tInt.slice (JB f f.blocks.length)):=
 NF (by kernel_rfl) fun w vs hr=>by
  obtain⟨v,rfl,h1⟩:=Aa4 hr;unfold AV.rel at h1;obtain⟨cs,rfl,hcs⟩:=h1;refine(WY f cs w (LZ ho hcs) hs.blocks fun b hb=>(hs.all b hb).ins).mono ?_;rintro e W' ⟨O,vs',rfl,hR,hB⟩;have hl:(JB f f.blocks.length).length=f.blocks.length:=FH f _;have:=Oe (c:=f.blocks.length) hR (Af3 f hs.blocks) ⟨by rw[hl];exact Nat.le_refl _,by have:=hs.blocks;unfold maxLen;omega⟩;rw[hl]at this;exact⟨_,rfl,this,hB⟩
theorem V5{R:List Int}(hR:Br R)(ds:List Ins)(S:Int→Bool):∀l∈Fy R ds S,Br l:=by
 have hf:∀T:Int→Bool,Br (R.filter T):=fun T x hx=>hR x (List.mem_filter.1 hx).1
 have key:∀(is:List Nat) (p:(Int→Bool)×List (List Int)),(∀l∈p.2,Br l)→∀l∈(is.foldl (JH R ds) p).2,Br l:=by
  intro is;induction is with
  |nil=>intro p h;exact h
  |cons i is ih=>
   intro p h;rw[List.foldl_cons];refine ih _ fun l hl=>?_
   rcases List.mem_or_eq_of_mem_set hl with h1|h1
   ·exact h l h1
   ·rw[h1];exact hf _
 unfold Fy CI;refine key _ _ fun l hl=>?_
 rcases List.mem_or_eq_of_mem_set hl with h1|h1
 ·rw[List.eq_of_mem_replicate h1];intro x hx;cases hx
 ·rw[h1];exact hf _
theorem Tl(R:List Int)(ds:List Ins)(S:Int→Bool):(Fy R ds S).length=ds.length+1:=IP R ds S _
def Adm:Ty (Int→Bool) where
 size:=1
 bulk:=fun _=>1
 RS:=fun w S cs d=>∃m,cs= [.map (some m)]∧S m∧Gk w m d
 len:=by rintro _ _ _ _ ⟨m,rfl,_⟩;rfl
 keepS:=by
  rintro w w' S S' cs d ⟨m,rfl,h1,h2⟩ hb hS;exact⟨m,rfl,hS m h1,h2.keep (hb m h1)⟩
theorem Afw:Enc Adm fun d=>[.tv Adm d]:=by
 intro w S h ψ cs d H;obtain⟨m,rfl,_⟩:=id H;unfold Ah;refine⟨_,_,rfl,?_,?_⟩
 ·unfold AV.rel;exact H
 ·unfold Ah;rfl
instance:EncOf Adm fun d=>[.tv Adm d]:=⟨Afw,by
 rintro w S cs d ⟨m,rfl,_⟩ u hu;simp only[List.mem_singleton]at hu;subst hu;rfl,by decide⟩
theorem MN(b:Block)(S:Int→Bool)(R:List Int)(ho:okBlock b)(hs:smallB b)(hRR:RegsR R)(hsub:Sub R S)(hx:∀x∈b.ins,∀r∈readsC x,r∈R):
 Fn Tryz.prog 71 [.agg (Eg b),.tv Adm S] (.bs tInt.slice (Fy R b.ins S)):=
 NF (by kernel_rfl) fun w vs hr=>by
  unfold Ah at hr;obtain⟨v,vs',rfl,h1,h2⟩:=hr;obtain⟨u,rfl,h3⟩:=Aa4 h2;unfold AV.rel at h1 h3;obtain⟨cs,rfl,hcs⟩:=h1;obtain⟨m,e,_,hS⟩:=h3;obtain rfl:u= .map (some m):=by simpa using e
  refine(V2 b cs m S R w (Q2 ho.name hcs) hs.ins (fun x hx=>by have:=hs.all x hx;omega) hS hRR hsub.inR hx).mono ?_;rintro e W' ⟨O,vs',rfl,hRo,hB⟩;have hl:=Tl R b.ins S;have:=Oe (c:=b.ins.length+1) hRo (V5 hRR.wf b.ins S) ⟨by rw[hl];exact Nat.le_refl _,by have:=hs.ins;unfold maxLen;omega⟩;rw[hl]at this;exact⟨_,rfl,this,hB⟩
def setsA(p:Nat×List Nat)(Ss:List (Int→Bool)):Res:=⟨[],fun g=>g=p.1∨g∈p.2,fun w _=>(∃e,w.heap[p.1]? =some (.cells (p.2.map fun m=>Value.map (some m)).toArray e (0,0)))∧p.2.length=Ss.length∧p.2.Nodup∧∀(i m:Nat) (S:Int→Bool),p.2[i]? =some m→Ss[i]? =some S→Gk w m S,
 fun h hk _ _=>⟨let ⟨e,h1⟩:=h.1;⟨e,(hk p.1 (.inl rfl)).trans h1⟩,h.2.1,h.2.2.1,fun i m S hm hS=>(h.2.2.2 i m S hm hS).keep (hk m (.inr (List.mem_of_getElem? hm)))⟩⟩
def EM(m:Nat):AV:=.lit (.map (some m))
theorem Ok{w:World}{S:Nat→Prop}:∀{ms:List Nat} {cs:List Value},Ah w S [] ψ0 (ms.map EM) cs→cs=ms.map fun m=>Value.map (some m)
 | [],cs,h=>by unfold Ah at h;exact h
 |m::ms,cs,h=>by
  simp only[List.map_cons]at h;unfold Ah at h;obtain⟨v,vs,rfl,h1,h2⟩:=h;unfold EM AV.rel at h1;rw[h1,Ok h2];rfl
section
variable{C:Ctx}{t:List AV}{h:List ABlk}{o:Oper}
theorem Ue{i j O:Nat}{ms:List Nat}{Ss:List (Int→Bool)}(hij:i≠j)(hi:h[i]? =some (.res (C3 O (ms.map EM))))(hj:h[j]? =some (.res (mapsR ms Ss))):St.le C ⟨t,h⟩ ⟨t,(h.set j .dead).set i (.res (setsA (O,ms) Ss))⟩:=
 Ny hij hi hj rfl rfl rfl (fun g hg=>hg) fun w S ⟨cs,e,h1,h2⟩ h3 _=>by
  rw[Ok h2]at h1;exact⟨⟨e,h1⟩,h3⟩
theorem Adh{i n:Nat}{p:Nat×List Nat}{Ss:List (Int→Bool)}(hi:h[i]? =some (.res (setsA p Ss)))(hn:Ss.length=n)(hb:n≤maxLen)(hm:mkD h= []:=by rfl):Fin h (.lit (.slice (some ⟨p.1,0,none⟩) n n)) (.bs Adm Ss):=⟨hm,fun C S ψ w v hC H hv=>by
 unfold AV.rel at hv;subst hv;obtain⟨hF,⟨e,hO⟩,hl,hnd,hS⟩:=H.blk i _ hi;refine⟨fun k=>S k∨(setsA p Ss).F k,fun _ h=>.inl h,fun k hk=>?_,fun k hk=>?_,?_⟩
 ·rcases hk with hk|hk
  ·exact .inl hk
  ·exact .inr (Nat.le_of_not_lt fun hlt=>(hF k hk).1 (hC k hlt))
 ·rcases hk with hk|hk
  ·exact H.lt k hk
  ·exact(hF k hk).2.2
 ·unfold AV.rel;subst hn;refine⟨_,_,rfl,Nat.le_refl _,⟨hb,fun e=>by cases e⟩,fun j d hd=>⟨p.1,0,rfl,.inr (.inl rfl),?_⟩⟩;have hj:j < p.2.length:=by rw[hl];exact(List.getElem?_eq_some_iff.1 hd).1
  obtain⟨m,hm⟩:∃m,p.2[j]? =some m:=⟨_,List.getElem?_eq_getElem hj⟩
  refine⟨[.map (some m)],⟨m,rfl,.inr (.inr (List.mem_of_getElem? hm)),hS j m d hm hd⟩,fun q u hu=>?_⟩;cases q with
  |zero=>
   cases hu;show w.cell? ⟨p.1,0+j * 1+0,none⟩=_;rw[Nat.mul_one,Nat.zero_add,Nat.add_zero];exact BK hO (by rw[List.getElem?_map,hm];rfl)
  |succ q=>cases hu⟩
end
end Mu
end
section
namespace Mu
open Go
def LIn(f:Func)(b:Nat)(r:Int):Prop:=rdB r (Ch f b)=true∨(Aaz r (Ch f b)=true∧LOut f b r)
theorem Ab3{f:Func}{k:Nat}{r:Int}:LOut f k r↔∃b,Edge f k b∧LIn f b r:=by
 constructor
 ·intro h;cases h with
  |read he h=>exact⟨_,he,.inl h⟩
  |pass he h hl=>exact⟨_,he,.inr ⟨h,hl⟩⟩
 ·rintro⟨b,he,h|⟨h,hl⟩⟩
  ·exact .read he h
  ·exact .pass he h hl
theorem Le{f:Func}{out:List Bool}{k:Nat}:De f out (k:Int)=true↔∃b,Edge f k b∧out.getD b false=true:=by
 unfold De G3 Edge;rw[List.any_eq_true];constructor
 ·rintro⟨x,hx,h⟩;obtain⟨y,hy,rfl⟩:=List.mem_map.1 hx;exact⟨y.1,⟨y,hy,rfl⟩,by simpa[PV]using h⟩
 ·rintro⟨b,⟨y,hy,rfl⟩,h⟩;exact⟨PV y,List.mem_map.2 ⟨y,hy,rfl⟩,by simpa[PV]using h⟩
theorem Afq(f:Func)(r:Int)(out:List Bool)(b:Nat):goB f r out b=(rdB r (Ch f b)||(Aaz r (Ch f b)&&De f out b)):=by
 have h:=QT r (Ch f b) (fun _=>De f out b);rw[Rw]at h;exact h
theorem ZA{f:Func}{k b:Nat}(h:Edge f k b):b < f.blocks.length:=by
 obtain⟨x,_,rfl⟩:=h;exact x.2
def OM(f:Func)(r:Int)(out:List Bool):Prop:=∀b,out.getD b false=true→LIn f b r
theorem Lk{f:Func}{r:Int}{out:List Bool}(h:OM f r out){k:Nat}(hb:De f out (k:Int)=true):LOut f k r:=by
 obtain⟨b,he,ho⟩:=Le.1 hb;exact Ab3.2 ⟨b,he,h b ho⟩
theorem VD{f:Func}{r:Int}{out:List Bool}(h:OM f r out)(b:Nat):OM f r (KC f r out b):=by
 unfold KC;split
 ·rename_i hg;intro c hc;by_cases hbc:b=c
  ·subst hbc;rw[Afq]at hg;simp only[Bool.or_eq_true,Bool.and_eq_true]at hg;rcases hg with hg|⟨h1,h2⟩
   ·exact .inl hg
   ·exact .inr ⟨h1,Lk h h2⟩
  ·rw[List.getD_eq_getElem?_getD,List.getElem?_set_ne hbc,←List.getD_eq_getElem?_getD]at hc;exact h c hc
 ·exact h
theorem VE{f:Func}{r:Int}{out:List Bool}(h:OM f r out)(m:Nat):OM f r (foldI f r out m):=by
 induction m with
 |zero=>exact h
 |succ m ih=>rw[Et];exact VD ih m
theorem Qw(f:Func)(r:Int)(m:Nat):OM f r (roundsI f r m):=by
 induction m with
 |zero=>
  intro b hb;unfold roundsI at hb;rw[List.getD_eq_getElem?_getD,List.getElem?_replicate]at hb;split at hb <;> simp at hb
 |succ m ih=>exact VE ih _
theorem N8(f:Func)(r:Int)(out:List Bool)(b:Nat):out.count true≤(KC f r out b).count true∧(KC f r out b≠out→out.count true < (KC f r out b).count true):=by
 unfold KC;split
 ·by_cases hb:b < out.length
  ·have hs:out.set b true=out.take b++true::out.drop (b+1):=List.set_eq_take_append_cons_drop .. |>.trans (by rw[if_pos hb])
   have ho:out=out.take b++out[b]::out.drop (b+1):=by rw[←List.drop_eq_getElem_cons hb,List.take_append_drop]
   have h1:(out.set b true).count true=(out.take b).count true+1+(out.drop (b+1)).count true:=by rw[hs,List.count_append,List.count_cons_self];omega
   cases hv:out[b]with
   |true=>
    have h2:out.count true=(out.take b).count true+1+(out.drop (b+1)).count true:=by
     conv=>lhs;rw[ho,hv]
     rw[List.count_append,List.count_cons_self];omega
    refine⟨by omega,fun hne=>absurd ?_ hne⟩;rw[hs]
    conv=>rhs;rw[ho,hv]
   |false=>
    have h2:out.count true=(out.take b).count true+(out.drop (b+1)).count true:=by
     conv=>lhs;rw[ho,hv]
     rw[List.count_append,List.count_cons_of_ne (by simp)]
    exact⟨by omega,fun _=>by omega⟩
  ·rw[List.set_eq_of_length_le (by omega)];exact⟨Nat.le_refl _,fun h=>absurd rfl h⟩
 ·exact⟨Nat.le_refl _,fun h=>absurd rfl h⟩
theorem OA(f:Func)(r:Int)(out:List Bool)(m:Nat):out.count true≤(foldI f r out m).count true∧(foldI f r out m≠out→out.count true < (foldI f r out m).count true):=by
 induction m with
 |zero=>exact⟨Nat.le_refl _,fun h=>absurd rfl h⟩
 |succ m ih=>
  rw[Et];obtain⟨h1,h2⟩:=N8 f r (foldI f r out m) m;refine⟨by omega,fun hne=>?_⟩;by_cases he:foldI f r out m=out
  ·rw[he]at h1 h2 hne⊢;exact h2 hne
  ·have:=ih.2 he;omega
theorem Oz{f:Func}{r:Int}{out:List Bool}{n:Nat}(h:foldI f r out n=out):∀m,m≤n→foldI f r out m=out:=by
 intro m hm;by_cases he:foldI f r out m=out
 ·exact he
 ·exfalso;have h1:=(OA f r out m).2 he;have key:∀k,(foldI f r out m).count true≤(foldI f r out (m+k)).count true:=by
   intro k;induction k with
   |zero=>exact Nat.le_refl _
   |succ k ih=>rw[←Nat.add_assoc,Et];exact Nat.le_trans ih (N8 f r _ _).1
  have h2:=key (n - m);rw[show m+(n - m)=n by omega,h]at h2;omega
theorem U4{f:Func}{r:Int}{out:List Bool}(hl:out.length=f.blocks.length)(h:foldI f r out f.blocks.length=out){b:Nat}(hb:b < f.blocks.length)(hg:goB f r out b=true):out.getD b false=true:=by
 have h1:=Oz h (b+1) (by omega);rw[Et,Oz h b (by omega),KC,if_pos hg]at h1;rw[←h1,List.getD_eq_getElem?_getD,List.getElem?_set_self (by omega)];rfl
theorem Zm{f:Func}{r:Int}{out:List Bool}(hl:out.length=f.blocks.length)(h:foldI f r out f.blocks.length=out){k:Nat}(hlo:LOut f k r):De f out (k:Int)=true:=by
 induction hlo with
 |read he h1=>exact Le.2 ⟨_,he,U4 hl h (ZA he) (by rw[Afq,h1];rfl)⟩
 |pass he h1 _ ih=>exact Le.2 ⟨_,he,U4 hl h (ZA he) (by rw[Afq,h1,ih h];simp)⟩
theorem QL(f:Func)(r:Int):foldI f r (JA f r) f.blocks.length=JA f r:=by
 have key:∀m,(∃j,j < m∧roundsI f r (j+1)=roundsI f r j)∨m≤(roundsI f r m).count true:=by
  intro m;induction m with
  |zero=>exact .inr (Nat.zero_le _)
  |succ m ih=>
   rcases ih with⟨j,hj,he⟩|h
   ·exact .inl ⟨j,by omega,he⟩
   ·by_cases he:roundsI f r (m+1)=roundsI f r m
    ·exact .inl ⟨m,by omega,he⟩
    ·have:=(OA f r (roundsI f r m) f.blocks.length).2 he;exact .inr (Nat.lt_of_le_of_lt h this)
 rcases key (f.blocks.length+1)with⟨j,hj,he⟩|h
 ·have hst:∀k,roundsI f r (j+k)=roundsI f r j:=by
   intro k;induction k with
   |zero=>rfl
   |succ k ih=>
    show foldI f r (roundsI f r (j+k)) f.blocks.length=_;rw[ih];exact he
  have h1:JA f r=roundsI f r j:=by
   unfold JA;rw[show f.blocks.length+1=j+(f.blocks.length+1 - j)by omega];exact hst _
  rw[h1];exact he
 ·have:=List.count_le_length (a:=true) (l:=roundsI f r (f.blocks.length+1));rw[Ja]at this;omega
theorem Np(f:Func)(r:Int)(k:Nat):De f (JA f r) (k:Int)=true↔LOut f k r:=
 ⟨fun h=>Lk (Qw f r _) h,fun h=>Zm (J1 f r) (QL f r) h⟩
theorem Y1(f:Func)(S:Int→Bool)(b i:Nat)(hS:∀r,S r=true↔LOut f b r)(r:Int):EZ f b i r=inS ((Ch f b).drop i) S r:=by
 unfold EZ;have e:De f (JA f r) (b:Int)=S r:=by
  cases h1:De f (JA f r) (b:Int) <;> cases h2:S r
  ·rfl
  ·have:=(Np f r b).2 ((hS r).1 h2);rw[h1]at this;cases this
  ·have:=(hS r).2 ((Np f r b).1 h1);rw[h2]at this;cases this
  ·rfl
 rw[e];exact QT r _ S
def H8(x:Int):List Int→List Int
 | []=>[x]
 |a::l=>if a > x then a::H8 x l else x::a::l
theorem PI{A B:List Int}{x:Int}{q:Nat}(h:A.length=q):(A++x::B).getD q 0=x:=by
 rw[List.getD_eq_getElem?_getD,List.getElem?_append_right (by omega)];simp[h]
theorem Aa9{A B:List Int}{a x:Int}{q:Nat}(h:A.length=q):swapL (A++a::x::B) q=A++x::a::B:=by
 unfold swapL;have h1:(A++a::x::B).getD q 0=a:=PI h;have h2:(A++a::x::B).getD (q+1) 0=x:=by
  rw[show A++a::x::B=(A++[a])++x::B by simp];exact PI (by simp[h])
 rw[h1,h2];subst h;simp[List.set_append]
theorem Ya(x:Int):∀(R B:List Int),Mu R.length (R.reverse++x::B)=(H8 x R).reverse++B
 | [],B=>by simp[Mu,H8]
 |a::R,B=>by
  have hl:R.reverse.length=R.length:=List.length_reverse;have e:(a::R).reverse++x::B=R.reverse++a::x::B:=by simp
  rw[e,List.length_cons,Mu];have h1:(R.reverse++a::x::B).getD R.length 0=a:=PI hl;have h2:(R.reverse++a::x::B).getD (R.length+1) 0=x:=by
   rw[show R.reverse++a::x::B=(R.reverse++[a])++x::B by simp];exact PI (by simp)
  rw[h1,h2,Aa9 hl];unfold H8;by_cases hax:a > x
  ·rw[if_pos hax,if_pos hax,Ya x R (a::B)];simp
  ·rw[if_neg hax,if_neg hax];simp
theorem Qy(l:List Int)(x:Int):Hu (l++[x])=(H8 x l.reverse).reverse:=by
 have h:=Ya x l.reverse [];rw[List.reverse_reverse,List.length_reverse,List.append_nil]at h;unfold Hu;simpa using h
theorem KO{x y:Int}:∀{l:List Int},y∈H8 x l↔y=x∨y∈l
 | []=>by simp[H8]
 |a::l=>by
  unfold H8;split
  ·rw[List.mem_cons,KO (l:=l),List.mem_cons];constructor
   ·rintro(h|h|h) <;> simp[h]
   ·rintro(h|h|h) <;> simp[h]
  ·rw[List.mem_cons]
theorem M4{x:Int}:∀{l:List Int},l.Pairwise (fun a b=>b < a)→x∉l→(H8 x l).Pairwise fun a b=>b < a
 | [],_,_=>by simp[H8]
 |a::l,h,hx=>by
  rw[List.pairwise_cons]at h;simp only[List.mem_cons,not_or]at hx;unfold H8;split
  ·rename_i hax;refine List.pairwise_cons.2 ⟨fun y hy=>?_,M4 h.2 hx.2⟩;rcases KO.1 hy with rfl|hy
   ·exact hax
   ·exact h.1 y hy
  ·rename_i hax;refine List.pairwise_cons.2 ⟨fun y hy=>?_,List.pairwise_cons.2 h⟩;rcases List.mem_cons.1 hy with rfl|hy
   ·omega
   ·have:=h.1 y hy;omega
theorem Aca{l:List Int}{x:Int}(h:Asc l):Asc (M5 l x)∧∀y,y∈M5 l x↔y=x∨y∈l:=by
 unfold M5;split
 ·rename_i hc;have hm:x∈l:=by simpa using hc
  refine⟨h,fun y=>⟨fun hy=>.inr hy,?_⟩⟩;rintro(rfl|hy)
  ·exact hm
  ·exact hy
 ·rename_i hc;have hm:x∉l:=by simpa using hc
  rw[Qy];refine⟨?_,fun y=>by rw[List.mem_reverse,KO,List.mem_reverse]⟩;unfold Asc at *;rw[List.pairwise_reverse];exact M4 (by rw[List.pairwise_reverse];exact h) (by rw[List.mem_reverse];exact hm)
theorem Eq(l:List Int):Asc (Cv l)∧∀y,y∈Cv l↔y∈l:=by
 have key:∀(l out:List Int),Asc out→Asc (l.foldl M5 out)∧∀y,y∈l.foldl M5 out↔y∈out∨y∈l:=by
  intro l;induction l with
  |nil=>intro out h;exact⟨h,fun y=>by simp⟩
  |cons x l ih=>
   intro out h;obtain⟨h1,h2⟩:=Aca (x:=x) h;obtain⟨h3,h4⟩:=ih _ h1;refine⟨h3,fun y=>?_⟩;rw[List.foldl_cons,h4 y,h2 y,List.mem_cons];constructor
   ·rintro((h|h)|h) <;> simp[h]
   ·rintro(h|h|h) <;> simp[h]
 obtain⟨h1,h2⟩:=key l [] List.Pairwise.nil;exact⟨h1,fun y=>by unfold Cv;rw[h2 y];simp⟩
theorem Mz(f:Func):Asc (Bw f):=(Eq _).1
theorem Gw{f:Func}{r:Int}:r∈Bw f↔∃b∈f.blocks,∃x∈b.ins,r∈readsC x:=by
 unfold Bw;rw[(Eq _).2 r];unfold Cg;simp only[List.mem_flatMap]
end Mu
end
section
namespace Mu
open Go Go.RowKit Go.Proofs Go.Maps
instance:AG Tryz.prog 108 false 1:=⟨by kernel_rfl⟩
instance:SZ Tryz.prog 108 1:=⟨by kernel_rfl⟩
instance:ES Tryz.prog 108 1:=⟨by kernel_rfl⟩
instance:SL Tryz.prog 108:=⟨by kernel_rfl⟩
instance:RT Tryz.prog 108 110 1 8:=⟨by kernel_rfl⟩
instance:AG Tryz.prog 110 false 1:=⟨by kernel_rfl⟩
instance:SZ Tryz.prog 110 1:=⟨by kernel_rfl⟩
instance:ZC Tryz.prog 110 [.map none]:=⟨by kernel_rfl⟩
theorem ZX{i:Nat}{K:St→Prop}{Q:Exit→St→Prop}{s:St}(h:Q (.exit i) s):IH K Q (.exit i) s:=h
theorem W8{id:Nat}{Q:Exit→St→Prop}{s:St}(h:Q .normal s):Kn id Q (.exit id) s:=by simp[Kn,h]
theorem Ac9{id:Nat}{Q:Exit→St→Prop}{s:St}(h:Q .normal s):Kn id Q .normal s:=h
theorem Aj2:Kx Tryz.prog 108=some (110,.map none,8):=by kernel_rfl
theorem XK:Tryz.prog.underlying 110=some (.map 3 3):=by kernel_rfl
theorem Dl(l:List Int):(Cv l).length≤l.length:=by
 have key:∀(l acc:List Int),(l.foldl M5 acc).length≤acc.length+l.length:=by
  intro l;induction l with
  |nil=>intro acc;simp
  |cons x l ih=>
   intro acc;have:=ih (M5 acc x);have h2:(M5 acc x).length≤acc.length+1:=by
    unfold M5;split
    ·omega
    ·rw[Mp];simp
   simp only[List.foldl_cons,List.length_cons];omega
 simpa[Cv]using key l []
theorem LU(f:Func)(ho:okFunc f)(hT:(Cg f).length≤2097152):RegsR (Bw f):=by
 refine⟨Mz f,fun x hx=>?_,?_⟩
 ·obtain⟨b,h1,y,h2,h3⟩:=Gw.1 hx;exact Fm ((ho.blocks b h1).ins y h2) x h3
 ·have:=Dl (Cg f);unfold Bw;omega
def IV(ms:List Nat)(n:Nat):List AV:=ms.map EM++List.replicate (n - ms.length) (.lit (.map none))
theorem WU{ms:List Nat}{n b m:Nat}(hb:ms.length=b)(hn:b < n):(IV ms n).take b++[EM m]++(IV ms n).drop (b+1)=IV (ms++[m]) n:=by
 unfold IV;have h1:(ms.map EM).length=b:=by simp[hb]
 rw[List.take_append_of_le_length (by omega),List.take_of_length_le (by omega),List.drop_append,List.drop_eq_nil_of_le (by simp;omega),List.nil_append,h1,List.drop_replicate,List.map_append,List.length_append,List.append_assoc,List.append_assoc];congr 3;simp;omega
theorem WV{ms:List Nat}{n:Nat}(h:ms.length≤n):(IV ms n).length=n:=by
 unfold IV;simp;omega
theorem T1{ms:List Nat}{n:Nat}(h:ms.length=n):IV ms n=ms.map EM:=by
 unfold IV;rw[h];simp
def KP(l:List Nat):List Int:=l.map fun k:Nat=>(k:Int)
theorem FZ(l:List Nat):(KP l).length=l.length:=by simp[KP]
theorem J2(l:List Nat)(b:Nat):KP (l++[b])=KP l++[(b:Int)]:=by simp[KP]
def bkS(ds:List Ins)(S:Int→Bool)(k:Nat):Int→Bool:=inS (ds.drop (ds.length - k)) S
theorem Ac1(ds:List Ins)(S:Int→Bool):bkS ds S 0=S:=by
 unfold bkS;rw[Nat.sub_zero,List.drop_eq_nil_of_le (Nat.le_refl _)];rfl
theorem Af0(ds:List Ins)(S:Int→Bool):bkS ds S ds.length=inS ds S:=by
 unfold bkS;rw[Nat.sub_self];rfl
theorem Ac2{ds:List Ins}{S:Int→Bool}{k:Nat}{d:Ins}(hd:ds[ds.length - 1 - k]? =some d)(hk:k < ds.length):bkS ds S (k+1)=GN d (bkS ds S k):=by
 unfold bkS;have h1:ds.length - (k+1)=ds.length - 1 - k:=by omega
 have h2:ds.length - k=ds.length - 1 - k+1:=by omega
 rw[h1,h2,List.drop_eq_getElem_cons (by omega)];have:ds[ds.length - 1 - k]=d:=by
  rw[List.getElem?_eq_getElem (by omega)]at hd;exact Option.some.inj hd
 rw[this];rfl
theorem Afz{ds:List Ins}{L:List Int}{S:Int→Bool}(h:Sub L S)(hx:∀x∈ds,∀r∈readsC x,r∈L)(k:Nat):Sub L (bkS ds S k):=
 h.inS fun x hm=>hx x (List.mem_of_mem_drop hm)
theorem Aii{a b c:Nat}(hb:b≤2097152)(hc:c≤2097152)(h:a≤b * c):a≤4398046511104:=Nat.le_trans h (Nat.le_trans (Nat.mul_le_mul hb hc) (by decide))
theorem Z6(f:Func)(ho:okFunc f)(hs:smallF f)(hT:(Cg f).length≤2097152):Fn Tryz.prog 70 [.agg (Aq f)] (.bs Adm ((List.range f.blocks.length).map (Pv f))):=by
 have hbl:=hs.blocks;have hRR:=LU f ho hT;have hLl:(Bw f).length≤2097152:=Nat.le_trans (Dl _) hT;have hLr:∀b∈f.blocks,∀x∈b.ins,∀r∈readsC x,r∈Bw f:=fun b hb x hx r hr=>Gw.2 ⟨b,hb,x,hx,hr⟩
 have hmk:8 * f.blocks.length≤281474976710656:=by omega
 have hmx:f.blocks.length≤maxLen:=by unfold maxLen;omega
 refine OR Tryz.func70 rfl (by kernel_rfl) rfl Tryz.ntmps70 fun C hC hrd=>?_
 refine nS ?_;refine Ad fun K1 h1=>?_
 refine rR ?_;refine h1 _ ?_;refine nT ?_;refine D5 1 rfl rfl rfl (fun g=>(.any::.lit (.pointer (some ⟨g,0,none⟩))::A80 (A20 [.any]))) (fun g=>(by(repeat(first|exact OpnB.nil|refine OpnB.ptr ?_|refine OpnB.any ?_|refine OpnB.keep rfl ?_)))) fun g1=>?_
 refine Ad fun K2 h2=>?_
 (refine Awp.region ?_;(repeat(first|refine sQ ?_|refine AW ?_|refine BQ (hk:=?_))))
 refine Bu rfl (Agk rfl Aj2 rfl rfl hmk hmx fun O=>?_);refine sNt ?_
 (repeat(first|refine sQ ?_|refine AW ?_|refine BQ (hk:=?_)))
 refine Az ?_;refine h2 _ ?_;refine nT ?_;refine A1 ⟨(.any::.lit (.pointer (some ⟨g1,0,none⟩))::.any::.lit (.slice (some ⟨O,0,none⟩) f.blocks.length f.blocks.length)::A80 (A10 (A9 []))),[.res (BR []),.res (C3 g1 (Aq f)),.res (C3 O (List.replicate f.blocks.length (.lit (.map none))))]⟩ (B7) ?_;refine Ad fun K3 h3=>?_
 suffices hM3:∀s':St,St.le C s' ⟨(.any::.lit (.pointer (some ⟨g1,0,none⟩))::.any::.lit (.slice (some ⟨O,0,none⟩) f.blocks.length f.blocks.length)::.own 3 0::.bs tInt.slice (JB f f.blocks.length)::A80 (A10 (A7 []))),[.res (BR []),.res (C3 g1 (Aq f)),.res (C3 O (List.replicate f.blocks.length (.lit (.map none)))),.row 0 3 tInt []]⟩→K3 s' by
  (refine Aao 0 (by kernel_rfl) (by kernel_rfl) ?_;refine F8 ?_;(refine BV [0,4] (tC ?_ (tC ?_ AI));((first|refine oQ (hq:=AX.call rfl (AC f ho hs) rfl rfl rfl) ?_|refine oQ ?_);(refine BV [1,4] (tC ?_ (tC ?_ AI));((first|refine oQ (hq:=AX.call rfl (AC f ho hs) rfl rfl rfl) ?_|refine oQ ?_);(refine BV [2,4] (tC ?_ (tC ?_ AI));((first|refine oQ (hq:=AX.call rfl (AC f ho hs) rfl rfl rfl) ?_|refine oQ ?_);(refine BV [3,4] (tC ?_ (tC ?_ AI));((refine DY (T:=tInt) (m:=1) (e:=3) rfl rfl (by decide) rfl rfl hmk hmx ?_;refine tNt ?_);(refine BV [4] (tC ?_ AI);((first|refine oQ (hq:=AX.call rfl (AC f ho hs) rfl rfl rfl) ?_|refine oQ ?_);(refine BV [5] (tC ?_ AI);((first|refine oQ (hq:=AX.call rfl (AC f ho hs) rfl rfl rfl) ?_|refine oQ ?_);(refine BV [6] (tC ?_ AI);((first|refine oQ (hq:=AX.call rfl (AC f ho hs) rfl rfl rfl) ?_|refine oQ ?_);(refine BV [7] (tC ?_ AI);((first|refine oQ (hq:=AX.call rfl (AC f ho hs) rfl rfl rfl) ?_|refine oQ ?_);(exact I4 (hM3 _ (B7))))))))))));((first|refine oQ (hq:=AX.call rfl (AC f ho hs) rfl rfl rfl) ?_|refine oQ ?_);(refine BV [3,5] (tC ?_ (tC ?_ AI));((refine DY (T:=tInt) (m:=1) (e:=3) rfl rfl (by decide) rfl rfl hmk hmx ?_;refine tNt ?_);(refine BV [5] (tC ?_ AI);((first|refine oQ (hq:=AX.call rfl (AC f ho hs) rfl rfl rfl) ?_|refine oQ ?_);(refine BV [6] (tC ?_ AI);((first|refine oQ (hq:=AX.call rfl (AC f ho hs) rfl rfl rfl) ?_|refine oQ ?_);(refine BV [7] (tC ?_ AI);((first|refine oQ (hq:=AX.call rfl (AC f ho hs) rfl rfl rfl) ?_|refine oQ ?_);(exact I4 (hM3 _ (B7))))))))));((first|refine oQ (hq:=AX.call rfl (AC f ho hs) rfl rfl rfl) ?_|refine oQ ?_);(refine BV [3] (tC ?_ AI);((refine DY (T:=tInt) (m:=1) (e:=3) rfl rfl (by decide) rfl rfl hmk hmx ?_;refine tNt ?_);(refine BV [6] (tC ?_ AI);((first|refine oQ (hq:=AX.call rfl (AC f ho hs) rfl rfl rfl) ?_|refine oQ ?_);(refine BV [7] (tC ?_ AI);((first|refine oQ (hq:=AX.call rfl (AC f ho hs) rfl rfl rfl) ?_|refine oQ ?_);(exact I4 (hM3 _ (B7))))))))))))));((first|refine oQ (hq:=AX.call rfl (AC f ho hs) rfl rfl rfl) ?_|refine oQ ?_);(refine BV [2,5] (tC ?_ (tC ?_ AI));((first|refine oQ (hq:=AX.call rfl (AC f ho hs) rfl rfl rfl) ?_|refine oQ ?_);(refine BV [3,5] (tC ?_ (tC ?_ AI));((refine DY (T:=tInt) (m:=1) (e:=3) rfl rfl (by decide) rfl rfl hmk hmx ?_;refine tNt ?_);(refine BV [5] (tC ?_ AI);((first|refine oQ (hq:=AX.call rfl (AC f ho hs) rfl rfl rfl) ?_|refine oQ ?_);(refine BV [6] (tC ?_ AI);((first|refine oQ (hq:=AX.call rfl (AC f ho hs) rfl rfl rfl) ?_|refine oQ ?_);(refine BV [7] (tC ?_ AI);((first|refine oQ (hq:=AX.call rfl (AC f ho hs) rfl rfl rfl) ?_|refine oQ ?_);(exact I4 (hM3 _ (B7))))))))));((first|refine oQ (hq:=AX.call rfl (AC f ho hs) rfl rfl rfl) ?_|refine oQ ?_);(refine BV [3] (tC ?_ AI);((refine DY (T:=tInt) (m:=1) (e:=3) rfl rfl (by decide) rfl rfl hmk hmx ?_;refine tNt ?_);(refine BV [6] (tC ?_ AI);((first|refine oQ (hq:=AX.call rfl (AC f ho hs) rfl rfl rfl) ?_|refine oQ ?_);(refine BV [7] (tC ?_ AI);((first|refine oQ (hq:=AX.call rfl (AC f ho hs) rfl rfl rfl) ?_|refine oQ ?_);(exact I4 (hM3 _ (B7))))))))))));((first|refine oQ (hq:=AX.call rfl (AC f ho hs) rfl rfl rfl) ?_|refine oQ ?_);(refine BV [2] (tC ?_ AI);((first|refine oQ (hq:=AX.call rfl (AC f ho hs) rfl rfl rfl) ?_|refine oQ ?_);(refine BV [3] (tC ?_ AI);((refine DY (T:=tInt) (m:=1) (e:=3) rfl rfl (by decide) rfl rfl hmk hmx ?_;refine tNt ?_);(refine BV [6] (tC ?_ AI);((first|refine oQ (hq:=AX.call rfl (AC f ho hs) rfl rfl rfl) ?_|refine oQ ?_);(refine BV [7] (tC ?_ AI);((first|refine oQ (hq:=AX.call rfl (AC f ho hs) rfl rfl rfl) ?_|refine oQ ?_);(exact I4 (hM3 _ (B7))))))))))))))));((first|refine oQ (hq:=AX.call rfl (AC f ho hs) rfl rfl rfl) ?_|refine oQ ?_);(refine BV [1,5] (tC ?_ (tC ?_ AI));((first|refine oQ (hq:=AX.call rfl (AC f ho hs) rfl rfl rfl) ?_|refine oQ ?_);(refine BV [2,5] (tC ?_ (tC ?_ AI));((first|refine oQ (hq:=AX.call rfl (AC f ho hs) rfl rfl rfl) ?_|refine oQ ?_);(refine BV [3,5] (tC ?_ (tC ?_ AI));((refine DY (T:=tInt) (m:=1) (e:=3) rfl rfl (by decide) rfl rfl hmk hmx ?_;refine tNt ?_);(refine BV [5] (tC ?_ AI);((first|refine oQ (hq:=AX.call rfl (AC f ho hs) rfl rfl rfl) ?_|refine oQ ?_);(refine BV [6] (tC ?_ AI);((first|refine oQ (hq:=AX.call rfl (AC f ho hs) rfl rfl rfl) ?_|refine oQ ?_);(refine BV [7] (tC ?_ AI);((first|refine oQ (hq:=AX.call rfl (AC f ho hs) rfl rfl rfl) ?_|refine oQ ?_);(exact I4 (hM3 _ (B7))))))))));((first|refine oQ (hq:=AX.call rfl (AC f ho hs) rfl rfl rfl) ?_|refine oQ ?_);(refine BV [3] (tC ?_ AI);((refine DY (T:=tInt) (m:=1) (e:=3) rfl rfl (by decide) rfl rfl hmk hmx ?_;refine tNt ?_);(refine BV [6] (tC ?_ AI);((first|refine oQ (hq:=AX.call rfl (AC f ho hs) rfl rfl rfl) ?_|refine oQ ?_);(refine BV [7] (tC ?_ AI);((first|refine oQ (hq:=AX.call rfl (AC f ho hs) rfl rfl rfl) ?_|refine oQ ?_);(exact I4 (hM3 _ (B7))))))))))));((first|refine oQ (hq:=AX.call rfl (AC f ho hs) rfl rfl rfl) ?_|refine oQ ?_);(refine BV [2] (tC ?_ AI);((first|refine oQ (hq:=AX.call rfl (AC f ho hs) rfl rfl rfl) ?_|refine oQ ?_);(refine BV [3] (tC ?_ AI);((refine DY (T:=tInt) (m:=1) (e:=3) rfl rfl (by decide) rfl rfl hmk hmx ?_;refine tNt ?_);(refine BV [6] (tC ?_ AI);((first|refine oQ (hq:=AX.call rfl (AC f ho hs) rfl rfl rfl) ?_|refine oQ ?_);(refine BV [7] (tC ?_ AI);((first|refine oQ (hq:=AX.call rfl (AC f ho hs) rfl rfl rfl) ?_|refine oQ ?_);(exact I4 (hM3 _ (B7))))))))))))));((first|refine oQ (hq:=AX.call rfl (AC f ho hs) rfl rfl rfl) ?_|refine oQ ?_);(refine BV [1] (tC ?_ AI);((first|refine oQ (hq:=AX.call rfl (AC f ho hs) rfl rfl rfl) ?_|refine oQ ?_);(refine BV [2] (tC ?_ AI);((first|refine oQ (hq:=AX.call rfl (AC f ho hs) rfl rfl rfl) ?_|refine oQ ?_);(refine BV [3] (tC ?_ AI);((refine DY (T:=tInt) (m:=1) (e:=3) rfl rfl (by decide) rfl rfl hmk hmx ?_;refine tNt ?_);(refine BV [6] (tC ?_ AI);((first|refine oQ (hq:=AX.call rfl (AC f ho hs) rfl rfl rfl) ?_|refine oQ ?_);(refine BV [7] (tC ?_ AI);((first|refine oQ (hq:=AX.call rfl (AC f ho hs) rfl rfl rfl) ?_|refine oQ ?_);(exact I4 (hM3 _ (B7))))))))))))))))));((first|refine oQ (hq:=AX.call rfl (AC f ho hs) rfl rfl rfl) ?_|refine oQ ?_);(refine BV [0,5] (tC ?_ (tC ?_ AI));((first|refine oQ (hq:=AX.call rfl (AC f ho hs) rfl rfl rfl) ?_|refine oQ ?_);(refine BV [1,5] (tC ?_ (tC ?_ AI));((first|refine oQ (hq:=AX.call rfl (AC f ho hs) rfl rfl rfl) ?_|refine oQ ?_);(refine BV [2,5] (tC ?_ (tC ?_ AI));((first|refine oQ (hq:=AX.call rfl (AC f ho hs) rfl rfl rfl) ?_|refine oQ ?_);(refine BV [3,5] (tC ?_ (tC ?_ AI));((refine DY (T:=tInt) (m:=1) (e:=3) rfl rfl (by decide) rfl rfl hmk hmx ?_;refine tNt ?_);(refine BV [5] (tC ?_ AI);((first|refine oQ (hq:=AX.call rfl (AC f ho hs) rfl rfl rfl) ?_|refine oQ ?_);(refine BV [6] (tC ?_ AI);((first|refine oQ (hq:=AX.call rfl (AC f ho hs) rfl rfl rfl) ?_|refine oQ ?_);(refine BV [7] (tC ?_ AI);((first|refine oQ (hq:=AX.call rfl (AC f ho hs) rfl rfl rfl) ?_|refine oQ ?_);(exact I4 (hM3 _ (B7))))))))));((first|refine oQ (hq:=AX.call rfl (AC f ho hs) rfl rfl rfl) ?_|refine oQ ?_);(refine BV [3] (tC ?_ AI);((refine DY (T:=tInt) (m:=1) (e:=3) rfl rfl (by decide) rfl rfl hmk hmx ?_;refine tNt ?_);(refine BV [6] (tC ?_ AI);((first|refine oQ (hq:=AX.call rfl (AC f ho hs) rfl rfl rfl) ?_|refine oQ ?_);(refine BV [7] (tC ?_ AI);((first|refine oQ (hq:=AX.call rfl (AC f ho hs) rfl rfl rfl) ?_|refine oQ ?_);(exact I4 (hM3 _ (B7))))))))))));((first|refine oQ (hq:=AX.call rfl (AC f ho hs) rfl rfl rfl) ?_|refine oQ ?_);(refine BV [2] (tC ?_ AI);((first|refine oQ (hq:=AX.call rfl (AC f ho hs) rfl rfl rfl) ?_|refine oQ ?_);(refine BV [3] (tC ?_ AI);((refine DY (T:=tInt) (m:=1) (e:=3) rfl rfl (by decide) rfl rfl hmk hmx ?_;refine tNt ?_);(refine BV [6] (tC ?_ AI);((first|refine oQ (hq:=AX.call rfl (AC f ho hs) rfl rfl rfl) ?_|refine oQ ?_);(refine BV [7] (tC ?_ AI);((first|refine oQ (hq:=AX.call rfl (AC f ho hs) rfl rfl rfl) ?_|refine oQ ?_);(exact I4 (hM3 _ (B7))))))))))))));((first|refine oQ (hq:=AX.call rfl (AC f ho hs) rfl rfl rfl) ?_|refine oQ ?_);(refine BV [1] (tC ?_ AI);((first|refine oQ (hq:=AX.call rfl (AC f ho hs) rfl rfl rfl) ?_|refine oQ ?_);(refine BV [2] (tC ?_ AI);((first|refine oQ (hq:=AX.call rfl (AC f ho hs) rfl rfl rfl) ?_|refine oQ ?_);(refine BV [3] (tC ?_ AI);((refine DY (T:=tInt) (m:=1) (e:=3) rfl rfl (by decide) rfl rfl hmk hmx ?_;refine tNt ?_);(refine BV [6] (tC ?_ AI);((first|refine oQ (hq:=AX.call rfl (AC f ho hs) rfl rfl rfl) ?_|refine oQ ?_);(refine BV [7] (tC ?_ AI);((first|refine oQ (hq:=AX.call rfl (AC f ho hs) rfl rfl rfl) ?_|refine oQ ?_);(exact I4 (hM3 _ (B7))))))))))))))));((first|refine oQ (hq:=AX.call rfl (AC f ho hs) rfl rfl rfl) ?_|refine oQ ?_);(refine BV [0] (tC ?_ AI);((first|refine oQ (hq:=AX.call rfl (AC f ho hs) rfl rfl rfl) ?_|refine oQ ?_);(refine BV [1] (tC ?_ AI);((first|refine oQ (hq:=AX.call rfl (AC f ho hs) rfl rfl rfl) ?_|refine oQ ?_);(refine BV [2] (tC ?_ AI);((first|refine oQ (hq:=AX.call rfl (AC f ho hs) rfl rfl rfl) ?_|refine oQ ?_);(refine BV [3] (tC ?_ AI);((refine DY (T:=tInt) (m:=1) (e:=3) rfl rfl (by decide) rfl rfl hmk hmx ?_;refine tNt ?_);(refine BV [6] (tC ?_ AI);((first|refine oQ (hq:=AX.call rfl (AC f ho hs) rfl rfl rfl) ?_|refine oQ ?_);(refine BV [7] (tC ?_ AI);((first|refine oQ (hq:=AX.call rfl (AC f ho hs) rfl rfl rfl) ?_|refine oQ ?_);(exact I4 (hM3 _ (B7))))))))))))))))))))
 intro s' hle
 ·refine h3 _ (A1 _ hle ?_);refine A1 _ (Xa (R:=mapsR [] []) (fun _ _=>⟨rfl,List.nodup_nil,fun i m S hm=>by simp at hm⟩) (fun g hg=>by cases hg) rfl) ?_;refine Ad fun K4 h4=>?_
  refine Ad fun K5 h5=>?_
  refine rR ?_;refine h5 _ ?_;refine nT ?_;refine Ak ?_;refine AS (fun p:Nat×Nat×List Nat=>⟨(.any::.lit (.pointer (some ⟨g1,0,none⟩))::.any::.lit (.slice (some ⟨O,0,none⟩) f.blocks.length f.blocks.length)::.own 3 p.2.1::.bs tInt.slice (JB f f.blocks.length)::A20 (.lit (.int .i64 (f.blocks.length:Int))::.lit (.int .i64 (p.1:Int))::A40 (A20 (A10 (A5 []))))),[.res (BR []),.res (C3 g1 (Aq f)),.res (C3 O (IV p.2.2 f.blocks.length)),.row p.2.1 3 tInt (KP (List.range p.1)),.res (mapsR p.2.2 (List.replicate p.1 fun _=>false))]⟩) (fun p=>p.1≤f.blocks.length∧p.2.2.length=p.1) (fun p=>f.blocks.length - p.1) (0,0,[]) ⟨Nat.zero_le _,rfl⟩ (B7) ?_;rintro⟨b,ver,ms⟩ ⟨hbn,hms⟩;dsimp only at hbn hms⊢;refine Ad fun K7 h7=>?_
  refine rR ?_;refine h7 _ ?_;refine nT ?_;refine Ad fun K8 h8=>?_
  refine Aj rfl (fun hb9=>?_) (fun hb9=>?_)
  ·have hlt:b < f.blocks.length:=by simpa using hb9
   have hclen:b+ [EM 0].length≤(IV ms f.blocks.length).length:=by rw[WV (by omega)];exact hlt
   have hw:=M0 (k:=b) (by omega);have hn1:(KP (List.range b)).length+ [(b:Int)].length≤maxLen:=by rw[FZ];simp[maxLen];omega
   have hn2:((KP (List.range b)).length+ [(b:Int)].length) * 8≤140737488355328:=by rw[FZ];simp;omega
   refine Am ?_;refine h8 _ ?_;refine nT ?_;refine Ad fun K10 h10=>?_
   refine Ak ?_;refine Ad fun K11 h11=>?_
   refine rR ?_;refine h11 _ ?_;refine nT ?_;refine Ad fun K12 h12=>?_
   (refine Awp.region ?_;(repeat(first|refine sQ ?_|refine AW ?_|refine BQ (hk:=?_))))
   refine Bu rfl (NI rfl fun m=>?_);refine sNt ?_
   (repeat(first|refine sQ ?_|refine AW ?_|refine BQ (hk:=?_)))
   refine Bu rfl (Aau (i:=2) (new:=[EM m]) rfl rfl rfl (Sx.one (One.lit rfl)) rfl rfl hclen ?_);refine sNt ?_;refine Az ?_;rw[WU hms hlt];refine h12 _ ?_;refine nT ?_;refine A1 _ (Xd (i:=4) (j:=5) (by decide) rfl rfl) ?_;refine rR ?_;refine h10 _ ?_;refine nT ?_;refine rR ?_;refine An ⟨(b+1,ver+1,ms++[m]),⟨by omega,by simp[hms]⟩,by dsimp only;omega,?_⟩;dsimp only;rw[List.range_succ,J2,List.replicate_succ'];exact PH (Cut.cons (Cut.cons (Cut.cons (Cut.cons (Cut.cons (Cut.nil _))))))
  ·refine AB ?_;have hbe:b=f.blocks.length:=by
    have:¬b < f.blocks.length:=by simpa using hb9
    omega
   subst hbe;refine h4 _ ?_;refine nT ?_;rw[T1 hms];refine Ad fun K13 h13=>?_
   refine Ak ?_;have hI0:AllI f (Bw f) (List.range f.blocks.length) (List.replicate f.blocks.length fun _=>false):=Xs fun b=>List.mem_range
   have hlk:=Afa (Bw f) (List.replicate f.blocks.length fun _=>false);rw[List.length_replicate]at hlk;have hlk2:=Aii hbl hLl hlk;refine AS (fun p:List Nat×Nat×List Nat×List (Int→Bool)=>⟨(.any::.lit (.pointer (some ⟨g1,0,none⟩))::.any::.lit (.slice (some ⟨O,0,none⟩) f.blocks.length f.blocks.length)::.own 3 p.2.1::.bs tInt.slice (JB f f.blocks.length)::A80 (A10 (A7 []))),[.res (BR p.1),.res (C3 g1 (Aq f)),.res (C3 O (ms.map EM)),.row p.2.1 3 tInt (KP p.2.2.1),.res (mapsR ms p.2.2.2)]⟩) (fun p=>AllI f (Bw f) p.2.2.1 p.2.2.2∧2 * M3 (Bw f) p.2.2.2+p.2.2.1.length≤10000000000000) (fun p=>2 * M3 (Bw f) p.2.2.2+p.2.2.1.length) ([],ver,List.range f.blocks.length,List.replicate f.blocks.length fun _=>false) ⟨hI0,by dsimp only;rw[List.length_range];omega⟩ (B7) ?_;rintro⟨ds,ver,wait,Ss⟩ ⟨hI,hmu⟩;dsimp only at hI hmu⊢;refine Ad fun K15 h15=>?_
   refine Ad fun K16 h16=>?_
   refine rR ?_;refine h16 _ ?_;refine nT ?_;refine Aj rfl (fun hb17=>?_) (fun hb17=>?_)
   ·have hne:wait≠[]:=fun e=>by subst e;simp[KP]at hb17
    obtain⟨w0,b,rfl⟩:∃w0 b,wait=w0++[b]:=⟨_,_,(List.dropLast_concat_getLast hne).symm⟩
    have hl:(KP (w0++[b])).length=w0.length+1:=by rw[FZ];simp
    have hwl:w0.length≤10000000000000:=by simp at hmu;omega
    have hx0:(KP (w0++[b]))[(((KP (w0++[b])).length:Int) - 1).toNat]? =some (b:Int):=by
     rw[hl,J2,show(((w0.length+1:Nat):Int) - 1).toNat=(KP w0).length by rw[FZ];omega];simp
    have hcut:AV.lit (.int .i64 (((KP (w0++[b])).length:Int) - 1))= .lit (.int .i64 (w0.length:Int)):=by
     rw[hl,show(((w0.length+1:Nat):Int) - 1)=(w0.length:Int)by omega]
    have hcl:w0.length≤(KP (w0++[b])).length:=by omega
    have htk:(KP (w0++[b])).take w0.length=KP w0:=by rw[J2,←FZ w0];simp
    have hbn:b < f.blocks.length:=hI.lt b (by simp);obtain⟨m,hm⟩:∃m,ms[b]? =some m:=⟨_,List.getElem?_eq_getElem (by omega)⟩
    obtain⟨S,hS⟩:∃S,Ss[b]? =some S:=⟨_,List.getElem?_eq_getElem (by rw[hI.len];exact hbn)⟩
    obtain⟨bl,hblk⟩:∃bl,f.blocks[b]? =some bl:=⟨_,List.getElem?_eq_getElem hbn⟩
    have hat:at_ Ss b=S:=by unfold at_;rw[List.getD_eq_getElem?_getD,hS];rfl
    have hins:Ch f b=bl.ins:=by unfold Ch;rw[hblk]
    have hmem:=List.mem_of_getElem? hblk;have hsb:=hs.all bl hmem;have hob:=ho.blocks bl hmem;have hSs:Sub (Bw f) S:=by have:=hI.sub b;rwa [hat]at this
    have hmc:(ms.map EM)[b]? =some (EM m):=by rw[List.getElem?_map,hm];rfl
    refine Am ?_;refine h15 _ ?_;refine nT ?_;refine Ak ?_;refine Ad fun K18 h18=>?_
    refine rR ?_;refine h18 _ ?_;refine nT ?_;refine Ad fun K19 h19=>?_
    (refine Awp.region ?_;(repeat(first|refine sQ ?_|refine AW ?_|refine BQ (hk:=?_))))
    refine Bu rfl (OV (i:=3) (m:=w0.length) rfl rfl rfl rfl ⟨.i64,hcut⟩ hcl ?_);refine sNt ?_
    (repeat(first|refine sQ ?_|refine AW ?_|refine BQ (hk:=?_)))
    refine Az ?_;rw[htk];refine h19 _ ?_;refine nT ?_;refine Ad fun K20 h20=>?_
    (refine Awp.region ?_;(repeat(first|refine sQ ?_|refine AW ?_|refine BQ (hk:=?_))))
    refine Bu rfl (SF (i:=4) rfl rfl (WP hm hS) (fun _=>rfl) rfl rfl fun mn=>?_);refine sNt ?_
    (repeat(first|(refine Bu rfl (DO (new:=[_]) rfl rfl rfl (Sx.one (One.lit rfl)) rfl (Nat.le_of_ble_eq_true rfl) ?_);refine sNt ?_)|refine sQ ?_|refine AW ?_|refine BQ (hk:=?_)))
    refine Az ?_;refine h20 _ ?_;refine nT ?_;refine D5 6 rfl rfl rfl (fun g=>(.any::.lit (.pointer (some ⟨g1,0,none⟩))::.any::.lit (.slice (some ⟨O,0,none⟩) f.blocks.length f.blocks.length)::.own 3 (ver+1)::.bs tInt.slice (JB f f.blocks.length)::.any::.lit (.int .i64 (b:Int))::.lit (.pointer (some ⟨g,0,none⟩))::A80 (A10 (A4 [])))) (fun g=>(by(repeat(first|exact OpnB.nil|refine OpnB.ptr ?_|refine OpnB.any ?_|refine OpnB.keep rfl ?_)))) fun gn=>?_
    refine SC 3 rfl rfl (fun v=>(.any::.lit (.pointer (some ⟨g1,0,none⟩))::.any::.lit (.slice (some ⟨O,0,none⟩) f.blocks.length f.blocks.length)::.lit v::.bs tInt.slice (JB f f.blocks.length)::.any::.lit (.int .i64 (b:Int))::.lit (.pointer (some ⟨gn,0,none⟩))::A80 (A10 (A4 [])))) (fun v=>(by(repeat(first|exact Opn.nil|refine Opn.own ?_|refine Opn.any ?_|refine Opn.keep rfl ?_)))) fun vw=>?_
    refine Ad fun K21 h21=>?_
    refine Ad fun K22 h22=>?_
    (refine Awp.region ?_;(repeat(first|refine sQ ?_|refine AW ?_|refine BQ (hk:=?_))))
    refine Bu rfl (FP rfl (R4 bl.ins) (fun _=>rfl) rfl rfl fun p=>?_);refine sNt ?_
    (repeat(first|refine sQ ?_|refine AW ?_|refine BQ (hk:=?_)))
    refine Az ?_;refine h22 _ ?_;refine nT ?_;refine A1 ⟨(.any::.lit (.pointer (some ⟨g1,0,none⟩))::.any::.lit (.slice (some ⟨O,0,none⟩) f.blocks.length f.blocks.length)::.lit vw::.bs tInt.slice (JB f f.blocks.length)::.any::.lit (.int .i64 (b:Int))::.lit (.pointer (some ⟨gn,0,none⟩))::A40 (A10 (A5 (.lit (bkF p)::A20 (A10 (A8 [])))))),[.res (BR ds),.res (C3 g1 (Aq f)),.res (C3 O (ms.map EM)),.res (rowR vw 3 tInt (KP w0)),.res (mapsR ms Ss),.res (JY S mn),.res (C3 gn [EM mn]),.res (bkR bl.ins p)]⟩ (B7) ?_;refine Ak ?_;obtain⟨sg,hsg⟩:∃sg:(Int→Bool)→List ABlk,sg=fun T=>[.dead,.res (C3 g1 (Aq f)),.res (C3 O (ms.map EM)),.res (rowR vw 3 tInt (KP w0)),.res (mapsR ms Ss),.res (JY T mn),.res (C3 gn [EM mn]),.dead]:=⟨_,rfl⟩
    refine Xr 7 0 (fun k=>sg (bkS bl.ins S k)) hrd (by kernel_rfl) rfl rfl rfl rfl ?hdrop ?hd1 ?hd2 ?hd3 rfl (Ai9 _) (Af1 _) (fun w T h1 h2 h3=>PY bl.ins hsb.ins p w T h1 h2 h3) ?hround ?hdone
    case hdrop=>
     rw[Ac1,hsg];exact⟨Cut.dead (Cut.cons (Cut.cons (Cut.cons (Cut.cons (Cut.cons (Cut.cons (Cut.dead (Cut.nil _)))))))),fun b hb=>List.all_eq_true.1 (show bdH [.dead,.res (C3 g1 (Aq f)),.res (C3 O (ms.map EM)),.res (rowR vw 3 tInt (KP w0)),.res (mapsR ms Ss),.res (JY S mn),.res (C3 gn [EM mn]),.dead]=true from rfl) b hb⟩
    case hd1=>rw[hsg];rfl
    case hd2=>intro k;rw[hsg];rfl
    case hd3=>intro k;rw[hsg];rfl
    case hround=>
     intro k hk C' hr';obtain⟨d,hd⟩:∃d,bl.ins[bl.ins.length - 1 - k]? =some d:=⟨_,List.getElem?_eq_getElem (by omega)⟩
     have hmd:=List.mem_of_getElem? hd;have hbk:bkE bl.ins k= [.lit (.int .i64 ((bl.ins.length - 1 - k:Nat):Int)),.agg (BB d)]:=by unfold bkE;rw[hd]
     have hsub:=Afz hSs (hLr bl hmem) k;have hal:d.args.length≤2097152:=by have:=hsb.all d hmd;omega
     rw[hbk,hsg];refine Io (t':=(.any::.lit (.pointer (some ⟨g1,0,none⟩))::.any::.lit (.slice (some ⟨O,0,none⟩) f.blocks.length f.blocks.length)::.lit vw::.bs tInt.slice (JB f f.blocks.length)::.any::.lit (.int .i64 (b:Int))::.lit (.pointer (some ⟨gn,0,none⟩))::A40 (A10 (A5 (.lit (bkF p)::.lit (.int .i64 ((bl.ins.length - 1 - k:Nat):Int))::.agg (BB d)::A20 (A10 (A6 []))))))) rfl rfl ?_;refine rR ?_;refine An ?_;intro C'' hr'';refine nT ?_;refine Ak ?_
     (refine Awp.region ?_;(repeat(first|refine sQ ?_|refine AW ?_|refine BQ (hk:=?_))))
     refine Bu rfl (CG (i:=5) rfl rfl (ZW d _ (Bw f) mn (hob.ins d hmd) hal hRR hsub.inR (hLr bl hmem d hmd)) (fun _=>rfl) rfl rfl fun _=>?_);refine sNt ?_;refine Az ?_;refine⟨rfl,?_⟩;rw[Ac2 hd hk];exact⟨Cut.cons (Cut.cons (Cut.cons (Cut.cons (Cut.cons (Cut.cons (Cut.cons (Cut.cons (Cut.nil _)))))))),fun b hb=>List.all_eq_true.1 (show bdH [.dead,.res (C3 g1 (Aq f)),.res (C3 O (ms.map EM)),.res (rowR vw 3 tInt (KP w0)),.res (mapsR ms Ss),.res (JY (GN d (bkS bl.ins S k)) mn),.res (C3 gn [EM mn]),.dead]=true from rfl) b hb⟩
    case hdone=>
     intro D;have hbf:(JB f f.blocks.length)[b]? =some (SK f b):=by
      unfold SK;rw[List.getD_eq_getElem?_getD,List.getElem?_eq_getElem (by rw[FH];exact hbn)];rfl
     have hbe:=ZV f f.blocks.length _ (List.mem_of_getElem? hbf);have hNs:Sub (Bw f) (inS bl.ins S):=hSs.inS (hLr bl hmem);rw[Af0,hsg];refine h21 _ ?_;refine Io (t':=(.any::.lit (.pointer (some ⟨g1,0,none⟩))::.any::.lit (.slice (some ⟨O,0,none⟩) f.blocks.length f.blocks.length)::.lit vw::.bs tInt.slice (JB f f.blocks.length)::.any::.lit (.int .i64 (b:Int))::.lit (.pointer (some ⟨gn,0,none⟩))::A40 (A10 (A5 (.lit (bkF p)::A20 (A10 (A8 []))))))) (h':=[.res (BR (D::ds)),.res (C3 g1 (Aq f)),.res (C3 O (ms.map EM)),.res (rowR vw 3 tInt (KP w0)),.res (mapsR ms Ss),.res (JY (inS bl.ins S) mn),.res (C3 gn [EM mn]),.dead]) rfl rfl ?_;refine A1 _ (Nz 3 (ver:=ver+1) (t':=(.any::.lit (.pointer (some ⟨g1,0,none⟩))::.any::.lit (.slice (some ⟨O,0,none⟩) f.blocks.length f.blocks.length)::.own 3 (ver+1)::.bs tInt.slice (JB f f.blocks.length)::.any::.lit (.int .i64 (b:Int))::.lit (.pointer (some ⟨gn,0,none⟩))::A80 (A10 (A4 [])))) rfl rfl (by(try simp only[BH,List.set_cons_zero,List.set_cons_succ]);(repeat(first|exact Cls.nil|refine Cls.own ?_|refine Cls.any ?_|refine Cls.keep rfl ?_)))) ?_;refine Ad fun K30 h30=>?_
     refine rR ?_;refine h30 _ ?_;refine nT ?_;refine Ak ?_;refine AS (fun p:Nat×Nat×List Nat×List (Int→Bool)=>⟨(.any::.lit (.pointer (some ⟨g1,0,none⟩))::.any::.lit (.slice (some ⟨O,0,none⟩) f.blocks.length f.blocks.length)::.own 3 p.2.1::.bs tInt.slice (JB f f.blocks.length)::A2 (.lit (.pointer (some ⟨gn,0,none⟩))::A40 (A20 (A4 (.bs tInt (SK f b)::.lit (.int .i64 ((SK f b).length:Int))::.lit (.int .i64 (p.1:Int))::A20 (A7 [])))))),[.res (BR (D::ds)),.res (C3 g1 (Aq f)),.res (C3 O (ms.map EM)),.row p.2.1 3 tInt (KP p.2.2.1),.res (mapsR ms p.2.2.2),.res (JY (inS bl.ins S) mn),.res (C3 gn [EM mn]),.dead]⟩) (fun p=>p.1≤(SK f b).length∧AllJ f (Bw f) b w0 Ss ((SK f b).take p.1) p.2.2.1 p.2.2.2) (fun p=>(SK f b).length - p.1) (0,ver+1,w0,Ss) ⟨Nat.zero_le _,hI.split⟩ (B7) ?_;rintro⟨i,v2,wt,Ts⟩ ⟨hil,hJ⟩;dsimp only at hil hJ⊢;have hless:=hJ.less;have hwt:wt.length≤10000000000000:=by simp at hmu;omega
     refine Ad fun K31 h31=>?_
     refine rR ?_;refine h31 _ ?_;refine nT ?_;refine Ad fun K32 h32=>?_
     refine Aj rfl (fun hb33=>?_) (fun hb33=>?_)
     ·have hlt:i < (SK f b).length:=by simpa using hb33
      obtain⟨x,hxb⟩:∃x,(SK f b)[i]? =some x:=⟨_,List.getElem?_eq_getElem hlt⟩
      obtain⟨k,hek,rfl⟩:=(Vg hbn x).1 (List.mem_of_getElem? hxb);have hkn:=(Kb hek).1;obtain⟨mk,hmk2⟩:∃mk,ms[k]? =some mk:=⟨_,List.getElem?_eq_getElem (by omega)⟩
      obtain⟨T,hTk⟩:∃T,Ts[k]? =some T:=⟨_,List.getElem?_eq_getElem (by rw[hJ.len];exact hkn)⟩
      have hmck:(ms.map EM)[k]? =some (EM mk):=by rw[List.getElem?_map,hmk2];rfl
      have hatT:at_ Ts k=T:=by unfold at_;rw[List.getD_eq_getElem?_getD,hTk];rfl
      have hTs:Sub (Bw f) T:=by have:=hJ.sub k;rwa [hatT]at this
      have hUs:Sub (Bw f) (uni T (inS bl.ins S)):=fun r hr=>by
       unfold uni at hr;rw[Bool.or_eq_true]at hr;rcases hr with hr|hr
       ·exact hTs r hr
       ·exact hNs r hr
      have hTk2:(Ts.set k (uni T (inS bl.ins S)))[k]? =some (uni T (inS bl.ins S)):=List.getElem?_set_self (by rw[hJ.len];exact hkn);have hstep:=hJ.step hI hek hTk (by rw[hins];exact hLr bl hmem);dsimp only at hstep;rw[hins,hat]at hstep;have htk2:(SK f b).take (i+1)=(SK f b).take i++[(k:Int)]:=by rw[List.take_add_one,hxb];rfl
      rw[←htk2]at hstep;have hw:=M0 (k:=k) (by omega);have hn1:(KP wt).length+ [(k:Int)].length≤maxLen:=by rw[FZ];simp[maxLen];omega
      have hn2:((KP wt).length+ [(k:Int)].length) * 8≤140737488355328:=by rw[FZ];simp;omega
      refine Am ?_;refine h32 _ ?_;refine nT ?_;refine Ad fun K34 h34=>?_
      refine Ak ?_;refine Ad fun K35 h35=>?_
      refine rR ?_;refine h35 _ ?_;refine nT ?_;refine Ad fun K36 h36=>?_
      (refine Awp.region ?_;(repeat(first|refine sQ (hq:=GR (i:=4) rfl XK rfl rfl (H5 hmk2 hTk) hRR hTs.inR) ?_|refine sQ ?_|refine AW ?_|refine BQ (hk:=?_)));refine Az ?_)
      refine h36 _ ?_;refine nT ?_;refine Ad fun K37 h37=>?_
      (refine LQ 5 (hh:=?_);(repeat(first|refine qQ ?_|refine HF ?_));refine F8 ?_;(repeat(first|(refine Bu rfl (Qa (i:=4) (j:=5) (by decide) rfl rfl rfl (WO hmk2 hTk hRR hTs.inR hNs.inR) (fun _=>rfl) rfl rfl fun _=>?_);refine sNt ?_)|refine sQ ?_|refine AW ?_|refine BQ (hk:=?_)));refine Az ?_)
      refine h37 _ ?_;refine nT ?_;refine Ad fun K38 h38=>?_
      rcases hc:decide ((((Bw f).filter (uni T (inS bl.ins S))).length:Int) > (((Bw f).filter T).length:Int))with _|_
      ·rw[if_neg (by simpa using hc)]at hstep
       (refine Awp.region ?_;(repeat(first|refine sQ (hq:=GR (i:=4) rfl XK rfl rfl (H5 hmk2 hTk2) hRR hUs.inR) ?_|refine sQ ?_|refine AW ?_|refine BQ (hk:=?_)));refine Az ?_)
       refine h38 _ ?_;refine nT ?_;refine Aj rfl (fun hb39=>by cases hb39) (fun hb39=>?_);refine Am ?_;refine h34 _ ?_;refine nT ?_;refine rR ?_;refine An ⟨(i+1,v2,wt,Ts.set k (uni T (inS bl.ins S))),⟨by omega,hstep⟩,by dsimp only;omega,?_⟩;exact B7
      ·rw[if_pos (by simpa using hc)]at hstep
       (refine Awp.region ?_;(repeat(first|refine sQ (hq:=GR (i:=4) rfl XK rfl rfl (H5 hmk2 hTk2) hRR hUs.inR) ?_|refine sQ ?_|refine AW ?_|refine BQ (hk:=?_)));refine Az ?_)
       refine h38 _ ?_;refine nT ?_;refine Aj rfl (fun hb39=>?_) (fun hb39=>by cases hb39);refine rR ?_;refine h34 _ ?_;refine nT ?_;refine rR ?_;refine An ⟨(i+1,v2+1,wt++[k],Ts.set k (uni T (inS bl.ins S))),⟨by omega,hstep⟩,by dsimp only;omega,?_⟩;dsimp only;rw[J2];exact B7
     ·refine AB ?_;have hie:i=(SK f b).length:=by
       have:¬i < (SK f b).length:=by simpa using hb33
       omega
      subst hie;rw[List.take_length]at hJ;refine ZX (ZX ?_);refine W8 ?_;refine Ac9 ?_;refine An ⟨(D::ds,v2,wt,Ts),⟨hJ.done_all hI,by dsimp only;simp at hmu;omega⟩,by dsimp only;simp;omega,?_⟩;dsimp only;exact PH (Cut.cons (Cut.cons (Cut.cons (Cut.cons (Cut.cons (Cut.nil _))))))
   ·refine AB ?_;have hw0:wait= []:=List.eq_nil_of_length_eq_zero (by
     have:¬(0:Int) < ((KP wait).length:Int):=by simpa using hb17
     rw[FZ]at this;omega)
    subst hw0;refine h13 _ ?_;refine nT ?_;have hend:=hI.end_;have hln:=hI.len;subst hend;refine A1 _ (Ue (i:=2) (j:=4) (by decide) rfl rfl) ?_;refine Ad fun K23 h23=>?_
    refine rR ?_;refine h23 _ ?_;refine nT ?_;refine Ar ?_;exact⟨.inr rfl,ds,rfl,rfl,Adh (i:=2) (p:=(O,ms)) rfl hln hmx⟩
instance:AG Tryz.prog 74 false 1:=⟨by kernel_rfl⟩
instance:SZ Tryz.prog 74 1:=⟨by kernel_rfl⟩
instance:ES Tryz.prog 74 1:=⟨by kernel_rfl⟩
instance:SL Tryz.prog 74:=⟨by kernel_rfl⟩
instance:RT Tryz.prog 74 25 1 24:=⟨by kernel_rfl⟩
instance:AG Tryz.prog 25 false 1:=⟨by kernel_rfl⟩
instance:SZ Tryz.prog 25 1:=⟨by kernel_rfl⟩
instance:ES Tryz.prog 25 1:=⟨by kernel_rfl⟩
instance:SL Tryz.prog 25:=⟨by kernel_rfl⟩
instance:RT Tryz.prog 25 3 1 8:=⟨by kernel_rfl⟩
instance:AG Tryz.prog 22 false 1:=⟨by kernel_rfl⟩
instance:SZ Tryz.prog 22 1:=⟨by kernel_rfl⟩
instance:ES Tryz.prog 22 2:=⟨by kernel_rfl⟩
instance:SL Tryz.prog 22:=⟨by kernel_rfl⟩
instance:RT Tryz.prog 22 65 2 40:=⟨by kernel_rfl⟩
instance:AG Tryz.prog 65 true 2:=⟨by kernel_rfl⟩
instance:SZ Tryz.prog 65 2:=⟨by kernel_rfl⟩
theorem MM{R:List Int}{ds:List Ins}{S:Int→Bool}:∀(k:Nat),k≤ds.length→∀p:(Int→Bool)×List (List Int),p.1=inS (ds.drop k) S→p.2.length=ds.length+1→
 ((List.range k).reverse.foldl (JH R ds) p).2=(List.range k).map (fun j=>R.filter (inS (ds.drop j) S))++p.2.drop k
 |0,_,p,_,_=>by simp
 |k+1,hk,p,h1,h2=>by
  have hd:ds[k]? =some (ds[k]'(by omega)):=List.getElem?_eq_getElem (by omega);have hb:SV ds p.1 k=inS (ds.drop k) S:=by
   unfold SV;rw[hd,h1,List.drop_eq_getElem_cons (i:=k) (by omega)];rfl
  rw[List.range_succ,List.reverse_append,List.reverse_singleton,List.singleton_append,List.foldl_cons,MM k (by omega) (JH R ds p k) hb (by simp[JH,h2])];simp only[JH,hb,List.map_append,List.map_cons,List.map_nil,List.append_assoc,List.singleton_append];congr 1;rw[List.drop_eq_getElem_cons (i:=k) (by simp;omega),List.getElem_set_self,List.drop_set_of_lt (by omega)]
theorem Ot(R:List Int)(ds:List Ins)(S:Int→Bool):Fy R ds S=(List.range (ds.length+1)).map fun i=>R.filter (inS (ds.drop i) S):=by
 unfold Fy CI;rw[MM ds.length (Nat.le_refl _) _ (by rw[List.drop_eq_nil_of_le (Nat.le_refl _)];rfl) (by simp),List.range_succ,List.map_append];congr 1;rw[List.drop_set];simp[List.drop_replicate,inS]
theorem Z0(f:Func)(b:Nat):Fy (Bw f) (Ch f b) (Pv f b)=BX f b:=by
 rw[Ot];unfold BX Dg;refine List.map_congr_left fun i _=>?_
 congr 1;funext r;exact(Y1 f (Pv f b) b i (fun r=>L4) r).symm
theorem Ld(f:Func)(b:Nat):(BX f b).length=(Ch f b).length+1:=by simp[BX]
noncomputable def inL(f:Func)(b:Nat):List Int:=(Bw f).filter (inS (Ch f b) (Pv f b))
noncomputable def inF(f:Func):List (List Int):=(List.range f.blocks.length).map (inL f)
def atF(f:Func)(b:Int):List (List Int):=if 0≤b∧b < f.blocks.length then BX f b.toNat else []
theorem D4(f:Func)(b:Nat):(BX f b)[0]? =some (inL f b):=by
 rw[←Z0,Ot,List.getElem?_map,List.getElem?_range (by omega)];rfl
theorem VU{α:Type}(g:Nat→α)(b:Nat):(List.range (b+1)).map g=(List.range b).map g++[g b]:=by rw[List.range_succ,List.map_append];rfl
theorem Aj7(f:Func)(ho:okFunc f)(hs:smallF f)(hT:(Cg f).length≤2097152):Fn Tryz.prog 31 [.agg (Aq f)] (.bs tInt.slice (inF f)):=by
 have hbl:=hs.blocks;have hRR:=LU f ho hT;have hLr:∀b∈f.blocks,∀x∈b.ins,∀r∈readsC x,r∈Bw f:=fun b hb x hx r hr=>Gw.2 ⟨b,hb,x,hx,hr⟩
 refine AE Tryz.func31 rfl (by kernel_rfl) rfl Tryz.ntmps31 fun C hC=>?_
 refine nS ?_;refine rRS ?_;refine rRS ?_;refine Ad fun K3 h3=>?_
 refine Ad fun K4 h4=>?_
 (refine Awp.region ?_;(repeat(first|refine sQ (hq:=AX.call rfl (Z6 f ho hs hT) rfl rfl rfl) ?_|refine sQ ?_|refine AW ?_|refine BQ (hk:=?_)));refine Az ?_)
 refine h4 _ ?_;refine nT ?_;refine Ak ?_;refine AS (fun p:Nat×Nat=>⟨(.any::.ptr 0 0::.any::.own 1 p.2::A3 (.bs Adm ((List.range f.blocks.length).map (Pv f))::.lit (.int .i64 (f.blocks.length:Int))::.lit (.int .i64 (p.1:Int))::A10 (A8 []))),[.box (Aq f),.row p.2 25 tInt.slice ((List.range p.1).map (inL f))]⟩) (fun p=>p.1≤f.blocks.length) (fun p=>f.blocks.length - p.1) (0,0) (Nat.zero_le _) ((Cx 3 25 tInt.slice rfl (by decide)).trans (P5 rfl (by rw[List.length_map,List.length_range];exact(by(try simp only[BH,List.set_cons_zero,List.set_cons_succ]);repeat(first|exact Fgt.nil|refine Fgt.keep rfl ?_|refine Fgt.any ?_))))) ?_;rintro⟨b,ver⟩ hbn;dsimp only at hbn⊢;refine rRS ?_;refine Ad fun K7 h7=>?_
 refine Aj rfl (fun hb8=>?_) (fun hb8=>?_)
 ·have hlt:b < f.blocks.length:=by simpa using hb8
  obtain⟨bl,hblk⟩:∃bl,f.blocks[b]? =some bl:=⟨_,List.getElem?_eq_getElem hlt⟩
  have hmem:=List.mem_of_getElem? hblk;have hins:Ch f b=bl.ins:=by unfold Ch;rw[hblk]
  have hset:((List.range f.blocks.length).map (Pv f))[b]? =some (Pv f b):=by rw[List.getElem?_map,List.getElem?_range hlt];rfl
  have hp0:(Fy (Bw f) bl.ins (Pv f b))[(0:Int).toNat]? =some (inL f b):=by rw[←hins,Z0];exact D4 f b
  have hn1:((List.range b).map (inL f)).length+ [inL f b].length≤maxLen:=by simp[maxLen];omega
  have hn2:(((List.range b).map (inL f)).length+ [inL f b].length) * 24≤140737488355328:=by simp;omega
  refine Am ?_;refine h7 _ ?_;refine nT ?_;refine Ad fun K9 h9=>?_
  refine Ak ?_;refine rRS ?_
  (refine Awp.region ?_;(repeat(first|refine sQ (hq:=AX.call rfl (MN bl (Pv f b) (Bw f) (ho.blocks bl hmem) (hs.all bl hmem) hRR (Pu hLr b) (hLr bl hmem)) rfl rfl rfl) ?_|refine sQ ?_|refine AW ?_|refine BQ (hk:=?_)));refine Az ?_)
  refine h9 _ ?_;refine nT ?_;refine rR ?_;refine An ⟨(b+1,ver+1),by dsimp only;omega,by dsimp only;omega,?_⟩;dsimp only;rw[VU];exact B7
 ·refine AB ?_;have hbe:b=f.blocks.length:=by
   have:¬b < f.blocks.length:=by simpa using hb8
   omega
  subst hbe;refine h3 _ ?_;refine nT ?_;refine rRS ?_;refine Ar ?_;exact⟨.inr rfl,Fin.own rfl⟩
theorem OS{h:List ABlk}{α:Type}{T:Ty α}(hm:mkD h= []:=by rfl):Fin h (.lit (.slice none 0 0)) (.bs T []):=⟨hm,fun C S ψ w v hC H hv=>⟨S,fun _ h=>h,fun _ h=>.inl h,H.lt,by
 unfold AV.rel at hv⊢;rw[hv];exact T.slice_nilS _ _⟩⟩
theorem Ajc(f:Func)(b:Int)(ho:okFunc f)(hs:smallF f)(hT:(Cg f).length≤2097152):Fn Tryz.prog 160 [.agg (Aq f),.lit (.int .i64 b)] (.bs tInt.slice (atF f b)):=by
 have hbl:=hs.blocks;have hRR:=LU f ho hT;have hLr:∀b∈f.blocks,∀x∈b.ins,∀r∈readsC x,r∈Bw f:=fun b hb x hx r hr=>Gw.2 ⟨b,hb,x,hx,hr⟩
 refine AE Tryz.func160 rfl (by kernel_rfl) rfl Tryz.ntmps160 fun C hC=>?_
 refine nS ?_;refine rRS ?_;refine Ad fun K2 h2=>?_
 refine Ad fun K3 h3=>?_
 rcases hd1:decide (b < 0)with _|_
 ·rcases hd2:decide (b≥(f.blocks.length:Int))with _|_
  ·have h0:0≤b:=by simpa using hd1
   have hlt:b.toNat < f.blocks.length:=by
    have:b < (f.blocks.length:Int):=by simpa using hd2
    omega
   obtain⟨bl,hblk⟩:∃bl,f.blocks[b.toNat]? =some bl:=⟨_,List.getElem?_eq_getElem hlt⟩
   have hmem:=List.mem_of_getElem? hblk;have hins:Ch f b.toNat=bl.ins:=by unfold Ch;rw[hblk]
   have hset:((List.range f.blocks.length).map (Pv f))[b.toNat]? =some (Pv f b.toNat):=by rw[List.getElem?_map,List.getElem?_range hlt];rfl
   have hres:atF f b=Fy (Bw f) bl.ins (Pv f b.toNat):=by
    unfold atF;rw[if_pos ⟨h0,by omega⟩,←hins,Z0]
   refine rR ?_;refine h3 _ ?_;refine nT ?_;refine Aj rfl (fun hb4=>by cases hb4) (fun hb4=>?_);refine Am ?_;refine h2 _ ?_;refine nT ?_;refine Ad fun K6 h6=>?_
   (refine LQ 12 (hh:=?_);(repeat(first|refine qQ (hq:=AX.call rfl (Z6 f ho hs hT) rfl rfl rfl) ?_|refine qQ (hq:=AX.call rfl (MN bl (Pv f b.toNat) (Bw f) (ho.blocks bl hmem) (hs.all bl hmem) hRR (Pu hLr _) (hLr bl hmem)) rfl rfl rfl) ?_|refine qQ ?_|refine HF ?_));refine F8 ?_;(repeat(first|refine sQ (hq:=AX.call rfl (Z6 f ho hs hT) rfl rfl rfl) ?_|refine sQ (hq:=AX.call rfl (MN bl (Pv f b.toNat) (Bw f) (ho.blocks bl hmem) (hs.all bl hmem) hRR (Pu hLr _) (hLr bl hmem)) rfl rfl rfl) ?_|refine sQ ?_|refine AW ?_|refine BQ (hk:=?_)));refine Az ?_)
   refine h6 _ ?_;refine nT ?_;refine Ar ?_;rw[hres];exact⟨.inr rfl,Fin.cl rfl⟩
  ·have hres:atF f b= []:=by
    have:(f.blocks.length:Int)≤b:=by simpa using hd2
    unfold atF;rw[if_neg (by omega)]
   refine rR ?_;refine h3 _ ?_;refine nT ?_;refine Aj rfl (fun hb4=>?_) (fun hb4=>by cases hb4);refine rRS ?_;refine Ar ?_;rw[hres];exact⟨.inr rfl,OS⟩
 ·have hres:atF f b= []:=by
   have:b < 0:=by simpa using hd1
   unfold atF;rw[if_neg (by omega)]
  refine rR ?_;refine h3 _ ?_;refine nT ?_;refine Aj rfl (fun hb4=>?_) (fun hb4=>by cases hb4);refine rRS ?_;refine Ar ?_;rw[hres];exact⟨.inr rfl,OS⟩
end Mu
end
section
namespace Mu
open Go Go.RowKit Go.Proofs Go.Shelf
attribute [local go_sem] Oper.semAt_some
def Wf{α:Type}(g:Nat→List α)(b:Nat):Nat:=((List.range b).flatMap g).length
theorem MY{α:Type}(g:Nat→List α)(b:Nat):Wf g (b+1)=Wf g b+(g b).length:=by
 unfold Wf;rw[List.range_succ,List.flatMap_append,List.length_append];simp
theorem YP{α:Type}(g:Nat→List α)(b k:Nat):Wf g b≤Wf g (b+k):=by
 induction k with
 |zero=>exact Nat.le_refl _
 |succ k ih=>rw[←Nat.add_assoc,MY];omega
theorem YQ{α:Type}(g:Nat→List α):∀(n b i:Nat),b < n→i < (g b).length→((List.range n).flatMap g)[Wf g b+i]? =(g b)[i]?
 |0,b,i,h,_=>by omega
 |n+1,b,i,h,hi=>by
  rw[List.range_succ,List.flatMap_append];by_cases hb:b=n
  ·subst hb;rw[List.getElem?_append_right (by unfold Wf;omega)];unfold Wf;simp
  ·have h1:Wf g b+i < ((List.range n).flatMap g).length:=by
    have h2:=YP g (b+1) (n - (b+1));rw[show b+1+(n - (b+1))=n by omega,MY]at h2;unfold Wf at h2⊢;omega
   rw[List.getElem?_append_left h1];exact YQ g n b i (by omega) hi
def Em(f:Func)(b:Nat):List (Ins×List Int):=(Ch f b).zip ((BX f b).drop 1)
def stepsL(f:Func):List (Ins×List Int):=(List.range f.blocks.length).flatMap (Em f)
theorem N7(f:Func)(b:Nat):(Em f b).length=(Ch f b).length:=by
 unfold Em;rw[List.length_zip,List.length_drop,Ld];omega
theorem Qu{f:Func}{b i:Nat}{x:Ins}{l:List Int}(hx:(Ch f b)[i]? =some x)(hl:(BX f b)[i+1]? =some l):(Em f b)[i]? =some (x,l):=by
 unfold Em;rw[List.getElem?_zip_eq_some];refine⟨hx,?_⟩;rw[List.getElem?_drop,Nat.add_comm];exact hl
theorem Qt{f:Func}{b i:Nat}{x:Ins}{l:List Int}(hb:b < f.blocks.length)(hx:(Ch f b)[i]? =some x)(hl:(BX f b)[i+1]? =some l):(stepsL f)[Wf (Em f) b+i]? =some (x,l):=by
 have h:=Qu hx hl;unfold stepsL;rw[YQ (Em f) _ b i hb (List.getElem?_eq_some_iff.1 h).1,h]
def stE(f:Func)(k:Nat):List AV:=match(stepsL f)[k]? with
 |some q=>[.agg (BB q.1),.bs tInt q.2]
 |none=>(A2 [])
theorem XY{f:Func}{k:Nat}{q:Ins×List Int}(h:(stepsL f)[k]? =some q):stE f k= [.agg (BB q.1),.bs tInt q.2]:=by unfold stE;rw[h]
theorem Adn(f:Func)(k:Nat):Bt (stE f k)=true:=by
 unfold stE;split <;> rfl
theorem XX(f:Func)(k:Nat):(stE f k).length=2:=by
 unfold stE;split <;> rfl
theorem Abc(F:Fence)(n:Nat)(hF:F.fn 144)(hro:F.round=none)(cs:List Value)(w:World)(hcs:cs.length=4):
 CallsIn F n Tryz.prog 144 #[.agg cs.toArray] w fun e w'=>e= .returned (.func (.func 172) #[] #[.pointer (some ⟨w.heap.size,0,none⟩)])∧w'=w.alloc (.cells cs.toArray 24):=by
 match cs,hcs with
 | [a,b,c,d],_=>
  refine callsIn_of_wp Tryz.func144 rfl hF ?_ hro;simp only[Tryz.ntmps144,List.size_toArray,List.length_cons,List.length_nil,Nat.reduceAdd,Nat.reduceSub,Array.replicate_succ,Array.replicate_zero,List.push_toArray,List.append_toArray,List.nil_append,List.cons_append]
  gi_wp2
  go_ret
  exact⟨rfl,rfl⟩
def stF(p:Nat):Value:=.func (.func 172) #[] #[.pointer (some ⟨p,0,none⟩)]
theorem Qs(f:Func):Xn Tryz.prog 144 [.agg (Aq f)] (fun p=>C3 p (Aq f)) stF:=by
 refine⟨by kernel_rfl,fun w S vs hS hr=>?_⟩;obtain⟨v,rfl,hv⟩:=Aa4 hr;obtain⟨cs,rfl,hc⟩:=Jb hv;have hl:cs.length=4:=by rw[By hc];rfl
 refine((callsIn_wide (n:=4)).1 (Abc Fence.wide 4 trivial rfl cs w hl)).mono ?_;rintro e w' ⟨rfl,rfl⟩;have hb:Below w.heap.size w (w.alloc (.cells cs.toArray 24)):=(Below.refl _ _).alloc (Nat.le_refl _) _;exact⟨_,rfl,⟨hb.os,hb.tape,hb.output,hb.size,fun k hk _=>hb.block k hk⟩,w.heap.size,rfl,⟨cs,24,heap_alloc_new w _,Ay (Ext.grow [] ψ0 (fun k hk=>hb.block k (hS k hk)) fun _ h=>h) _ _ hc⟩,fun k hk=>by
  have hk:k=w.heap.size:=hk;subst hk;exact⟨.inr (Nat.le_refl _),by simp⟩⟩
theorem N5(f:Func)(ho:okFunc f)(hs:smallF f)(hT:(Cg f).length≤2097152)(hi1:∀b∈f.blocks,b.ins.length+1≤2097152)(pb:Nat):
 Agf Tryz.prog 172 [.pointer (some ⟨pb,0,none⟩)] (C3 pb (Aq f)) (stE f) (stepsL f).length:=by
 have hbl:=hs.blocks;refine Sy Tryz.func172 rfl (by kernel_rfl) rfl Tryz.ntmps172 rfl fun C hrd ι l Jr hm hY q0=>?_
 simp only[List.map_cons,List.map_nil,List.length_cons,List.length_nil,Nat.reduceAdd,Nat.reduceSub,List.replicate_succ,List.replicate_zero,List.cons_append,List.nil_append];refine Ad fun K1 h1=>?_
 refine rR ?_;refine h1 _ ?_;refine nT ?_;refine Ak ?_;refine AS (fun p:Nat×ι=>⟨(.lit (.func (.yield l) #[] #[])::.lit (.pointer (some ⟨pb,0,none⟩))::A7 (.lit (.int .i64 (f.blocks.length:Int))::.lit (.int .i64 (p.1:Int))::A20 (A8 []))),[.res (Jr (Wf (Em f) p.1) p.2),.res (C3 pb (Aq f))]⟩) (fun p=>p.1≤f.blocks.length) (fun p=>f.blocks.length - p.1) (0,q0) (Nat.zero_le _) (B7) ?_;rintro⟨b,q⟩ hbn;dsimp only at hbn⊢;refine Ad fun K3 h3=>?_
 refine rR ?_;refine h3 _ ?_;refine nT ?_;refine Ad fun K4 h4=>?_
 refine Aj rfl (fun hb5=>?_) (fun hb5=>?_)
 ·have hlt:b < f.blocks.length:=by simpa using hb5
  obtain⟨bl,hblk⟩:∃bl,f.blocks[b]? =some bl:=⟨_,List.getElem?_eq_getElem hlt⟩
  have hmem:=List.mem_of_getElem? hblk;have hins:Ch f b=bl.ins:=by unfold Ch;rw[hblk]
  have hil:=hi1 bl hmem;have hat:atF f (b:Int)=BX f b:=by
   unfold atF;rw[if_pos ⟨by omega,by omega⟩,Int.toNat_natCast]
  have hA:=Ajc f (b:Int) ho hs hT;rw[hat]at hA;have hsl:(Em f b).length=bl.ins.length:=by rw[N7,hins]
  have hoff:=MY (Em f) b;rw[hsl]at hoff;generalize hk0:Wf (Em f) b=k0 at hoff⊢;refine Am ?_;refine h4 _ ?_;refine nT ?_;refine Ad fun K6 h6=>?_
  refine Ak ?_;refine Ad fun K7 h7=>?_
  refine rR ?_;refine h7 _ ?_;refine nT ?_;refine Ad fun K8 h8=>?_
  (refine Awp.region ?_;(repeat(first|refine sQ (hq:=AX.call rfl hA rfl rfl rfl) ?_|refine sQ ?_|refine AW ?_|refine BQ (hk:=?_)));refine Az ?_)
  refine h8 _ ?_;refine nT ?_;refine Ad fun K9 h9=>?_
  refine rR ?_;refine h9 _ ?_;refine nT ?_;refine Ak ?_;refine AS (fun p:Nat×ι=>⟨(.lit (.func (.yield l) #[] #[])::.lit (.pointer (some ⟨pb,0,none⟩))::.any::.lit (.int .i64 (b:Int))::.bs tInt.slice (BX f b)::A4 (.lit (.int .i64 (f.blocks.length:Int))::.lit (.int .i64 (b:Int))::A10 (.bs Ep bl.ins::.lit (.int .i64 (bl.ins.length:Int))::.lit (.int .i64 (p.1:Int))::A10 (A5 [])))),[.res (Jr (k0+p.1) p.2),.res (C3 pb (Aq f))]⟩) (fun p=>p.1≤bl.ins.length) (fun p=>bl.ins.length - p.1) (0,q) (Nat.zero_le _) (B7) ?_;rintro⟨i,q⟩ hi;dsimp only at hi⊢;refine Ad fun K11 h11=>?_
  refine rR ?_;refine h11 _ ?_;refine nT ?_;refine Ad fun K12 h12=>?_
  refine Aj rfl (fun hb13=>?_) (fun hb13=>?_)
  ·have hil2:i < bl.ins.length:=by simpa using hb13
   obtain⟨x,hx⟩:∃x,bl.ins[i]? =some x:=⟨_,List.getElem?_eq_getElem hil2⟩
   obtain⟨bh,hbh⟩:∃bh,(BX f b)[i+1]? =some bh:=⟨_,List.getElem?_eq_getElem (by rw[Ld,hins];omega)⟩
   have hbh2:(BX f b)[((i:Int)+1).toNat]? =some bh:=by rw[show((i:Int)+1).toNat=i+1 by omega];exact hbh
   have hst:(stepsL f)[k0+i]? =some (x,bh):=by rw[←hk0];exact Qt hlt (by rw[hins];exact hx) hbh
   have hYk:∀q,W9 Tryz.prog l C.S0 C.w0.heap.size (Jr (k0+i) q) [.agg (BB x),.bs tInt bh] (Jr (k0+i+1)):=fun q=>by
    have:=hY (k0+i) q (List.getElem?_eq_some_iff.1 hst).1;rwa [XY hst]at this
   refine Am ?_;refine h12 _ ?_;refine nT ?_;refine Ad fun K14 h14=>?_
   refine Ak ?_;refine Ad fun K15 h15=>?_
   refine rR ?_;refine h15 _ ?_;refine nT ?_;refine Ad fun K16 h16=>?_
   refine Aan 7 (by kernel_rfl) (by kernel_rfl) ?_;simp only[List.take_succ_cons,List.take_zero,List.drop_succ_cons,List.drop_zero,List.take_nil,List.drop_nil]
   (repeat(first|refine qQ ?_|refine HF ?_))
   refine F8 ?_;refine Aad rfl (Ajz.yield (i:=0) hrd rfl (fun p=>by rw[hm,hm]) rfl rfl rfl rfl (hYk q) fun q'=>?_);refine Me (by(try simp only[BH,List.set_cons_zero,List.set_cons_succ]);exact rfl) (by(try simp only[List.nil_append,List.cons_append,List.set_cons_zero,List.set_cons_succ,List.length_nil,List.length_cons,Nat.reduceAdd]);exact rfl) ?_;refine P3 rfl (BD (CT rfl rfl) ?_);refine Si ?_;refine h16 _ ?_;refine nT ?_;refine Aj rfl (fun hb17=>by cases hb17) (fun hb17=>?_);refine Am ?_;refine h14 _ ?_;refine nT ?_;refine rR ?_;refine An ⟨(i+1,q'),by dsimp only;omega,by dsimp only;omega,?_⟩;exact PH (.cons (.cons (Cut.nil _)))
  ·have hie:i=bl.ins.length:=by
    have:¬i < bl.ins.length:=by simpa using hb13
    omega
   subst hie;rw[←hoff];refine AB ?_;refine h6 _ ?_;refine nT ?_;refine rR ?_;refine An ⟨(b+1,q),by dsimp only;omega,by dsimp only;omega,?_⟩;exact B7
 ·have hbe:b=f.blocks.length:=by
   have:¬b < f.blocks.length:=by simpa using hb5
   omega
  subst hbe;refine AB ?_;exact⟨.inl rfl,q,rfl,by simp[mkD,ABlk.mrk,hm];rfl⟩
end Mu
end
section
namespace Go.Proofs
open Go.Shelf
def Tryz.keysK_ren:Go.Shelf.Ren:=⟨fun|7=>96|10=>153|n=>n,fun|23=>87|26=>3|3=>3|28=>137|0=>0|27=>136|33=>86|4=>4|n=>n,fun|n=>n⟩
theorem Tryz.keysK:Go.Proofs.SlLaysZI.n7 Tryz.prog Tryz.keysK_ren:={
 mixed:=by kernel_rfl
 f7:=⟨Tryz.f96.name,by decide,Tryz.func96.trans (congrArg some (by kernel_rfl))⟩
 f10:=⟨Tryz.f153.name,by decide,Tryz.func153.trans (congrArg some (by kernel_rfl))⟩
 t0:=Tryz.underlying0
 a0:=Tryz.isAgg0
 z0:=Tryz.sizeOf0
 v0:=Tryz.zeroValue0
 t4:=Tryz.underlying4
 a4:=Tryz.isAgg4
 z4:=Tryz.sizeOf4
 v4:=Tryz.zeroValue4
 t23:=Tryz.underlying87
 a23:=Tryz.isAgg87
 z23:=Tryz.sizeOf87
 v23:=Tryz.zeroValue87
 t26:=Tryz.underlying3
 a26:=Tryz.isAgg3
 z26:=Tryz.sizeOf3
 v26:=Tryz.zeroValue3
 t27:=Tryz.underlying136
 a27:=Tryz.isAgg136
 z27:=Tryz.sizeOf136
 v27:=Tryz.zeroValue136
 t28:=Tryz.underlying137
 a28:=Tryz.isAgg137
 z28:=Tryz.sizeOf137
 v28:=Tryz.zeroValue137
 t33:=Tryz.underlying86
 a33:=Tryz.isAgg86
 z33:=Tryz.sizeOf86
 v33:=Tryz.zeroValue86}
end Go.Proofs
end
section
namespace Mu
open Go Go.RowKit Go.Proofs Go.Maps Go.Shelf
section
variable{P:Program}{C:Ctx}{t:List AV}{h:List ABlk}{o:Oper}
def Akv(P:Program)(f:FuncId)(R1 R2:Res)(args:List AV)(r:AV):Prop:=
 B6 P f=true∧∀(w:World) (S:Nat→Prop) (vs:List Value),(∀k,S k→k < w.heap.size)→(∀g,R1.F g→g < w.heap.size)→(∀g,R2.F g→g < w.heap.size)→R1.R w S→R2.R w S→Ah w S [] ψ0 args vs→
  Calls P f vs.toArray w fun e w'=>∃v,e= .returned v∧Xm w S [] ψ0 r v w'
theorem Sv{f:FuncId}{args:Array Operand}{tys:Array TypeId}{xs:List AV}{r:AV}{R1 R2:Res}(i j:Nat)(hi:h[i]? =some (.res R1))(hj:h[j]? =some (.res R2))
 (ho:o.op= .call {callee:=.value (.func f),args:=args,argTypes:=tys}) (hF:Akv P f R1 R2 xs r) (hx:args.toList.map (evA t)=xs) (hc:Bt xs=true) (hr:AV.cl r=true):AX P C t h o r:=by
 intro S ψ w ρ H hρ;have h1:ρ (.func f)= .func (.func f) #[] #[]:=by
  have:=hρ (.func f) (by rw[ho];exact Array.mem_append.2 (.inl (by simp)));simpa[evA,AV.rel]using this
 rw[CY ho hF.1 ρ w h1];refine⟨rfl,?_⟩;have h2:Ah w S h ψ xs (args.toList.map ρ):=by
  rw[←hx];exact Cm fun x hx'=>hρ x (by rw[ho];exact Array.mem_append.2 (.inr (Array.mem_toList_iff.1 hx')))
 have hB1:=H.blk i _ hi;have hB2:=H.blk j _ hj;have h3:=hF.2 w S (args.toList.map ρ) H.lt (fun g hg=>(hB1.1 g hg).2.2) (fun g hg=>(hB2.1 g hg).2.2) hB1.2 hB2.2 (Bi _ _ hc h2);rw[show(args.map ρ)=(args.toList.map ρ).toArray from(by rw[←Array.toList_map])];refine h3.mono ?_;rintro e w' ⟨v,he,hb,S',k1,k2,k3,k4⟩;exact⟨v,he,hb,S',k1,k2,k3,Dz _ _ hr k4⟩
end
section
variable{C:Ctx}{t:List AV}{h:List ABlk}{o:Oper}
theorem Vr{ty:TypeId}{x y z:Operand}(i:Nat){m:Nat}{S:Int→Bool}{R:List Int}{r:Int}{K:St→Prop}(ho:o.op= .mapUpdate ty x y z)(hty:Tryz.prog.underlying ty=some (.map 3 3))(hi:h[i]? =some (.res (JY S m)))
 (hx:evA t x= .lit (.map (some m))) (hy:evA t y= .lit (.int .i64 r)) (hz:evA t z= .lit (.int .i64 1)) (hR:RegsR R) (hin:InR R S) (hr:Ht r) (hK:K ⟨BH t o.dst (.lit undef),h.set i (.res (JY (Aaa S r) m))⟩):AOp Tryz.prog C o ⟨t,h⟩ K:=by
 refine AOp.turn (ι:=Unit) (Rs:=fun _=>JY (Aaa S r) m) (val:=fun _=>undef) hi (fun _=>rfl) (fun T ψ w ρ H hRw hlt hρ=>?_) (fun _=>hK);have h1:=hρ x (by simp[ho,Op.operands]);have h2:=hρ y (by simp[ho,Op.operands]);have h3:=hρ z (by simp[ho,Op.operands]);rw[hx]at h1;rw[hy]at h2;rw[hz]at h3;unfold AV.rel at h1 h2 h3;obtain⟨D,hown,hD⟩:=(show Gk w m S from hRw)
 have hsz:=Gu hown hD hR hin;obtain⟨w',hrun,hown',hg⟩:=hown.update Ady hty (by have:=hsz.2;unfold maxLen;omega) (Ajr hr) (plainElem_int Tryz.underlying3 UP);have hs':=Gk.put hown hD hown';have e:(execOp ρ o).run Tryz.prog w= .ok .skip w'∨(execOp ρ o).run Tryz.prog w= .ok (.value undef) w':=by
  simp[execOp,ho,h1,h2,h3,hrun,Result.andThen]
 have hT:Turns w T (JY S m).F (fun _:Unit=>JY (Aaa S r) m) (fun _=>undef) undef w':=
  ⟨Gr.of_grownBy hg |> fun G=>⟨G.os,G.tape,G.output,G.size,fun k hk hn=>G.block k hk fun e=>hn (by cases e;rfl)⟩,(),rfl,hs',fun k hk=>⟨.inl hk,by
   have hk:k=m:=hk;subst hk;exact hs'.lt⟩⟩
 rcases e with e|e
 ·rw[e];exact hT
 ·rw[e];exact hT
end
theorem Y3(m:Nat):Xn Tryz.prog 96 [.lit (.map (some m))] (fun p=>C3 p [.lit (.map (some m))]) (fun p=>.func (.func 153) #[] #[.pointer (some ⟨p,0,none⟩)]):=by
 refine⟨by kernel_rfl,fun w S vs hS hr=>?_⟩;obtain⟨us,rfl,h0⟩:=E1 hr;unfold Ah at h0;subst h0;have cK:CallsIn Fence.wide 5 Tryz.prog 96 #[.map (some m)] w fun e w'=>e= .returned (.func (.func 153) #[] #[.pointer (some ⟨w.heap.size,0,none⟩)])∧w'=w.alloc (.cells #[.map (some m)] 87):=AnyZI.keys_in Tryz.keysK Fence.wide 5 trivial rfl (some m) w
 refine((callsIn_wide (n:=5)).1 cK).mono ?_;rintro e w' ⟨rfl,rfl⟩;have hb:Below w.heap.size w (w.alloc (.cells #[.map (some m)] 87)):=(Below.refl _ _).alloc (Nat.le_refl _) _;exact⟨_,rfl,⟨hb.os,hb.tape,hb.output,hb.size,fun k hk _=>hb.block k hk⟩,w.heap.size,rfl,⟨[.map (some m)],87,heap_alloc_new w _,EG [.map (some m)]⟩,fun k hk=>by
  have hk:k=w.heap.size:=hk;subst hk;exact⟨.inr (Nat.le_refl _),by simp⟩⟩
theorem VF(p m:Nat)(S:Int→Bool)(R:List Int)(hR:RegsR R)(hi:InR R S):
 Akv Tryz.prog 95 (C3 p [.lit (.map (some m))]) (JY S m) [.lit (.func (.func 153) #[] #[.pointer (some ⟨p,0,none⟩)])] (.bs tInt (R.filter S)):=by
 refine⟨by kernel_rfl,fun w T vs hT hF1 hF2 hbox hs hr=>?_⟩;obtain⟨us,rfl,h0⟩:=E1 hr;unfold Ah at h0;subst h0;obtain⟨cs,e,hp,hcs⟩:=hbox;obtain⟨us,rfl,h1⟩:=E1 hcs;unfold Ah at h1;subst h1;have hpl:=hF1 p rfl;have hcell:w.cell? ⟨p,0,none⟩=some (.map (some m)):=by simp[World.cell?,hp]
 obtain⟨D,hown,hS⟩:=(show Gk w m S from hs)
 obtain⟨hperm,hsz⟩:=S5 hown hS hR.asc hR.wf hi.mem;have hfl:=List.length_filter_le S R;have hRl:=hR.len;have hmax:Maps.size D≤maxLen:=by rw[hsz];unfold maxLen;omega
 have hbytes:Maps.size D * 8≤140737488355328:=by rw[hsz];omega
 have hseq:SeqGives Fence.wide 2 Tryz.prog 153 #[.pointer (some ⟨p,0,none⟩)] encZ (fun ss=>ss.Perm (intKeys D)) (Maps.size D) w:=
  AnyZI.keys_gives (ρ:=Tryz.keysK_ren) {Tryz.keysK with} Fence.wide _ trivial rfl (by omega) p m (Maps.size D) D _ hpl hcell hown
 have cS:=AnyZI.sorted_in Tryz.sortedM Fence.wide 5 trivial trivial trivial trivial rfl (by omega) (Ado _) (enters_of Tryz.func101 (by kernel_rfl) rfl) 153 #[.pointer (some ⟨p,0,none⟩)] trivial (enters_of Tryz.func153 (by kernel_rfl) rfl) _ _ hmax hbytes _ hseq;change CallsIn _ _ Tryz.prog 95 _ _ _ at cS;refine((callsIn_wide (n:=5)).1 cS).mono ?_;rintro e w' ⟨v,ss,rfl,hSp,hrow,hnil,hb⟩;have hp2:ss.Perm (R.filter S):=hSp.trans hperm;have he:(ss.mergeSort fun x y=>decide (x≤y))=R.filter S:=
  P0 (Vj (hp2.nodup_iff.2 (hR.asc.filter S).nodup)) (hR.asc.filter S) (fun x=>((List.mergeSort_perm ss _).mem_iff).trans hp2.mem_iff)
 have hrow2:w'.ownsRow w.heap.size 3 1 v ss.length ((ss.mergeSort (fun x y=>decide (x≤y))).map encZ):=hrow;rw[he]at hrow2;have hO:Hm w' w.heap.size v (R.filter S):=.of hrow2 hp2.length_eq rfl;refine⟨v,rfl,hb,fun k=>T k∨v.ownBlock=some k,fun _ h=>.inl h,fun k hk=>?_,fun k hk=>?_,?_⟩
 ·rcases hk with hk|hk
  ·exact .inl hk
  ·exact .inr (hO.lt k hk).1
 ·rcases hk with hk|hk
  ·exact Nat.lt_of_lt_of_le (hT k hk) hb.size
  ·exact(hO.lt k hk).2
 ·unfold AV.rel;exact tInt.slice.keepS (MT hO fun x hx=>hR.wf x (List.mem_filter.1 hx).1) (fun _ _=>rfl) fun k hk=>.inr hk
def XA(x:Pair):Value:=.agg #[.int .i64 x.a,.int .i64 x.b]
def Wn(x:Pair):Lit:=.string (keyBytes [.int .i64 x.a,.int .i64 x.b])
theorem Adx:Keyed Tryz.prog 57:=Keyed.of_law (deep_law (m:=2) (Nat.le_of_ble_eq_true rfl) (by kernel_rfl) (by kernel_rfl) (by kernel_rfl))
theorem ZQ:Tryz.prog.cellsOf 57=2:=by kernel_rfl
theorem Ad6:Tryz.prog.cellsOf 3=1:=by kernel_rfl
theorem J0{n:Nat}{v:Value}{L:List Lit}:Tryz.prog.keyLits (n+1) 3 [v]=some L↔∃a,v= .int .i64 a∧(Lit.int .i64 a).wf=true∧L= [.int .i64 a]:=by
 unfold Program.keyLits;rw[Tryz.underlying3];constructor
 ·intro h;cases v <;> simp only[reduceCtorEq]at h
  rename_i k a;split at h
  ·rename_i hc;obtain⟨rfl,hw⟩:=hc;exact⟨a,rfl,hw,(Option.some.inj h).symm⟩
  ·cases h
 ·rintro⟨a,rfl,hw,rfl⟩;simp[hw]
theorem Y4{n:Nat}{vs:List Value}{L:List Lit}(h:Tryz.prog.keyLits (n+2) 57 vs=some L):∃a b,vs= [.int .i64 a,.int .i64 b]∧(Lit.int .i64 a).wf=true∧(Lit.int .i64 b).wf=true∧L= [.int .i64 a,.int .i64 b]:=by
 rw[show n+2=(n+1)+1 from rfl]at h;unfold Program.keyLits at h;rw[Tryz.underlying57]at h;simp only[ZQ]at h;split at h
 ·rename_i hc;obtain⟨hl,_⟩:=hc;match vs,hl with
  | [u,v],_=>
   simp[Ad6]at h;cases h1:Tryz.prog.keyLits (n+1) 3 [u]with
   |none=>rw[h1]at h;simp at h
   |some l1=>
    cases h2:Tryz.prog.keyLits (n+1) 3 [v]with
    |none=>rw[h1,h2]at h;simp at h
    |some l2=>
     obtain⟨a,rfl,wa,rfl⟩:=J0.1 h1;obtain⟨b,rfl,wb,rfl⟩:=J0.1 h2;rw[h1,h2]at h;simp at h;exact⟨a,b,rfl,wa,wb,h.symm⟩
 ·cases h
theorem Rt{n:Nat}{a b:Int}(ha:(Lit.int .i64 a).wf=true)(hb:(Lit.int .i64 b).wf=true):Tryz.prog.keyLits (n+2) 57 [.int .i64 a,.int .i64 b]=some [.int .i64 a,.int .i64 b]:=by
 rw[show n+2=(n+1)+1 from rfl];unfold Program.keyLits;rw[Tryz.underlying57];have h1:=(J0 (n:=n) (v:=.int .i64 a)).2 ⟨a,rfl,ha,rfl⟩;have h2:=(J0 (n:=n) (v:=.int .i64 b)).2 ⟨b,rfl,hb,rfl⟩;simp[ZQ,Ad6,h1,h2]
theorem Ah5:Nat.ble 1 Tryz.prog.types.size=true:=by kernel_rfl
theorem Adl:∃n,Tryz.prog.types.size+1=n+2:=by
 have h:=Nat.le_of_ble_eq_true Ah5;generalize Tryz.prog.types.size=m at h;exact⟨m - 1,by omega⟩
theorem U0{v:Value}{l:Lit}(h:keyOf Tryz.prog 57 v=some l):∃x,okPair x∧v=XA x∧l=Wn x:=by
 obtain⟨xs,L,rfl,h1,rfl⟩:=keyOf_top (by kernel_rfl) h;obtain⟨n,hn⟩:=Adl;rw[hn]at h1;obtain⟨a,b,e,wa,wb,rfl⟩:=Y4 h1;refine⟨⟨a,b⟩,⟨wa,wb⟩,?_,rfl⟩;have e2:xs= #[Value.int .i64 a,Value.int .i64 b]:=Array.toList_inj.1 e;rw[e2];rfl
theorem KL{x:Pair}(h:okPair x):keyOf Tryz.prog 57 (XA x)=some (Wn x):=by
 obtain⟨n,hn⟩:=Adl;have hk:Tryz.prog.keyType 57=true:=by kernel_rfl
 have hf:(XA x).formed Tryz.prog 57=true:=by
  unfold XA Value.formed;rw[Tryz.underlying57];simp[ZQ]
 unfold keyOf;rw[Tryz.underlying57];simp only[hk,hf,Bool.and_self,if_true];rw[hn];show(Tryz.prog.keyLits (n+2) 57 [.int .i64 x.a,.int .i64 x.b]).map _=_;rw[Rt h.a h.b];rfl
theorem UW{x y:Pair}(hx:okPair x)(hy:okPair y)(h:Wn x=Wn y):x=y:=by
 have h1:=KL hx;rw[h,←KL hy]at h1;have h2:=Adx.inj (h1.trans (KL hy)) (KL hy);have h3:x.a=y.a∧x.b=y.b:=by
  clear h h1;unfold XA at h2;simpa using h2
 cases x;cases y;exact congr (congrArg Pair.mk h3.1) h3.2
theorem HU{α:Type}[DecidableEq α]:∀{l m:List α},l.Nodup→(∀x∈l,x∈m)→l.length≤m.length
 | [],_,_,_=>Nat.zero_le _
 |x::l,m,hn,h=>by
  have hn:=List.nodup_cons.1 hn;have hx:=h x (by simp);have:=HU (m:=m.erase x) hn.2 fun y hy=>(List.mem_erase_of_ne (fun e=>hn.1 (by subst e;exact hy))).2 (h y (by simp[hy]))
  rw[List.length_erase_of_mem hx]at this;have:=List.length_pos_of_mem hx;simp only[List.length_cons];omega
instance Ahl:DecidableEq Pair:=fun x y=>decidable_of_iff (x.a=y.a∧x.b=y.b) ⟨fun⟨h1,h2⟩=>by cases x;cases y;simp_all,fun h=>by subst h;exact⟨rfl,rfl⟩⟩
def EV:List Int→List Pair
 | []=>[]
 |a::R=>R.map (fun b=>⟨a,b⟩)++EV R
def Aea(w:World)(b:Nat)(S:Pair→Bool):Prop:=∃(D:DataW Unit),w.ownsMap Tryz.prog 57 (plainElem Tryz.prog 3) b (Maps.size D) D∧∀x,okPair x→has D (Wn x)=S x
theorem Ou{w:World}{b n:Nat}{D:DataW Unit}(h:w.ownsMap Tryz.prog 57 (plainElem Tryz.prog 3) b n D):w.ownsMap Tryz.prog 57 (plainElem Tryz.prog 3) b (Maps.size D) D:=by
 obtain⟨es,clock,h1,h2,h3,rfl⟩:=h;refine⟨es,clock,h1,h2,?_,rfl⟩;rw[size_eq,length_read];exact Nat.le_refl _
theorem Aea.lt{w:World}{b:Nat}{S:Pair→Bool}(h:Aea w b S):b < w.heap.size:=by
 obtain⟨D,h1,_⟩:=h;exact h1.lt
theorem Aea.keep{w w':World}{b:Nat}{S:Pair→Bool}(h:Aea w b S)(hk:w'.heap[b]? =w.heap[b]?):Aea w' b S:=by
 obtain⟨D,⟨es,clock,h1,h2⟩,h3⟩:=h;exact⟨D,⟨es,clock,hk.trans h1,h2⟩,h3⟩
theorem Yb{w:World}{b n:Nat}{D:DataW Unit}{S:Pair→Bool}{L:List Pair}(h:w.ownsMap Tryz.prog 57 (plainElem Tryz.prog 3) b n D)(hS:∀x,okPair x→has D (Wn x)=S x)(hL:∀x,okPair x→S x=true→x∈L):Maps.size D≤L.length:=by
 obtain⟨es,rfl,hpw,_⟩:=h.entries Adx;obtain⟨es',hD',hko⟩:=h.keysOf;obtain rfl:es=es':=by simpa using hD'
 haveI:DecidableEq Lit:=fun a b=>Classical.propDecidable (a=b)
 suffices hle:(es.map fun p=>p.1).length≤(L.map Wn).length by simpa[size_eq]using hle
 refine HU (List.pairwise_map.2 hpw) fun l hl=>?_
 obtain⟨p,hp,rfl⟩:=List.mem_map.1 hl;obtain⟨v,hv⟩:=hko p hp;obtain⟨x,hx,_,e⟩:=U0 hv;refine List.mem_map.2 ⟨x,hL x hx ?_,e.symm⟩;rw[←hS x hx,has_eq];exact List.any_eq_true.2 ⟨p,hp,by rw[←e];exact WideAt.sameKey_self (Adx.key hv)⟩
def Ac8(S:Pair→Bool)(y:Pair):Pair→Bool:=fun x=>S x||decide (x=y)
theorem Aea.put{w w1:World}{b n:Nat}{S:Pair→Bool}{D:DataW Unit}{d:DataW Unit}{y:Pair}(hy:okPair y)(hown:w.ownsMap Tryz.prog 57 (plainElem Tryz.prog 3) b n D)(hS:∀x,okPair x→has D (Wn x)=S x)
 (h1:w1.ownsMap Tryz.prog 57 (plainElem Tryz.prog 3) b (n+1) (D.put (Wn y) d)):Aea w1 b (Ac8 S y):=by
 refine⟨_,Ou h1,fun x hx=>?_⟩;by_cases e:x=y
 ·subst e;rw[has_put_same hown.isMap (Adx.key (KL hx))];simp[Ac8]
 ·rw[has_put_other (fun h=>e (UW hx hy h)),hS x hx];simp[Ac8,e]
def EI(S:Pair→Bool)(m:Nat):Res:=⟨[],fun g=>g=m,fun w _=>Aea w m S,fun h hk _ _=>h.keep (hk m rfl)⟩
section
variable{C:Ctx}{t:List AV}{h:List ABlk}{o:Oper}
theorem Adi{ty:TypeId}{x y z:Operand}(i:Nat){m:Nat}{S:Pair→Bool}{L:List Pair}{q:Pair}{K:St→Prop}(ho:o.op= .mapUpdate ty x y z)(hty:Tryz.prog.underlying ty=some (.map 57 3))(hi:h[i]? =some (.res (EI S m)))
 (hx:evA t x= .lit (.map (some m))) (hy:evA t y= .agg (Cb q)) (hz:evA t z= .lit (.int .i64 1)) (hL:∀x,okPair x→S x=true→x∈L) (hl:L.length < maxLen) (hq:okPair q) (hK:K ⟨BH t o.dst (.lit undef),h.set i (.res (EI (Ac8 S q) m))⟩):AOp Tryz.prog C o ⟨t,h⟩ K:=by
 refine AOp.turn (ι:=Unit) (Rs:=fun _=>EI (Ac8 S q) m) (val:=fun _=>undef) hi (fun _=>rfl) (fun T ψ w ρ H hRw hlt hρ=>?_) (fun _=>hK);have h1:=hρ x (by simp[ho,Op.operands]);have h2:=hρ y (by simp[ho,Op.operands]);have h3:=hρ z (by simp[ho,Op.operands]);rw[hx]at h1;rw[hy]at h2;rw[hz]at h3;unfold AV.rel at h1 h2 h3;obtain⟨cs,h2,hcs⟩:=h2;obtain⟨rfl,_⟩:=Eo.1 (Iu hq hcs);have h2:ρ y=XA q:=h2;obtain⟨D,hown,hD⟩:=(show Aea w m S from hRw)
 have hsz:=Yb hown hD hL;obtain⟨w',hrun,hown',hg⟩:=hown.update Adx hty (by omega) (KL hq) (plainElem_int Tryz.underlying3 UP);have hs':=Aea.put hq hown hD hown';have e:(execOp ρ o).run Tryz.prog w= .ok .skip w'∨(execOp ρ o).run Tryz.prog w= .ok (.value undef) w':=by
  simp[execOp,ho,h1,h2,h3,hrun,Result.andThen]
 have hT:Turns w T (EI S m).F (fun _:Unit=>EI (Ac8 S q) m) (fun _=>undef) undef w':=
  ⟨Gr.of_grownBy hg |> fun G=>⟨G.os,G.tape,G.output,G.size,fun k hk hn=>G.block k hk fun e=>hn (by cases e;rfl)⟩,(),rfl,hs',fun k hk=>⟨.inl hk,by
   have hk:k=m:=hk;subst hk;exact hs'.lt⟩⟩
 rcases e with e|e
 ·rw[e];exact hT
 ·rw[e];exact hT
end
def Agd(w:World)(m r:Nat)(S:Pair→Bool)(ks:List Pair):Prop:=∃(D:DataW Unit) (left:Lit→Bool) (cnt:Nat),
 w.ranges Tryz.prog 57 (plainElem Tryz.prog 3) m r (Maps.size D) D left cnt∧(∀x,okPair x→has D (Wn x)=S x)∧(∀x,okPair x→left (Wn x)=(S x&&!ks.contains x))∧(∀x∈ks,okPair x∧S x=true)∧ks.Nodup
def AtP(w:World)(r:Nat)(q:Pair)(c:Int):Prop:=(Instr.entry (.pointer (some ⟨r,0,none⟩))).run Tryz.prog w= .ok (.tuple #[XA q,.int .i64 c]) w
theorem Te{H:Type}{P:Program}{k:TypeId}{R:Value→Option (DataW H×List MemPlace)}{w w':World}{b r n:Nat}{D:DataW H}{left:Lit→Bool}{cnt:Nat}(h:w.ranges P k R b r n D left cnt)(hb:w'.heap[b]? =w.heap[b]?)(hr:w'.heap[r]? =w.heap[r]?):w'.ranges P k R b r n D left cnt:=by
 obtain⟨es,clock,since,seen,c0,h1,F,hs,hD,h2,rest⟩:=h;exact⟨es,clock,since,seen,c0,hb.trans h1,F,hs,hD,hr.trans h2,rest⟩
theorem Agd.keep{w w':World}{m r:Nat}{S:Pair→Bool}{ks:List Pair}(h:Agd w m r S ks)(hb:w'.heap[m]? =w.heap[m]?)(hr:w'.heap[r]? =w.heap[r]?):Agd w' m r S ks:=by
 obtain⟨D,left,cnt,h1,h2⟩:=h;exact⟨D,left,cnt,Te h1 hb hr,h2⟩
theorem AtP.keep{w w':World}{m r:Nat}{S:Pair→Bool}{ks:List Pair}{q:Pair}{c:Int}(h:Agd w m r S ks)(ha:AtP w r q c)(hb:w'.heap[m]? =w.heap[m]?)(hr:w'.heap[r]? =w.heap[r]?):AtP w' r q c:=by
 obtain⟨D,left,cnt,⟨es,clock,since,seen,c0,h1,_,_,_,h2,_⟩,_⟩:=h;unfold AtP at ha⊢;have e1:(getObj r).run Tryz.prog w= .ok (.mapIter (some m) since seen c0) w:=by simp[getObj,Sem.run,h2]
 have e2:(getObj m).run Tryz.prog w= .ok (.map es clock) w:=by simp[getObj,Sem.run,h1]
 have e3:(getObj r).run Tryz.prog w'= .ok (.mapIter (some m) since seen c0) w':=by simp[getObj,Sem.run,hr,h2]
 have e4:(getObj m).run Tryz.prog w'= .ok (.map es clock) w':=by simp[getObj,Sem.run,hb,h1]
 unfold Instr.entry at ha⊢;simp only[Sem.run_bind,e1,e3,Result.andThen_ok]at ha⊢;cases hs:seen.back? with
 |none=>rw[hs]at ha;simp[stuck]at ha
 |some stamp=>
  rw[hs]at ha;simp only[Sem.run_bind,e2,e4,Result.andThen_ok]at ha⊢;by_cases hc:clock !=c0
  ·simp[hc,unsupported]at ha
  ·cases hf:es.find? (fun x=>x.born ==stamp)with
   |none=>simp[hc,hf,unsupported]at ha
   |some e=>
    simp[hc,hf]at ha⊢;exact ha
def Aen(S:Pair→Bool)(ks:List Pair)(m r:Nat):Res:=⟨[],fun g=>g=m∨g=r,fun w _=>Agd w m r S ks,fun h hk _ _=>h.keep (hk m (.inl rfl)) (hk r (.inr rfl))⟩
def atR(S:Pair→Bool)(ks:List Pair)(q:Pair)(c:Int)(m r:Nat):Res:=⟨[],fun g=>g=m∨g=r,fun w _=>Agd w m r S ks∧AtP w r q c,fun h hk _ _=>⟨h.1.keep (hk m (.inl rfl)) (hk r (.inr rfl)),AtP.keep h.1 h.2 (hk m (.inl rfl)) (hk r (.inr rfl))⟩⟩
section
variable{C:Ctx}{t:List AV}{h:List ABlk}{o:Oper}
theorem Xt{ty:TypeId}{x:Operand}(i:Nat){m:Nat}{S:Pair→Bool}{K:St→Prop}(ho:o.op= .range ty x)(hty:Tryz.prog.underlying ty=some (.map 57 3))(hi:h[i]? =some (.res (EI S m)))
 (hx:evA t x= .lit (.map (some m))) (hK:∀r,K ⟨BH t o.dst (.lit (.pointer (some ⟨r,0,none⟩))),h.set i (.res (Aen S [] m r))⟩):AOp Tryz.prog C o ⟨t,h⟩ K:=by
 refine AOp.turn (ι:=Nat) (Rs:=fun r=>Aen S [] m r) (val:=fun r=>.pointer (some ⟨r,0,none⟩)) hi (fun _=>rfl) (fun T ψ w ρ H hRw hlt hρ=>?_) hK;have h1:=hρ x (by simp[ho,Op.operands]);rw[hx]at h1;unfold AV.rel at h1;obtain⟨D,hown,hD⟩:=(show Aea w m S from hRw)
 obtain⟨w',hrun,hr,hg,hsz⟩:=hown.range Adx hty;have e:(execOp ρ o).run Tryz.prog w= .ok (.value (.pointer (some ⟨w.heap.size,0,none⟩))) w':=by
  simp[execOp,ho,h1,hrun,Result.andThen]
 rw[e];have hm:=hown.lt;refine⟨Gr.of_grownBy hg |> fun G=>⟨G.os,G.tape,G.output,G.size,fun k hk hn=>G.block k hk fun e=>by cases e⟩,w.heap.size,rfl,⟨D,_,_,hr,hD,fun x hx=>by simp[hD x hx],(fun _ hx=>by cases hx),List.nodup_nil⟩,fun k hk=>?_⟩;rcases(show k=m∨k=w.heap.size from hk)with rfl|rfl
 ·exact⟨.inl rfl,by omega⟩
 ·exact⟨.inr (Nat.le_refl _),by omega⟩
theorem Aaw{x:Operand}(i:Nat){m r:Nat}{S:Pair→Bool}{ks:List Pair}{K:St→Prop}(ho:o.op= .next x false)(hi:h[i]? =some (.res (Aen S ks m r)))
 (hx:evA t x= .lit (.pointer (some ⟨r,0,none⟩))) (hK0:(∀x,okPair x→S x=true→x∈ks)→K ⟨BH t o.dst (.lit (.tuple #[.bool false])),h.set i (.res (Aen S ks m r))⟩)
 (hK1:∀q c,okPair q→S q=true→q∉ks→K ⟨BH t o.dst (.lit (.tuple #[.bool true,XA q,.int .i64 c])),h.set i (.res (atR S (ks++[q]) q c m r))⟩):AOp Tryz.prog C o ⟨t,h⟩ K:=by
 refine AOp.turn (ι:={p:Option (Pair×Int) // match p with|none=>∀x,okPair x→S x=true→x∈ks|some (q,_)=>okPair q∧S q=true∧q∉ks})
  (Rs:=fun p=>match p.1 with|none=>Aen S ks m r|some (q,c)=>atR S (ks++[q]) q c m r) (val:=fun p=>match p.1 with|none=>.tuple #[.bool false]|some (q,c)=>.tuple #[.bool true,XA q,.int .i64 c]) hi ?_ (fun T ψ w ρ H hRw hlt hρ=>?_) ?_
 ·rintro⟨_|⟨q,c⟩,hp⟩ <;> rfl
 ·have h1:=hρ x (by simp[ho,Op.operands]);rw[hx]at h1;unfold AV.rel at h1;obtain⟨D,left,cnt,hr,hD,hl,hks,hnd⟩:=(show Agd w m r S ks from hRw)
  have hm:=hr.owns.lt;have hrl:=hr.lt;rcases hr.next Adx o.type with⟨_,hno,hrun⟩|⟨key,v,kl,y,w',cnt',hkey,hleft,hv,_,hrun,hr',_,hg,hsz,hent⟩
  ·have e:(execOp ρ o).run Tryz.prog w= .ok (.value (.tuple #[.bool false])) w:=by
    simp[execOp,ho,h1,hrun,Result.andThen]
   rw[e];refine⟨⟨rfl,rfl,rfl,Nat.le_refl _,fun _ _ _=>rfl⟩,⟨none,fun x hx hs=>?_⟩,rfl,hRw,fun k hk=>⟨.inl hk,?_⟩⟩
   ·have:=hl x hx;rw[hno,hs]at this;simpa using this
   ·rcases(show k=m∨k=r from hk)with rfl|rfl
    ·exact hm
    ·exact hrl
  ·obtain⟨q,hq,rfl,rfl⟩:=U0 hkey;obtain⟨c,rfl,_⟩:=plainElem_int_inv Tryz.underlying3 hv;have hlq:=hl q hq;rw[hleft]at hlq;have hlq:S q=true∧q∉ks:=by simpa using hlq.symm
   have e:(execOp ρ o).run Tryz.prog w= .ok (.value (.tuple #[.bool true,XA q,.int .i64 c])) w':=by
    simp[execOp,ho,h1,hrun,Result.andThen]
   rw[e];refine⟨Gr.of_grownBy hg |> fun G=>⟨G.os,G.tape,G.output,G.size,fun k hk hn=>G.block k hk fun e=>hn (by cases e;exact .inr rfl)⟩,⟨some (q,c),hq,hlq.1,hlq.2⟩,rfl,⟨⟨D,_,_,hr',hD,fun x hx=>?_,fun x hx=>?_,?_⟩,hent⟩,fun k hk=>⟨.inl hk,?_⟩⟩
   ·rw[hl x hx];by_cases hxq:x=q
    ·subst hxq;rw[WideAt.sameKey_self (Adx.key hkey)];simp
    ·have hs:(Wn x).sameKey (Wn q)=false:=Maps.sameKey_ne fun e=>hxq (UW hx hq e)
     rw[hs];simp[hxq]
   ·rcases List.mem_append.1 hx with hx|hx
    ·exact hks x hx
    ·simp only[List.mem_cons,List.not_mem_nil,or_false]at hx;subst hx;exact⟨hq,hlq.1⟩
   ·rw[List.nodup_append];exact⟨hnd,by simp,fun a ha b hb=>by
     simp only[List.mem_cons,List.not_mem_nil,or_false]at hb;subst hb;intro e;subst e;exact hlq.2 ha⟩
   ·rcases(show k=m∨k=r from hk)with rfl|rfl <;> omega
 ·rintro⟨_|⟨q,c⟩,hp⟩
  ·exact hK0 hp
  ·exact hK1 q c hp.1 hp.2.1 hp.2.2
theorem Sr{x:Operand}(i:Nat){m r:Nat}{S:Pair→Bool}{ks:List Pair}{q:Pair}{c:Int}(ho:o.op= .entry x)(hi:h[i]? =some (.res (atR S ks q c m r)))(hx:evA t x= .lit (.pointer (some ⟨r,0,none⟩))):
 AX Tryz.prog C t h o (.tup [.agg (Cb q),.lit (.int .i64 c)]):=
 AR fun S' ψ w ρ H hρ=>by
  have h1:=hρ x (by simp[ho,Op.operands]);rw[hx]at h1;unfold AV.rel at h1;obtain⟨_,ha⟩:=(show Agd w m r S ks∧AtP w r q c from(H.blk i _ hi).2)
  refine⟨.tuple #[XA q,.int .i64 c],by simp[execOp,ho,h1,(show _=_ from ha),Result.andThen],?_⟩;simp only[AV.rel,Ah,Cb];exact⟨[XA q,.int .i64 c],rfl,_,_,rfl,⟨[.int .i64 q.a,.int .i64 q.b],rfl,_,_,rfl,rfl,_,_,rfl,rfl,rfl⟩,_,_,rfl,rfl,rfl⟩
end
end Mu
end
section
namespace Mu
open Go Go.RowKit Go.Proofs Go.Maps
instance Ahw:AG Tryz.prog 87 false 1:=⟨by kernel_rfl⟩
instance Ahv:SZ Tryz.prog 87 1:=⟨by kernel_rfl⟩
instance Ahu:ZC Tryz.prog 87 [.map none]:=⟨by kernel_rfl⟩
def E0(q:Ins×List Int):List Int:=if q.1.op !=5&&q.1.op !=7 then []else q.2.filter fun r=>q.1.op ==7||r !=q.1.d
def FD(f:Func)(k:Nat):Int→Bool:=addL (fun _=>false) (((stepsL f).take k).flatMap E0)
def CU(f:Func):List Int:=(Bw f).filter (FD f (stepsL f).length)
theorem Ua(S:Int→Bool)(l m:List Int):addL S (l++m)=addL (addL S l) m:=by
 funext x;simp only[addL,List.contains_eq_mem,List.mem_append,Bool.decide_or,Bool.or_assoc]
theorem TS{f:Func}{k:Nat}{q:Ins×List Int}(h:(stepsL f)[k]? =some q):FD f (k+1)=addL (FD f k) (E0 q):=by
 unfold FD;rw[List.take_add_one,h,Option.toList_some,List.flatMap_append,Ua];simp
theorem Da{f:Func}{q:Ins×List Int}(h:q∈stepsL f):(∃b∈f.blocks,q.1∈b.ins)∧(∀r∈q.2,r∈Bw f)∧q.2.length≤(Bw f).length:=by
 unfold stepsL at h;obtain⟨b,hb,hq⟩:=List.mem_flatMap.1 h;have hb:=List.mem_range.1 hb;unfold Em at hq;have h1:=(List.of_mem_zip (a:=q.1) (b:=q.2) hq)
 obtain⟨bl,hbl⟩:∃bl,f.blocks[b]? =some bl:=⟨_,List.getElem?_eq_getElem hb⟩
 have hins:Ch f b=bl.ins:=by unfold Ch;rw[hbl]
 have h2:=List.mem_of_mem_drop h1.2;unfold BX at h2;obtain⟨i,_,e⟩:=List.mem_map.1 h2;refine⟨⟨bl,List.mem_of_getElem? hbl,by rw[←hins];exact h1.1⟩,fun r hr=>?_,by rw[←e];exact List.length_filter_le _ _⟩;rw[←e]at hr;unfold Dg at hr;exact(List.mem_filter.1 hr).1
theorem IB{q:Ins×List Int}{L:List Int}(h:∀r∈q.2,r∈L):∀r∈E0 q,r∈L:=fun r hr=>by
 unfold E0 at hr;split at hr
 ·cases hr
 ·exact h r (List.mem_filter.1 hr).1
theorem RO(f:Func)(k:Nat):InR (Bw f) (FD f k):=⟨fun x _ hx=>by
 unfold FD addL at hx;simp only[Bool.false_or,List.contains_iff_mem]at hx;obtain⟨q,hq,hx⟩:=List.mem_flatMap.1 hx;exact IB (Da (List.mem_of_mem_take hq)).2.1 x hx⟩
def Hj(S:Int→Bool)(q:Ins×List Int)(i:Nat):Int→Bool:=addL S ((q.2.take i).filter fun r=>q.1.op ==7||r !=q.1.d)
theorem TT(S:Int→Bool)(q:Ins×List Int):Hj S q 0=S:=by
 unfold Hj;rw[List.take_zero,List.filter_nil,Md]
theorem WK{S:Int→Bool}{q:Ins×List Int}{i:Nat}{r:Int}(h:q.2[i]? =some r)(hq:(q.1.op ==7||r !=q.1.d)=true):Hj S q (i+1)=Aaa (Hj S q i) r:=by
 unfold Hj;rw[List.take_add_one,h,Option.toList_some,List.filter_append,List.filter_cons,hq,List.filter_nil];simp only[if_true];exact Nu _ _ _
theorem ZJ{S:Int→Bool}{q:Ins×List Int}{i:Nat}{r:Int}(h:q.2[i]? =some r)(hq:(q.1.op ==7||r !=q.1.d)=false):Hj S q (i+1)=Hj S q i:=by
 unfold Hj;rw[List.take_add_one,h,Option.toList_some,List.filter_append,List.filter_cons,hq,List.filter_nil];simp
theorem ZK{S:Int→Bool}{q:Ins×List Int}{L:List Int}(h:InR L S)(hq:∀r∈q.2,r∈L)(i:Nat):InR L (Hj S q i):=h.addL fun r hr=>hq r (List.mem_of_mem_take (List.mem_filter.1 hr).1)
theorem Acu(f:Func)(ho:okFunc f)(hs:smallF f)(hT:(Cg f).length≤2097152)(hi1:∀b∈f.blocks,b.ins.length+1≤2097152):Fn Tryz.prog 107 [.agg (Aq f)] (.bs tInt (CU f)):=by
 have hbl:=hs.blocks;have hRR:=LU f ho hT;have hLl:(Bw f).length≤2097152:=Nat.le_trans (Dl _) hT;refine OR Tryz.func107 rfl (by kernel_rfl) rfl Tryz.ntmps107 fun C hC hrd=>?_
 refine nS ?_;refine Ad fun K1 h1=>?_
 refine rC ?_;refine h1 _ ?_;refine nT ?_;refine Ad fun K2 h2=>?_
 (refine Awp.region ?_;(repeat(first|refine sQ (hq:=Ap rfl rfl rfl rfl) ?_|refine sQ (hq:=Ao rfl rfl rfl rfl) ?_|refine sQ ?_|refine AW ?_|refine sG ?_|refine BQ (hk:=?_))))
 refine Bu rfl (NI rfl fun m=>?_);refine sNt ?_
 (repeat(first|refine sQ (hq:=Ap rfl rfl rfl rfl) ?_|refine sQ (hq:=Ao rfl rfl rfl rfl) ?_|refine sQ ?_|refine AW ?_|refine sG ?_|refine BQ (hk:=?_)))
 refine Az ?_;refine h2 _ ?_;refine nT ?_;refine D5 3 rfl rfl rfl (fun g=>(.agg (Aq f)::.ptr 1 0::.any::.lit (.pointer (some ⟨g,0,none⟩))::A4 (.lit (.map (some m))::A20 (A10 (A3 []))))) (fun g=>(by(repeat(first|exact OpnB.nil|refine OpnB.ptr ?_|refine OpnB.any ?_|refine OpnB.keep rfl ?_)))) fun g3=>?_
 refine Ad fun K3 h3=>?_
 refine Ad fun K4 h4=>?_
 (refine Awp.region ?_;(repeat(first|refine sQ (hq:=Ap rfl rfl rfl rfl) ?_|refine sQ (hq:=Ao rfl rfl rfl rfl) ?_|refine sQ ?_|refine AW ?_|refine sG ?_|refine BQ (hk:=?_))))
 refine Bu rfl (FP rfl (Qs f) (fun _=>rfl) rfl rfl fun p=>?_);refine sNt ?_;refine Az ?_;refine h4 _ ?_;refine nT ?_;refine Ak ?_;refine A1 ⟨(.agg (Aq f)::A2 (.lit (.pointer (some ⟨g3,0,none⟩))::A6 (.lit (stF p)::A20 (A10 [.any])))),[.res (BR []),.dead,.res (JY (FD f 0) m),.res (C3 g3 [.lit (.map (some m))]),.res (C3 p (Aq f))]⟩ (PH (.cons (.dead (.cons (.cons (.cons (Cut.nil _))))))) ?_;refine OT 4 0 (fun k=>[.dead,.dead,.res (JY (FD f k) m),.res (C3 g3 [.lit (.map (some m))]),.dead]) hrd (by kernel_rfl) (by decide) rfl rfl rfl ?hdrop rfl (fun _=>rfl) (fun _=>rfl) rfl (Adn f) (XX f) (N5 f ho hs hT hi1 p) ?hround ?hdone
 case hdrop=>
  exact⟨Cut.dead (Cut.cons (Cut.cons (Cut.cons (Cut.dead (Cut.nil _))))),fun b hb=>List.all_eq_true.1 (show bdH [.dead,.dead,.res (JY (FD f 0) m),.res (C3 g3 [.lit (.map (some m))]),.dead]=true from rfl) b hb⟩
 case hround=>
  intro k hk C' hr';obtain⟨q,hq⟩:∃q,(stepsL f)[k]? =some q:=⟨_,List.getElem?_eq_getElem hk⟩
  obtain⟨⟨bl,hbm,hxb⟩,hqr,hql⟩:=Da (List.mem_of_getElem? hq);have hox:=(ho.blocks bl hbm).ins q.1 hxb;have hcs:=TS hq;have hin:=RO f k;dsimp only;rw[XY hq];generalize hS0:FD f k=S0 at hcs hin⊢;refine Io (t':=(.agg (Aq f)::A2 (.lit (.pointer (some ⟨g3,0,none⟩))::A6 (.lit (stF p)::.agg (BB q.1)::.bs tInt q.2::A20 (A9 []))))) rfl rfl ?_;refine Ad fun K6 h6=>?_
  refine rC ?_;refine h6 _ ?_;refine nT ?_;refine rC ?_;refine An fun C'' hr''=>?_
  refine nT ?_;refine Ak ?_;refine Ad fun K8 h8=>?_
  refine Ad fun K9 h9=>?_
  refine rC ?_;refine h9 _ ?_;refine nT ?_;refine Aj rfl (fun hb10=>?_) (fun hb10=>?_)
  ·have e:E0 q= []:=by unfold E0;rw[if_pos hb10]
   rw[hcs,e,Md];refine AB ?_;exact⟨rfl,⟨.cons (.cons (.cons (.cons (.cons (Cut.nil _))))),fun b hb=>List.all_eq_true.1 (show bdH [.dead,.dead,.res (JY S0 m),.res (C3 g3 [.lit (.map (some m))]),.dead]=true from rfl) b hb⟩⟩
  ·have e:E0 q=q.2.filter fun r=>q.1.op ==7||r !=q.1.d:=by unfold E0;rw[if_neg (by rw[hb10];simp)]
   have hqi:=fun i=>ZK hin hqr i
   refine Am ?_;refine h8 _ ?_;refine nT ?_;refine Ad fun K11 h11=>?_
   refine rC ?_;refine h11 _ ?_;refine nT ?_;refine Ak ?_;refine AS (fun i:Nat=>⟨(A3 (.lit (.pointer (some ⟨g3,0,none⟩))::.ptr 5 0::A10 (A6 (.bs tInt q.2::.lit (.int .i64 (q.2.length:Int))::.lit (.int .i64 (i:Int))::A10 (A8 []))))),[.dead,.dead,.res (JY (Hj S0 q i) m),.res (C3 g3 [.lit (.map (some m))]),.dead,.box (BB q.1)]⟩) (fun i=>i≤q.2.length) (fun i=>q.2.length - i) 0 (Nat.zero_le _) (by rw[TT];exact B7) ?_;intro i hi
   (try dsimp only at hi);(try dsimp only)
   refine Ad fun K13 h13=>?_
   refine rC ?_;refine h13 _ ?_;refine nT ?_;refine Ad fun K14 h14=>?_
   refine Aj rfl (fun hb15=>?_) (fun hb15=>?_)
   ·have hlt:i < q.2.length:=by simpa using hb15
    obtain⟨r,hr⟩:∃r,q.2[i]? =some r:=⟨_,List.getElem?_eq_getElem hlt⟩
    have hrw:=hRR.wf r (hqr r (List.mem_of_getElem? hr));refine Am ?_;refine h14 _ ?_;refine nT ?_;refine Ad fun K16 h16=>?_
    refine Ak ?_;refine Ad fun K17 h17=>?_
    refine rC ?_;refine h17 _ ?_;refine nT ?_;refine Ad fun K18 h18=>?_
    refine rC ?_;refine h18 _ ?_;refine nT ?_;refine Aj rfl (fun hb19=>?_) (fun hb19=>?_)
    ·have e2:=WK (S:=S0) hr hb19
     (refine Awp.region ?_;(repeat(first|refine sQ (hq:=Ap rfl rfl rfl rfl) ?_|refine sQ (hq:=Ao rfl rfl rfl rfl) ?_|refine sQ ?_|refine AW ?_|refine sG ?_|refine BQ (hk:=?_))))
     refine Bu rfl (Vr 2 rfl Tryz.underlying87 rfl rfl rfl rfl hRR (hqi i) hrw ?_);refine sNt ?_;refine Az ?_;refine h16 _ ?_;refine nT ?_;refine rC ?_;refine An ⟨i+1,by omega,by omega,?_⟩;rw[e2];exact B7
    ·have e2:=ZJ (S:=S0) hr hb19;refine Am ?_;refine h16 _ ?_;refine nT ?_;refine rC ?_;refine An ⟨i+1,by omega,by omega,?_⟩;rw[e2];exact B7
   ·have hie:i=q.2.length:=by
     have:¬i < q.2.length:=by simpa using hb15
     omega
    subst hie;have e3:Hj S0 q q.2.length=FD f (k+1):=by rw[hcs,e];unfold Hj;rw[List.take_length]
    rw[e3];refine AB ?_;exact⟨rfl,⟨.cons (.cons (.cons (.cons (.cons (Cut.nil _))))),fun b hb=>List.all_eq_true.1 (show bdH [.dead,.dead,.res (JY (FD f (k+1)) m),.res (C3 g3 [.lit (.map (some m))]),.dead]=true from rfl) b hb⟩⟩
 case hdone=>
  intro D;refine h3 _ ?_;refine Io (t':=(.agg (Aq f)::A2 (.lit (.pointer (some ⟨g3,0,none⟩))::A6 (.lit (stF p)::A20 (A10 [.any]))))) (h':=[.res (BR [D]),.dead,.res (JY (FD f (stepsL f).length) m),.res (C3 g3 [.lit (.map (some m))]),.dead]) rfl rfl ?_;refine Ad fun K20 h20=>?_
  (refine Awp.region ?_;(repeat(first|refine sQ (hq:=Ap rfl rfl rfl rfl) ?_|refine sQ (hq:=Ao rfl rfl rfl rfl) ?_|refine sQ ?_|refine AW ?_|refine sG ?_|refine BQ (hk:=?_))))
  refine Bu rfl (FP rfl (Y3 m) (fun _=>rfl) rfl rfl fun p2=>?_);refine sNt ?_
  (repeat(first|refine sQ (hq:=Sv 5 2 rfl rfl rfl (VF p2 m _ _ hRR (RO f _)) rfl rfl rfl) ?_|refine sQ (hq:=Ap rfl rfl rfl rfl) ?_|refine sQ (hq:=Ao rfl rfl rfl rfl) ?_|refine sQ ?_|refine AW ?_|refine sG ?_|refine BQ (hk:=?_)))
  refine Az ?_;refine h20 _ ?_;refine nT ?_;refine Ar ?_;exact⟨.inr rfl,[D],rfl,rfl,Fin.cl rfl⟩
end Mu
end
section
namespace Go.Proofs
open Go.Shelf
def Tryz.laysNm225_ren:Go.Shelf.Ren:=⟨fun|25=>56|31=>109|32=>110|37=>159|n=>n,fun|22=>25|3=>3|4=>4|40=>147|0=>0|n=>n,fun|n=>n⟩
theorem Tryz.laysNm225:Go.Proofs.Lays2.n25 Tryz.prog Tryz.laysNm225_ren:={
 mixed:=by kernel_rfl
 f25:=Tryz.func56.trans (congrArg some (by kernel_rfl))
 f31:=Tryz.func109.trans (congrArg some (by kernel_rfl))
 f32:=Tryz.func110.trans (congrArg some (by kernel_rfl))
 f37:=Tryz.func159.trans (congrArg some (by kernel_rfl))
 t0:=Tryz.underlying0
 a0:=Tryz.isAgg0
 z0:=Tryz.sizeOf0
 v0:=Tryz.zeroValue0
 t3:=Tryz.underlying3
 a3:=Tryz.isAgg3
 z3:=Tryz.sizeOf3
 v3:=Tryz.zeroValue3
 t4:=Tryz.underlying4
 a4:=Tryz.isAgg4
 z4:=Tryz.sizeOf4
 v4:=Tryz.zeroValue4
 t22:=Tryz.underlying25
 a22:=Tryz.isAgg25
 z22:=Tryz.sizeOf25
 v22:=Tryz.zeroValue25
 t40:=Tryz.underlying147
 a40:=Tryz.isAgg147
 z40:=Tryz.sizeOf147
 v40:=Tryz.zeroValue147}
open Go.RowKit Go.Lib in
theorem Tryz.slices_BinarySearch_int(b off n c:Nat)(zs:List Int)(x:Int)(w:World)(hz:n≤zs.length)(hbig:n < 4611686018427387904)(hc:∀j,j < zs.length→w.cell? ⟨b,off+j,none⟩=some (.int .i64 (zs.getD j 0)))(hs:(zs.take n).Pairwise (·≤·)):
 Calls Tryz.prog 56 #[.slice (some ⟨b,off,none⟩) n c,.int .i64 x] w fun e w'=>e= .returned (.tuple #[.int .i64 ((zs.take n).countP (· < x):Nat),.bool ((zs.take n).contains x)])∧∃q,w'=w.drewN q:=Any.slices_BinarySearch_int Tryz.laysNm225 b off n c zs x w hz hbig hc hs
open Go.RowKit Go.Lib in
theorem Tryz.slices_BinarySearch_int_empty(a:Option Addr)(c:Nat)(x:Int)(w:World):
 Calls Tryz.prog 56 #[.slice a 0 c,.int .i64 x] w fun e w'=>e= .returned (.tuple #[.int .i64 0,.bool false])∧w'=w:=Any.slices_BinarySearch_int_empty Tryz.laysNm225 a c x w
end Go.Proofs
end
section
namespace Mu
open Go Go.RowKit Go.Proofs
section
variable{P:Program}{C:Ctx}{t:List AV}{h:List ABlk}{o:Oper}
end
theorem Aia:Ec Tryz.prog 62=some [(0,1),(1,1),(2,1),(3,1),(4,1),(5,1),(6,1),(7,1),(8,1)]:=by kernel_rfl
theorem Aez:Ec Tryz.prog 65=some [(0,1),(1,1)]:=by kernel_rfl
theorem Aib:Ec Tryz.prog 24=some [(0,1),(1,1),(2,1),(3,1)]:=by kernel_rfl
end Mu
end
section
namespace Mu
open Go Go.RowKit Go.Proofs Go.Shelf
section
variable{N S:Nat→Prop}{w:World}{h:List ABlk}{ψ:Nat→Value}{v:Value}{ver:Nat}{l:List Int}
theorem UC(H:Gm N w S h ψ v (.row ver 3 tInt l)):Hm w 0 v l∧Br l:=by
 obtain⟨cells,h1,_,h2,_⟩:=H;have hl:cells.length=l.length:=by have:=h1.1;rw[show tInt.size=1 from rfl,Nat.mul_one]at this;exact this
 have hget:∀i d,l[i]? =some d→cells[i]? =some (Value.int .i64 d)∧wfI .i64 d:=fun i d hd=>by
  obtain⟨e,hw⟩:=Qm.1 (h2 i d hd);rw[show tInt.size=1 from rfl,Nat.mul_one,List.take_one,List.head?_drop]at e;cases hc:cells[i]? with
  |none=>rw[hc]at e;cases e
  |some c=>
   rw[hc]at e;simp only[Option.toList_some,List.cons.injEq,and_true]at e;exact⟨by rw[e],hw⟩
 have hc:cells=l.map (Value.int .i64):=by
  apply List.ext_getElem?;intro i;by_cases hi:i < l.length
  ·rw[List.getElem?_map,List.getElem?_eq_getElem hi];exact(hget i _ (List.getElem?_eq_getElem hi)).1
  ·rw[List.getElem?_eq_none (by omega),List.getElem?_eq_none (by simp;omega)]
 refine⟨.of h1 rfl hc,fun r hr=>?_⟩;obtain⟨i,hi⟩:=List.mem_iff_getElem?.1 hr;exact(hget i r hi).2
theorem UN{base:Nat}(hO:Hm w base v l)(hw:Br l)(hN:∀g,v.ownBlock=some g→¬N g∧¬S g):Gm N w S h ψ v (.row ver 3 tInt l):=by
 refine⟨_,hO.mono (Nat.zero_le _),by decide,fun i d hd=>?_,hN⟩;show tInt.RS w S (((l.map (Value.int .i64)).drop (i * 1)).take 1) d;have hi:(l.map (Value.int .i64))[i]? =some (.int .i64 d):=by rw[List.getElem?_map,hd];rfl
 rw[Nat.mul_one,List.take_one,List.head?_drop,hi];exact Qm.2 ⟨rfl,hw d (List.mem_of_getElem? hd)⟩
end
theorem MW{l:List Int}(h:Br l):Br (l.mergeSort fun x y=>decide (x≤y)):=fun r hr=>h r ((List.mergeSort_perm l _).mem_iff.1 hr)
section
variable{C:Ctx}{t:List AV}{h:List ABlk}{o:Oper}{K:St→Prop}
theorem Ul{x:Operand}{tys:Array TypeId}{i ver:Nat}{l:List Int}(ho:o.op= .call {callee:=.value (.func 101),args:=#[x],argTypes:=tys})(hx:evA t x= .own i ver)(hi:h[i]? =some (.row ver 3 tInt l))(hl:l.length≤2147483648)
 (hK:K ⟨BH t o.dst .any,h.set i (.row ver 3 tInt (l.mergeSort fun x y=>decide (x≤y)))⟩):AOp Tryz.prog C o ⟨t,h⟩ K:=by
 rintro Q' a w ⟨hd,S,ψ,H,hl'⟩;refine⟨fun c e=>(by rw[ho]at e;cases e),?_⟩;have hx':=BJ hl' x;rw[show evA (St.mk t h).t x= .own i ver from hx]at hx';unfold AV.rel at hx';have hv:=(hx'.2 _ (by rw[hi];rfl)).2 rfl;have hBi:=H.blk i _ hi;have hlt:=hBi.lt rfl;obtain⟨hO,hw⟩:=UC hBi;unfold Oper.wp;rw[CY ho (by kernel_rfl) a.eval w rfl];simp only[Oper.upon];rw[show(#[x].map a.eval)= #[ψ i]from by simp[hv]];refine(Abd hO hl).mono ?_;rintro r w' ⟨rfl,hO',hgr⟩;have hgr':w.grownBy w' (BY (ψ i)):=by
  have e:BY (ψ i)=(ψ i).ownBlock:=by
   rcases hO.2 with⟨e,_⟩|⟨g,cap,cur,e,_⟩ <;> rw[e] <;> rfl
  rw[e];exact hgr
 have hblk:∀k,S k→w'.heap[k]? =w.heap[k]?:=fun k hk=>hgr'.block k (H.lt k hk) fun e=>(hlt k e.symm).2.2 hk
 have X:Ext w S h ψ w' S (h.set i (.row ver 3 tInt (l.mergeSort fun x y=>decide (x≤y)))) (Bo ψ i (ψ i)):=Ext.set hblk hi (fun c' hc=>by
  simp only[ABlk.ver,Option.some.injEq]at hc;exact⟨ver,rfl,by omega,fun _=>⟨rfl,rfl⟩⟩) fun h=>by simp[Bj]at h
 exact⟨_,hK,JI (s:=⟨t,h⟩) hi hd hl' (H.set hi rfl (Gr.of_grownBy hgr') X (UN hO' (MW hw) fun g hg=>⟨(hlt g (BZ hg)).1,(hlt g (BZ hg)).2.2⟩) fun g hg=>.inl hg) X (by unfold AV.rel;trivial)⟩
end
theorem TY(l:List Int):(Lib.compact l).length≤l.length:=by
 unfold Lib.compact Lib.compactUpTo;rw[List.length_map];exact Nat.le_trans (List.length_filter_le _ _) (by simp)
theorem TV{l:List Int}(hl:l.length≤2147483648)(hw:Br (Lib.compact l)):Adg Tryz.prog 102 3 tInt l (Lib.compact l):=by
 refine⟨by kernel_rfl,fun N S w v hN hS hB=>?_⟩;obtain⟨hO,_⟩:=UC hB;have hlt:=hB.lt rfl;have e:BY v=v.ownBlock:=by
  rcases hO.2 with⟨e,_⟩|⟨g,cap,cur,e,_⟩ <;> rw[e] <;> rfl
 refine(TX hO hl).mono ?_;rintro r w' ⟨v',rfl,hO',hgr,he⟩;have e':BY v'=v'.ownBlock:=by
  rcases hO'.2 with⟨e,_⟩|⟨g,cap,cur,e,_⟩ <;> rw[e] <;> rfl
 refine⟨v',rfl,by rw[e];exact hgr,UN hO' hw fun g hg=>?_,fun g hg=>.inl (by rw[e,←he,←e'];exact hg)⟩;have:=hlt g (show BY v=some g by rw[e,←he];exact hg);exact⟨this.1,this.2.2⟩
theorem Nx{C:Ctx}{t:List AV}{h:List ABlk}(j:Nat){α:Type}(T:Ty α)(hj:t[j]? =some (.lit (.slice none 0 0))):St.le C ⟨t,h⟩ ⟨t.set j (.bs T []),h⟩:=fun a w ⟨hd,S,ψ,H,hl⟩=>by
 refine⟨hd,S,ψ,H,?_⟩;obtain⟨v,hv,hr⟩:=B9 hl hj;unfold AV.rel at hr;subst hr;have:=G0 hl j (x:=.bs T []) (v:=.slice none 0 0) (by unfold AV.rel;exact T.slice_nilS _ _);rwa [show a.tmps.toList.set j (.slice none 0 0)=a.tmps.toList from List.ext_getElem? fun k=>by
  by_cases hk:j=k
  ·subst hk;rw[List.getElem?_set_self (List.getElem?_eq_some_iff.1 hv).1,hv]
  ·rw[List.getElem?_set_ne hk]]at this
end Mu
end
section
namespace Mu
open Go Go.RowKit Go.Proofs
def BW(x:Ins):List Int:=readsC x++if AY x then [x.d]else []
theorem JP{x:Ins}(h:okIns x):Br (BW x):=fun r hr=>by
 rcases List.mem_append.1 hr with hr|hr
 ·exact Fm h r hr
 ·split at hr
  ·simp only[List.mem_singleton]at hr;subst hr;exact h.d
  ·cases hr
instance:AG Tryz.prog 79 false 1:=⟨by kernel_rfl⟩
instance:SZ Tryz.prog 79 1:=⟨by kernel_rfl⟩
instance:ES Tryz.prog 79 1:=⟨by kernel_rfl⟩
instance:SL Tryz.prog 79:=⟨by kernel_rfl⟩
instance:RT Tryz.prog 79 74 1 24:=⟨by kernel_rfl⟩
section
variable{P:Program}{C:Ctx}{t:List AV}{h:List ABlk}{o:Oper}
end
end Mu
end
section
namespace Mu
open Go
section
variable{f:Func}{b:Nat}{bl:Block}{x:Ins}(hb:f.blocks[b]? =some bl)
include hb
end
theorem L6:∀{l m:List Int},l.Nodup→(∀x∈l,x∈m)→l.length≤m.length
 | [],_,_,_=>Nat.zero_le _
 |x::l,m,hn,h=>by
  rw[List.nodup_cons]at hn;have hx:=h x (by simp);have:=L6 (m:=m.erase x) hn.2 fun y hy=>(List.mem_erase_of_ne (fun e=>hn.1 (by subst e;exact hy))).2 (h y (by simp[hy]))
  rw[List.length_erase_of_mem hx]at this;have:0 < m.length:=List.length_pos_of_mem hx;simp only[List.length_cons];omega
end Mu
end
section
namespace Mu
open Go Go.RowKit Go.Proofs
section
variable{P:Program}{C:Ctx}{t:List AV}{h:List ABlk}{o:Oper}
end
def Z2(f:Func):Int:=if(6:Int) < (if(0:Int) > f.args then 0 else f.args)then 6 else(if(0:Int) > f.args then 0 else f.args)
def argsK(f:Func):Nat:=(Z2 f).toNat
theorem Kk(f:Func):Z2 f=(argsK f:Int)∧argsK f≤6:=by
 unfold argsK Z2;constructor <;> (split <;> split <;> omega)
theorem Z3(f:Func):Fn Tryz.prog 98 [.agg (Aq f)] (.lit (.int .i64 (argsK f:Int))):=by
 refine AE Tryz.func98 rfl (by kernel_rfl) rfl Tryz.ntmps98 fun C hC=>?_
 refine nS ?_;refine rCS ?_;refine rCS ?_;refine Ar ?_;rw[←(Kk f).1];exact⟨.inr rfl,Fin.cl rfl⟩
def Xy:List Int:=[8,9,10,11,12,13,4]
def Aa1:List Int:=[16,17,18,19,20,21,22,23]
def Aa3:List Int:=[24,25,26,27,28,29]
def Abe(i:Int):List Int:=if i=0 then Xy else if i=1 then Aa1 else Aa3
theorem Ajy:R9 Tryz.prog 215=some (3,1):=by kernel_rfl
theorem z3:B2 Tryz.prog 215=some [.slice none 0 0,.slice none 0 0,.slice none 0 0]:=by kernel_rfl
theorem Ak1:T9 Tryz.prog 215=some (true,3):=by kernel_rfl
instance Ah0:ZC Tryz.prog 215 [.slice none 0 0,.slice none 0 0,.slice none 0 0]:=⟨by kernel_rfl⟩
instance Ahz:SZ Tryz.prog 215 3:=⟨by kernel_rfl⟩
theorem Ah4{n:Int}(h:(Lit.int .i64 n).wf=true):wfI .i64 n:=h
theorem FB{h:List ABlk}:∀l:List Int,Br l→Fits h tInt (l.map fun n=>.lit (.int .i64 n)) l
 | [],_=>.nil
 |n::l,hw=>.cons (Fit.int (hw n (by simp))) (FB l fun x hx=>hw x (by simp[hx]))
theorem Iy{l:List Int}(h:(l.all fun n=>(Lit.int .i64 n).wf)=true):Br l:=fun r hr=>List.all_eq_true.1 h r hr
theorem Yh:Fn Tryz.prog 185 [] (.agg [.bs tInt Xy,.bs tInt Aa1,.bs tInt Aa3]):=by
 refine ID Tryz.func185 rfl (by kernel_rfl) rfl Ak1 Tryz.ntmps185 fun C hC=>?_
 simp only[List.length_nil,Nat.sub_zero,List.replicate_succ,List.replicate_zero,List.nil_append];refine rCS ?_;refine Ad fun K2 h2=>?_
 (refine Awp.region ?_;(repeat(first|refine sQ (hq:=AX.lt (xs:=[.const (.int .i64 8),.const (.int .i64 9),.const (.int .i64 10),.const (.int .i64 11),.const (.int .i64 12),.const (.int .i64 13),.const (.int .i64 4)]) (T:=tInt) (ds:=Xy) rfl rfl rfl (by rfl) (by decide) (FB Xy (Iy (by decide)))) ?_|refine sQ (hq:=AX.lt (xs:=[.const (.int .i64 16),.const (.int .i64 17),.const (.int .i64 18),.const (.int .i64 19),.const (.int .i64 20),.const (.int .i64 21),.const (.int .i64 22),.const (.int .i64 23)]) (T:=tInt) (ds:=Aa1) rfl rfl rfl (by rfl) (by decide) (FB Aa1 (Iy (by decide)))) ?_|refine sQ (hq:=AX.lt (xs:=[.const (.int .i64 24),.const (.int .i64 25),.const (.int .i64 26),.const (.int .i64 27),.const (.int .i64 28),.const (.int .i64 29)]) (T:=tInt) (ds:=Aa3) rfl rfl rfl (by rfl) (by decide) (FB Aa3 (Iy (by decide)))) ?_|refine sQ (hq:=Xk rfl z3 Ajy rfl rfl) ?_|refine sQ (hq:=Ap rfl rfl rfl rfl) ?_|refine sQ (hq:=Ao rfl rfl rfl rfl) ?_|refine sQ ?_|refine AW ?_|refine sG ?_|refine BQ (hk:=?_)));refine Az ?_)
 refine h2 _ ?_;refine nT ?_;refine Ar ?_;exact⟨⟨.inr rfl,0,_,rfl,rfl,Fin.cl rfl⟩,fun i cells e hi=>by cases e;cases hi;rfl⟩
def I5(l:List Int):List Int:=l.flatMap Abe
theorem UD(i:Int):(Abe i).length≤8:=by
 unfold Abe;split
 ·decide
 ·split <;> decide
theorem X5(l:List Int):(I5 l).length≤8 * l.length:=by
 induction l with
 |nil=>simp[I5]
 |cons x l ih=>
  have:=UD x;unfold I5 at ih⊢;rw[List.flatMap_cons,List.length_append,List.length_cons];omega
theorem Mq(l:List Int)(hl:l.length≤3)(h3:∀i∈l,i=0∨i=1∨i=2):Fn Tryz.prog 158 [.bs tInt l] (.bs tInt (I5 l)):=by
 refine AE Tryz.func158 rfl (by kernel_rfl) rfl Tryz.ntmps158 fun C hC=>?_
 refine nS ?_;refine rCS ?_;refine Ad fun K2 h2=>?_
 (refine Awp.region ?_;(repeat(first|refine sQ (hq:=AX.call rfl Yh rfl rfl rfl) ?_|refine sQ (hq:=Ap rfl rfl rfl rfl) ?_|refine sQ (hq:=Ao rfl rfl rfl rfl) ?_|refine sQ ?_|refine AW ?_|refine sG ?_|refine BQ (hk:=?_)));refine Az ?_)
 refine h2 _ ?_;refine nT ?_;refine Ad fun K3 h3'=>?_
 refine rC ?_;refine h3' _ ?_;refine nT ?_;refine Ad fun K4 h4=>?_
 refine rCS ?_;refine Ak ?_;refine AS (fun p:Nat×Nat=>⟨(A3 (.ptr 0 0::.own 1 p.2::A3 (.bs tInt l::.lit (.int .i64 (l.length:Int))::.lit (.int .i64 (p.1:Int))::A10 []))),[.box [.bs tInt Xy,.bs tInt Aa1,.bs tInt Aa3],.row p.2 3 tInt (I5 (l.take p.1))]⟩) (fun p=>p.1≤l.length) (fun p=>l.length - p.1) (0,0) (Nat.zero_le _) ((Cx 4 3 tInt rfl (by decide)).trans (B7)) ?_;rintro⟨k,ver⟩ hk;dsimp only at hk⊢;refine rCS ?_;refine Ad fun K8 h8=>?_
 refine Aj rfl (fun hb9=>?_) (fun hb9=>?_)
 ·have hlt:k < l.length:=by simpa using hb9
  obtain⟨i,hi⟩:∃i,l[k]? =some i:=⟨_,List.getElem?_eq_getElem hlt⟩
  have hlen:=X5 (l.take k);have hrl:=UD i;have htk:(l.take k).length≤3:=by simp;omega
  have hsn:I5 (l.take (k+1))=I5 (l.take k)++Abe i:=by unfold I5;rw[List.take_add_one,hi,List.flatMap_append];simp
  have hn1:(I5 (l.take k)).length+(Abe i).length≤maxLen:=by unfold maxLen;omega
  have hn2:((I5 (l.take k)).length+(Abe i).length) * 8≤140737488355328:=by omega
  refine Am ?_;refine h8 _ ?_;refine nT ?_;refine Ad fun K10 h10=>?_
  refine Ak ?_;refine rCS ?_;rcases h3 i (List.mem_of_getElem? hi)with rfl|rfl|rfl
  ·rw[show Abe 0=Xy from rfl]at hn1 hn2 hsn
   (refine Awp.region ?_;(repeat(first|refine sQ (hq:=Cy (k:=0) (n:=3) Ajy rfl rfl rfl rfl (by omega)) ?_|refine sQ (hq:=Ap rfl rfl rfl rfl) ?_|refine sQ (hq:=Ao rfl rfl rfl rfl) ?_|refine sQ ?_|refine AW ?_|refine sG ?_|refine BQ (hk:=?_)));refine Az ?_)
   refine h10 _ ?_;refine nT ?_;refine rC ?_;refine An ⟨(k+1,ver+1),by dsimp only;omega,by dsimp only;omega,?_⟩;dsimp only;rw[hsn];exact B7
  ·rw[show Abe 1=Aa1 from rfl]at hn1 hn2 hsn
   (refine Awp.region ?_;(repeat(first|refine sQ (hq:=Cy (k:=1) (n:=3) Ajy rfl rfl rfl rfl (by omega)) ?_|refine sQ (hq:=Ap rfl rfl rfl rfl) ?_|refine sQ (hq:=Ao rfl rfl rfl rfl) ?_|refine sQ ?_|refine AW ?_|refine sG ?_|refine BQ (hk:=?_)));refine Az ?_)
   refine h10 _ ?_;refine nT ?_;refine rC ?_;refine An ⟨(k+1,ver+1),by dsimp only;omega,by dsimp only;omega,?_⟩;dsimp only;rw[hsn];exact B7
  ·rw[show Abe 2=Aa3 from rfl]at hn1 hn2 hsn
   (refine Awp.region ?_;(repeat(first|refine sQ (hq:=Cy (k:=2) (n:=3) Ajy rfl rfl rfl rfl (by omega)) ?_|refine sQ (hq:=Ap rfl rfl rfl rfl) ?_|refine sQ (hq:=Ao rfl rfl rfl rfl) ?_|refine sQ ?_|refine AW ?_|refine sG ?_|refine BQ (hk:=?_)));refine Az ?_)
   refine h10 _ ?_;refine nT ?_;refine rC ?_;refine An ⟨(k+1,ver+1),by dsimp only;omega,by dsimp only;omega,?_⟩;dsimp only;rw[hsn];exact B7
 ·have hke:k=l.length:=by
   have:¬k < l.length:=by simpa using hb9
   omega
  subst hke;rw[List.take_length];refine AB ?_;refine h4 _ ?_;refine nT ?_;refine rCS ?_;refine Ar ?_;exact⟨.inr rfl,Fin.own rfl⟩
theorem QD(l:List Int)(r:Int)(ha:Asc l)(hl:l.length≤2147483648):Fn Tryz.prog 56 [.bs tInt l,.lit (.int .i64 r)] (.tup [.lit (.int .i64 ((l.countP (· < r):Nat):Int)),.lit (.bool (l.contains r))]):=by
 refine⟨by kernel_rfl,fun w S vs hS hr=>?_⟩;unfold Ah at hr;obtain⟨v,us,rfl,hv,h1⟩:=hr;obtain⟨us',rfl,h0⟩:=E1 h1;unfold Ah at h0;subst h0;unfold AV.rel at hv;have hgood:∀(n:Nat) (b:Bool) (w':World),Below w.heap.size w w'→n=l.countP (· < r)→b=l.contains r→Xm w S [] ψ0 (.tup [.lit (.int .i64 ((l.countP (· < r):Nat):Int)),.lit (.bool (l.contains r))]) (.tuple #[.int .i64 (n:Int),.bool b]) w':=fun n b w' hb e1 e2=>by
  subst e1 e2;refine⟨hb,S,fun _ h=>h,fun _ h=>.inl h,fun k hk=>Nat.lt_of_lt_of_le (hS k hk) hb.size,?_⟩;unfold AV.rel;exact⟨[.int .i64 ((l.countP (· < r):Nat):Int),.bool (l.contains r)],rfl,EG [.int .i64 ((l.countP (· < r):Nat):Int),.bool (l.contains r)]⟩
 obtain⟨A,c,rfl⟩:=Cs hv;by_cases hz:l= []
 ·subst hz;refine(Tryz.slices_BinarySearch_int_empty A c r w).mono fun e w' ⟨he,hw⟩=>?_
  subst hw;exact⟨_,he,hgood 0 false w' (Below.refl _ _) rfl rfl⟩
 ·have hpos:0 < l.length:=List.length_pos_iff.2 hz;obtain⟨b,o,e,_⟩:=IR hv (List.getElem?_eq_getElem hpos);cases e;refine(Tryz.slices_BinarySearch_int b o l.length c l r w (Nat.le_refl _) (by omega) (fun j hj=>?_) ?_).mono fun e w' ⟨he,q,hw⟩=>?_
  ·obtain⟨b',o',e',_,hc,_⟩:=IR hv (List.getElem?_eq_getElem hj);cases e';rw[hc];simp[List.getD,hj]
  ·rw[List.take_length];exact ha.imp fun{a b} h=>by omega
  ·rw[List.take_length]at he;subst hw;exact⟨_,he,hgood _ _ _ (Af4 (Below.refl _ _) q) rfl rfl⟩
def CP(cross:List Int)(r:Int)(leaf:Bool):List Int:=if leaf then I5 [0]else if cross.contains r then I5 [1,2]else I5 [0,1,2]
theorem Tm(cross:List Int)(r:Int)(leaf:Bool)(ha:Asc cross)(hl:cross.length≤2147483648):Fn Tryz.prog 108 [.bs tInt cross,.lit (.int .i64 r),.lit (.bool leaf)] (.bs tInt (CP cross r leaf)):=by
 refine AE Tryz.func108 rfl (by kernel_rfl) rfl Tryz.ntmps108 fun C hC=>?_
 have w0:Br [0]:=Iy (by decide);have w1:Br [1,2]:=Iy (by decide);have w2:Br [0,1,2]:=Iy (by decide);refine nS ?_;refine rCS ?_;refine Ad fun K2 h2=>?_
 refine rCS ?_;refine Aj rfl (fun hb4=>?_) (fun hb4=>?_)
 ·subst hb4;refine Ad fun K5 h5=>?_
  (refine Awp.region ?_;(repeat(first|refine sQ (hq:=AX.lt (xs:=[.const (.int .i64 0)]) (T:=tInt) (ds:=[0]) rfl rfl rfl (by rfl) (by decide) (FB [0] w0)) ?_|refine sQ (hq:=AX.call rfl (Mq [0] (by decide) (by decide)) rfl rfl rfl) ?_|refine sQ (hq:=Ap rfl rfl rfl rfl) ?_|refine sQ (hq:=Ao rfl rfl rfl rfl) ?_|refine sQ ?_|refine AW ?_|refine sG ?_|refine BQ (hk:=?_)));refine Az ?_)
  refine h5 _ ?_;refine nT ?_;refine Ar ?_;exact⟨.inr rfl,Fin.cl rfl⟩
 ·subst hb4;refine Am ?_;refine h2 _ ?_;refine nT ?_;refine Ad fun K6 h6=>?_
  refine Ad fun K7 h7=>?_
  (refine Awp.region ?_;(repeat(first|refine sQ (hq:=AX.call rfl (QD cross r ha hl) rfl rfl rfl) ?_|refine sQ (hq:=Ap rfl rfl rfl rfl) ?_|refine sQ (hq:=Ao rfl rfl rfl rfl) ?_|refine sQ ?_|refine AW ?_|refine sG ?_|refine BQ (hk:=?_)));refine Az ?_)
  refine h7 _ ?_;refine nT ?_;refine rCS ?_;refine Aj rfl (fun hb9=>?_) (fun hb9=>?_)
  ·have e:CP cross r false=I5 [1,2]:=by unfold CP;rw[if_neg (by simp),if_pos hb9]
   refine Ad fun K10 h10=>?_
   (refine Awp.region ?_;(repeat(first|refine sQ (hq:=AX.lt (xs:=[.const (.int .i64 1),.const (.int .i64 2)]) (T:=tInt) (ds:=[1,2]) rfl rfl rfl (by rfl) (by decide) (FB [1,2] w1)) ?_|refine sQ (hq:=AX.call rfl (Mq [1,2] (by decide) (by decide)) rfl rfl rfl) ?_|refine sQ (hq:=Ap rfl rfl rfl rfl) ?_|refine sQ (hq:=Ao rfl rfl rfl rfl) ?_|refine sQ ?_|refine AW ?_|refine sG ?_|refine BQ (hk:=?_)));refine Az ?_)
   refine h10 _ ?_;refine nT ?_;refine Ar ?_;rw[e];exact⟨.inr rfl,Fin.cl rfl⟩
  ·have e:CP cross r false=I5 [0,1,2]:=by unfold CP;rw[if_neg (by simp),if_neg (by rw[hb9];simp)]
   refine Am ?_;refine h6 _ ?_;refine nT ?_;refine Ad fun K11 h11=>?_
   (refine Awp.region ?_;(repeat(first|refine sQ (hq:=AX.lt (xs:=[.const (.int .i64 0),.const (.int .i64 1),.const (.int .i64 2)]) (T:=tInt) (ds:=[0,1,2]) rfl rfl rfl (by rfl) (by decide) (FB [0,1,2] w2)) ?_|refine sQ (hq:=AX.call rfl (Mq [0,1,2] (by decide) (by decide)) rfl rfl rfl) ?_|refine sQ (hq:=Ap rfl rfl rfl rfl) ?_|refine sQ (hq:=Ao rfl rfl rfl rfl) ?_|refine sQ ?_|refine AW ?_|refine sG ?_|refine BQ (hk:=?_)));refine Az ?_)
   refine h11 _ ?_;refine nT ?_;refine Ar ?_;rw[e];exact⟨.inr rfl,Fin.cl rfl⟩
theorem OG(f:Func):Asc (CU f):=(Mz f).filter _
theorem OF(f:Func):(CU f).length≤(Bw f).length:=List.length_filter_le _ _
theorem IK(x:Ins)(ho:okIns x)(hl:x.args.length≤2097152):Fn Tryz.prog 99 [.agg (BB x)] (.bs tInt (readsC x)):=
 OQ (by kernel_rfl) (Fm ho) fun w vs hr=>by
  obtain⟨v,rfl,hv⟩:=Aa4 hr;obtain⟨cs,rfl,hc⟩:=Jb hv;exact I7 x w cs (KJ ho hc) hl
theorem Fl(x:Ins)(ho:okIns x):Fn Tryz.prog 100 [.agg (BB x)] (.tup [.lit (.int .i64 (if AY x then x.d else 0)),.lit (.bool (AY x))]):=
 OP (by kernel_rfl) fun w vs hr=>by
  obtain⟨v,rfl,hv⟩:=Aa4 hr;obtain⟨cs,rfl,hc⟩:=Jb hv;refine(Ll x w cs (KJ ho hc)).mono fun e w' ⟨he,hb⟩=>⟨?_,hb⟩
  rw[he];unfold Hq;cases AY x <;> rfl
theorem FA{α β:Type}{g:α→List β}{l:List α}{k:Nat}{x:α}(hx:l[k]? =some x):(l.take (k+1)).flatMap g=(l.take k).flatMap g++g x:=by
 rw[List.take_add_one,hx,List.flatMap_append];simp
theorem Zj{α β:Type}(g:α→List β)(l:List α)(k:Nat):((l.take k).flatMap g).length≤(l.flatMap g).length:=by
 conv=>rhs;rw[←List.take_append_drop k l]
 rw[List.flatMap_append,List.length_append];omega
theorem U3{β:Type}{g:Ins→List β}{bs:List Block}{b i:Nat}{bl:Block}{x:Ins}(hb:bs[b]? =some bl)(hx:bl.ins[i]? =some x):
 ((bs.take b).flatMap fun c=>c.ins.flatMap g).length+((bl.ins.take i).flatMap g).length+(g x).length≤(bs.flatMap fun c=>c.ins.flatMap g).length:=by
 have h1:=Zj (fun c:Block=>c.ins.flatMap g) bs (b+1);rw[FA hb,List.length_append]at h1;have h2:=Zj g bl.ins (i+1);rw[FA hx,List.length_append]at h2;omega
def LP(n:Nat):List Int:=(List.range n).map fun(r:Nat)=>(r:Int)
theorem Rf(n:Nat):LP (n+1)=LP n++[(n:Int)]:=by unfold LP;rw[List.range_succ,List.map_append];rfl
theorem L7(n:Nat):(LP n).length=n:=by simp[LP]
def NP(b:Block):List Int:=b.ins.flatMap BW
def NY(f:Func):List Int:=f.blocks.flatMap NP
def Xx(f:Func):List Int:=LP (argsK f)++NY f
def Bp(f:Func):List Int:=Lib.compact ((Xx f).mergeSort fun x y=>decide (x≤y))
theorem Z7{f:Func}(ho:okFunc f):Br (NY f):=fun r hr=>by
 obtain⟨b,hb,hr⟩:=List.mem_flatMap.1 hr;obtain⟨x,hx,hr⟩:=List.mem_flatMap.1 hr;exact JP ((ho.blocks b hb).ins x hx) r hr
theorem Aev{f:Func}(ho:okFunc f):Br (Xx f):=fun r hr=>by
 rcases List.mem_append.1 hr with hr|hr
 ·unfold LP at hr;obtain⟨k,hk,rfl⟩:=List.mem_map.1 hr;have:=List.mem_range.1 hk;have:=(Kk f).2;exact M0 (by omega)
 ·exact Z7 ho r hr
theorem MA{f:Func}{r:Int}:r∈Bp f↔r∈Xx f:=by
 unfold Bp;rw[(Gi (ET _)).2,List.mem_mergeSort]
theorem Hx(f:Func):Asc (Bp f):=(Gi (ET _)).1
theorem Yo(f:Func):(Bp f).length≤(Xx f).length:=by
 have:=TY ((Xx f).mergeSort fun x y=>decide (x≤y));rw[List.length_mergeSort]at this;exact this
theorem MB(f:Func)(ho:okFunc f)(hs:smallF f)(hX:(NY f).length≤2097152):Fn Tryz.prog 49 [.agg (Aq f)] (.bs tInt (Bp f)):=by
 have hbl:=hs.blocks;have hk6:=(Kk f).2;refine AE Tryz.func49 rfl (by kernel_rfl) rfl Tryz.ntmps49 fun C hC=>?_
 refine nS ?_;refine rCS ?_;refine rCS ?_;refine Ad fun K3 h3=>?_
 refine Ad fun K4 h4=>?_
 (refine Awp.region ?_;(repeat(first|refine sQ (hq:=AX.call rfl (Z3 f) rfl rfl rfl) ?_|refine sQ (hq:=Ap rfl rfl rfl rfl) ?_|refine sQ (hq:=Ao rfl rfl rfl rfl) ?_|refine sQ ?_|refine AW ?_|refine sG ?_|refine BQ (hk:=?_)));refine Az ?_)
 refine h4 _ ?_;refine nT ?_;refine Ak ?_;refine AS (fun p:Nat×Nat=>⟨(.any::.ptr 0 0::.any::.own 1 p.2::A8 (.lit (.int .i64 (argsK f:Int))::.lit (.int .i64 (p.1:Int))::A40 [.any])),[.box (Aq f),.row p.2 3 tInt (LP p.1)]⟩) (fun p=>p.1≤argsK f) (fun p=>argsK f - p.1) (0,0) (Nat.zero_le _) ((Cx 3 3 tInt rfl (by decide)).trans (B7)) ?_;rintro⟨k,ver⟩ hk;dsimp only at hk⊢;refine rCS ?_;refine Ad fun K7 h7=>?_
 refine Aj rfl (fun hb8=>?_) (fun hb8=>?_)
 ·have hlt:k < argsK f:=by simpa using hb8
  have hw:=M0 (k:=k) (by omega);have hln:=L7 k;have hsn:=Rf k;generalize hL0:LP k=L0 at hln hsn⊢;have hn1:L0.length+ [(k:Int)].length≤maxLen:=by simp[maxLen];omega
  have hn2:(L0.length+ [(k:Int)].length) * 8≤140737488355328:=by simp;omega
  refine Am ?_;refine h7 _ ?_;refine nT ?_;refine Ad fun K9 h9=>?_
  refine Ak ?_;refine rCS ?_;refine rC ?_;refine h9 _ ?_;refine nT ?_;refine rC ?_;refine An ⟨(k+1,ver+1),by dsimp only;omega,by dsimp only;omega,?_⟩;dsimp only;rw[hsn];exact B7
 ·have hke:k=argsK f:=by
   have:¬k < argsK f:=by simpa using hb8
   omega
  subst hke;have hln:=L7 (argsK f);refine AB ?_;refine h3 _ ?_;refine nT ?_;refine Ad fun K11 h11=>?_
  refine rCS ?_;refine Ak ?_;refine AS (fun p:Nat×Nat=>⟨(.any::.ptr 0 0::.any::.own 1 p.2::A10 (A8 (.bs B3 f.blocks::.lit (.int .i64 (f.blocks.length:Int))::.lit (.int .i64 (p.1:Int))::A20 (A10 [])))),[.box (Aq f),.row p.2 3 tInt (LP (argsK f)++(f.blocks.take p.1).flatMap NP)]⟩) (fun p=>p.1≤f.blocks.length) (fun p=>f.blocks.length - p.1) (0,ver) (Nat.zero_le _) (by rw[show LP (argsK f)++(f.blocks.take (0,ver).1).flatMap NP=LP (argsK f)by simp];exact B7) ?_;rintro⟨b,ver⟩ hb;dsimp only at hb⊢;refine rCS ?_;refine Ad fun K15 h15=>?_
  refine Aj rfl (fun hb16=>?_) (fun hb16=>?_)
  ·have hlt:b < f.blocks.length:=by simpa using hb16
   obtain⟨bl,hblk⟩:∃bl,f.blocks[b]? =some bl:=⟨_,List.getElem?_eq_getElem hlt⟩
   have hmem:=List.mem_of_getElem? hblk;have hob:=ho.blocks bl hmem;have hsb:=hs.all bl hmem;have hil:=hsb.ins;have hfn:=FA (g:=NP) hblk;refine Am ?_;refine h15 _ ?_;refine nT ?_;refine Ad fun K17 h17=>?_
   refine Ak ?_;refine rCS ?_;refine rCS ?_;refine Ak ?_;refine AS (fun p:Nat×Nat=>⟨(.any::.ptr 0 0::.any::.own 1 p.2::A10 (A8 (.bs B3 f.blocks::.lit (.int .i64 (f.blocks.length:Int))::.lit (.int .i64 (b:Int))::A4 (.bs Ep bl.ins::.lit (.int .i64 (bl.ins.length:Int))::.lit (.int .i64 (p.1:Int))::A20 (A3 []))))),[.box (Aq f),.row p.2 3 tInt (LP (argsK f)++(f.blocks.take b).flatMap NP++(bl.ins.take p.1).flatMap BW)]⟩) (fun p=>p.1≤bl.ins.length) (fun p=>bl.ins.length - p.1) (0,ver) (Nat.zero_le _) (by rw[show LP (argsK f)++(f.blocks.take b).flatMap NP++(bl.ins.take (0,ver).1).flatMap BW=LP (argsK f)++(f.blocks.take b).flatMap NP by simp];exact PH (.cons (.cons (Cut.nil _)))) ?_;rintro⟨i,ver⟩ hi;dsimp only at hi⊢;refine rCS ?_;refine Ad fun K22 h22=>?_
   refine Aj rfl (fun hb23=>?_) (fun hb23=>?_)
   ·have hil2:i < bl.ins.length:=by simpa using hb23
    obtain⟨x,hx⟩:∃x,bl.ins[i]? =some x:=⟨_,List.getElem?_eq_getElem hil2⟩
    have hxm:=List.mem_of_getElem? hx;have hox:=hob.ins x hxm;have hxl:x.args.length≤2097152:=by have:=hsb.all x hxm;omega
    have hxn:=FA (g:=BW) hx;have hle:=U3 (g:=BW) hblk hx;have hX':(f.blocks.flatMap fun c=>c.ins.flatMap BW).length≤2097152:=hX;have hL:(LP (argsK f)++(f.blocks.take b).flatMap NP++(bl.ins.take i).flatMap BW).length+(BW x).length≤2097160:=by
     rw[List.length_append,List.length_append,hln];have:((f.blocks.take b).flatMap NP).length=((f.blocks.take b).flatMap fun c=>c.ins.flatMap BW).length:=rfl;omega
    have hrx:BW x=readsC x++if AY x then [x.d]else []:=rfl
    generalize hL0:LP (argsK f)++(f.blocks.take b).flatMap NP++(bl.ins.take i).flatMap BW=L0 at hL⊢;rw[hrx,List.length_append]at hL;have hn1:L0.length+(readsC x).length≤maxLen:=by unfold maxLen;omega
    have hn2:(L0.length+(readsC x).length) * 8≤140737488355328:=by omega
    refine Am ?_;refine h22 _ ?_;refine nT ?_;refine Ad fun K24 h24=>?_
    refine Ak ?_;refine rCS ?_;refine Ad fun K26 h26=>?_
    (refine Awp.region ?_;(repeat(first|refine sQ (hq:=AX.call rfl (IK x hox hxl) rfl rfl rfl) ?_|refine sQ (hq:=Ap rfl rfl rfl rfl) ?_|refine sQ (hq:=Ao rfl rfl rfl rfl) ?_|refine sQ ?_|refine AW ?_|refine sG ?_|refine BQ (hk:=?_)));refine Az ?_)
    refine h26 _ ?_;refine nT ?_;refine Ad fun K27 h27=>?_
    (refine Awp.region ?_;(repeat(first|refine sQ (hq:=AX.call rfl (Fl x hox) rfl rfl rfl) ?_|refine sQ (hq:=Ap rfl rfl rfl rfl) ?_|refine sQ (hq:=Ao rfl rfl rfl rfl) ?_|refine sQ ?_|refine AW ?_|refine sG ?_|refine BQ (hk:=?_)));refine Az ?_)
    refine h27 _ ?_;refine nT ?_;refine rCS ?_;refine Aj rfl (fun hb29=>?_) (fun hb29=>?_)
    ·rw[hb29,if_pos rfl]at hL hrx;have e1:(if AY x=true then x.d else 0)=x.d:=if_pos hb29;have hwd:=hox.d;have hn3:(L0++readsC x).length+ [x.d].length≤maxLen:=by rw[List.length_append];simp[maxLen];simp at hL;omega
     have hn4:((L0++readsC x).length+ [x.d].length) * 8≤140737488355328:=by rw[List.length_append];simp;simp at hL;omega
     rw[e1];refine rC ?_;refine h24 _ ?_;refine nT ?_;refine rC ?_;refine An ⟨(i+1,ver+1+1),by dsimp only;omega,by dsimp only;omega,?_⟩;dsimp only;rw[hxn,←List.append_assoc,hL0,hrx,←List.append_assoc];exact PH (.cons (.cons (Cut.nil _)))
    ·rw[hb29,if_neg (by simp),List.append_nil]at hrx;refine Am ?_;refine h24 _ ?_;refine nT ?_;refine rC ?_;refine An ⟨(i+1,ver+1),by dsimp only;omega,by dsimp only;omega,?_⟩;dsimp only;rw[hxn,←List.append_assoc,hL0,hrx];exact PH (.cons (.cons (Cut.nil _)))
   ·have hie:i=bl.ins.length:=by
     have:¬i < bl.ins.length:=by simpa using hb23
     omega
    subst hie;rw[List.take_length];refine AB ?_;refine h17 _ ?_;refine nT ?_;refine rC ?_;refine An ⟨(b+1,ver),by dsimp only;omega,by dsimp only;omega,?_⟩;dsimp only;rw[hfn,←List.append_assoc];exact B7
  ·have hbe:b=f.blocks.length:=by
    have:¬b < f.blocks.length:=by simpa using hb16
    omega
   subst hbe;rw[List.take_length];have hraw:LP (argsK f)++f.blocks.flatMap NP=Xx f:=rfl;rw[hraw];have hrl:(Xx f).length≤2147483648:=by unfold Xx;rw[List.length_append,hln];omega
   have hok:=MW (Aev ho);have hcok:Br (Lib.compact ((Xx f).mergeSort fun x y=>decide (x≤y))):=fun r hr=>hok r ((Gi (ET _)).2 r |>.1 hr)
   have hsl:((Xx f).mergeSort fun x y=>decide (x≤y)).length≤2147483648:=by rw[List.length_mergeSort];exact hrl
   refine AB ?_;refine h11 _ ?_;refine nT ?_;refine Ad fun K30 h30=>?_
   (refine Awp.region ?_;(repeat(first|(refine Bu rfl (Ul rfl rfl rfl hrl ?_);refine sNt ?_)|refine sQ (hq:=Ap rfl rfl rfl rfl) ?_|refine sQ (hq:=Ao rfl rfl rfl rfl) ?_|refine sQ ?_|refine AW ?_|refine sG ?_|refine BQ (hk:=?_)));refine Az ?_)
   refine h30 _ ?_;refine nT ?_;refine Ad fun K31 h31=>?_
   (refine Awp.region ?_;(repeat(first|(refine Bu rfl (NJ rfl (TV hsl hcok) rfl rfl ?_);refine sNt ?_)|refine sQ (hq:=Ap rfl rfl rfl rfl) ?_|refine sQ (hq:=Ao rfl rfl rfl rfl) ?_|refine sQ ?_|refine AW ?_|refine sG ?_|refine BQ (hk:=?_)));refine Az ?_)
   refine h31 _ ?_;refine nT ?_;refine Ar ?_;exact⟨.inr rfl,Fin.own rfl⟩
theorem Afh(l:List Int)(n:Int)(hl:l.length≤2097152):Fn Tryz.prog 105 [.bs tInt l,.lit (.int .i64 n)] (.lit (.bool (l.contains n))):=by
 refine AE Tryz.func105 rfl (by kernel_rfl) rfl Tryz.ntmps105 fun C hC=>?_
 refine nS ?_;refine rCS ?_;refine Ad fun K2 h2=>?_
 refine rCS ?_;refine Ak ?_;refine AS (fun i:Nat=>⟨(.bs tInt l::.lit (.int .i64 n)::A3 (.lit (.int .i64 (i:Int))::A10 (A2 []))),[]⟩) (fun i=>i≤l.length∧(l.take i).contains n=false) (fun i=>l.length - i) 0 ⟨Nat.zero_le _,rfl⟩ (B7) ?_;rintro i ⟨hi,hc⟩;refine Ad fun K4 h4=>?_
 refine rCS ?_;refine Aj rfl (fun hb=>?_) (fun hb=>?_)
 ·have hlt:i < l.length:=by simpa using hb
  obtain⟨x,hx⟩:∃x,l[i]? =some x:=⟨_,List.getElem?_eq_getElem hlt⟩
  refine Am ?_;refine h4 _ ?_;refine nT ?_;refine Ad fun K6 h6=>?_
  refine Ak ?_;refine rCS ?_;refine Aj rfl (fun hb2=>?_) (fun hb2=>?_)
  ·have hxn:x=n:=by simpa using hb2
   have hcn:l.contains n=true:=by rw[←hxn];exact List.contains_iff_mem.2 (List.mem_of_getElem? hx)
   refine rCS ?_;refine Ar ?_;rw[hcn];exact⟨.inr rfl,Fin.cl rfl⟩
  ·have hxn:¬x=n:=by simpa using hb2
   refine Am ?_;refine h6 _ ?_;refine nT ?_;refine rC ?_;refine An ⟨i+1,⟨by omega,?_⟩,by omega,B7⟩;rw[List.take_add_one,hx,List.contains_eq_mem]at *;simp only[Option.toList_some,List.mem_append,List.mem_cons,List.not_mem_nil,or_false,decide_eq_false_iff_not,not_or]at hc⊢;exact⟨by simpa[List.contains_eq_mem]using hc,fun e=>hxn e.symm⟩
 ·have hie:i=l.length:=by
   have:¬i < l.length:=by simpa using hb
   omega
  rw[hie,List.take_length]at hc;refine AB ?_;refine h2 _ ?_;refine nT ?_;refine rCS ?_;refine Ar ?_;rw[hc];exact⟨.inr rfl,Fin.cl rfl⟩
def Gs(n:Int)(s:List Int×Bool)(x:Int):List Int×Bool:=if(!s.2&&decide (x > n))=true then(s.1++[n]++[x],true)else(s.1++[x],s.2)
def EW(n:Int)(l:List Int):List Int×Bool:=l.foldl (Gs n) ([],false)
def B5(l:List Int)(n:Int):List Int:=if l.contains n then l else if(!(EW n l).2)=true then(EW n l).1++[n]else(EW n l).1
theorem Wx{n:Int}{l:List Int}{i:Nat}{x:Int}(h:l[i]? =some x):EW n (l.take (i+1))=Gs n (EW n (l.take i)) x:=by
 unfold EW;rw[List.take_add_one,h,List.foldl_append];rfl
theorem RC(n:Int)(l:List Int):(EW n l).1.length+(if(EW n l).2 then 0 else 1)=l.length+1∧(wfI .i64 n→Br l→Br (EW n l).1):=by
 suffices h:∀(l:List Int) (s:List Int×Bool),(l.foldl (Gs n) s).1.length+(if(l.foldl (Gs n) s).2 then 0 else 1)=s.1.length+(if s.2 then 0 else 1)+l.length∧(wfI .i64 n→Br s.1→Br l→Br (l.foldl (Gs n) s).1)by
  obtain⟨h1,h2⟩:=h l ([],false);refine⟨?_,fun a b=>h2 a (fun r hr=>by cases hr) b⟩;unfold EW;rw[h1];simp;omega
 intro l;induction l with
 |nil=>exact fun s=>⟨rfl,fun _ h _=>h⟩
 |cons x l ih=>
  intro s;obtain⟨h1,h2⟩:=ih (Gs n s x);rw[List.foldl_cons];refine⟨?_,fun a b c=>h2 a ?_ fun r hr=>c r (List.mem_cons_of_mem _ hr)⟩
  ·rw[h1];unfold Gs;obtain⟨o,d⟩:=s;cases d
   ·by_cases hx:x > n <;> simp[hx] <;> omega
   ·simp;omega
  ·unfold Gs;have hx:=c x (List.mem_cons_self ..);split
   ·intro r hr;simp only[List.mem_append,List.mem_cons,List.not_mem_nil,or_false]at hr;rcases hr with(hr|rfl)|rfl
    ·exact b r hr
    ·exact a
    ·exact hx
   ·intro r hr;simp only[List.mem_append,List.mem_cons,List.not_mem_nil,or_false]at hr;rcases hr with hr|rfl
    ·exact b r hr
    ·exact hx
theorem XF(l:List Int)(n:Int):(B5 l n).length≤l.length+1∧(wfI .i64 n→Br l→Br (B5 l n)):=by
 have h:=RC n l;unfold B5;split
 ·exact⟨by omega,fun _ h=>h⟩
 ·split
  ·rename_i hd;have hd:(EW n l).2=false:=by simpa using hd
   rw[hd]at h;have h1:=h.1;simp only[Bool.false_eq_true,if_false]at h1;refine⟨by simp;omega,fun a b r hr=>?_⟩;rcases List.mem_append.1 hr with hr|hr
   ·exact h.2 a b r hr
   ·rw[List.mem_singleton.1 hr];exact a
  ·refine⟨?_,fun a b=>h.2 a b⟩;have h1:=h.1;omega
theorem Hr(l:List Int)(n:Int)(hl:l.length≤2097152)(ho:Br l)(hn:wfI .i64 n):Fn Tryz.prog 63 [.bs tInt l,.lit (.int .i64 n)] (.bs tInt (B5 l n)):=by
 have hin:=Afh l n hl;refine AE Tryz.func63 rfl (by kernel_rfl) rfl Tryz.ntmps63 fun C hC=>?_
 refine nS ?_;refine rCS ?_;refine Ad fun K2 h2=>?_
 refine Ad fun K3 h3=>?_
 (refine Awp.region ?_;(repeat(first|refine sQ (hq:=AX.call rfl hin rfl rfl rfl) ?_|refine sQ (hq:=Ap rfl rfl rfl rfl) ?_|refine sQ (hq:=Ao rfl rfl rfl rfl) ?_|refine sQ ?_|refine AW ?_|refine sG ?_|refine BQ (hk:=?_)));refine Az ?_)
 refine h3 _ ?_;refine nT ?_;refine Aj rfl (fun hb4=>?_) (fun hb4=>?_)
 ·refine rCS ?_;refine Ar ?_;rw[show B5 l n=l from by unfold B5;rw[hb4];rfl];exact⟨.inr rfl,Fin.cl rfl⟩
 ·refine Am ?_;refine h2 _ ?_;refine nT ?_;refine rCS ?_;refine rCS ?_;refine Ad fun K8 h8=>?_
  refine rCS ?_;refine Ak ?_;refine AS (fun p:Nat×Nat=>⟨(.bs tInt l::.lit (.int .i64 n)::A3 (.own 0 p.2::.lit (.bool (EW n (l.take p.1)).2)::.lit (.int .i64 (p.1:Int))::A20 (A10 (A8 [])))),[.row p.2 3 tInt (EW n (l.take p.1)).1]⟩) (fun p=>p.1≤l.length) (fun p=>l.length - p.1) (0,0) (Nat.zero_le _) ((Cx 5 3 tInt rfl (by decide)).trans (B7)) ?_;rintro⟨i,ver⟩ hi;dsimp only at hi⊢;have hfl:=(RC n (l.take i)).1;rw[List.length_take]at hfl;have hnx:∀x,l[i]? =some x→EW n (l.take (i+1))=Gs n (EW n (l.take i)) x:=fun x hx=>Wx hx
  have hfin:i=l.length→EW n l=EW n (l.take i):=fun e=>by rw[e,List.take_length]
  generalize EW n (l.take i)=s at hfl hnx hfin⊢;obtain⟨o,d⟩:=s;dsimp only at hfl hnx hfin⊢;have hol:o.length≤2097154:=by omega
  refine Ad fun K11 h11=>?_
  refine rCS ?_;refine Aj rfl (fun hb13=>?_) (fun hb13=>?_)
  ·have hlt:i < l.length:=by simpa using hb13
   obtain⟨x,hx⟩:∃x,l[i]? =some x:=⟨_,List.getElem?_eq_getElem hlt⟩
   have hxw:=ho x (List.mem_of_getElem? hx);have hnx:=hnx x hx;refine Am ?_;refine h11 _ ?_;refine nT ?_;refine Ad fun K14 h14=>?_
   refine Ak ?_;refine Ad fun K15 h15=>?_
   refine rCS ?_;refine Aj rfl (fun hb17=>?_) (fun hb17=>?_)
   ·have e1:Gs n (o,d) x=(o++[n]++[x],true):=if_pos hb17;rw[e1]at hnx;refine rCS ?_;refine rC ?_;refine h15 _ ?_;refine nT ?_;refine rC ?_;refine h14 _ ?_;refine nT ?_;refine rC ?_;refine An ⟨(i+1,ver+2),by dsimp only;omega,by dsimp only;omega,?_⟩;dsimp only;rw[hnx];exact B7
   ·have e1:Gs n (o,d) x=(o++[x],d):=if_neg (by rw[show(!(o,d).2&&decide (x > n))=false from hb17];simp);rw[e1]at hnx;refine Am ?_;refine h15 _ ?_;refine nT ?_;refine rC ?_;refine h14 _ ?_;refine nT ?_;refine rC ?_;refine An ⟨(i+1,ver+1),by dsimp only;omega,by dsimp only;omega,?_⟩;dsimp only;rw[hnx];exact B7
  ·have hie:i=l.length:=by
    have:¬i < l.length:=by simpa using hb13
    omega
   have hfin:=hfin hie;have hc:l.contains n=false:=hb4;refine AB ?_;refine h8 _ ?_;refine nT ?_;refine Ad fun K19 h19=>?_
   refine rCS ?_;refine Aj rfl (fun hb21=>?_) (fun hb21=>?_)
   ·have e2:B5 l n=o++[n]:=by unfold B5;rw[hc,if_neg (by simp),hfin,if_pos hb21]
    refine rC ?_;refine h19 _ ?_;refine nT ?_;refine rCS ?_;refine Ar ?_;rw[e2];exact⟨.inr rfl,Fin.own rfl⟩
   ·have e2:B5 l n=o:=by unfold B5;rw[hc,if_neg (by simp),hfin,if_neg (by rw[show(!(o,d).2)=false from hb21];simp)]
    refine Am ?_;refine h19 _ ?_;refine nT ?_;refine rCS ?_;refine Ar ?_;rw[e2];exact⟨.inr rfl,Fin.own rfl⟩
def AT(f:Func):List Int:=(NY f).foldl B5 []
theorem Fe(l:List Int):(l.foldl B5 []).length≤l.length∧(Br l→Br (l.foldl B5 [])):=by
 suffices h:∀(l s:List Int),(l.foldl B5 s).length≤s.length+l.length∧(Br s→Br l→Br (l.foldl B5 s))by
  obtain⟨h1,h2⟩:=h l [];exact⟨by simpa using h1,fun a=>h2 (fun r hr=>by cases hr) a⟩
 intro l;induction l with
 |nil=>exact fun s=>⟨Nat.le_refl _,fun h _=>h⟩
 |cons x l ih=>
  intro s;obtain⟨h1,h2⟩:=ih (B5 s x);have h3:=XF s x;rw[List.foldl_cons,List.length_cons];exact⟨by omega,fun a b=>h2 (h3.2 (b x (List.mem_cons_self ..)) a) fun r hr=>b r (List.mem_cons_of_mem _ hr)⟩
theorem Nc{l:List Int}{k:Nat}{r:Int}(P:List Int)(h:l[k]? =some r):(P++l.take (k+1)).foldl B5 []=B5 ((P++l.take k).foldl B5 []) r:=by
 rw[List.take_add_one,h,←List.append_assoc,List.foldl_append];rfl
theorem ME(f:Func)(ho:okFunc f)(hs:smallF f)(hX:(NY f).length≤2097152):Fn Tryz.prog 28 [.agg (Aq f)] (.bs tInt (AT f)):=by
 have hbl:=hs.blocks;refine AE Tryz.func28 rfl (by kernel_rfl) rfl Tryz.ntmps28 fun C hC=>?_
 refine nS ?_;refine rCS ?_;refine rCS ?_;refine Ad fun K3 h3=>?_
 refine rCS ?_;refine Ak ?_;refine AS (fun b:Nat=>⟨(.any::.ptr 0 0::.any::.bs tInt (((f.blocks.take b).flatMap NP).foldl B5 [])::.lit (.int .i64 (b:Int))::A40 (A20 [])),[.box (Aq f)]⟩) (fun b=>b≤f.blocks.length) (fun b=>f.blocks.length - b) 0 (Nat.zero_le _) ((Nx 3 tInt rfl).trans (B7)) ?_;intro b hb
 (try dsimp only at hb);(try dsimp only)
 refine Ad fun K6 h6=>?_
 refine rCS ?_;refine Aj rfl (fun hb8=>?_) (fun hb8=>?_)
 ·have hlt:b < f.blocks.length:=by simpa using hb8
  obtain⟨bl,hblk⟩:∃bl,f.blocks[b]? =some bl:=⟨_,List.getElem?_eq_getElem hlt⟩
  have hmem:=List.mem_of_getElem? hblk;have hob:=ho.blocks bl hmem;have hsb:=hs.all bl hmem;have hil:=hsb.ins;have hfn:=FA (g:=NP) hblk;refine Am ?_;refine h6 _ ?_;refine nT ?_;refine Ad fun K9 h9=>?_
  refine Ak ?_;refine rCS ?_;refine Ak ?_;refine AS (fun i:Nat=>⟨(.any::.ptr 0 0::.any::.bs tInt (((f.blocks.take b).flatMap NP++(bl.ins.take i).flatMap BW).foldl B5 [])::.lit (.int .i64 (b:Int))::.lit (.int .i64 (i:Int))::A40 (A10 (A9 []))),[.box (Aq f)]⟩) (fun i=>i≤bl.ins.length) (fun i=>bl.ins.length - i) 0 (Nat.zero_le _) (by rw[show(f.blocks.take b).flatMap NP++(bl.ins.take 0).flatMap BW=(f.blocks.take b).flatMap NP by simp];exact B7) ?_;intro i hi
  (try dsimp only at hi);(try dsimp only)
  refine Ad fun K12 h12=>?_
  refine rCS ?_;refine Aj rfl (fun hb14=>?_) (fun hb14=>?_)
  ·have hil2:i < bl.ins.length:=by simpa using hb14
   obtain⟨x,hx⟩:∃x,bl.ins[i]? =some x:=⟨_,List.getElem?_eq_getElem hil2⟩
   have hxm:=List.mem_of_getElem? hx;have hox:=hob.ins x hxm;have hxl:x.args.length≤2097152:=by have:=hsb.all x hxm;omega
   have hxn:=FA (g:=BW) hx;have hle:=U3 (g:=BW) hblk hx;have hX':(f.blocks.flatMap fun c=>c.ins.flatMap BW).length≤2097152:=hX;obtain⟨P,hP⟩:∃P,(f.blocks.take b).flatMap NP++(bl.ins.take i).flatMap BW=P:=⟨_,rfl⟩
   have hPl:P.length+(BW x).length≤2097152:=by
    rw[←hP,List.length_append];have:((f.blocks.take b).flatMap NP).length=((f.blocks.take b).flatMap fun c=>c.ins.flatMap BW).length:=rfl;omega
   have hPo:Br P:=by
    rw[←hP];intro r hr;rcases List.mem_append.1 hr with hr|hr
    ·obtain⟨c,hc,hr⟩:=List.mem_flatMap.1 hr;obtain⟨y,hy,hr⟩:=List.mem_flatMap.1 hr;exact JP ((ho.blocks c (List.mem_of_mem_take hc)).ins y hy) r hr
    ·obtain⟨y,hy,hr⟩:=List.mem_flatMap.1 hr;exact JP (hob.ins y (List.mem_of_mem_take hy)) r hr
   have hnx:(f.blocks.take b).flatMap NP++(bl.ins.take (i+1)).flatMap BW=P++BW x:=by rw[hxn,←hP,List.append_assoc]
   rw[hP];have hrx:BW x=readsC x++if AY x then [x.d]else []:=rfl
   have hxo:=JP hox;have hrl:(readsC x).length≤(BW x).length:=by rw[hrx,List.length_append];omega
   have hn1:([]:List Int).length+(readsC x).length≤maxLen:=by simp[maxLen];omega
   have hn2:(([]:List Int).length+(readsC x).length) * 8≤140737488355328:=by simp;omega
   refine Am ?_;refine h12 _ ?_;refine nT ?_;refine Ad fun K15 h15=>?_
   refine Ak ?_;refine rCS ?_;refine Ad fun K17 h17=>?_
   (refine Awp.region ?_;(repeat(first|(refine Bu rfl (AOp.lit (s:=⟨_,_⟩) (T:=tInt) (xs:=[]) (ds:=[]) (e:=3) (bytes:=8) rfl rfl rfl (by kernel_rfl) (by decide) (by decide) .nil ?_);refine sNt ?_)|refine sQ (hq:=AX.call rfl (EH x hox hxl) rfl rfl rfl) ?_|refine sQ (hq:=Ap rfl rfl rfl rfl) ?_|refine sQ (hq:=Ao rfl rfl rfl rfl) ?_|refine sQ ?_|refine AW ?_|refine sG (hq:=by(intro hg;(try simp only[Bool.and_eq_true,beq_iff_eq]at hg);(try simp only[hg,cond_true,Bool.true_and,beq_self_eq_true]);exact AX.call rfl (EH x hox hxl) rfl rfl rfl)) ?_|refine sG ?_|refine BQ (hk:=?_)));refine Az ?_)
   refine h17 _ ?_;refine nT ?_;refine Ad fun K18 h18=>?_
   (refine Awp.region ?_;(repeat(first|refine sQ (hq:=AX.call rfl (E2 x hox) rfl rfl rfl) ?_|refine sQ (hq:=Ap rfl rfl rfl rfl) ?_|refine sQ (hq:=Ao rfl rfl rfl rfl) ?_|refine sQ ?_|refine AW ?_|refine sG (hq:=by(intro hg;(try simp only[Bool.and_eq_true,beq_iff_eq]at hg);(try simp only[hg,cond_true,Bool.true_and,beq_self_eq_true]);exact AX.call rfl (E2 x hox) rfl rfl rfl)) ?_|refine sG ?_|refine BQ (hk:=?_)));refine Az ?_)
   refine h18 _ ?_;refine nT ?_;refine Ad fun K19 h19=>?_
   refine rCS ?_;refine Aj rfl (fun hb21=>?_) (fun hb21=>?_)
   ·rw[hb21,if_pos rfl]at hrx;have e1:(if AY x=true then x.d else 0)=x.d:=if_pos hb21;have hwd:=hox.d;rw[e1];have hn3:(readsC x).length+ [x.d].length≤maxLen:=by simp[maxLen];omega
    have hn4:((readsC x).length+ [x.d].length) * 8≤140737488355328:=by simp;omega
    refine rC ?_;refine h19 _ ?_;refine nT ?_;refine rCS ?_;refine Ak ?_;refine AS (fun k:Nat=>⟨(.any::.ptr 0 0::.any::.bs tInt ((P++(BW x).take k).foldl B5 [])::.lit (.int .i64 (b:Int))::.lit (.int .i64 (i:Int))::.any::.own 2 2::A2 (.lit (.int .i64 (k:Int))::A40 (A10 (A4 [])))),[.box (Aq f),.dead,.row 2 3 tInt (BW x)]⟩) (fun k=>k≤(BW x).length) (fun k=>(BW x).length - k) 0 (Nat.zero_le _) (by rw[show P++(BW x).take 0=P by simp,hrx];exact PH (.cons (.dead (.cons (Cut.nil _))))) ?_;intro k hk;have hkl:(P++(BW x).take k).length≤2097152:=by rw[List.length_append,List.length_take];omega
    have hko:Br (P++(BW x).take k):=fun r hr=>by
     rcases List.mem_append.1 hr with hr|hr
     ·exact hPo r hr
     ·exact hxo r (List.mem_of_mem_take hr)
    obtain⟨hl1,hl2⟩:=Fe (P++(BW x).take k);have hl2:=hl2 hko;have hknx:∀r,(BW x)[k]? =some r→(P++(BW x).take (k+1)).foldl B5 []=B5 ((P++(BW x).take k).foldl B5 []) r:=fun r hr=>Nc P hr
    have hkfin:k=(BW x).length→(P++(BW x).take k).foldl B5 []=(P++BW x).foldl B5 []:=fun e=>by rw[e,List.take_length]
    (try dsimp only at hk);(try dsimp only)
    generalize (P++(BW x).take k).foldl B5 []=O at hl1 hl2 hknx hkfin⊢;refine Ad fun K24 h24=>?_
    refine rCS ?_;refine Aj rfl (fun hb26=>?_) (fun hb26=>?_)
    ·have hklt:k < (BW x).length:=by simpa using hb26
     obtain⟨r,hr⟩:∃r,(BW x)[k]? =some r:=⟨_,List.getElem?_eq_getElem hklt⟩
     have hrw:=hxo r (List.mem_of_getElem? hr);have hknx:=hknx r hr;refine Am ?_;refine h24 _ ?_;refine nT ?_;refine Ad fun K27 h27=>?_
     refine Ak ?_
     (refine Awp.region ?_;(repeat(first|refine sQ (hq:=AX.call rfl (Hr O r (by omega) hl2 hrw) rfl rfl rfl) ?_|refine sQ (hq:=Ap rfl rfl rfl rfl) ?_|refine sQ (hq:=Ao rfl rfl rfl rfl) ?_|refine sQ ?_|refine AW ?_|refine sG (hq:=by(intro hg;(try simp only[Bool.and_eq_true,beq_iff_eq]at hg);(try simp only[hg,cond_true,Bool.true_and,beq_self_eq_true]);exact AX.call rfl (Hr O r (by omega) hl2 hrw) rfl rfl rfl)) ?_|refine sG ?_|refine BQ (hk:=?_)));refine Az ?_)
     refine h27 _ ?_;refine nT ?_;refine rC ?_;refine An ⟨k+1,by omega,by omega,?_⟩;rw[hknx];exact B7
    ·have hke:k=(BW x).length:=by
      have:¬k < (BW x).length:=by simpa using hb26
      omega
     have hkfin:=hkfin hke;refine AB ?_;refine h15 _ ?_;refine nT ?_;refine rC ?_;refine An ⟨i+1,by omega,by omega,?_⟩;rw[hnx,←hkfin];exact PH (.cons (Cut.nil _))
   ·rw[hb21,if_neg (by simp),List.append_nil]at hrx;refine Am ?_;refine h19 _ ?_;refine nT ?_;refine rCS ?_;refine Ak ?_;refine AS (fun k:Nat=>⟨(.any::.ptr 0 0::.any::.bs tInt ((P++(BW x).take k).foldl B5 [])::.lit (.int .i64 (b:Int))::.lit (.int .i64 (i:Int))::.any::.own 2 1::A2 (.lit (.int .i64 (k:Int))::A40 (A10 (A4 [])))),[.box (Aq f),.dead,.row 1 3 tInt (BW x)]⟩) (fun k=>k≤(BW x).length) (fun k=>(BW x).length - k) 0 (Nat.zero_le _) (by rw[show P++(BW x).take 0=P by simp,hrx];exact PH (.cons (.dead (.cons (Cut.nil _))))) ?_;intro k hk;have hkl:(P++(BW x).take k).length≤2097152:=by rw[List.length_append,List.length_take];omega
    have hko:Br (P++(BW x).take k):=fun r hr=>by
     rcases List.mem_append.1 hr with hr|hr
     ·exact hPo r hr
     ·exact hxo r (List.mem_of_mem_take hr)
    obtain⟨hl1,hl2⟩:=Fe (P++(BW x).take k);have hl2:=hl2 hko;have hknx:∀r,(BW x)[k]? =some r→(P++(BW x).take (k+1)).foldl B5 []=B5 ((P++(BW x).take k).foldl B5 []) r:=fun r hr=>Nc P hr
    have hkfin:k=(BW x).length→(P++(BW x).take k).foldl B5 []=(P++BW x).foldl B5 []:=fun e=>by rw[e,List.take_length]
    (try dsimp only at hk);(try dsimp only)
    generalize (P++(BW x).take k).foldl B5 []=O at hl1 hl2 hknx hkfin⊢;refine Ad fun K24 h24=>?_
    refine rCS ?_;refine Aj rfl (fun hb26=>?_) (fun hb26=>?_)
    ·have hklt:k < (BW x).length:=by simpa using hb26
     obtain⟨r,hr⟩:∃r,(BW x)[k]? =some r:=⟨_,List.getElem?_eq_getElem hklt⟩
     have hrw:=hxo r (List.mem_of_getElem? hr);have hknx:=hknx r hr;refine Am ?_;refine h24 _ ?_;refine nT ?_;refine Ad fun K27 h27=>?_
     refine Ak ?_
     (refine Awp.region ?_;(repeat(first|refine sQ (hq:=AX.call rfl (Hr O r (by omega) hl2 hrw) rfl rfl rfl) ?_|refine sQ (hq:=Ap rfl rfl rfl rfl) ?_|refine sQ (hq:=Ao rfl rfl rfl rfl) ?_|refine sQ ?_|refine AW ?_|refine sG (hq:=by(intro hg;(try simp only[Bool.and_eq_true,beq_iff_eq]at hg);(try simp only[hg,cond_true,Bool.true_and,beq_self_eq_true]);exact AX.call rfl (Hr O r (by omega) hl2 hrw) rfl rfl rfl)) ?_|refine sG ?_|refine BQ (hk:=?_)));refine Az ?_)
     refine h27 _ ?_;refine nT ?_;refine rC ?_;refine An ⟨k+1,by omega,by omega,?_⟩;rw[hknx];exact B7
    ·have hke:k=(BW x).length:=by
      have:¬k < (BW x).length:=by simpa using hb26
      omega
     have hkfin:=hkfin hke;refine AB ?_;refine h15 _ ?_;refine nT ?_;refine rC ?_;refine An ⟨i+1,by omega,by omega,?_⟩;rw[hnx,←hkfin];exact PH (.cons (Cut.nil _))
  ·have hie:i=bl.ins.length:=by
    have:¬i < bl.ins.length:=by simpa using hb14
    omega
   subst hie;refine AB ?_;refine h9 _ ?_;refine nT ?_;refine rC ?_;refine An ⟨b+1,by omega,by omega,?_⟩;rw[hfn,show(bl.ins.take bl.ins.length).flatMap BW=NP bl by rw[List.take_length];rfl];exact B7
 ·have hbe:b=f.blocks.length:=by
   have:¬b < f.blocks.length:=by simpa using hb8
   omega
  subst hbe;rw[List.take_length];refine AB ?_;refine h3 _ ?_;refine nT ?_;refine rCS ?_;refine Ar ?_;exact⟨.inr rfl,Fin.cl rfl⟩
def Ef(f:Func):Bool:=H9 f||decide (((AT f).length:Int) > 60)
theorem Ws(f:Func)(ho:okFunc f)(hs:smallF f)(hX:(NY f).length≤2097152):Fn Tryz.prog 8 [.agg (Aq f)] (.lit (.bool (Ef f))):=by
 have hgr:=Wt f hs;have hrg:=ME f ho hs hX;refine AE Tryz.func8 rfl (by kernel_rfl) rfl Tryz.ntmps8 fun C hC=>?_
 refine nS ?_;refine rCS ?_;refine Ad fun K2 h2=>?_
 (refine Awp.region ?_;(repeat(first|refine sQ (hq:=AX.call rfl hgr rfl rfl rfl) ?_|refine sQ (hq:=AX.call rfl hrg rfl rfl rfl) ?_|refine sQ (hq:=Ap rfl rfl rfl rfl) ?_|refine sQ (hq:=Ao rfl rfl rfl rfl) ?_|refine sQ ?_|refine AW ?_|refine sG (hq:=by(intro hg;(try simp only[Bool.and_eq_true,beq_iff_eq]at hg);(try simp only[hg,cond_true,Bool.true_and,beq_self_eq_true]);exact AX.call rfl hgr rfl rfl rfl)) ?_|refine sG (hq:=by(intro hg;(try simp only[Bool.and_eq_true,beq_iff_eq]at hg);(try simp only[hg,cond_true,Bool.true_and,beq_self_eq_true]);exact AX.call rfl hrg rfl rfl rfl)) ?_|refine sG ?_|refine BQ (hk:=?_)));refine Az ?_)
 refine h2 _ ?_;refine nT ?_;refine Ar ?_;exact⟨.inr rfl,Fin.cl rfl⟩
theorem Nb{n:Int}:∀(l:List Int) (s:List Int×Bool),Asc (s.1++l)→(s.2=false→∀y∈s.1,y < n)→n∉l→
 Asc (l.foldl (Gs n) s).1∧(∀y,y∈(l.foldl (Gs n) s).1↔(y∈s.1∨y∈l)∨(y=n∧(l.foldl (Gs n) s).2=true∧s.2=false))∧((l.foldl (Gs n) s).2=false→∀y∈(l.foldl (Gs n) s).1,y < n)
 | [],s,ha,hb,_=>by
  refine⟨by simpa using ha,fun y=>?_,hb⟩;simp only[List.foldl_nil,List.not_mem_nil,or_false];constructor
  ·exact fun h=>.inl h
  ·rintro(h|⟨_,h1,h2⟩)
   ·exact h
   ·rw[h1]at h2;cases h2
 |x::l,s,ha,hb,hn=>by
  have hnx:n≠x:=fun e=>hn (by rw[e];exact List.mem_cons_self ..)
  have hnl:n∉l:=fun e=>hn (List.mem_cons_of_mem _ e)
  unfold Asc at ha;rw[List.pairwise_append]at ha;obtain⟨a1,a2,a3⟩:=ha;rw[List.pairwise_cons]at a2;rw[List.foldl_cons];by_cases hc:(!s.2&&decide (x > n))=true
  ·have hs:s.2=false:=by
    simp only[Bool.and_eq_true,Bool.not_eq_true']at hc;exact hc.1
   have hxn:x > n:=by
    simp only[Bool.and_eq_true,decide_eq_true_eq]at hc;exact hc.2
   have e:Gs n s x=(s.1++[n]++[x],true):=if_pos hc;rw[e];obtain⟨i1,i2,i3⟩:=Nb l (s.1++[n]++[x],true) (by
    unfold Asc;rw[List.append_assoc,List.append_assoc,List.pairwise_append];refine⟨a1,?_,fun a hay b hbz=>?_⟩
    ·simp only[List.cons_append,List.nil_append,List.pairwise_cons];refine⟨fun b hbm=>?_,a2.1,a2.2⟩;rcases List.mem_cons.1 hbm with rfl|hbm
     ·omega
     ·have:=a2.1 b hbm;omega
    ·have h1:=hb hs a hay;simp only[List.cons_append,List.nil_append,List.mem_cons]at hbz;rcases hbz with rfl|rfl|hbz
     ·exact h1
     ·omega
     ·have:=a2.1 b hbz;omega) (fun h=>by cases h) hnl
   have ht:(l.foldl (Gs n) (s.1++[n]++[x],true)).2=true:=by
    by_cases h:(l.foldl (Gs n) (s.1++[n]++[x],true)).2=true
    ·exact h
    ·have h:=i3 (by simpa using h) n ((i2 n).2 (.inl (.inl (by simp))));omega
   refine⟨i1,fun y=>?_,fun h=>by rw[ht]at h;cases h⟩;rw[i2,ht,hs];simp only[List.mem_append,List.mem_cons,List.not_mem_nil,or_false,and_true,reduceCtorEq,and_false];constructor
   ·rintro((h|h)|h)
    ·rcases h with h|h
     ·exact .inl (.inl h)
     ·exact .inr h
    ·exact .inl (.inr (.inl h))
    ·exact .inl (.inr (.inr h))
   ·rintro((h|h|h)|h)
    ·exact .inl (.inl (.inl h))
    ·exact .inl (.inr h)
    ·exact .inr h
    ·exact .inl (.inl (.inr h))
  ·have e:Gs n s x=(s.1++[x],s.2):=if_neg hc;rw[e];obtain⟨i1,i2,i3⟩:=Nb l (s.1++[x],s.2) (by
    unfold Asc;rw[List.append_assoc,List.pairwise_append];refine⟨a1,?_,fun a hay b hbz=>a3 a hay b (by simpa using hbz)⟩;simp only[List.cons_append,List.nil_append,List.pairwise_cons];exact a2) (fun h y hy=>by
    rcases List.mem_append.1 hy with hy|hy
    ·exact hb h y hy
    ·rw[List.mem_singleton.1 hy];have h:s.2=false:=h;rw[h]at hc;have:¬x > n:=by simpa using hc
     omega) hnl
   refine⟨i1,fun y=>?_,i3⟩;rw[i2];simp only[List.mem_append,List.mem_cons,List.not_mem_nil,or_false,or_assoc]
theorem XG{l:List Int}(h:Asc l)(n:Int):Asc (B5 l n)∧∀y,y∈B5 l n↔y=n∨y∈l:=by
 unfold B5;split
 ·rename_i hc;have hc:=List.contains_iff_mem.1 hc;exact⟨h,fun y=>⟨.inr,fun hy=>by
   rcases hy with rfl|hy
   ·exact hc
   ·exact hy⟩⟩
 ·rename_i hc;have hn:n∉l:=fun e=>hc (List.contains_iff_mem.2 e)
  obtain⟨i1,i2,i3⟩:=Nb (n:=n) l ([],false) (by simpa using h) (fun _ y hy=>by cases hy) hn;have i1:Asc (EW n l).1:=i1;have i2:∀y,y∈(EW n l).1↔(y∈([]:List Int)∨y∈l)∨(y=n∧(EW n l).2=true∧false=false):=i2;have i3:(EW n l).2=false→∀y∈(EW n l).1,y < n:=i3;simp only[List.not_mem_nil,false_or,and_true]at i2;split
  ·rename_i hd;have hd:(EW n l).2=false:=by simpa using hd
   refine⟨?_,fun y=>?_⟩
   ·unfold Asc;rw[List.pairwise_append];refine⟨i1,List.pairwise_singleton ..,fun a ha b hb=>?_⟩;rw[List.mem_singleton.1 hb];exact i3 hd a ha
   ·rw[List.mem_append,i2,hd,List.mem_singleton];simp only[Bool.false_eq_true,and_false,or_false];exact or_comm
  ·rename_i hd;have hd:(EW n l).2=true:=by simpa using hd
   refine⟨i1,fun y=>?_⟩;rw[i2,hd];simp only[and_true];exact or_comm
theorem KT(l:List Int):Asc (l.foldl B5 [])∧∀y,y∈l.foldl B5 []↔y∈l:=by
 suffices h:∀(l s:List Int),Asc s→Asc (l.foldl B5 s)∧∀y,y∈l.foldl B5 s↔y∈s∨y∈l by
  obtain⟨h1,h2⟩:=h l [] List.Pairwise.nil;exact⟨h1,fun y=>by rw[h2];simp⟩
 intro l;induction l with
 |nil=>exact fun s hs=>⟨hs,fun y=>by simp⟩
 |cons x l ih=>
  intro s hs;obtain⟨a1,a2⟩:=XG hs x;obtain⟨h1,h2⟩:=ih (B5 s x) a1;rw[List.foldl_cons];refine⟨h1,fun y=>?_⟩;rw[h2,a2,List.mem_cons];constructor
  ·rintro((h|h)|h)
   ·exact .inr (.inl h)
   ·exact .inl h
   ·exact .inr (.inr h)
  ·rintro(h|h|h)
   ·exact .inl (.inr h)
   ·exact .inl (.inl h)
   ·exact .inr h
theorem Fb(f:Func):Asc (AT f)∧∀y,y∈AT f↔y∈NY f:=KT _
def Rk(f:Func)(n:Nat):List Int:=(LP n).filter fun r=>decide (r < f.args)||(AT f).contains r
def Jc(f:Func):List Int:=((AT f).takeWhile fun r=>decide (r < 0))++Rk f 6++(AT f).filter fun r=>decide (r > 5)
theorem Ab0(n:Nat):Asc (LP n):=by
 unfold LP Asc;rw[List.pairwise_map];exact List.pairwise_lt_range.imp fun{a b} h=>by omega
theorem Px{n:Nat}{r:Int}:r∈LP n↔0≤r∧r < n:=by
 unfold LP;rw[List.mem_map];constructor
 ·rintro⟨k,hk,rfl⟩;have:=List.mem_range.1 hk;omega
 ·rintro⟨h1,h2⟩;exact⟨r.toNat,List.mem_range.2 (by omega),by omega⟩
theorem GY:∀{l:List Int},Asc l→(l.takeWhile fun r=>decide (r < 0))=l.filter fun r=>decide (r < 0)
 | [],_=>rfl
 |x::l,h=>by
  unfold Asc at h;rw[List.pairwise_cons]at h;by_cases hx:x < 0
  ·rw[List.takeWhile_cons_of_pos (by simpa using hx),List.filter_cons_of_pos (by simpa using hx),GY h.2]
  ·rw[List.takeWhile_cons_of_neg (by simpa using hx),List.filter_cons_of_neg (by simpa using hx)];refine(List.filter_eq_nil_iff.2 fun y hy=>?_).symm;have:=h.1 y hy;simp;omega
theorem MC(f:Func):Jc f=Bp f:=by
 obtain⟨a1,a2⟩:=Fb f;have hk:=Kk f;have hI:=hk.1;refine P0 ?_ (Hx f) fun y=>?_
 ·unfold Jc Asc;rw[GY a1,List.pairwise_append,List.pairwise_append];refine⟨⟨a1.filter _,(Ab0 6).filter _,fun a ha b hb=>?_⟩,a1.filter _,fun a ha b hb=>?_⟩
  ·have h1:=(List.mem_filter.1 ha).2;have h2:=Px.1 (List.mem_filter.1 hb).1;have h1:a < 0:=by simpa using h1
   omega
  ·have h2:=(List.mem_filter.1 hb).2;have h2:b > 5:=by simpa using h2
   rcases List.mem_append.1 ha with ha|ha
   ·have h1:=(List.mem_filter.1 ha).2;have h1:a < 0:=by simpa using h1
    omega
   ·have h1:=Px.1 (List.mem_filter.1 ha).1;omega
 ·unfold Jc;rw[GY a1,MA];unfold Xx Rk;simp only[List.mem_append,List.mem_filter,Px,a2,decide_eq_true_eq,Bool.or_eq_true,List.contains_iff_mem];have hargs:(argsK f:Int)=Z2 f:=hI.symm;unfold Z2 at hargs;constructor
  ·rintro((⟨h,_⟩|⟨⟨h1,h2⟩,h|h⟩)|⟨h,_⟩)
   ·exact .inr h
   ·left;refine⟨h1,?_⟩;rw[hargs];split <;> split <;> omega
   ·exact .inr h
   ·exact .inr h
  ·rintro(⟨h1,h2⟩|h)
   ·left;right;rw[hargs]at h2;refine⟨⟨h1,?_⟩,.inl ?_⟩
    ·split at h2 <;> split at h2 <;> omega
    ·split at h2 <;> split at h2 <;> omega
   ·by_cases hy:y < 0
    ·exact .inl (.inl ⟨h,hy⟩)
    ·by_cases hy5:y > 5
     ·exact .inr ⟨h,hy5⟩
     ·exact .inl (.inr ⟨⟨by omega,by omega⟩,.inr h⟩)
def Vc(f:Func):List Int:=((stepsL f).flatMap E0).foldl B5 []
theorem WM(f:Func):Vc f=CU f:=by
 obtain⟨a1,a2⟩:=KT ((stepsL f).flatMap E0);refine P0 a1 (OG f) fun y=>?_
 have hK:FD f (stepsL f).length y=true↔y∈(stepsL f).flatMap E0:=by
  unfold FD addL;rw[List.take_length];simp only[Bool.false_or,List.contains_iff_mem]
 unfold CU;rw[List.mem_filter,hK];constructor
 ·intro h;have h:=(a2 y).1 h;refine⟨?_,h⟩;obtain⟨q,hq,hy⟩:=List.mem_flatMap.1 h;exact IB (Da hq).2.1 y hy
 ·rintro⟨_,h⟩;exact(a2 y).2 h
def FC(x:Ins)(r:Int):Bool:=x.op ==7||(x.op ==5&&r !=x.d)
theorem ZL(q:Ins×List Int):E0 q=q.2.filter (FC q.1):=by
 unfold E0 FC;split
 ·rename_i h;simp only[Bool.and_eq_true,bne_iff_ne,ne_eq]at h;refine(List.filter_eq_nil_iff.2 fun r _=>?_).symm;simp[h.1,h.2]
 ·rename_i h;refine List.filter_congr fun r _=>?_
  by_cases h7:q.1.op=7
  ·simp[h7]
  ·have h5:q.1.op=5:=by
    simp only[Bool.and_eq_true,bne_iff_ne,ne_eq,not_and,Decidable.not_not]at h;by_cases h5:q.1.op=5
    ·exact h5
    ·exact absurd (h h5) h7
   simp[h7,h5]
def KM:List Int:=Aa1++Aa3
theorem Jh(cross:List Int)(r:Int)(leaf:Bool):CP cross r leaf=if leaf then Xy else if cross.contains r then KM else Xy++KM:=by
 unfold CP;cases leaf
 ·cases cross.contains r <;> rfl
 ·rfl
def Abt(f:Func)(b:Nat):List Int:=((List.range b).flatMap (Em f)).flatMap E0
def Aa0(f:Func)(b i:Nat):List Int:=Abt f b++((Em f b).take i).flatMap E0
theorem Aex(f:Func){b:Nat}(hb:b≤f.blocks.length):∀y∈Abt f b,y∈Bw f:=fun y hy=>by
 obtain⟨q,hq,hy⟩:=List.mem_flatMap.1 hy;obtain⟨c,hc,hq⟩:=List.mem_flatMap.1 hq;have hc:=List.mem_range.1 hc;exact IB (Da (List.mem_flatMap.2 ⟨c,List.mem_range.2 (by omega),hq⟩)).2.1 y hy
theorem Aew(f:Func){b i:Nat}(hb:b < f.blocks.length):∀y∈Aa0 f b i,y∈Bw f:=fun y hy=>by
 rcases List.mem_append.1 hy with hy|hy
 ·exact Aex f (by omega) y hy
 ·obtain⟨q,hq,hy⟩:=List.mem_flatMap.1 hy;exact IB (Da (List.mem_flatMap.2 ⟨b,List.mem_range.2 hb,List.mem_of_mem_take hq⟩)).2.1 y hy
theorem YC(f:Func)(b:Nat):Abt f (b+1)=Aa0 f b (Em f b).length:=by
 unfold Aa0 Abt;rw[List.take_length,List.range_succ,List.flatMap_append,List.flatMap_append];simp
theorem YA{f:Func}{b i:Nat}{q:Ins×List Int}(h:(Em f b)[i]? =some q):Aa0 f b (i+1)=Aa0 f b i++q.2.filter (FC q.1):=by
 unfold Aa0;rw[FA h,←List.append_assoc,ZL]
theorem Yz(f:Func)(b:Nat):Aa0 f b 0=Abt f b:=by unfold Aa0;simp
theorem YB(f:Func):Abt f 0= []:=rfl
theorem Abs(f:Func):Abt f f.blocks.length=(stepsL f).flatMap E0:=rfl
theorem Zg{l m:List Int}(h:∀y∈l,y∈m):(l.foldl B5 []).length≤m.length∧(Br m→Br (l.foldl B5 [])):=by
 obtain⟨a1,a2⟩:=KT l;exact⟨L6 a1.nodup fun x hx=>h x ((a2 x).1 hx),fun ho r hr=>ho r (h r ((a2 r).1 hr))⟩
theorem TO(P:List Int)(r:Int):(P++[r]).foldl B5 []=B5 (P.foldl B5 []) r:=by rw[List.foldl_append];rfl
theorem WL(f:Func)(ho:okFunc f)(hs:smallF f)(hT:(Cg f).length≤2097152)(hi1:∀b∈f.blocks,b.ins.length+1≤2097152):Fn Tryz.prog 157 [.agg (Aq f)] (.bs tInt (CU f)):=by
 have hbl:=hs.blocks;have hLl:(Bw f).length≤2097152:=Nat.le_trans (Dl _) hT;have hLo:Br (Bw f):=fun x hx=>by
  obtain⟨b,h1,y,h2,h3⟩:=Gw.1 hx;exact Fm ((ho.blocks b h1).ins y h2) x h3
 rw[←WM];refine AE Tryz.func157 rfl (by kernel_rfl) rfl Tryz.ntmps157 fun C hC=>?_
 refine nS ?_;refine rCS ?_;refine Ad fun K2 h2=>?_
 (refine Awp.region ?_;(repeat(first|refine sQ (hq:=AX.call rfl (Vl f ho hs hT) rfl rfl rfl) ?_|refine sQ (hq:=Ap rfl rfl rfl rfl) ?_|refine sQ (hq:=Ao rfl rfl rfl rfl) ?_|refine sQ ?_|refine AW ?_|refine sG ?_|refine BQ (hk:=?_)));refine Az ?_)
 refine h2 _ ?_;refine nT ?_;refine rCS ?_;refine Ad fun K4 h4=>?_
 refine rCS ?_;refine Ak ?_;refine AS (fun b:Nat=>⟨(.any::.ptr 0 0::.any::.bs tInt.slice.slice (Jq f)::.bs tInt ((Abt f b).foldl B5 [])::.lit (.int .i64 (b:Int))::A40 (A20 (A10 [.any]))),[.box (Aq f)]⟩) (fun b=>b≤f.blocks.length) (fun b=>f.blocks.length - b) 0 (Nat.zero_le _) (by rw[YB f];exact(Nx 4 tInt rfl).trans (B7)) ?_;intro b hb;refine Ad fun K7 h7=>?_
 refine rCS ?_;refine Aj rfl (fun hb9=>?_) (fun hb9=>?_)
 ·have hlt:b < f.blocks.length:=by simpa using hb9
  obtain⟨bl,hblk⟩:∃bl,f.blocks[b]? =some bl:=⟨_,List.getElem?_eq_getElem hlt⟩
  have hmem:=List.mem_of_getElem? hblk;have hob:=ho.blocks bl hmem;have hsb:=hs.all bl hmem;have hil:=hsb.ins;have hins:Ch f b=bl.ins:=by unfold Ch;rw[hblk]
  have hal:(Jq f)[b]? =some (BX f b):=by unfold Jq;rw[List.getElem?_map,List.getElem?_range hlt];rfl
  have hsl:(Em f b).length=bl.ins.length:=by rw[N7,hins]
  have hnb:=YC f b;rw[hsl]at hnb;refine Am ?_;refine h7 _ ?_;refine nT ?_;refine Ad fun K10 h10=>?_
  refine Ak ?_;refine rCS ?_;refine Ak ?_;refine AS (fun i:Nat=>⟨(.any::.ptr 0 0::.any::.bs tInt.slice.slice (Jq f)::.bs tInt ((Aa0 f b i).foldl B5 [])::.lit (.int .i64 (b:Int))::.lit (.int .i64 (i:Int))::A40 (A20 (A10 []))),[.box (Aq f)]⟩) (fun i=>i≤bl.ins.length) (fun i=>bl.ins.length - i) 0 (Nat.zero_le _) (by rw[Yz f b];exact B7) ?_;intro i hi;refine Ad fun K13 h13=>?_
  refine rCS ?_;refine Aj rfl (fun hb15=>?_) (fun hb15=>?_)
  ·have hil2:i < bl.ins.length:=by simpa using hb15
   obtain⟨x,hx⟩:∃x,bl.ins[i]? =some x:=⟨_,List.getElem?_eq_getElem hil2⟩
   have hxm:=List.mem_of_getElem? hx;have hox:=hob.ins x hxm;obtain⟨lp,hlp0⟩:∃lp,(BX f b)[i+1]? =some lp:=⟨_,List.getElem?_eq_getElem (by rw[Ld,hins];omega)⟩
   have hlp:(BX f b)[((i:Int)+1).toNat]? =some lp:=by rw[show((i:Int)+1).toNat=i+1 by omega];exact hlp0
   have hst:=Qu (f:=f) (b:=b) (i:=i) (x:=x) (by rw[hins];exact hx) hlp0;have hpn:=YA hst;have hpin:=Aew f (i:=i+1) hlt;rw[hpn]at hpin;have hlpl:lp.length≤2097152:=by
    have:=(Da (List.mem_flatMap.2 ⟨b,List.mem_range.2 hlt,List.mem_of_getElem? hst⟩)).2.2;exact Nat.le_trans this hLl
   generalize Aa0 f b i=P at hpn hpin⊢;refine Am ?_;refine h13 _ ?_;refine nT ?_;refine Ad fun K16 h16=>?_
   refine Ak ?_;refine rCS ?_;refine rCS ?_;refine rCS ?_;refine Ak ?_;refine AS (fun k:Nat=>⟨(.any::.ptr 0 0::.any::.bs tInt.slice.slice (Jq f)::.bs tInt ((P++(lp.take k).filter (FC x)).foldl B5 [])::.lit (.int .i64 (b:Int))::.lit (.int .i64 (i:Int))::.ptr 1 0::.bs tInt lp::.lit (.int .i64 (k:Int))::A40 (A20 (A7 []))),[.box (Aq f),.box (BB x)]⟩) (fun k=>k≤lp.length) (fun k=>lp.length - k) 0 (Nat.zero_le _) (by rw[show P++(lp.take 0).filter (FC x)=P by simp];exact PH (.cons (.cons (Cut.nil _)))) ?_;intro k hk;have hsub:∀y∈P++(lp.take k).filter (FC x),y∈Bw f:=fun y hy=>by
    rcases List.mem_append.1 hy with hy|hy
    ·exact hpin y (List.mem_append_left _ hy)
    ·refine hpin y (List.mem_append_right _ (List.mem_filter.2 ⟨List.mem_of_mem_take (List.mem_filter.1 hy).1,(List.mem_filter.1 hy).2⟩))
   obtain⟨hl1,hl2⟩:=Zg hsub;have hl2:=hl2 hLo;have hyes:∀r,lp[k]? =some r→FC x r=true→(P++(lp.take (k+1)).filter (FC x)).foldl B5 []=B5 ((P++(lp.take k).filter (FC x)).foldl B5 []) r:=fun r hr hq=>by
    rw[DP hr,hq,if_pos rfl,←List.append_assoc,TO]
   have hno:∀r,lp[k]? =some r→FC x r=false→(P++(lp.take (k+1)).filter (FC x)).foldl B5 []=(P++(lp.take k).filter (FC x)).foldl B5 []:=fun r hr hq=>by
    rw[DP hr,hq,if_neg (by simp),List.append_nil]
   have hfin:k=lp.length→(P++lp.filter (FC x)).foldl B5 []=(P++(lp.take k).filter (FC x)).foldl B5 []:=fun e=>by rw[e,List.take_length]
   (try dsimp only at hk);(try dsimp only)
   generalize (P++(lp.take k).filter (FC x)).foldl B5 []=O at hl1 hl2 hyes hno hfin⊢;refine Ad fun K21 h21=>?_
   refine rCS ?_;refine Aj rfl (fun hb23=>?_) (fun hb23=>?_)
   ·have hklt:k < lp.length:=by simpa using hb23
    obtain⟨r,hr⟩:∃r,lp[k]? =some r:=⟨_,List.getElem?_eq_getElem hklt⟩
    have hyes:=hyes r hr;have hno:=hno r hr;have hrw:wfI .i64 r:=hLo r (by
     have:=(Da (List.mem_flatMap.2 ⟨b,List.mem_range.2 hlt,List.mem_of_getElem? hst⟩)).2.1;exact this r (List.mem_of_getElem? hr))
    refine Am ?_;refine h21 _ ?_;refine nT ?_;refine Ad fun K24 h24=>?_
    refine Ak ?_;refine Ad fun K25 h25=>?_
    (refine LQ 17 (hh:=?_);(repeat(first|refine qQ (hq:=Ap rfl rfl rfl rfl) ?_|refine qQ (hq:=Ao rfl rfl rfl rfl) ?_|refine qQ ?_|refine HF ?_|refine qG ?_));refine F8 ?_;(repeat(first|refine sQ (hq:=Ap rfl rfl rfl rfl) ?_|refine sQ (hq:=Ao rfl rfl rfl rfl) ?_|refine sQ ?_|refine AW ?_|refine sG ?_|refine BQ (hk:=?_)));refine Az ?_)
    refine h25 _ ?_;refine nT ?_;refine Aj rfl (fun hb26=>?_) (fun hb26=>?_)
    ·have hyes:=hyes hb26
     (refine Awp.region ?_;(repeat(first|refine sQ (hq:=AX.call rfl (Hr O r (by omega) hl2 hrw) rfl rfl rfl) ?_|refine sQ (hq:=Ap rfl rfl rfl rfl) ?_|refine sQ (hq:=Ao rfl rfl rfl rfl) ?_|refine sQ ?_|refine AW ?_|refine sG ?_|refine BQ (hk:=?_)));refine Az ?_)
     refine h24 _ ?_;refine nT ?_;refine rC ?_;refine An ⟨k+1,by omega,by omega,?_⟩;rw[hyes];exact B7
    ·have hno:=hno hb26;refine Am ?_;refine h24 _ ?_;refine nT ?_;refine rC ?_;refine An ⟨k+1,by omega,by omega,?_⟩;rw[hno];exact B7
   ·have hke:k=lp.length:=by have:¬k < lp.length:=(by simpa using hb23);omega
    have hfin:=hfin hke;refine AB ?_;refine h16 _ ?_;refine nT ?_;refine rC ?_;refine An ⟨i+1,by omega,by omega,?_⟩;rw[hpn,hfin];exact PH (.cons (Cut.nil _))
  ·have hie:i=bl.ins.length:=by have:¬i < bl.ins.length:=(by simpa using hb15);omega
   refine AB ?_;refine h10 _ ?_;refine nT ?_;refine rC ?_;refine An ⟨b+1,by omega,by omega,?_⟩;rw[hnb,←hie];exact B7
 ·have hbe:b=f.blocks.length:=by have:¬b < f.blocks.length:=(by simpa using hb9);omega
  have e9:Vc f=(Abt f b).foldl B5 []:=by rw[hbe,Abs];rfl
  refine AB ?_;refine h4 _ ?_;refine nT ?_;refine rCS ?_;refine Ar ?_;rw[e9];exact⟨.inr rfl,Fin.cl rfl⟩
def ltP(x y:Pair):Prop:=x.a < y.a∨(x.a=y.a∧x.b < y.b)
theorem PD(x:Pair):¬ltP x x:=fun h=>by rcases h with h|h <;> omega
theorem Adw{x y z:Pair}(h1:ltP x y)(h2:ltP y z):ltP x z:=by unfold ltP at *;omega
theorem YX{x y:Pair}(h1:ltP x y):¬ltP y x:=fun h2=>PD x (Adw h1 h2)
abbrev Ajl(l:List Pair):Prop:=l.Pairwise ltP
theorem Vk:∀{l m:List Pair},Ajl l→Ajl m→(∀x,x∈l↔x∈m)→l=m
 | [],[],_,_,_=>rfl
 | [],y::m,_,_,h=>by have:=(h y).2 (by simp);cases this
 |x::l,[],_,_,h=>by have:=(h x).1 (by simp);cases this
 |x::l,y::m,hl,hm,h=>by
  have hl:=List.pairwise_cons.1 hl;have hm:=List.pairwise_cons.1 hm;have e:x=y:=by
   rcases List.mem_cons.1 ((h x).1 (by simp))with e|e
   ·exact e
   ·rcases List.mem_cons.1 ((h y).2 (by simp))with e2|e2
    ·exact e2.symm
    ·exact absurd (hl.1 y e2) (YX (hm.1 x e))
  subst e;refine congrArg _ (Vk hl.2 hm.2 fun z=>⟨fun hz=>?_,fun hz=>?_⟩)
  ·rcases List.mem_cons.1 ((h z).1 (by simp[hz]))with e|e
   ·subst e;exact absurd (hl.1 _ hz) (PD _)
   ·exact e
  ·rcases List.mem_cons.1 ((h z).2 (by simp[hz]))with e|e
   ·subst e;exact absurd (hm.1 _ hz) (PD _)
   ·exact e
theorem Er:∀{R:List Int} {x:Pair},Asc R→(x∈EV R↔x.a∈R∧x.b∈R∧x.a < x.b)
 | [],x,_=>by simp[EV]
 |a::R,x,h=>by
  have h:=List.pairwise_cons.1 h;unfold EV;rw[List.mem_append,Er h.2,List.mem_map];constructor
  ·rintro(⟨b,hb,rfl⟩|⟨h1,h2,h3⟩)
   ·exact⟨by simp,by simp[hb],h.1 b hb⟩
   ·exact⟨by simp[h1],by simp[h2],h3⟩
  ·rintro⟨h1,h2,h3⟩;rcases List.mem_cons.1 h1 with e|e
   ·rcases List.mem_cons.1 h2 with e2|e2
    ·omega
    ·exact .inl ⟨x.b,e2,by rw[←e]⟩
   ·rcases List.mem_cons.1 h2 with e2|e2
    ·have:=h.1 x.a e;omega
    ·exact .inr ⟨e,e2,h3⟩
theorem MS:∀{R:List Int},Asc R→Ajl (EV R)
 | [],_=>List.Pairwise.nil
 |a::R,h=>by
  have h:=List.pairwise_cons.1 h;unfold EV;refine List.pairwise_append.2 ⟨List.pairwise_map.2 (h.2.imp fun h=>.inr ⟨rfl,h⟩),MS h.2,fun x hx y hy=>?_⟩;obtain⟨b,hb,rfl⟩:=List.mem_map.1 hx;exact .inl (h.1 _ ((Er h.2).1 hy).1)
theorem Ji:∀(R:List Int),(EV R).length≤R.length * R.length
 | []=>Nat.le_refl _
 |a::R=>by
  unfold EV;rw[List.length_append,List.length_map,List.length_cons];have:=Ji R;have e:(R.length+1) *(R.length+1)=R.length * R.length+2 * R.length+1:=by rw[Nat.add_mul,Nat.mul_add];omega
  omega
def E9(S:Pair→Bool)(l:List Pair):Pair→Bool:=fun x=>S x||l.contains x
theorem Ej(S:Pair→Bool):E9 S []=S:=by funext x;simp[E9]
theorem F6(S:Pair→Bool)(l m:List Pair):E9 S (l++m)=E9 (E9 S l) m:=by
 funext x;simp only[E9,List.contains_eq_mem,List.mem_append,Bool.decide_or,Bool.or_assoc]
theorem Aab(S:Pair→Bool)(q:Pair):E9 S [q]=Ac8 S q:=by
 funext x;simp only[E9,Ac8,List.contains_eq_mem,List.mem_cons,List.not_mem_nil,or_false]
theorem Nt{S:Pair→Bool}{l:List Pair}{x:Pair}:E9 S l x=true↔S x=true∨x∈l:=by
 simp only[E9,Bool.or_eq_true,List.contains_iff_mem]
def DF(a b:Int):List Pair:=if a=b then []else [⟨min a b,max a b⟩]
def InP(R:List Int)(S:Pair→Bool):Prop:=∀x,S x=true→x.a∈R∧x.b∈R∧x.a < x.b
theorem Adf(R:List Int):InP R fun _=>false:=fun _ h=>by cases h
theorem YE{R:List Int}{a b:Int}(ha:a∈R)(hb:b∈R):∀x∈DF a b,x.a∈R∧x.b∈R∧x.a < x.b:=fun x hx=>by
 unfold DF at hx;split at hx
 ·cases hx
 ·simp only[List.mem_cons,List.not_mem_nil,or_false]at hx;subst hx;try dsimp only
  rcases Int.lt_or_lt_of_ne (by assumption)with h|h
  ·rw[Int.min_eq_left (by omega),Int.max_eq_right (by omega)];exact⟨ha,hb,h⟩
  ·rw[Int.min_eq_right (by omega),Int.max_eq_left (by omega)];exact⟨hb,ha,h⟩
theorem InP.addL{R:List Int}{S:Pair→Bool}{l:List Pair}(h:InP R S)(hl:∀x∈l,x.a∈R∧x.b∈R∧x.a < x.b):InP R (E9 S l):=fun x hx=>by
 rcases Nt.1 hx with hx|hx
 ·exact h x hx
 ·exact hl x hx
def G9(R:List Int)(S:Pair→Bool):List Pair:=(EV R).filter S
theorem TB{R:List Int}{S:Pair→Bool}{x:Pair}(hR:Asc R)(h:InP R S):x∈G9 R S↔S x=true:=by
 unfold G9;rw[List.mem_filter,Er hR];exact⟨fun h=>h.2,fun hx=>⟨h x hx,hx⟩⟩
theorem T7{R:List Int}{S:Pair→Bool}(hR:Asc R):Ajl (G9 R S):=(MS hR).filter S
def KX(q:Ins×List Int)(r:Int):Bool:=AY q.1&&(q.1.op !=2||r !=q.1.a)
def TR(q:Ins×List Int):List Pair:=(q.2.filter (KX q)).flatMap (DF q.1.d)
def GI(f:Func)(k:Nat):Pair→Bool:=E9 (fun _=>false) (((stepsL f).take k).flatMap TR)
def edgeF(l:List Int):List Pair:=(List.range l.length).flatMap fun i=>(l.take i).flatMap (DF (l[i]?.getD 0))
def BE(f:Func):List Int:=if f.blocks.length=0 then []else((BX f 0)[0]?).getD []
def Ib(f:Func):Pair→Bool:=E9 (GI f (stepsL f).length) (edgeF (BE f))
def GH(f:Func):List Pair:=G9 (AT f) (Ib f)
theorem OE{f:Func}{k:Nat}{q:Ins×List Int}(h:(stepsL f)[k]? =some q):GI f (k+1)=E9 (GI f k) (TR q):=by
 unfold GI;rw[List.take_add_one,h,Option.toList_some,List.flatMap_append,F6];simp
theorem WE(f:Func):GI f 0=fun _=>false:=by
 unfold GI;rw[List.take_zero,List.flatMap_nil,Ej]
def Hp(S:Pair→Bool)(q:Ins×List Int)(i:Nat):Pair→Bool:=E9 S (((q.2.take i).filter (KX q)).flatMap (DF q.1.d))
theorem WF(S:Pair→Bool)(q:Ins×List Int):Hp S q 0=S:=by
 unfold Hp;rw[List.take_zero,List.filter_nil,List.flatMap_nil,Ej]
theorem ZB{S:Pair→Bool}{q:Ins×List Int}{i:Nat}{r:Int}(h:q.2[i]? =some r)(hq:KX q r=true):Hp S q (i+1)=E9 (Hp S q i) (DF q.1.d r):=by
 unfold Hp;rw[List.take_add_one,h,Option.toList_some,List.filter_append,List.filter_cons,hq,List.filter_nil,List.flatMap_append,F6];simp
theorem Acr{S:Pair→Bool}{q:Ins×List Int}{i:Nat}{r:Int}(h:q.2[i]? =some r)(hq:KX q r=false):Hp S q (i+1)=Hp S q i:=by
 unfold Hp;rw[List.take_add_one,h,Option.toList_some,List.filter_append,List.filter_cons,hq,List.filter_nil];simp
theorem RM(S:Pair→Bool)(q:Ins×List Int):Hp S q q.2.length=E9 S (TR q):=by
 unfold Hp TR;rw[List.take_length]
def Kd(S:Pair→Bool)(l:List Int)(i k:Nat):Pair→Bool:=E9 (E9 S ((List.range i).flatMap fun j=>(l.take j).flatMap (DF (l[j]?.getD 0)))) ((l.take k).flatMap (DF (l[i]?.getD 0)))
theorem WG(S:Pair→Bool)(l:List Int):Kd S l 0 0=S:=by
 unfold Kd;rw[List.range_zero,List.flatMap_nil,List.take_zero,List.flatMap_nil,Ej,Ej]
theorem WH{S:Pair→Bool}{l:List Int}{i k:Nat}{a b:Int}(ha:l[i]? =some a)(hb:l[k]? =some b):Kd S l i (k+1)=E9 (Kd S l i k) (DF a b):=by
 unfold Kd;rw[List.take_add_one,hb,ha,Option.toList_some,List.flatMap_append,F6];simp
theorem WI(S:Pair→Bool)(l:List Int)(i:Nat):Kd S l i i=Kd S l (i+1) 0:=by
 unfold Kd;rw[List.range_succ,List.flatMap_append,List.take_zero,List.flatMap_nil,Ej,F6];simp
theorem RN(S:Pair→Bool)(l:List Int):Kd S l l.length 0=E9 S (edgeF l):=by
 unfold Kd edgeF;rw[List.take_zero,List.flatMap_nil,Ej]
theorem Ow{f:Func}{r:Int}:r∈AT f↔∃b∈f.blocks,∃x∈b.ins,r∈BW x:=by
 rw[(Fb f).2];unfold NY NP;simp only[List.mem_flatMap]
theorem MD{f:Func}{r:Int}(h:r∈Bw f):r∈AT f:=by
 obtain⟨b,hb,x,hx,hr⟩:=Gw.1 h;exact Ow.2 ⟨b,hb,x,hx,List.mem_append.2 (.inl hr)⟩
theorem Mn{f:Func}{q:Ins×List Int}(h:q∈stepsL f):(∃b∈f.blocks,q.1∈b.ins)∧∀r∈q.2,r∈AT f:=
 ⟨(Da h).1,fun r hr=>MD ((Da h).2.1 r hr)⟩
theorem UG{f:Func}{q:Ins×List Int}(h:q∈stepsL f)(hw:AY q.1=true):q.1.d∈AT f:=by
 obtain⟨b,hb,hx⟩:=(Mn h).1;exact Ow.2 ⟨b,hb,q.1,hx,List.mem_append.2 (.inr (by rw[hw];simp))⟩
theorem G6{R:List Int}{a:Int}{l:List Int}(ha:a∈R)(hl:∀r∈l,r∈R):∀x∈l.flatMap (DF a),x.a∈R∧x.b∈R∧x.a < x.b:=fun x hx=>by
 obtain⟨r,hr,hx⟩:=List.mem_flatMap.1 hx;exact YE ha (hl r hr) x hx
theorem Va{f:Func}{S:Pair→Bool}{q:Ins×List Int}(hS:InP (AT f) S)(h:q∈stepsL f)(i:Nat):InP (AT f) (Hp S q i):=by
 unfold Hp;by_cases hw:AY q.1=true
 ·exact hS.addL (G6 (UG h hw) fun r hr=>(Mn h).2 r (List.mem_of_mem_take (List.mem_filter.1 hr).1))
 ·rw[show(q.2.take i).filter (KX q)= []from List.filter_eq_nil_iff.2 fun r _=>by unfold KX;simp[hw],List.flatMap_nil,Ej];exact hS
theorem Kc(f:Func):∀k,InP (AT f) (GI f k)
 |0=>by rw[WE];exact Adf _
 |k+1=>by
  by_cases hk:k < (stepsL f).length
  ·have hq:=List.getElem?_eq_getElem hk;rw[OE hq,←RM];exact Va (Kc f k) (List.mem_of_getElem? hq) _
  ·have:GI f (k+1)=GI f k:=by
    unfold GI;rw[List.take_of_length_le (by omega),List.take_of_length_le (by omega)]
   rw[this];exact Kc f k
theorem J9(f:Func):∀r∈BE f,r∈AT f:=fun r hr=>by
 unfold BE at hr;split at hr
 ·cases hr
 ·unfold BX at hr;cases h:((List.range ((Ch f 0).length+1)).map (Dg f (Bw f) 0))[0]? with
  |none=>rw[h]at hr;cases hr
  |some l=>
   rw[h]at hr;obtain⟨i,_,e⟩:=List.mem_map.1 (List.mem_of_getElem? h);rw[←e]at hr;exact MD (List.mem_filter.1 hr).1
theorem Vb{R:List Int}{S:Pair→Bool}{l:List Int}(hS:InP R S)(hl:∀r∈l,r∈R){i k:Nat}(hi:i≤l.length)(hik:k=0∨i < l.length):InP R (Kd S l i k):=by
 have hg:∀j,j < l.length→(l[j]?.getD 0)∈R:=fun j hj=>by
  rw[List.getElem?_eq_getElem hj];exact hl _ (List.getElem_mem hj)
 unfold Kd;refine InP.addL (InP.addL hS fun x hx=>?_) ?_
 ·obtain⟨j,hj,hx⟩:=List.mem_flatMap.1 hx;exact G6 (hg j (by have:=List.mem_range.1 hj;omega)) (fun r hr=>hl r (List.mem_of_mem_take hr)) x hx
 ·rcases hik with rfl|hik
  ·intro x hx;simp at hx
  ·exact G6 (hg i hik) fun r hr=>hl r (List.mem_of_mem_take hr)
theorem Zz(f:Func):InP (AT f) (Ib f):=by
 unfold Ib;rw[←RN];exact Vb (Kc f _) (J9 f) (Nat.le_refl _) (.inl rfl)
end Mu
end
section
namespace Mu
open Go Go.RowKit
def Agg{κ:Type}(P:Program)(gf:FuncId)(lb:List Value)(RB:Res)(st:κ→List AV→κ→Prop)(k0:κ)(fin:κ→Prop):Prop:=
 B6 P gf=true∧∀(w:World) (S:Nat→Prop) (ι:Type) (l:Nat) (Jr:κ→ι→Res),(∀k p,(Jr k p).mrk= [])→(∀k es k',st k es k'→∀p,W9 P l S w.heap.size (Jr k p) es (Jr k'))→
  ∀p,(∀k,S k→k < w.heap.size∧¬(Jr k0 p).F k∧¬RB.F k)→(∀g,(Jr k0 p).F g→g < w.heap.size∧¬RB.F g)→(∀g,RB.F g→g < w.heap.size)→(Jr k0 p).R w S→RB.R w S→
   CallsIn Fence.wide 3 P gf (#[Value.func (.yield l) #[] #[]]++lb.toArray) w fun e w'=>(∃v,e= .returned v)∧Gr (fun g=>(Jr k0 p).F g∨RB.F g) w w'∧∃kN q S',fin kN∧(∀k,S k→S' k)∧(Jr kN q).R w' S'∧(∀k,S' k→k < w'.heap.size∧¬(Jr kN q).F k)∧(∀k,S' k→S k∨w.heap.size≤k)∧∀g,(Jr kN q).F g→((Jr k0 p).F g∨RB.F g∨w.heap.size≤g)∧g < w'.heap.size
def Akh{κ ι:Type}(fin:κ→Prop)(Jr:κ→ι→Res):Exit→St→Prop:=fun e s=>(e= .normal∨e= .ret)∧∃kN,fin kN∧∃q,s.h[0]? =some (.res (Jr kN q))∧mkD s.h= []
theorem Sz{P:Program}{gf:FuncId}{fn:Go.Func}{c:Code}{lb:List Value}{RB:Res}{κ:Type}{st:κ→List AV→κ→Prop}{k0:κ}{fin:κ→Prop}{n:Nat}(hf:P.funcs[gf]? =some fn)(hb:fn.body=some c)(hE:B6 P gf=true)(hres:fn.results= #[])(hn:fn.ntmps=n)(hmB:RB.mrk= [])
 (h:∀(C:Ctx),C.rd=none→∀(ι:Type) (l:Nat) (Jr:κ→ι→Res),(∀k p,(Jr k p).mrk= [])→(∀k es k',st k es k'→∀p,W9 P l C.S0 C.w0.heap.size (Jr k p) es (Jr k'))→∀p,
  Awp P C c (Akh fin Jr) ⟨(.lit (.func (.yield l) #[] #[])::lb.map .lit)++List.replicate (n - (lb.length+1)) (.lit undef),[.res (Jr k0 p),.res RB]⟩):Agg P gf lb RB st k0 fin:=by
 refine⟨hE,fun w S ι l Jr hm hY p hS hF hB hR hRB=>callsIn_of_wp hf hb trivial ?_⟩;rw[hn];let N0:Nat→Prop:=fun k=>k < w.heap.size∧¬(Jr k0 p).F k∧¬RB.F k
 have hH:HRel ⟨w,S,N0,none⟩ [.res (Jr k0 p),.res RB] S ψ0 w:=by
  refine⟨Kp.refl _ _,fun k hk=>hk.1,fun k hk=>(hS k hk).1,fun _ h=>h,fun _ h=>.inl h,fun i b hi=>?_,fun i j hij hi hj g h1 h2=>?_⟩
  ·rcases i with _|_|i
   ·have:b= .res (Jr k0 p):=by simpa using hi.symm
    subst this;exact⟨fun g hg=>⟨fun hn=>hn.2.1 hg,fun hs=>(hS g hs).2.1 hg,(hF g hg).1⟩,hR⟩
   ·have:b= .res RB:=by simpa using hi.symm
    subst this;exact⟨fun g hg=>⟨fun hn=>hn.2.2 hg,fun hs=>(hS g hs).2.2 hg,hB g hg⟩,hRB⟩
   ·simp at hi
  ·rcases i with _|_|i
   ·rcases j with _|_|j
    ·exact hij rfl
    ·exact(hF g h1).2 h2
    ·simp[ABlk.live]at hj
   ·rcases j with _|_|j
    ·exact(hF g h2).2 h1
    ·exact hij rfl
    ·simp[ABlk.live]at hj
   ·simp[ABlk.live]at hi
 have hst:St.rel ⟨w,S,N0,none⟩ ⟨(.lit (.func (.yield l) #[] #[])::lb.map .lit)++List.replicate (n - (lb.length+1)) (.lit undef),[.res (Jr k0 p),.res RB]⟩ {tmps:=(#[Value.func (.yield l) #[] #[]]++lb.toArray)++Array.replicate (n - (#[Value.func (.yield l) #[] #[]]++lb.toArray).size) undef,defers:=[]} w:=by
  refine⟨?_,S,ψ0,hH,?_⟩
  ·show []=mkD _;simp[mkD,ABlk.mrk,hm k0 p,hmB]
  ·have e:((#[Value.func (.yield l) #[] #[]]++lb.toArray)++Array.replicate (n - (#[Value.func (.yield l) #[] #[]]++lb.toArray).size) undef).toList=(Value.func (.yield l) #[] #[]::lb)++List.replicate (n - (lb.length+1)) undef:=by
    simp[Nat.add_comm 1 lb.length]
   rw[e,show(AV.lit (.func (.yield l) #[] #[])::lb.map .lit)=((Value.func (.yield l) #[] #[]::lb).map AV.lit)from rfl,show List.replicate (n - (lb.length+1)) (AV.lit undef)=(List.replicate (n - (lb.length+1)) undef).map AV.lit by simp];exact B1 (EG _) (EG _)
 have hw:=h ⟨w,S,N0,none⟩ rfl ι l Jr hm hY p _ w hst;refine wpIn_mono (RE (m:=3) hw) ?_;rintro e a' w' ⟨s,⟨he,kN,hfN,q,h0,hmk⟩,hd,S1,ψ,H,hl⟩;rw[hmk]at hd;have hq:=H.blk 0 _ h0;have hfin:(∃v,Ending.returned (.tuple #[])= .returned v)∧Gr (fun g=>(Jr k0 p).F g∨RB.F g) w w'∧∃kN q S',fin kN∧(∀k,S k→S' k)∧(Jr kN q).R w' S'∧(∀k,S' k→k < w'.heap.size∧¬(Jr kN q).F k)∧(∀k,S' k→S k∨w.heap.size≤k)∧∀g,(Jr kN q).F g→((Jr k0 p).F g∨RB.F g∨w.heap.size≤g)∧g < w'.heap.size:=by
  refine⟨⟨_,rfl⟩,⟨H.bel.os,H.bel.tape,H.bel.output,H.bel.size,fun k hk hno=>H.bel.block k ⟨hk,fun h=>hno (.inl h),fun h=>hno (.inr h)⟩⟩,kN,q,S1,hfN,H.sub,hq.2,fun k hk=>⟨H.lt k hk,fun hf=>(hq.1 k hf).2.1 hk⟩,H.new,fun g hg=>⟨?_,(hq.1 g hg).2.2⟩⟩;have h1:=(hq.1 g hg).1;by_cases hlt:g < w.heap.size
  ·by_cases h2:(Jr k0 p).F g
   ·exact .inl h2
   ·by_cases h3:RB.F g
    ·exact .inr (.inl h3)
    ·exact absurd ⟨hlt,h2,h3⟩ h1
  ·exact .inr (.inr (by show w.heap.size≤g;omega))
 rcases he with rfl|rfl
 ·exact⟨hd,_,results_none hres _ _ _,hfin⟩
 ·exact⟨hd,_,results_none hres _ _ _,hfin⟩
def Yl{J:Type}(h':J→List ABlk):Exit→St→Prop:=fun e s=>e= .normal∧∃j,Drops s.h (h' j)
def Of(P:Program){J:Type}(body:Code)(h':J→List ABlk)(s1:St):Prop:=∀C':Ctx,C'.rd.isSome=true→Awp P C' body (Yl h') s1
theorem Yk{P:Program}{J:Type}{own0 S SI:Nat→Prop}{w W:World}{t es:List AV}{hk:List ABlk}{hk1:J→List ABlk}{ps:Array Tmp}{vs:List Value}{tmps:Array Value}{assign body:Code}{fn:FuncId}{rec_:LoopState→Loop}{p:Agi}
 (hst:∀x y,({rec_ x with state:=y}:Loop)=rec_ y) (hrst:(rec_ .ready).state= .ready) (hpe:∀x,(rec_ x).pending=none)
 (ho0:∀g,own0 g→g < w.heap.size) (hS0:∀g,S g→g < w.heap.size)
 (ht:Bt t=true) (hes:Bt es=true) (htr:Ah w S [] ψ0 t tmps.toList) (hev:Ah W SI [] ψ0 es vs) (hm:mkD hk= [])
 (hI1:∀g,S g→SI g) (hI2:∀g,SI g→S g∨w.heap.size+2≤g) (hI3:∀g,SI g→g < W.heap.size∧¬Af2 w hk p g)
 (hB:BetY S own0 w (rec_ .ready) hk p.1 p.2.1 p.2.2 W SI)
 (hA:∀C':Ctx,C'.rd.isSome=true→Awp P C' assign (IH (Of P body hk1) (fun _ _=>False)) ⟨IN t ps.toList es,hk⟩):
 RoundIn Fence.wide 2 P (w.heap.size+1) fn ((ps.toList.zip vs).foldl (fun t p=>t.setIfInBounds p.1 p.2) tmps) assign body W fun e W'=>e= .returned (.bool true)∧Turns W SI (Af2 w hk p) (fun q:J×Agi=>Ajx S own0 w (rec_ .ready) (hk1 q.1) q.2) (fun _=>.bool true) (.bool true) W':=by
 obtain⟨Sk,ψk,X⟩:=p;obtain⟨hl,hD,hsz,hsame,H,hs1,hs2,hs3,hcov⟩:=hB;dsimp only at H hs1 hs2 hs3 hcov;have hF:∀g,Af2 w hk (Sk,ψk,X) g↔(g=w.heap.size∨g=w.heap.size+1∨owns hk ψk g∨X g):=fun g=>Iff.rfl
 let S1:Nat→Prop:=fun g=>Sk g∨SI g
 have hS1o:∀g,S1 g→g < W.heap.size∧¬owns hk ψk g:=fun g hg=>by
  rcases hg with hg|hg
  ·exact⟨H.lt g hg,fun ho=>(H.own_lt ho).2.2 hg⟩
  ·exact⟨(hI3 g hg).1,fun ho=>(hI3 g hg).2 (.inr (.inr (.inl ho)))⟩
 have hS1n:∀g,S1 g→S g∨w.heap.size+2≤g:=fun g hg=>by
  rcases hg with hg|hg
  ·exact hs2 g hg
  ·exact hI2 g hg
 let N1:Nat→Prop:=fun g=>g < W.heap.size∧¬owns hk ψk g
 have hlD:∀g,(g=w.heap.size∨g=w.heap.size+1)→N1 g:=fun g hg=>⟨by omega,fun ho=>by
  rcases hs3 g ho with h1|h1
  ·have:=ho0 g h1;omega
  ·omega⟩
 have H1:=H.widen (S':=S1) (fun k hk=>.inl hk) hS1o N1 (fun _ h=>h) (some (w.heap.size+1));refine roundIn_of_wpIn trivial ?_;have r1:St.rel ⟨W,S1,N1,some (w.heap.size+1)⟩ ⟨IN t ps.toList es,hk⟩ {tmps:=(ps.toList.zip vs).foldl (fun t p=>t.setIfInBounds p.1 p.2) tmps,defers:=[]} W:=by
  refine⟨hm.symm,S1,ψk,H1,Iw _ _ _ _ _ ?_ ?_⟩
  ·exact Bi _ _ hes (Ay (Ext.grow [] ψ0 (fun _ _=>rfl) fun k hk=>.inr hk) _ _ hev)
  ·exact Bi _ _ ht (Ay (Ext.grow [] ψ0 hsame fun k hk=>.inl (hs1 k hk)) _ _ htr)
 refine wpIn_mono (RE (hA ⟨W,S1,N1,some (w.heap.size+1)⟩ rfl _ _ r1)) ?_;rintro e a1 Wa ⟨s1,q1,hd1,Sa,ψa,Ha,hla⟩;cases e with
 |normal=>
  have hka:=Ha.bel;have hla1:Wa.heap[w.heap.size+1]? =some (.loop (rec_ .ready)):=(hka.block _ (hlD _ (.inr rfl))).trans hl;have hDa:Wa.heap[w.heap.size]? =some (.deferred (some [])):=(hka.block _ (hlD _ (.inl rfl))).trans hD;have hSa2:∀g,Sa g→S1 g∨W.heap.size≤g:=Ha.new;have hoa:∀g,owns s1.h ψa g→owns hk ψk g∨W.heap.size≤g:=fun g hg=>by
   by_cases hgW:g < W.heap.size
   ·have h1:=(Ha.own_lt hg).1;exact .inl (Classical.not_not.1 fun h2=>h1 ⟨hgW,h2⟩)
   ·right;omega
  have hneS:∀g,Sa g→g≠w.heap.size+1:=fun g hg=>by
   rcases hSa2 g hg with h1|h1
   ·rcases hS1n g h1 with h2|h2
    ·have:=hS0 g h2;omega
    ·omega
   ·omega
  have hneO:∀g,owns s1.h ψa g→g≠w.heap.size+1:=fun g hg=>by
   rcases hoa g hg with h1|h1
   ·rcases hs3 g h1 with h2|h2
    ·have:=ho0 g h2;omega
    ·omega
   ·omega
  refine⟨_,run_beginRound hla1 hrst,?_⟩;rw[hst];obtain⟨W2,hW2⟩:∃W2,W2=Wa.putObj (w.heap.size+1) (.loop (rec_ .busy)):=⟨_,rfl⟩
  rw[←hW2];have hot:∀g,g≠w.heap.size+1→W2.heap[g]? =Wa.heap[g]?:=fun g hg=>by rw[hW2];exact World.putObj_heap_other hg
  have hsz2:W2.heap.size=Wa.heap.size:=by rw[hW2];simp
  let N2:Nat→Prop:=fun g=>g < W2.heap.size∧¬owns s1.h ψa g
  have H2:=Ha.re (W':=W2) (fun k hk=>hot k (hneS k hk)) (fun k hk=>hot k (hneO k hk)) N2 (fun _ h=>h) (some (w.heap.size+1));have hla2:W2.heap[w.heap.size+1]? =some (.loop (rec_ .busy)):=by rw[hW2];exact World.putObj_heap_same (Array.getElem?_eq_some_iff.1 hla1).1
  have hWa:W.heap.size≤Wa.heap.size:=hka.size;have hN12:∀g,N1 g→N2 g:=fun g hg=>⟨by have:=hg.1;omega,fun ho=>by
   rcases hoa g ho with h1|h1
   ·exact hg.2 h1
   ·have:=hg.1;omega⟩
  have r2:St.rel ⟨W2,Sa,N2,some (w.heap.size+1)⟩ s1 a1 W2:=⟨hd1,Sa,ψa,H2,Ay (Ext.grow s1.h ψa (fun k hk=>hot k (hneS k hk)) fun _ h=>h) _ _ hla⟩
  refine wpIn_mono (RE (q1 ⟨W2,Sa,N2,some (w.heap.size+1)⟩ rfl _ _ r2)) ?_;rintro e a3 W3 ⟨s2,⟨rfl,jj,hdr⟩,hd2,S3,ψ3,H3,hl3⟩;have hk3:=H3.bel;have hl31:W3.heap[w.heap.size+1]? =some (.loop (rec_ .busy)):=(hk3.block _ (hN12 _ (hlD _ (.inr rfl)))).trans hla2;have hD3:W3.heap[w.heap.size]? =some (.deferred (some [])):=(hk3.block _ (hN12 _ (hlD _ (.inl rfl)))).trans ((hot _ (by omega)).trans hDa);have H4:=H3.cut hdr.cut hdr.bd;have hk3s:W2.heap.size≤W3.heap.size:=hk3.size;have hS3:∀g,S3 g→S1 g∨W.heap.size≤g:=fun g hg=>by
   rcases H3.new g hg with h1|h1
   ·exact hSa2 g h1
   ·right;have:W2.heap.size≤g:=h1;omega
  have ho3:∀g,owns (hk1 jj) ψ3 g→owns hk ψk g∨W.heap.size≤g:=fun g hg=>by
   by_cases hgW:g < W2.heap.size
   ·have h1:=(H3.own_lt (Ps hdr.cut hg)).1;have:owns s1.h ψa g:=Classical.not_not.1 fun h2=>h1 ⟨hgW,h2⟩
    exact hoa g this
   ·right;omega
  have hS3n:∀g,S3 g→S g∨w.heap.size+2≤g:=fun g hg=>by
   rcases hS3 g hg with h1|h1
   ·exact hS1n g h1
   ·right;omega
  have ho3n:∀g,owns (hk1 jj) ψ3 g→own0 g∨w.heap.size+2≤g:=fun g hg=>by
   rcases ho3 g hg with h1|h1
   ·exact hs3 g h1
   ·right;omega
  have hneS3:∀g,S3 g→g≠w.heap.size+1:=fun g hg=>by
   rcases hS3n g hg with h2|h2
   ·have:=hS0 g h2;omega
   ·omega
  have hneO3:∀g,owns (hk1 jj) ψ3 g→g≠w.heap.size+1:=fun g hg=>by
   rcases ho3n g hg with h2|h2
   ·have:=ho0 g h2;omega
   ·omega
  have hr:=run_endRound (P:=P) none hl31;have hrec:({rec_ .busy with state:=.ready,pending:=none}:Loop)=rec_ .ready:=by rw[←hst .busy .ready,←hpe .busy]
  rw[show(if(none:Option Code).isNone=true then LoopState.ready else LoopState.done)= .ready from rfl,hrec]at hr;obtain⟨W4,hW4⟩:∃W4,W4=W3.putObj (w.heap.size+1) (.loop (rec_ .ready)):=⟨_,rfl⟩
  rw[←hW4]at hr;have hot4:∀g,g≠w.heap.size+1→W4.heap[g]? =W3.heap[g]?:=fun g hg=>by rw[hW4];exact World.putObj_heap_other hg
  have hsz4:W4.heap.size=W3.heap.size:=by rw[hW4];simp
  have hN1:∀g,N1 g→g≠w.heap.size+1→W4.heap[g]? =W.heap[g]?:=fun g hg hne=>by
   rw[hot4 g hne,hk3.block g (hN12 g hg)];show W2.heap[g]? =W.heap[g]?;rw[hot g hne];exact hka.block g hg
  refine⟨_,_,hr,rfl,⟨?_,?_,?_,by omega,fun g hg hno=>?_⟩,(jj,S3,ψ3,fun g=>S3 g∧¬SI g),rfl,?_,fun g hg=>?_⟩
  ·rw[hW4];show W3.os=W.os;rw[hk3.os];show W2.os=W.os;rw[hW2];exact hka.os
  ·rw[hW4];show W3.tape=W.tape;rw[hk3.tape];show W2.tape=W.tape;rw[hW2];exact hka.tape
  ·rw[hW4];show W3.output=W.output;rw[hk3.output];show W2.output=W.output;rw[hW2];exact hka.output
  ·exact hN1 g ⟨hg,fun ho=>hno (.inr (.inr (.inl ho)))⟩ fun e=>hno (.inr (.inl e))
  ·refine⟨by rw[hW4];exact World.putObj_heap_same (Array.getElem?_eq_some_iff.1 hl31).1,(hot4 _ (by omega)).trans hD3,by omega,fun g hg=>?_,?_,fun g hg=>H3.sub g (Ha.sub g (.inl (hs1 g hg))),hS3n,ho3n,fun g hg=>?_⟩
   ·have hlt:=hS0 g hg;exact(hN1 g ⟨by omega,fun ho=>(H.own_lt ho).2.2 (hs1 g hg)⟩ (by omega)).trans (hsame g hg)
   ·exact H4.re (fun k hk=>hot4 k (hneS3 k hk)) (fun k hk=>hot4 k (hneO3 k hk)) _ (fun _ h=>h.elim) none
   ·show(S3 g∧¬SI g)∨SI g;by_cases h1:SI g
    ·exact .inr h1
    ·exact .inl ⟨hg,h1⟩
  ·have hg:g=w.heap.size∨g=w.heap.size+1∨owns (hk1 jj) ψ3 g∨(S3 g∧¬SI g):=hg;rcases hg with hg|hg|hg|hg
   ·exact⟨.inl (.inl hg),by omega⟩
   ·exact⟨.inl (.inr (.inl hg)),by omega⟩
   ·refine⟨?_,by rw[hsz4];exact(H4.own_lt hg).2.1⟩;rcases ho3 g hg with h1|h1
    ·exact .inl (.inr (.inr (.inl h1)))
    ·exact .inr h1
   ·refine⟨?_,by rw[hsz4];exact H4.lt g hg.1⟩;rcases hS3 g hg.1 with h1|h1
    ·rcases h1 with h1|h1
     ·rcases hcov g h1 with h2|h2
      ·exact .inl (.inr (.inr (.inr h2)))
      ·exact absurd h2 hg.2
     ·exact absurd h1 hg.2
    ·exact .inr h1
 |_=>exact q1.elim
section
variable{P:Program}
theorem Xq{C:Ctx}{g:Operand}{ps:Array Tmp}{assign body:Code}{Q:Exit→St→Prop}{t:List AV}{h:List ABlk}{gf:FuncId}{lb:List Value}{RB:Res}{ds:List Nat}{κ:Type}{st:κ→List AV→κ→Prop}{k0:κ}{fin:κ→Prop}{J:Type}(i im:Nat)(σ:κ→J→List ABlk)(j0:J)
 (hrd:C.rd=none) (hg:evA t g= .lit (.func (.func gf) #[] lb.toArray)) (hne:i≠im) (hi:h[i]? =some (.res RB)) (hmi:h[im]? =some (.res (BR ds))) (hmk:mkD h=ds.map HW)
 (h0:Drops h (σ k0 j0)) (h0i:(σ k0 j0)[i]? =some .dead) (hσm:∀k j,(σ k j)[im]? =some .dead) (hmσ:∀k j,mkD (σ k j)= []) (ht:Bt t=true) (hes:∀k es k',st k es k'→Bt es=true∧es.length=ps.size)
 (hit:Agg P gf lb RB st k0 fin)
 (hround:∀k j es k',st k es k'→∀C':Ctx,C'.rd.isSome=true→Awp P C' assign (IH (Of P body (σ k')) (fun _ _=>False)) ⟨IN t ps.toList es,σ k j⟩)
 (hdone:∀kN,fin kN→∀j D,Q .normal ⟨t,(σ kN j).set im (.res (BR (D::ds)))⟩):Awp P C (.rangeFunc g ps assign body) Q ⟨t,h⟩:=fun a w ⟨hd,S,ψ,H,hl⟩=>by
 rw[hrd];show(Code.rangeFunc g ps assign body).wpIn Fence.wide 4 P _ a w;have H0:=H.cut h0.cut h0.bd;have hBi:=H.blk i _ hi;have hBm:=H.blk im _ hmi;have hgv:=BJ hl g;rw[hg]at hgv;unfold AV.rel at hgv;have hlit:Ah w S [] ψ0 t a.tmps.toList:=Bi _ _ ht hl;obtain⟨own0,hown0⟩:∃o,o=owns (σ k0 j0) ψ:=⟨_,rfl⟩
 have ho0:∀g,own0 g→g < w.heap.size:=fun g hg=>by rw[hown0]at hg;exact(H0.own_lt hg).2.1
 have hdead:∀(j:Nat) (R':Res),h[j]? =some (.res R')→(σ k0 j0)[j]? =some .dead→∀g,R'.F g→¬own0 g:=fun j R' hj hjd g hF ho=>by
  rw[hown0]at ho;obtain⟨j',h1,h2⟩:=ho;have hne:j'≠j:=fun e=>by subst e;rw[hjd]at h1;cases h1
  rw[h0.cut.same h1]at h2;exact H.dis j' j hne (h0.cut.live h1) (by rw[hj];rfl) g h2 (by rw[hj];exact hF)
 have hSo:∀g,S g→¬own0 g:=fun g hg ho=>by rw[hown0]at ho;exact(H0.own_lt ho).2.2 hg
 have hRlt:∀g,RB.F g→g < w.heap.size:=fun g hg=>(hBi.1 g hg).2.2
 refine wpIn_rangeFunc fun fn _=>?_
 obtain⟨rec_,hrec⟩:∃rec_:LoopState→Loop,rec_=fun st=>{state:=st,pending:=none,fn,tmps:=a.tmps,params:=ps,assign,body,defers:=w.heap.size}:=⟨_,rfl⟩
 have hst:∀x y,({rec_ x with state:=y}:Loop)=rec_ y:=fun x y=>by rw[hrec]
 have hrst:(rec_ .ready).state= .ready:=by rw[hrec]
 have hpe:∀x,(rec_ x).pending=none:=fun x=>by rw[hrec]
 obtain⟨W1,hW1⟩:∃W1,W1=(w.alloc (.deferred (some []))).alloc (.loop (rec_ .ready)):=⟨_,rfl⟩
 have hW1s:W1.heap.size=w.heap.size+2:=by rw[hW1];simp
 have hL1:W1.heap[w.heap.size+1]? =some (.loop (rec_ .ready)):=by
  rw[hW1];have:=heap_alloc_new (w.alloc (.deferred (some []))) (.loop (rec_ .ready));rwa [World.size_alloc]at this
 have hD1:W1.heap[w.heap.size]? =some (.deferred (some [])):=by
  rw[hW1];exact(Below.heap_alloc _ _ _ (by simp)).trans (heap_alloc_new w _)
 have hb1:Below w.heap.size w W1:=by rw[hW1];exact((Below.refl _ w).alloc (Nat.le_refl _) _).alloc (by simp) _
 have hJ0:BetY S own0 w (rec_ .ready) (σ k0 j0) S ψ (fun _=>False) W1 S:=by
  refine⟨hL1,hD1,by omega,fun g hg=>hb1.block g (H.lt g hg),?_,fun _ h=>h,fun _ h=>.inl h,fun g hg=>.inl (by rw[hown0];exact hg),fun _ h=>.inr h⟩;exact H0.re (fun k hk=>hb1.block k (H.lt k hk)) (fun k hk=>hb1.block k (H0.own_lt hk).2.1) _ (fun _ h=>h.elim) none
 refine⟨w.heap.size+1,[HW w.heap.size],W1,{target:=.fn (.func gf) lb.toArray,args:=#[.func (.yield (w.heap.size+1)) #[] #[]]},W1,gf,#[.func (.yield (w.heap.size+1)) #[] #[]]++lb.toArray,W1,?_,?_,fun _ _=>trivial,?_,fun _=>by omega,?_⟩
 ·rw[hW1,hrec];exact run_enterLoop_outer _ _ _ _ _
 ·simp only[resolve,hgv];simp[go_sem]
 ·simp[invoke,go_sem,Jm hit.1]
 ·have key:=hit.2 W1 S (J×Agi) (w.heap.size+1) (fun k p=>Ajx S own0 w (rec_ .ready) (σ k p.1) p.2) (fun _ _=>rfl) ?_ (j0,S,ψ,fun _=>False) (fun k hk=>⟨by have:=H.lt k hk;omega,?_,fun hf=>(hBi.1 k hf).2.1 hk⟩) (fun g hg=>?_) (fun g hg=>by have:=hRlt g hg;omega) hJ0 (RB.keep hBi.2 (fun k hk=>hb1.block k (hRlt k hk)) (fun k hk=>hb1.block k (H.lt k hk)) fun _ h=>h)
  ·refine key.mono ?_;rintro e W' ⟨⟨v,rfl⟩,hgr,kN,q,S',hfN,hSS,hJ,hS'lt,hS'new,hFq⟩;have hJ:BetY S own0 w (rec_ .ready) (σ kN q.1) q.2.1 q.2.2.1 q.2.2.2 W' S':=hJ;have hend:=run_endLoop (P:=P) hJ.loop (by rw[hrst];simp);rw[hpe]at hend;refine⟨none,_,hend,⟨t,(σ kN q.1).set im (.res (BR (w.heap.size::ds)))⟩,hdone kN hfN q.1 _,?_⟩;obtain⟨hlp,hdf,hsz,hsame,Hk,hs1,hs2,hs3,_⟩:=hJ;suffices key:∀(W5:World) (ob:Obj),W5=W'.putObj (w.heap.size+1) ob→St.rel C ⟨t,(σ kN q.1).set im (.res (BR (w.heap.size::ds)))⟩ {a with defers:=[HW w.heap.size]++a.defers} W5 from key _ _ rfl
   intro W5 ob hW5;have hot:∀g,g≠w.heap.size+1→W5.heap[g]? =W'.heap[g]?:=fun g hg=>by rw[hW5];exact World.putObj_heap_other hg
   have hsz5:W5.heap.size=W'.heap.size:=by rw[hW5];simp
   have hSne:∀g,q.2.1 g→g≠w.heap.size+1:=fun g hg=>by
    rcases hs2 g hg with h1|h1
    ·have:=H.lt g h1;omega
    ·omega
   have hOne:∀g,owns (σ kN q.1) q.2.2.1 g→g≠w.heap.size+1:=fun g hg=>by
    rcases hs3 g hg with h1|h1
    ·have:=ho0 g h1;omega
    ·omega
   have hkeep:∀g,g < w.heap.size→¬own0 g→¬RB.F g→W5.heap[g]? =w.heap[g]?:=fun g h1 h2 h3=>by
    rw[hot g (by omega),hgr.block g (by omega) ?_,hb1.block g h1];rintro(h4|h4)
    ·have h4:g=w.heap.size∨g=w.heap.size+1∨owns (σ k0 j0) ψ g∨False:=h4;rcases h4 with h4|h4|h4|h4
     ·omega
     ·omega
     ·exact h2 (by rw[hown0];exact h4)
     ·exact h4
    ·exact h3 h4
   have hH5:=Hk.re (W':=W5) (fun k hk=>hot k (hSne k hk)) (fun k hk=>hot k (hOne k hk)) (fun _=>False) (fun _ h=>h.elim) none;have hkp5:Kp C.N w W5:=⟨by rw[hW5];exact hgr.os.trans hb1.os,by rw[hW5];exact hgr.tape.trans hb1.tape,by rw[hW5];exact hgr.output.trans hb1.output,by omega,fun k hk=>hkeep k (Nat.lt_of_lt_of_le (H.nlt k hk) H.bel.size) (fun ho=>by rw[hown0]at ho;exact(H0.own_lt ho).1 hk) fun hf=>(hBi.1 k hf).1 hk⟩
   have hH6:HRel C (σ kN q.1) q.2.1 q.2.2.1 W5:=hH5.to (H.bel.trans hkp5) H.nlt (fun k hk=>hs1 k (H.sub k hk)) (fun k hk=>by
    rcases hs2 k hk with h1|h1
    ·exact H.new k h1
    ·right;have:=H.bel.size;omega) fun g hg hn=>by
     rcases hs3 g hg with h1|h1
     ·rw[hown0]at h1;exact(H0.own_lt h1).1 hn
     ·have:=H.nlt g hn;have:=H.bel.size;omega
   have hdP:∀g,g∈ds→¬own0 g:=fun g hg=>hdead im _ hmi (hσm k0 j0) g hg
   have hdB:∀g,g∈ds→¬RB.F g:=fun g hg hf=>H.dis i im hne (by rw[hi];rfl) (by rw[hmi];rfl) g (by rw[hi];exact hf) (by rw[hmi];exact hg)
   refine⟨?_,q.2.1,q.2.2.1,hH6.rise (hσm kN q.1) ⟨List.nodup_cons.2 ⟨fun hm=>by have:=(hBm.1 _ hm).2.2;omega,hBm.2.1⟩,fun d hd=>?_⟩ fun g hg=>?_,?_⟩
   ·show [HW w.heap.size]++a.defers=mkD ((σ kN q.1).set im _);rw[PB (hσm kN q.1) (hmσ kN q.1),hd,hmk];rfl
   ·rcases List.mem_cons.1 hd with rfl|hd
    ·exact(hot _ (by omega)).trans hdf
    ·exact(hkeep d (hBm.1 d hd).2.2 (hdP d hd) (hdB d hd)).trans (hBm.2.2 d hd)
   ·rcases List.mem_cons.1 hg with rfl|hg
    ·refine⟨fun hn=>by have:=H.nlt _ hn;have:=H.bel.size;omega,fun hs=>?_,by omega,fun ho=>?_⟩
     ·rcases hs2 _ hs with h1|h1
      ·have:=H.lt _ h1;omega
      ·omega
     ·rcases hs3 _ ho with h1|h1
      ·have:=ho0 _ h1;omega
      ·omega
    ·have hlt:=(hBm.1 g hg).2.2;refine⟨(hBm.1 g hg).1,fun hs=>?_,by omega,fun ho=>?_⟩
     ·rcases hs2 _ hs with h1|h1
      ·exact(hBm.1 g hg).2.1 h1
      ·omega
     ·rcases hs3 _ ho with h1|h1
      ·exact hdP g hg h1
      ·omega
   ·exact Bi _ _ ht (Ay (Ext.grow [] ψ0 (fun k hk=>(hot k (by have:=H.lt k hk;omega)).trans (hsame k hk)) hs1) _ _ hlit)
  ·intro k es k' hkN p W SI vs hI1 hI2 hI3 hFlt hB hev;have hB:BetY S own0 w (rec_ .ready) (σ k p.1) p.2.1 p.2.2.1 p.2.2.2 W SI:=hB;have hvl:vs.length=ps.size:=by rw[By hev,(hes k es k' hkN).2]
   have hy:=run_yield (P:=P) (args:=vs.toArray) hB.loop (by rw[hrec];simpa using hvl);have hR:=Yk (P:=P) (fn:=fn) (ps:=ps) (tmps:=a.tmps) (body:=body) (p:=p.2) hst hrst hpe ho0 H.lt ht (hes k es k' hkN).1 hlit hev (hmσ k p.1) hI1 (fun g hg=>by have:=hI2 g hg;rw[hW1s]at this;exact this) hI3 hB (hround k p.1 es k' hkN);have e1:((rec_ .ready).params.zip vs.toArray).foldl (fun tmps (t,a)=>tmps.setIfInBounds t a) (rec_ .ready).tmps=(ps.toList.zip vs).foldl (fun t p=>t.setIfInBounds p.1 p.2) a.tmps:=by
    rw[hrec,←Array.foldl_toList,Array.toList_zip]
   rw[e1]at hy;rw[show(rec_ .ready).fn=fn by rw[hrec],show(rec_ .ready).assign=assign by rw[hrec],show(rec_ .ready).body=body by rw[hrec]]at hy;exact⟨fn,_,assign,body,hy,hR⟩
  ·intro hf;have hf:k=w.heap.size∨k=w.heap.size+1∨owns (σ k0 j0) ψ k∨False:=hf;have:=H.lt k hk;rcases hf with hf|hf|hf|hf
   ·omega
   ·omega
   ·exact hSo k hk (by rw[hown0];exact hf)
   ·exact hf
  ·have hg:g=w.heap.size∨g=w.heap.size+1∨owns (σ k0 j0) ψ g∨False:=hg;rcases hg with hg|hg|hg|hg
   ·exact⟨by omega,fun hf=>by have:=hRlt g hf;omega⟩
   ·exact⟨by omega,fun hf=>by have:=hRlt g hf;omega⟩
   ·exact⟨by have:=(H0.own_lt hg).2.1;omega,fun hf=>hdead i _ hi h0i g hf (by rw[hown0];exact hg)⟩
   ·exact hg.elim
end
section
variable{C:Ctx}{t:List AV}{h:List ABlk}
theorem Ud{i:Nat}{R R1 R2:Res}(hi:h[i]? =some (.res R))(h0:R.mrk= [])(h1:R1.mrk= [])(h2:R2.mrk= [])(hF:∀g,R1.F g∨R2.F g→R.F g)
 (hR:∀w S,R.R w S→R1.R w S∧R2.R w S∧∀g,R1.F g→¬R2.F g):St.le C ⟨t,h⟩ ⟨t,h.set i (.res R1)++[.res R2]⟩:=fun a w ⟨hd,S,ψ,H,hl⟩=>by
 have hB:=H.blk i _ hi;have hil:=(List.getElem?_eq_some_iff.1 hi).1;obtain⟨r1,r2,hdis⟩:=hR w S hB.2;have hget:∀k b,(h.set i (.res R1)++[.res R2])[k]? =some b→(k=i∧b= .res R1)∨(k=h.length∧b= .res R2)∨(k≠i∧k≠h.length∧h[k]? =some b):=fun k b hb=>by
  by_cases hkl:k < h.length
  ·rw[List.getElem?_append_left (by simpa using hkl)]at hb;by_cases hki:k=i
   ·subst hki;rw[List.getElem?_set_self hil]at hb;cases hb;exact .inl ⟨rfl,rfl⟩
   ·rw[List.getElem?_set_ne (Ne.symm hki)]at hb;exact .inr (.inr ⟨hki,by omega,hb⟩)
  ·rw[List.getElem?_append_right (by simpa using hkl)]at hb;have:k - (h.set i (ABlk.res R1)).length=0:=by
    rcases Nat.eq_zero_or_pos (k - (h.set i (ABlk.res R1)).length)with e|e
    ·exact e
    ·rw[List.getElem?_eq_none (show 1≤_ from e)]at hb;cases hb
   rw[this]at hb;cases hb;simp only[List.length_set]at this;exact .inr (.inl ⟨by omega,rfl⟩)
 have X:Ext w S h ψ w S (h.set i (.res R1)++[.res R2]) ψ:=by
  refine⟨fun _ _=>rfl,fun _ h=>h,by simp,fun k c' hk hv=>?_,fun k hk hv=>?_⟩
  ·rw[List.getElem?_append_left (by simpa using hk)]at hv⊢;by_cases hki:k=i
   ·subst hki;rw[List.getElem?_set_self hil]at hv;simp[ABlk.ver]at hv
   ·rw[List.getElem?_set_ne (Ne.symm hki)]at hv⊢;exact⟨c',hv,Nat.le_refl _,fun _=>⟨rfl,rfl⟩⟩
  ·rw[List.getElem?_append_left (by simpa using hk)]at hv;by_cases hki:k=i
   ·subst hki;rw[List.getElem?_set_self hil]at hv;simp[Bj]at hv
   ·rw[List.getElem?_set_ne (Ne.symm hki)]at hv;exact⟨hv,rfl⟩
 refine⟨?_,S,ψ,⟨H.bel,H.nlt,H.lt,H.sub,H.new,fun k b hb=>?_,fun k q hkq hk hq g g1 g2=>?_⟩,Ay X _ _ hl⟩
 ·rw[hd];show mkD h=_;rw[FW,Dc hi (by show R1.mrk.map HW=R.mrk.map HW;rw[h0,h1])];show _=R2.mrk.map HW++_;rw[h2];rfl
 ·rcases hget k b hb with⟨rfl,rfl⟩|⟨rfl,rfl⟩|⟨_,_,hb⟩
  ·exact⟨fun g hg=>hB.1 g (hF g (.inl hg)),r1⟩
  ·exact⟨fun g hg=>hB.1 g (hF g (.inr hg)),r2⟩
  ·exact(H.blk k b hb).keep X fun g _=>⟨rfl,fun h=>h⟩
 ·have key:∀k,ABlk.live (h.set i (.res R1)++[.res R2])[k]? =true→ftp (h.set i (.res R1)++[.res R2])[k]? (ψ k) g→(k=i∧R1.F g)∨(k=h.length∧R2.F g)∨(k≠i∧k≠h.length∧ABlk.live h[k]? =true∧ftp h[k]? (ψ k) g):=fun k k1 k2=>by
   obtain⟨b,hb⟩:=Dq k1;rw[hb]at k1 k2;rcases hget k b hb with⟨rfl,rfl⟩|⟨rfl,rfl⟩|⟨q1,q2,hb'⟩
   ·exact .inl ⟨rfl,k2⟩
   ·exact .inr (.inl ⟨rfl,k2⟩)
   ·exact .inr (.inr ⟨q1,q2,by rw[hb'];exact k1,by rw[hb'];exact k2⟩)
  have no:∀k,k≠i→ABlk.live h[k]? =true→ftp h[k]? (ψ k) g→(R1.F g∨R2.F g)→False:=fun k q1 q3 q4 q5=>
   H.dis k i q1 q3 (by rw[hi];rfl) g q4 (by rw[hi];exact hF g q5)
  rcases key k hk g1 with⟨e1,f1⟩|⟨e1,f1⟩|⟨a1,a2,a3,a4⟩ <;> rcases key q hq g2 with⟨e2,f2⟩|⟨e2,f2⟩|⟨b1,b2,b3,b4⟩
  ·exact hkq (e1.trans e2.symm)
  ·exact hdis g f1 f2
  ·exact no q b1 b3 b4 (.inl f1)
  ·exact hdis g f2 f1
  ·exact hkq (e1.trans e2.symm)
  ·exact no q b1 b3 b4 (.inr f1)
  ·exact no k a1 a3 a4 (.inl f2)
  ·exact no k a1 a3 a4 (.inr f2)
  ·exact H.dis k q hkq a3 b3 g a4 b4
end
section
variable{P:Program}{C:Ctx}{t:List AV}{h:List ABlk}{o:Oper}{K:St→Prop}
theorem Un{ty:TypeId}{x y:Operand}{i:Nat}{v:Value}{e:TypeId}{bytes:Nat}{α:Type}{T:Ty α}{l l2:List α}(ho:o.op= .call {callee:=.builtin .append,args:=#[x,y],argTypes:=#[ty,ty]})(hT:Pc P ty=some (e,T.size,bytes))
 (hx:evA t x= .lit v) (hi:h[i]? =some (.res (rowR v e T l))) (hy:evA t y= .bs T l2) (h1T:SM T) (hlen:l.length+l2.length≤maxLen) (hbytes:(l.length+l2.length) * bytes≤140737488355328)
 (hK:∀v',K ⟨BH t o.dst (.lit v'),h.set i (.res (rowR v' e T (l++l2)))⟩):AOp P C o ⟨t,h⟩ K:=by
 refine AOp.turn (ι:=Value) (Rs:=fun v'=>rowR v' e T (l++l2)) (val:=fun v'=>v') hi (fun _=>rfl) (fun S ψ w ρ H hRw hlt hρ=>?_) hK;have hx':=hρ x (by rw[ho];exact Array.mem_append.2 (.inr (by simp)));have hy':=hρ y (by rw[ho];exact Array.mem_append.2 (.inr (by simp)));rw[hx]at hx';rw[hy]at hy';unfold AV.rel at hx' hy';have hdisS:∀k,S k→¬(rowR v e T l).F k:=fun k hk hf=>((H.blk i _ hi).1 k hf).2.1 hk
 obtain⟨cells,hown,h0,hR⟩:=hRw;obtain⟨h1,ti,z,h2,h3,h4,h5,h6⟩:=DZ hT;obtain⟨A,c,hyv⟩:=Cs hy';rw[hyv]at hy';obtain⟨news,hnl,hsrc,hnR,hn1⟩:=Qz hy' fun cs d hcs=>h1T _ _ _ _ hcs
 obtain⟨v',w',hrun,hown',hgr,hb'⟩:=UB (P:=P) (ty:=o.type) (t:=ty) (c:=c) h1 h2 h3 h4 h5 h6 h0 hown (hsrc w fun _ _=>rfl) hn1 hlen hbytes (Nat.zero_le _);have he:(execOp ρ o).run P w= .ok (.value v') w':=by
  unfold execOp;simp only[ho,resolve,invoke,builtin,Sem.run_bind,Sem.run_pure,Result.andThen_ok,List.map_toArray,List.map_cons,List.map_nil,hx',hyv,hrun]
 rw[he];have hbv:∀g,BY v'=some g→v'.ownBlock=some g:=fun g hg=>by
  rcases hown'.2 with⟨e1,_⟩|⟨g',cap,cur,e1,_⟩
  ·rw[e1]at hg;simp[BY]at hg
  ·rw[e1]at hg⊢;simpa[BY,Value.ownBlock]using hg
 have hbψ:v.ownBlock=BY v:=by
  rcases hown.2 with⟨e1,_⟩|⟨g',cap,cur,e1,_⟩ <;> rw[e1] <;> rfl
 rw[hbψ]at hgr hb';have hblk:∀k,S k→w'.heap[k]? =w.heap[k]?:=fun k hk=>hgr.block k (H.lt k hk) fun e=>hdisS k hk e.symm
 refine⟨Gr.of_grownBy hgr,v',rfl,⟨cells++news,by rw[List.length_append];exact hown',h0,fun j d hj=>?_⟩,fun g hg=>⟨?_,(World.ownsRow.lt hown' g (hbv g hg)).2⟩⟩
 ·by_cases hjl:j < l.length
  ·rw[List.getElem?_append_left hjl]at hj;rw[Ru hown.1 hjl];exact T.keepS (hR j d hj) hblk fun _ h=>h
  ·rw[List.getElem?_append_right (by omega)]at hj;obtain⟨m,rfl⟩:∃m,j=l.length+m:=⟨j - l.length,by omega⟩
   rw[KN hown.1];exact T.keepS (hnR m d (by simpa using hj)) hblk fun _ h=>h
 ·have hg':=hbv g hg;rcases hb' with e1|e1
  ·left;rw[e1]at hg';exact hg'
  ·right;rw[e1]at hg';cases hg';exact Nat.le_refl _
theorem Xb(e:TypeId){α:Type}(T:Ty α)(h0:0 < T.size):St.le C ⟨t,h⟩ ⟨t,h++[.res (rowR (.slice none 0 0) e T [])]⟩:=fun a w ⟨hd,S,ψ,H,hl⟩=>by
 have X:Ext w S h ψ w S (h++[.res (rowR (.slice none 0 0) e T [])]) (Bo ψ h.length undef):=Ext.push _ _ fun _ _=>rfl
 have hB:Gm C.N w S (h++[.res (rowR (.slice none 0 0) e T [])]) (Bo ψ h.length undef) undef (.res (rowR (.slice none 0 0) e T [])):=
  ⟨fun g hg=>by have hg:BY (.slice none 0 0)=some g:=hg;simp[BY]at hg,[],World.ownsRow_nil _ _ _ _,h0,fun i d hi=>by simp at hi⟩
 exact⟨by rw[hd];show mkD h=mkD (h++[_]);rw[FW];rfl,S,_,H.push (Below.refl _ _) hB (fun g hg=>by have hg:BY (.slice none 0 0)=some g:=hg;simp[BY]at hg),Ay X _ _ hl⟩
end
end Mu
end
section
namespace Mu
open Go Go.RowKit Go.Proofs
section
variable{P:Program}{f:FuncId}{fn:Go.Func}{c:Code}{args:List AV}{ι:Type}{R:Res}{Rs:ι→Res}{val:ι→Value}{t:Tmp}{n:Nat}
theorem Vz{w:World}{S:Nat→Prop}{vs:List Value}(hm:R.mrk= [])(hSl:∀k,S k→k < w.heap.size∧¬R.F k)(hF:∀g,R.F g→g < w.heap.size)(hR:R.R w S)(hr:Ah w S [] ψ0 args vs):
 St.rel ⟨w,S,fun k=>k < w.heap.size∧¬R.F k,none⟩ ⟨args++List.replicate (n - args.length) (.lit undef),[.res R]⟩ {tmps:=vs.toArray++Array.replicate (n - vs.toArray.size) undef,defers:=[]} w:=by
 obtain⟨_,S1,ψ,_,hl⟩:=Dk (n:=n) (fun k hk=>(hSl k hk).1) hr;refine⟨by show []=mkD [.res R];simp[mkD,ABlk.mrk,hm],S,ψ0,⟨Kp.refl _ _,fun k hk=>hk.1,fun k hk=>(hSl k hk).1,fun _ h=>h,fun _ h=>.inl h,fun i b hi=>?_,fun i j hij hi hj=>?_⟩,?_⟩
 ·cases i with
  |zero=>
   simp only[List.getElem?_cons_zero,Option.some.injEq]at hi;subst hi;exact⟨fun g hg=>⟨fun hc=>hc.2 hg,fun hs=>(hSl g hs).2 hg,hF g hg⟩,hR⟩
  |succ i=>simp at hi
 ·cases i with
  |zero=>cases j with
   |zero=>exact absurd rfl hij
   |succ j=>simp[ABlk.live]at hj
  |succ i=>simp[ABlk.live]at hi
 ·simp only[Array.toList_append,Array.toList_replicate,List.size_toArray];have X:Ext w S [] ψ0 w S [.res R] ψ0:=⟨fun _ _=>rfl,fun _ h=>h,by simp,fun i c' hi=>by simp at hi,fun i hi=>by simp at hi⟩
  refine B1 (Ay X _ _ hr) (DS (by simp[By hr]) fun i x v hx hv=>?_);rw[List.getElem?_replicate]at hx hv;split at hx <;> cases hx
  split at hv <;> cases hv
  unfold AV.rel;rfl
theorem Uv{w:World}{S:Nat→Prop}{p:ι}{h':List ABlk}{i:Nat}{S1:Nat→Prop}{ψ:Nat→Value}{w':World}(hS:∀p w S S',(Rs p).R w S→(Rs p).R w S')(H:HRel ⟨w,S,fun k=>k < w.heap.size∧¬R.F k,none⟩ h' S1 ψ w')(hi:h'[i]? =some (.res (Rs p))):Turns w S R.F Rs val (val p) w':=by
 have hB:=H.blk i _ hi;refine⟨⟨H.bel.os,H.bel.tape,H.bel.output,H.bel.size,fun k hk hn=>H.bel.block k ⟨hk,hn⟩⟩,p,rfl,hS p _ _ _ hB.2,fun k hk=>?_⟩;obtain⟨k1,_,k3⟩:=hB.1 k hk;refine⟨?_,k3⟩;by_cases hc:R.F k
 ·exact .inl hc
 ·exact .inr (Nat.le_of_not_lt fun hlt=>k1 ⟨hlt,hc⟩)
def Ajh(R:Res)(Rs:ι→Res):Exit→St→Prop:=fun e s=>(e= .normal∨e= .ret)∧∃p,mkD s.h=R.mrk.map HW∧s.h[0]? =some (.res (Rs p))
theorem NZ(hf:P.funcs[f]? =some fn)(hb:fn.body=some c)(hE:B6 P f=true)(hres:fn.results= #[])(hn:fn.ntmps=n)
 (hm:R.mrk= []) (hS:∀p w S S',(Rs p).R w S→(Rs p).R w S')
 (h:∀C:Ctx,Awp P C c (Ajh R Rs) ⟨args++List.replicate (n - args.length) (.lit undef),[.res R]⟩):Hn P f R args Rs (fun _=>.tuple #[]):=by
 refine⟨hE,fun w S vs hSl hF hR hr=>calls_of_wp hf hb ?_⟩;rw[hn];refine wp_mono ((h ⟨w,S,fun k=>k < w.heap.size∧¬R.F k,none⟩).wp rfl (Vz hm hSl hF hR hr)) ?_;rintro x a' w' ⟨s,⟨hx,p,hmk,hi⟩,hd,S1,ψ,H,hl⟩;rw[hmk,hm]at hd;have hfin:∃v,Ending.returned (.tuple #[])= .returned v∧Turns w S R.F Rs (fun _=>.tuple #[]) v w':=⟨_,rfl,Uv (val:=fun _=>.tuple #[]) hS H hi⟩
 rcases hx with rfl|rfl
 ·exact⟨hd,_,results_none hres _ _ _,hfin⟩
 ·exact⟨hd,_,results_none hres _ _ _,hfin⟩
def Ajg(t:Tmp)(Rs:ι→Res)(val:ι→Value):Exit→St→Prop:=fun e s=>(e= .normal∨e= .ret)∧∃ds j p,s.h[0]? =some (.res (BR ds))∧mkD s.h=ds.map HW∧j≠0∧s.h[j]? =some (.res (Rs p))∧evA s.t (.tmp t)= .lit (val p)
theorem EE(hf:P.funcs[f]? =some fn)(hb:fn.body=some c)(hE:B6 P f=true)(hres:fn.results= #[.tmp t])(hn:fn.ntmps=n)
 (hm:R.mrk= []) (hS:∀p w S S',(Rs p).R w S→(Rs p).R w S')
 (h:∀C:Ctx,C.rd=none→Awp P C c (Ajg t Rs val) ⟨args++List.replicate (n - args.length) (.lit undef),[.res (BR []),.res R]⟩):Hn P f R args Rs val:=by
 refine⟨hE,fun w S vs hSl hF hR hr=>(callsIn_wide (n:=4)).1 (callsIn_of_wp_marks hf hb trivial ?_)⟩;rw[hn];have hst:St.rel ⟨w,S,fun k=>k < w.heap.size∧¬R.F k,none⟩ ⟨args++List.replicate (n - args.length) (.lit undef),[.res (BR []),.res R]⟩ {tmps:=vs.toArray++Array.replicate (n - vs.toArray.size) undef,defers:=[]} w:=by
  obtain⟨_,S1,ψ,_,hl⟩:=Dk (n:=n) (fun k hk=>(hSl k hk).1) hr;refine⟨by show []=mkD [.res (BR []),.res R];simp[mkD,ABlk.mrk,hm,BR],S,ψ0,⟨Kp.refl _ _,fun k hk=>hk.1,fun k hk=>(hSl k hk).1,fun _ h=>h,fun _ h=>.inl h,fun i b hi=>?_,fun i j hij hi hj=>?_⟩,?_⟩
  ·rcases i with _|_|i
   ·simp only[List.getElem?_cons_zero,Option.some.injEq]at hi;subst hi;exact⟨fun g hg=>(List.not_mem_nil hg).elim,show([]:List Nat).Nodup∧∀d∈([]:List Nat),w.heap[d]? =some (.deferred (some []))from⟨List.nodup_nil,fun d hd=>(List.not_mem_nil hd).elim⟩⟩
   ·simp only[List.getElem?_cons_succ,List.getElem?_cons_zero,Option.some.injEq]at hi;subst hi;exact⟨fun g hg=>⟨fun hc=>hc.2 hg,fun hs=>(hSl g hs).2 hg,hF g hg⟩,hR⟩
   ·simp at hi
  ·rcases i with _|_|i
   ·exact fun g h1=>(List.not_mem_nil h1).elim
   ·rcases j with _|_|j
    ·exact fun g _ h2=>(List.not_mem_nil h2).elim
    ·exact absurd rfl hij
    ·simp[ABlk.live]at hj
   ·simp[ABlk.live]at hi
  ·simp only[Array.toList_append,Array.toList_replicate,List.size_toArray];have X:Ext w S [] ψ0 w S [.res (BR []),.res R] ψ0:=⟨fun _ _=>rfl,fun _ h=>h,by simp,fun i c' hi=>by simp at hi,fun i hi=>by simp at hi⟩
   refine B1 (Ay X _ _ hr) (DS (by simp[By hr]) fun i x v hx hv=>?_);rw[List.getElem?_replicate]at hx hv;split at hx <;> cases hx
   split at hv <;> cases hv
   unfold AV.rel;rfl
 have hw:=h ⟨w,S,fun k=>k < w.heap.size∧¬R.F k,none⟩ rfl _ w hst;refine wpIn_mono hw ?_;rintro e a' w' ⟨s,⟨he,ds,j,p,h0,hmk,hj0,hj,hx⟩,hd,S1,ψ,H,hl⟩;have hv:=BJ hl (.tmp t);rw[hmk]at hd;have key:=L8 (P:=P) (C:=⟨w,S,fun k=>k < w.heap.size∧¬R.F k,none⟩) (fn:=fn) (tmps:=a'.tmps) (R:=fun e w'=>∃v,e= .returned v∧Turns w S R.F Rs val v w') (n:=4) (x:=evA s.t (.tmp t)) (v:=a'.eval (.tmp t)) (fun W=>results_tmp hres _ _ _) ds w' s.h S1 ψ (fun W S2 ψ2 h1 h2=>by
  rw[hx]at h2;unfold AV.rel at h2;refine⟨_,rfl,?_⟩;rw[h2];exact Uv (i:=j) hS h1 (by rw[List.getElem?_set_ne (Ne.symm hj0)];exact hj)) h0 H hv
 rcases he with rfl|rfl
 ·show LeavesInM Fence.wide 4 P fn a'.tmps _ a'.defers .returning w';rw[hd];exact key
 ·show LeavesInM Fence.wide 4 P fn a'.tmps _ a'.defers .returning w';rw[hd];exact key
end
end Mu
end
section
namespace Mu
open Go Go.RowKit Go.Proofs Go.Maps
def MR(p:Pair→Bool)(a:Int)(b:Int):M (Pair→Bool):=M.cnd (!(((if b < a then b else a) ==(if b > a then b else a))&&(((if b > a then b else a) ==(if b < a then b else a))&&true))) (M.chk (BA ⟨(if b < a then b else a),(if b > a then b else a)⟩) (M.ok (Ac8 p ⟨(if b < a then b else a),(if b > a then b else a)⟩))) (M.ok p)
theorem To{p:Pair→Bool}{a:Int}{b:Int}{m:Nat}{r:Pair→Bool}{L:List Pair}(hL:∀x,okPair x→p x=true→x∈L)(hl:L.length < maxLen)(H:(MR p a b).to r):Hn Tryz.prog 145 (EI p m) [.lit (.map (some m)),.lit (.int .i64 a),.lit (.int .i64 b)] (fun _:Unit=>EI r m) (fun _=>.tuple #[]):=by
 delta MR at H;try dsimp only at H
 refine NZ Tryz.func145 rfl (by kernel_rfl) rfl Tryz.ntmps145 rfl (fun _ _ _ _ h=>h) fun C=>?_
 refine nS ?_;refine wS (sT (sT ?_));refine sA (hq:=AX.min2 rfl NO (AO Oy)) (ht:=(AA LN)) ?_;refine sT (sT ?_);refine sA (hq:=AX.max2 rfl (AO PJ) (AO Kw)) (ht:=(AA O7)) ?_;refine sA (hq:=AK (rs:=[.lit (.int .i64 (if b < a then b else a)),.lit (.int .i64 (if b > a then b else a))]) rfl CA rfl rfl) (ht:=(AA S6)) ?_;refine sA0 ?_;refine sW ?_;refine wN ?_;refine wS (sT (sT (sT (sT (sT ?_)))));refine sA (hq:=AK (rs:=[.lit (.int .i64 (if b > a then b else a)),.lit (.int .i64 (if b < a then b else a))]) rfl CA rfl rfl) (ht:=(AA (AA Ob))) ?_;refine sA (hq:=Ju (bs:=[true,true]) (vs:=[(.int .i64 (if b < a then b else a)),(.int .i64 (if b > a then b else a))]) (ws:=[(.int .i64 (if b > a then b else a)),(.int .i64 (if b < a then b else a))]) (by kernel_rfl) rfl (AO Qd) (AO (AO Kw)) rfl) (ht:=(AA (AA O7))) ?_;refine wN ?_;refine Aj rfl (fun hb1=>?_) (fun hb1=>?_)
 ·have H:=Au hb1 H;obtain⟨c2,H⟩:=Ab.1 H;refine wSE (sT (sT ?_));(refine Bu rfl (Adi (q:=⟨(if b < a then b else a),(if b > a then b else a)⟩) 0 rfl Tryz.underlying151 rfl rfl rfl rfl hL hl (DC c2) ?_);refine Ah6 (ht:=Ako) ?_);refine wN ?_;repeat(first|refine abN ?_|refine asN ?_)
  obtain rfl:=Ac.1 H;exact⟨.inl rfl,(),rfl,rfl⟩
 ·have H:=Av hb1 H;refine Am ?_;repeat(first|refine abN ?_|refine asN ?_)
  obtain rfl:=Ac.1 H;exact⟨.inl rfl,(),rfl,rfl⟩
instance Aht:AG Tryz.prog 151 false 1:=⟨by kernel_rfl⟩
instance Ahs:SZ Tryz.prog 151 1:=⟨by kernel_rfl⟩
instance Ahr:ZC Tryz.prog 151 [.map none]:=⟨by kernel_rfl⟩
section
variable{C:Ctx}{t:List AV}{h:List ABlk}{o:Oper}{K:St→Prop}
theorem Um{ty:TypeId}(ho:o.op= .makeMap ty none)(hK:∀m,K ⟨BH t o.dst (.lit (.map (some m))),h++[.res (EI (fun _=>false) m)]⟩):AOp Tryz.prog C o ⟨t,h⟩ K:=by
 refine EQ (ι:=Nat) (Rs:=EI fun _=>false) (val:=fun m=>.map (some m)) (fun _=>rfl) (fun S ψ w ρ H hρ=>?_) hK;have he:(execOp ρ o).run Tryz.prog w= .ok (.value (.map (some w.heap.size))) (w.alloc (.map #[] 0)):=by simp[execOp,ho,run_makeMap]
 rw[he];have hbl:=(Below.refl w.heap.size w).alloc (Nat.le_refl _) (.map #[] 0);refine⟨⟨hbl.os,hbl.tape,hbl.output,hbl.size,fun k hk _=>hbl.block k hk⟩,w.heap.size,rfl,⟨.map [],Ou (World.ownsMap_made w Tryz.prog 57 (plainElem Tryz.prog 3)),fun x _=>by simp[has_eq]⟩,fun k hk=>?_⟩;have hk:k=w.heap.size:=hk;subst hk;exact⟨.inr (Nat.le_refl _),by simp⟩
end
theorem QR{f:Func}(hX:(NY f).length≤2097152):(AT f).length≤2097152:=Nat.le_trans (Fe _).1 hX
theorem QP{f:Func}(ho:okFunc f):∀r∈AT f,Ht r:=fun r hr=>by
 refine(Fe (NY f)).2 (fun q hq=>?_) r hr;unfold NY NP at hq;obtain⟨b,hb,hq⟩:=List.mem_flatMap.1 hq;obtain⟨x,hx,hq⟩:=List.mem_flatMap.1 hq;exact JP ((ho.blocks b hb).ins x hx) q hq
theorem UJ{R:List Int}{S:Pair→Bool}{m:Nat}{a b:Int}(hR:R.length≤2097152)(hin:InP R S)(ha:Ht a)(hb:Ht b):
 Hn Tryz.prog 145 (EI S m) [.lit (.map (some m)),.lit (.int .i64 a),.lit (.int .i64 b)] (fun _:Unit=>EI (E9 S (DF a b)) m) (fun _=>.tuple #[]):=by
 have hL:∀x,okPair x→S x=true→x∈R.flatMap fun a=>R.map fun b=>(⟨a,b⟩:Pair):=fun x _ hx=>by
  obtain⟨h1,h2,_⟩:=hin x hx;exact List.mem_flatMap.2 ⟨x.a,h1,List.mem_map.2 ⟨x.b,h2,rfl⟩⟩
 have hlen:∀l:List Int,(l.flatMap fun a=>R.map fun b=>(⟨a,b⟩:Pair)).length=l.length * R.length:=fun l=>by
  induction l with
  |nil=>simp
  |cons a l ih=>rw[List.flatMap_cons,List.length_append,ih,List.length_map,List.length_cons,Nat.add_mul,Nat.one_mul,Nat.add_comm]
 have hl:(R.flatMap fun a=>R.map fun b=>(⟨a,b⟩:Pair)).length < maxLen:=by
  rw[hlen];have:R.length * R.length≤2097152 * 2097152:=Nat.mul_le_mul hR hR;unfold maxLen;omega
 refine To hL hl ?_;unfold MR DF;by_cases h:a=b
 ·subst h;rw[if_pos rfl,Ej];refine Aw ?_ (Ae _);simp
 ·rw[if_neg h,Aab];have e1:(if b < a then b else a)=min a b:=by rw[Int.min_def];split <;> split <;> omega
  have e2:(if b > a then b else a)=max a b:=by rw[Int.max_def];split <;> split <;> omega
  rw[e1,e2];refine Ax ?_ (Af ?_ (Ae _))
  ·have:min a b≠max a b:=by rw[Int.min_def,Int.max_def];split <;> omega
   simp[this]
  ·unfold BA;rw[Bool.and_eq_true];constructor
   ·show wfB .i64 (min a b)=true;rw[Int.min_def];split
    ·exact ha
    ·exact hb
   ·show wfB .i64 (max a b)=true;rw[Int.max_def];split
    ·exact hb
    ·exact ha
theorem Zy(f:Func)(ho:okFunc f)(hs:smallF f)(hT:(Cg f).length≤2097152)(hA:(NY f).length≤2097152)(hi1:∀b∈f.blocks,b.ins.length+1≤2097152):Xn Tryz.prog 112 [.agg (Aq f)] (fun m=>EI (Ib f) m) (fun m=>.map (some m)):=by
 have hbl:=hs.blocks;have hRl:(AT f).length≤2097152:=QR hA;have hLl:(Bw f).length≤2097152:=Nat.le_trans (Dl _) hT;have hRw:∀r∈AT f,Ht r:=QP ho;refine P9 Tryz.func112 rfl (by kernel_rfl) rfl Tryz.ntmps112 (fun _ _ _ _ h=>h) fun C hC hrd=>?_
 refine nS ?_;refine Ad fun K1 h1=>?_
 refine rC ?_;refine h1 _ ?_;refine nT ?_;refine Ad fun K2 h2=>?_
 (refine Awp.region ?_;(repeat(first|refine sQ (hq:=Ap rfl rfl rfl rfl) ?_|refine sQ (hq:=Ao rfl rfl rfl rfl) ?_|refine sQ ?_|refine AW ?_|refine sG ?_|refine BQ (hk:=?_))))
 refine Bu rfl (Um rfl fun m=>?_);refine sNt ?_
 (repeat(first|refine sQ (hq:=Ap rfl rfl rfl rfl) ?_|refine sQ (hq:=Ao rfl rfl rfl rfl) ?_|refine sQ ?_|refine AW ?_|refine sG ?_|refine BQ (hk:=?_)))
 refine Az ?_;refine h2 _ ?_;refine nT ?_;refine D5 1 rfl rfl rfl (fun g=>(.any::.lit (.pointer (some ⟨g,0,none⟩))::.lit (.map none)::.ptr 3 0::A40 (A20 (A10 (A4 []))))) (fun g=>(by(repeat(first|exact OpnB.nil|refine OpnB.ptr ?_|refine OpnB.any ?_|refine OpnB.keep rfl ?_)))) fun g1=>?_
 refine D5 3 rfl rfl rfl (fun g=>(.any::.lit (.pointer (some ⟨g1,0,none⟩))::.any::.lit (.pointer (some ⟨g,0,none⟩))::A40 (A20 (A10 (A4 []))))) (fun g=>(by(repeat(first|exact OpnB.nil|refine OpnB.ptr ?_|refine OpnB.any ?_|refine OpnB.keep rfl ?_)))) fun g3=>?_
 refine Ad fun K3 h3=>?_
 refine Ad fun K4 h4=>?_
 (refine Awp.region ?_;(repeat(first|refine sQ (hq:=Ap rfl rfl rfl rfl) ?_|refine sQ (hq:=Ao rfl rfl rfl rfl) ?_|refine sQ ?_|refine AW ?_|refine sG ?_|refine BQ (hk:=?_))))
 (repeat(first|refine sQ (hq:=Ap rfl rfl rfl rfl) ?_|refine sQ (hq:=Ao rfl rfl rfl rfl) ?_|refine sQ ?_|refine AW ?_|refine sG ?_|refine BQ (hk:=?_)))
 refine Bu rfl (FP rfl (Qs f) (fun _=>rfl) rfl rfl fun p=>?_);refine sNt ?_;refine Az ?_;refine h4 _ ?_;refine nT ?_;refine Ak ?_;refine A1 ⟨(.any::.lit (.pointer (some ⟨g1,0,none⟩))::.any::.lit (.pointer (some ⟨g3,0,none⟩))::A10 (A3 (.lit (stF p)::A40 (A20 [])))),[.res (BR []),.res (C3 g1 (Aq f)),.res (EI (GI f 0) m),.res (C3 g3 [.lit (.map (some m))]),.res (C3 p (Aq f))]⟩ (PH (.cons (.cons (.cons (.cons (.cons (Cut.nil _))))))) ?_;refine OT 4 0 (fun k=>[.dead,.res (C3 g1 (Aq f)),.res (EI (GI f k) m),.res (C3 g3 [.lit (.map (some m))]),.dead]) hrd (by kernel_rfl) (by decide) rfl rfl rfl ?hdrop rfl (fun _=>rfl) (fun _=>rfl) rfl (Adn f) (XX f) (N5 f ho hs hT hi1 p) ?hround ?hdone
 case hdrop=>
  exact⟨Cut.dead (Cut.cons (Cut.cons (Cut.cons (Cut.dead (Cut.nil _))))),fun b hb=>List.all_eq_true.1 (show bdH [.dead,.res (C3 g1 (Aq f)),.res (EI (GI f 0) m),.res (C3 g3 [.lit (.map (some m))]),.dead]=true from rfl) b hb⟩
 case hround=>
  intro k hk C' hr';obtain⟨q,hq⟩:∃q,(stepsL f)[k]? =some q:=⟨_,List.getElem?_eq_getElem hk⟩
  have hqm:=List.mem_of_getElem? hq;obtain⟨⟨bl,hbm,hxb⟩,hqr⟩:=Mn hqm;have hql:=(Da hqm).2.2;have hox:=(ho.blocks bl hbm).ins q.1 hxb;have hcs:=OE hq;have hin:=Kc f k;try dsimp only
  rw[XY hq];generalize hS0:GI f k=S0 at hcs hin⊢;refine Io (t':=(.any::.lit (.pointer (some ⟨g1,0,none⟩))::.any::.lit (.pointer (some ⟨g3,0,none⟩))::A10 (A3 (.lit (stF p)::.agg (BB q.1)::.bs tInt q.2::A40 (A10 (A8 [])))))) rfl rfl ?_;refine Ad fun K6 h6=>?_
  refine rC ?_;refine h6 _ ?_;refine nT ?_;refine rC ?_;refine An fun C'' hr''=>?_
  refine nT ?_;refine Ak ?_;refine Ad fun K8 h8=>?_
  (refine Awp.region ?_;(repeat(first|refine sQ (hq:=AX.call rfl (Fl q.1 hox) rfl rfl rfl) ?_|refine sQ (hq:=Ap rfl rfl rfl rfl) ?_|refine sQ (hq:=Ao rfl rfl rfl rfl) ?_|refine sQ ?_|refine AW ?_|refine sG ?_|refine BQ (hk:=?_)));refine Az ?_)
  refine h8 _ ?_;refine nT ?_;refine Ad fun K9 h9=>?_
  refine rC ?_;refine h9 _ ?_;refine nT ?_;refine Ak ?_;have hqi:=fun i=>Va hin hqm i
  refine AS (fun i:Nat=>⟨(.any::.lit (.pointer (some ⟨g1,0,none⟩))::.any::.lit (.pointer (some ⟨g3,0,none⟩))::.ptr 5 0::.any::.lit (.int .i64 (if AY q.1 then q.1.d else 0))::.lit (.bool (AY q.1))::A10 (A7 (.bs tInt q.2::.lit (.int .i64 (q.2.length:Int))::.lit (.int .i64 (i:Int))::A40 (A10 [])))),[.dead,.res (C3 g1 (Aq f)),.res (EI (Hp S0 q i) m),.res (C3 g3 [.lit (.map (some m))]),.dead,.box (BB q.1)]⟩) (fun i=>i≤q.2.length) (fun i=>q.2.length - i) 0 (Nat.zero_le _) (by rw[WF];exact B7) ?_;intro i hi
  (try dsimp only at hi);(try dsimp only)
  refine Ad fun K13 h13=>?_
  refine rC ?_;refine h13 _ ?_;refine nT ?_;refine Ad fun K14 h14=>?_
  refine Aj rfl (fun hb15=>?_) (fun hb15=>?_)
  ·have hlt:i < q.2.length:=by simpa using hb15
   obtain⟨r,hr⟩:∃r,q.2[i]? =some r:=⟨_,List.getElem?_eq_getElem hlt⟩
   have hrw:=hRw r (hqr r (List.mem_of_getElem? hr));refine Am ?_;refine h14 _ ?_;refine nT ?_;refine Ad fun K16 h16=>?_
   refine Ak ?_;refine Ad fun K17 h17=>?_
   refine rC ?_;refine h17 _ ?_;refine nT ?_;refine Ad fun K18 h18=>?_
   refine rC ?_;refine h18 _ ?_;refine nT ?_;refine Aj rfl (fun hb19=>?_) (fun hb19=>?_)
   ·have hbe:KX q r=true:=hb19;have hw:AY q.1=true:=by unfold KX at hbe;rw[Bool.and_eq_true]at hbe;exact hbe.1
    have hd:(if AY q.1 then q.1.d else 0)=q.1.d:=if_pos hw;have e2:Hp S0 q (i+1)=E9 (Hp S0 q i) (DF (if AY q.1 then q.1.d else 0) r):=by rw[hd];exact ZB hr hbe
    have hdw:Ht (if AY q.1 then q.1.d else 0):=by rw[hd];exact hRw _ (UG hqm hw)
    (refine Awp.region ?_;(repeat(first|refine sQ (hq:=Ap rfl rfl rfl rfl) ?_|refine sQ (hq:=Ao rfl rfl rfl rfl) ?_|refine sQ ?_|refine AW ?_|refine sG ?_|refine BQ (hk:=?_))))
    (repeat(first|refine sQ (hq:=Ap rfl rfl rfl rfl) ?_|refine sQ (hq:=Ao rfl rfl rfl rfl) ?_|refine sQ ?_|refine AW ?_|refine sG ?_|refine BQ (hk:=?_)))
    refine Bu rfl (CG (i:=2) rfl rfl (UJ hRl (hqi i) hdw hrw) (fun _=>rfl) rfl rfl fun _=>?_);refine sNt ?_;refine Az ?_;refine h16 _ ?_;refine nT ?_;refine rC ?_;refine An ⟨i+1,by omega,by omega,?_⟩;rw[e2];exact B7
   ·have e2:Hp S0 q (i+1)=Hp S0 q i:=Acr hr hb19;refine Am ?_;refine h16 _ ?_;refine nT ?_;refine rC ?_;refine An ⟨i+1,by omega,by omega,?_⟩;rw[e2];exact B7
  ·have hie:i=q.2.length:=by
    have:¬i < q.2.length:=by simpa using hb15
    omega
   subst hie;have e3:Hp S0 q q.2.length=GI f (k+1):=by rw[hcs,RM]
   rw[e3];refine AB ?_;exact⟨rfl,⟨.cons (.cons (.cons (.cons (.cons (Cut.nil _))))),fun b hb=>List.all_eq_true.1 (show bdH [.dead,.res (C3 g1 (Aq f)),.res (EI (GI f (k+1)) m),.res (C3 g3 [.lit (.map (some m))]),.dead]=true from rfl) b hb⟩⟩
 case hdone=>
  intro D;refine h3 _ ?_;refine Io (t':=(.any::.lit (.pointer (some ⟨g1,0,none⟩))::.any::.lit (.pointer (some ⟨g3,0,none⟩))::A10 (A3 (.lit (stF p)::A40 (A20 []))))) (h':=[.res (BR [D]),.res (C3 g1 (Aq f)),.res (EI (GI f (stepsL f).length) m),.res (C3 g3 [.lit (.map (some m))]),.dead]) rfl rfl ?_;have hin:=Kc f (stepsL f).length;have hes:Ib f=E9 (GI f (stepsL f).length) (edgeF (BE f)):=rfl;generalize hS1:GI f (stepsL f).length=S1 at hin hes⊢;refine Ad fun K20 h20=>?_
  refine Ad fun K21 h21=>?_
  refine rC ?_;refine h21 _ ?_;refine nT ?_;refine Aj rfl (fun hb22=>?_) (fun hb22=>?_)
  ·have hne:0 < f.blocks.length:=by simpa using hb22
   have hat:(atF f 0)[0]? =some (BE f):=by
    unfold atF BE;rw[if_pos ⟨by decide,by omega⟩,if_neg (by omega),show(0:Int).toNat=0 from rfl,D4];rfl
   have hlin:=J9 f;have hfl:(BE f).length≤2097152:=by
    unfold BE;rw[if_neg (by omega),D4];exact Nat.le_trans (List.length_filter_le _ _) hLl
   generalize hl0:BE f=l at hat hes hlin hfl;refine Ad fun K23 h23=>?_
   (refine Awp.region ?_;(repeat(first|refine sQ (hq:=AX.call rfl (Ajc f 0 ho hs hT) rfl rfl rfl) ?_|refine sQ (hq:=Ap rfl rfl rfl rfl) ?_|refine sQ (hq:=Ao rfl rfl rfl rfl) ?_|refine sQ ?_|refine AW ?_|refine sG ?_|refine BQ (hk:=?_)));refine Az ?_)
   refine h23 _ ?_;refine nT ?_;refine Ad fun K24 h24=>?_
   refine rC ?_;refine h24 _ ?_;refine nT ?_;refine Ak ?_;refine AS (fun i:Nat=>⟨(A3 (.lit (.pointer (some ⟨g3,0,none⟩))::A6 (.bs tInt l::A40 (A5 (.bs tInt l::.lit (.int .i64 (l.length:Int))::.lit (.int .i64 (i:Int))::A10 (A9 [])))))),[.res (BR [D]),.res (C3 g1 (Aq f)),.res (EI (Kd S1 l i 0) m),.res (C3 g3 [.lit (.map (some m))]),.dead]⟩) (fun i=>i≤l.length) (fun i=>l.length - i) 0 (Nat.zero_le _) (by rw[WG];exact B7) ?_;intro i hi
   (try dsimp only at hi);(try dsimp only)
   refine Ad fun K26 h26=>?_
   refine rC ?_;refine h26 _ ?_;refine nT ?_;refine Ad fun K27 h27=>?_
   refine Aj rfl (fun hb28=>?_) (fun hb28=>?_)
   ·have hlt:i < l.length:=by simpa using hb28
    obtain⟨a,ha⟩:∃a,l[i]? =some a:=⟨_,List.getElem?_eq_getElem hlt⟩
    have haw:=hRw a (hlin a (List.mem_of_getElem? ha));have htk:(l.take i).length=i:=by rw[List.length_take];omega
    refine Am ?_;refine h27 _ ?_;refine nT ?_;refine Ad fun K29 h29=>?_
    refine Ak ?_;refine Ad fun K30 h30=>?_
    refine rC ?_;refine h30 _ ?_;refine nT ?_;refine Ad fun K31 h31=>?_
    (refine Awp.region ?_;(repeat(first|refine sQ (hq:=Kq (l:=0) (m:=i) rfl rfl rfl rfl ⟨_,rfl⟩ (Nat.zero_le _) (by omega)) ?_|refine sQ (hq:=Ap rfl rfl rfl rfl) ?_|refine sQ (hq:=Ao rfl rfl rfl rfl) ?_|refine sQ ?_|refine AW ?_|refine sG ?_|refine BQ (hk:=?_)));refine Az ?_)
    refine h31 _ ?_;refine nT ?_;refine Ak ?_;refine AS (fun k:Nat=>⟨(A3 (.lit (.pointer (some ⟨g3,0,none⟩))::A6 (.bs tInt l::.any::.lit (.int .i64 a)::A40 (A3 (.bs tInt l::.lit (.int .i64 (l.length:Int))::.lit (.int .i64 (i:Int))::A6 (.bs tInt (l.take i)::.lit (.int .i64 ((l.take i).length:Int))::.lit (.int .i64 (k:Int))::A10 [])))))),[.res (BR [D]),.res (C3 g1 (Aq f)),.res (EI (Kd S1 l i k) m),.res (C3 g3 [.lit (.map (some m))]),.dead]⟩) (fun k=>k≤i) (fun k=>i - k) 0 (Nat.zero_le _) (B7) ?_;intro k hk
    (try dsimp only at hk);(try dsimp only)
    refine Ad fun K33 h33=>?_
    refine rC ?_;refine h33 _ ?_;refine nT ?_;refine Ad fun K34 h34=>?_
    refine Aj rfl (fun hb35=>?_) (fun hb35=>?_)
    ·have hlk:k < i:=by
      have:(k:Int) < ((l.take i).length:Int):=of_decide_eq_true hb35;omega
     obtain⟨b,hbk⟩:∃b,l[k]? =some b:=⟨_,List.getElem?_eq_getElem (by omega)⟩
     have hbt:(l.take i)[k]? =some b:=by rw[List.getElem?_take,if_pos hlk];exact hbk
     have hbw:=hRw b (hlin b (List.mem_of_getElem? hbk));have e2:=WH (S:=S1) ha hbk;refine Am ?_;refine h34 _ ?_;refine nT ?_;refine Ad fun K36 h36=>?_
     refine Ak ?_;refine Ad fun K37 h37=>?_
     refine rC ?_;refine h37 _ ?_;refine nT ?_
     (refine Awp.region ?_;(repeat(first|refine sQ (hq:=Ap rfl rfl rfl rfl) ?_|refine sQ (hq:=Ao rfl rfl rfl rfl) ?_|refine sQ ?_|refine AW ?_|refine sG ?_|refine BQ (hk:=?_))))
     (repeat(first|refine sQ (hq:=Ap rfl rfl rfl rfl) ?_|refine sQ (hq:=Ao rfl rfl rfl rfl) ?_|refine sQ ?_|refine AW ?_|refine sG ?_|refine BQ (hk:=?_)))
     refine Bu rfl (CG (i:=2) rfl rfl (UJ hRl (Vb hin hlin hi (.inr hlt)) haw hbw) (fun _=>rfl) rfl rfl fun _=>?_);refine sNt ?_;refine Az ?_;refine h36 _ ?_;refine nT ?_;refine rC ?_;refine An ⟨k+1,by omega,by omega,?_⟩;rw[e2];exact B7
    ·have hke:k=i:=by
      have:¬(k:Int) < ((l.take i).length:Int):=of_decide_eq_false hb35;omega
     subst hke;rw[WI];refine AB (BM (BM (exN (abN (An (h29 _ ?_))))));refine nT ?_;refine rC ?_;refine An ⟨k+1,by omega,by omega,?_⟩;exact B7
   ·have hie:i=l.length:=by
     have:¬i < l.length:=by simpa using hb28
     omega
    subst hie;rw[RN,←hes];refine AB (BM (BM (exN (An (h20 _ ?_)))));refine nT ?_;refine Ad fun K41 h41=>?_
    refine rC ?_;refine h41 _ ?_;refine nT ?_;exact Ar ⟨.inr rfl,[D],2,m,rfl,rfl,by decide,rfl,rfl⟩
  ·have hne:f.blocks.length=0:=by
    have:¬0 < f.blocks.length:=by simpa using hb22
    omega
   have hfl:BE f= []:=by unfold BE;rw[if_pos hne]
   have he0:Ib f=S1:=by rw[hes,hfl];exact Ej _
   rw[←he0];refine Am ?_;refine h20 _ ?_;refine nT ?_;refine Ad fun K41 h41=>?_
   refine rC ?_;refine h41 _ ?_;refine nT ?_;exact Ar ⟨.inr rfl,[D],2,m,rfl,rfl,by decide,rfl,rfl⟩
end Mu
end
section
namespace Go.Proofs
open Go.Shelf
def Tryz.sortP_ren:Go.Shelf.Ren:=⟨fun|6=>187|15=>155|14=>207|28=>183|29=>184|20=>214|21=>215|22=>216|23=>217|24=>218|25=>219|26=>220|27=>221|46=>227|47=>202|48=>203|49=>228|50=>229|57=>235|n=>n,fun|22=>54|24=>57|25=>195|3=>3|39=>147|0=>0|53=>60|55=>214|4=>4|46=>207|45=>206|50=>99|5=>5|9=>9|66=>224|70=>228|76=>235|77=>165|n=>n,fun|n=>n⟩
theorem Tryz.sortP:Go.Proofs.SlLaysF0.n6 Tryz.prog Tryz.sortP_ren:={
 mixed:=by kernel_rfl
 f6:=⟨Tryz.f187.name,by decide,Tryz.func187.trans (congrArg some (by kernel_rfl))⟩
 f14:=⟨Tryz.f207.name,by decide,Tryz.func207.trans (congrArg some (by kernel_rfl))⟩
 f15:=Tryz.func155.trans (congrArg some (by kernel_rfl))
 f20:=⟨Tryz.f214.name,by decide,Tryz.func214.trans (congrArg some (by kernel_rfl))⟩
 f21:=⟨Tryz.f215.name,by decide,Tryz.func215.trans (congrArg some (by kernel_rfl))⟩
 f22:=⟨Tryz.f216.name,by decide,Tryz.func216.trans (congrArg some (by kernel_rfl))⟩
 f23:=⟨Tryz.f217.name,by decide,Tryz.func217.trans (congrArg some (by kernel_rfl))⟩
 f24:=⟨Tryz.f218.name,by decide,Tryz.func218.trans (congrArg some (by kernel_rfl))⟩
 f25:=⟨Tryz.f219.name,by decide,Tryz.func219.trans (congrArg some (by kernel_rfl))⟩
 f26:=⟨Tryz.f220.name,by decide,Tryz.func220.trans (congrArg some (by kernel_rfl))⟩
 f27:=⟨Tryz.f221.name,by decide,Tryz.func221.trans (congrArg some (by kernel_rfl))⟩
 f28:=Tryz.func183.trans (congrArg some (by kernel_rfl))
 f29:=Tryz.func184.trans (congrArg some (by kernel_rfl))
 f46:=⟨Tryz.f227.name,by decide,Tryz.func227.trans (congrArg some (by kernel_rfl))⟩
 f47:=Tryz.func202.trans (congrArg some (by kernel_rfl))
 f48:=Tryz.func203.trans (congrArg some (by kernel_rfl))
 f49:=⟨Tryz.f228.name,by decide,Tryz.func228.trans (congrArg some (by kernel_rfl))⟩
 f50:=⟨Tryz.f229.name,by decide,Tryz.func229.trans (congrArg some (by kernel_rfl))⟩
 f57:=⟨Tryz.f235.name,by decide,Tryz.func235.trans (congrArg some (by kernel_rfl))⟩
 t0:=Tryz.underlying0
 a0:=Tryz.isAgg0
 z0:=Tryz.sizeOf0
 v0:=Tryz.zeroValue0
 t3:=Tryz.underlying3
 a3:=Tryz.isAgg3
 z3:=Tryz.sizeOf3
 v3:=Tryz.zeroValue3
 t4:=Tryz.underlying4
 a4:=Tryz.isAgg4
 z4:=Tryz.sizeOf4
 v4:=Tryz.zeroValue4
 t5:=Tryz.underlying5
 a5:=Tryz.isAgg5
 z5:=Tryz.sizeOf5
 v5:=Tryz.zeroValue5
 t9:=Tryz.underlying9
 a9:=Tryz.isAgg9
 z9:=Tryz.sizeOf9
 v9:=Tryz.zeroValue9
 t22:=Tryz.underlying54
 a22:=Tryz.isAgg54
 z22:=Tryz.sizeOf54
 v22:=Tryz.zeroValue54
 t25:=Tryz.underlying195
 a25:=Tryz.isAgg195
 z25:=Tryz.sizeOf195
 v25:=Tryz.zeroValue195
 t39:=Tryz.underlying147
 a39:=Tryz.isAgg147
 z39:=Tryz.sizeOf147
 v39:=Tryz.zeroValue147
 t45:=Tryz.underlying206
 a45:=Tryz.isAgg206
 z45:=Tryz.sizeOf206
 v45:=Tryz.zeroValue206
 t46:=Tryz.underlying207
 a46:=Tryz.isAgg207
 z46:=Tryz.sizeOf207
 v46:=Tryz.zeroValue207
 t50:=Tryz.underlying99
 a50:=Tryz.isAgg99
 z50:=Tryz.sizeOf99
 v50:=Tryz.zeroValue99
 t53:=Tryz.underlying60
 a53:=Tryz.isAgg60
 z53:=Tryz.sizeOf60
 v53:=Tryz.zeroValue60
 t55:=Tryz.underlying214
 a55:=Tryz.isAgg214
 z55:=Tryz.sizeOf214
 v55:=Tryz.zeroValue214
 t66:=Tryz.underlying224
 a66:=Tryz.isAgg224
 z66:=Tryz.sizeOf224
 v66:=Tryz.zeroValue224
 t70:=Tryz.underlying228
 a70:=Tryz.isAgg228
 z70:=Tryz.sizeOf228
 v70:=Tryz.zeroValue228
 t76:=Tryz.underlying235
 a76:=Tryz.isAgg235
 z76:=Tryz.sizeOf235
 v76:=Tryz.zeroValue235
 t77:=Tryz.underlying165
 a77:=Tryz.isAgg165
 z77:=Tryz.sizeOf165
 v77:=Tryz.zeroValue165}
def Tryz.cmpIntP_ren:Go.Shelf.Ren:=⟨fun|5=>143|7=>159|n=>n,fun|22=>3|3=>3|4=>4|n=>n,fun|n=>n⟩
theorem Tryz.cmpIntP:Go.Proofs.SlLaysC2.n5 Tryz.prog Tryz.cmpIntP_ren:={
 mixed:=by kernel_rfl
 f5:=⟨Tryz.f143.name,by decide,Tryz.func143.trans (congrArg some (by kernel_rfl))⟩
 f7:=⟨Tryz.f159.name,by decide,Tryz.func159.trans (congrArg some (by kernel_rfl))⟩
 t3:=Tryz.underlying3
 a3:=Tryz.isAgg3
 z3:=Tryz.sizeOf3
 v3:=Tryz.zeroValue3
 t4:=Tryz.underlying4
 a4:=Tryz.isAgg4
 z4:=Tryz.sizeOf4
 v4:=Tryz.zeroValue4
 t22:=Tryz.underlying3
 a22:=Tryz.isAgg3
 z22:=Tryz.sizeOf3
 v22:=Tryz.zeroValue3}
end Go.Proofs
end
section
namespace Mu
open Go Go.RowKit Go.Proofs Go.Shelf Go.Lib Go.Sort
theorem Aic(a b:Int)(g:Nat)(ty:TypeId)(W:World)(h:W.heap[g]? =some (.cells #[.int .i64 a,.int .i64 b] ty)):
 Calls Tryz.prog 142 #[.slice (some ⟨g,0,none⟩) 2 2] W fun e w'=>e= .returned (.int .i64 (if a≠0 then a else b))∧w'=W:=by
 have c0:W.cell? ⟨g,0,none⟩=some (.int .i64 a):=by simp[World.cell?,h]
 have c1:W.cell? ⟨g,1,none⟩=some (.int .i64 b):=by simp[World.cell?,h]
 go_enter Tryz.func142,Tryz.ntmps142
 go_wp2
 refine wp_loop_rounds 3 ?_;rw[rounds_succ];by_cases ha:a=0
 ·subst ha
  go_wp2
  rw[rounds_succ];by_cases hb:b=0
  ·subst hb
   go_wp2
   rw[rounds_succ]
   go_wp2
   go_ret
   exact⟨rfl,rfl⟩
  ·go_wp2
   go_ret
   exact⟨rfl,rfl⟩
 ·go_wp2
  go_ret
  exact⟨by simp,rfl⟩
theorem XO(W:World)(o1 o2:Obj):∃W2,W2=((W.alloc o1).alloc o2).drew∧W2.heap[W.heap.size]? =some o1∧W2.heap[W.heap.size+1]? =some o2∧∃n os,W2=grow (W.drewN n) os:=by
 refine⟨_,rfl,?_,?_,1,#[o1,o2],?_⟩
 ·show((W.heap.push o1).push o2)[W.heap.size]? =_;simp[Array.getElem?_push]
 ·show((W.heap.push o1).push o2)[W.heap.size+1]? =_;have:W.heap.size+1=(W.heap.push o1).size:=by simp
  rw[this];exact Array.getElem?_push_size
 ·rw[alloc_eq_grow,alloc_eq_grow,grow_grow];rfl
def cfP(x y:Pair):Int:=if compareInt x.a y.a≠0 then compareInt x.a y.a else compareInt x.b y.b
def G7(x:Pair):List Value:=[.int .i64 x.a,.int .i64 x.b]
theorem Acx(x y:Pair)(W:World):Calls Tryz.prog 163 #[.agg (G7 x).toArray,.agg (G7 y).toArray] W fun e w'=>e= .returned (.int .i64 (cfP x y))∧∃q os,w'=grow (W.drewN q) os:=by
 have hA:=fun W=>AnyG.cmp_Compare_int Tryz.cmpIntP x.a y.a W
 have hB:=fun W=>AnyG.cmp_Compare_int Tryz.cmpIntP x.b y.b W
 change∀W,Calls Tryz.prog 143 _ _ _ at hA;change∀W,Calls Tryz.prog 143 _ _ _ at hB;obtain⟨r,hr⟩:∃r,compareInt x.a y.a=r:=⟨_,rfl⟩
 obtain⟨s,hs⟩:∃s,compareInt x.b y.b=s:=⟨_,rfl⟩
 have hu:cfP x y=if r≠0 then r else s:=by unfold cfP;rw[hr,hs]
 rw[hr]at hA;rw[hs]at hB;clear hr hs;have hO:=fun W=>Aic r s W.heap.size 3 (W.alloc (.cells #[.int .i64 r,.int .i64 s] 3)) (heap_alloc_new W _)
 rw[←hu]at hO;generalize cfP x y=u at hO⊢;clear hu;unfold G7
 go_enter Tryz.func163,Tryz.ntmps163
 go_wp2
 refine wp_region_still_tail 10 (by kernel_rfl) (by kernel_rfl) ?_;simp only[List.take_succ_cons,List.take_zero,List.drop_succ_cons,List.drop_zero];change wpStill _ _ (World.drew ((W.alloc (Obj.cells #[Value.int IntKind.i64 x.a,Value.int IntKind.i64 x.b] 57)).alloc (Obj.cells #[Value.int IntKind.i64 y.a,Value.int IntKind.i64 y.b] 57))) (fun a'=>wpList _ _ _ _ a' (World.drew ((W.alloc (Obj.cells #[Value.int IntKind.i64 x.a,Value.int IntKind.i64 x.b] 57)).alloc (Obj.cells #[Value.int IntKind.i64 y.a,Value.int IntKind.i64 y.b] 57)))) _ _;obtain⟨W2,hW2,g1,g2,hg⟩:=XO W (Obj.cells #[Value.int IntKind.i64 x.a,Value.int IntKind.i64 x.b] 57) (Obj.cells #[Value.int IntKind.i64 y.a,Value.int IntKind.i64 y.b] 57);rw[←hW2];have c1:W2.cell? ⟨W.heap.size,0,none⟩=some (.int .i64 x.a):=by simp[World.cell?,g1]
 have c2:W2.cell? ⟨W.heap.size,1,none⟩=some (.int .i64 x.b):=by simp[World.cell?,g1]
 have c3:W2.cell? ⟨W.heap.size+1,0,none⟩=some (.int .i64 y.a):=by simp[World.cell?,g2]
 have c4:W2.cell? ⟨W.heap.size+1,1,none⟩=some (.int .i64 y.b):=by simp[World.cell?,g2]
 clear hW2 g1 g2
 iterate 4 still_step
 still_call (hA _)
 iterate 4 still_step
 still_call (hB _)
 refine wpStill_nil ?_
 go_wp2_with (go_at_call 142;refine(hO W2).mono ?_;rintro e w' ⟨rfl,rfl⟩)
 go_ret
 obtain⟨n,os,rfl⟩:=hg;exact⟨rfl,n,_,by rw[alloc_eq_grow,grow_grow]⟩
theorem PE{x y:Pair}:ltOf cfP x y=true↔ltP x y:=by
 unfold ltOf cfP compareInt ltP;by_cases h1:x.a < y.a
 ·simp[h1]
 ·by_cases h2:y.a < x.a
  ·have:x.a≠y.a:=by omega
   simp[h1,h2,this]
  ·have e:x.a=y.a:=by omega
   by_cases h3:x.b < y.b
   ·simp[e,h3]
   ·by_cases h4:y.b < x.b <;> simp[e,h3,h4]
theorem M2{x y:Pair}:ltOf cfP x y=false↔¬ltP x y:=by
 rw[←PE,Bool.not_eq_true]
theorem Akz:SWO (ltOf cfP) where
 irrefl x:=M2.2 (PD x)
 trans x y z h1 h2:=PE.2 (Adw (PE.1 h1) (PE.1 h2))
 ntrans x y z h1 h2:=by
  have h1:=M2.1 h1;have h2:=M2.1 h2;refine M2.2 ?_;unfold ltP at *;omega
theorem Aky(x y:Pair)(h1:ltOf cfP x y=false)(h2:ltOf cfP y x=false):x=y:=by
 have h1:=M2.1 h1;have h2:=M2.1 h2;unfold ltP at h1 h2;obtain⟨a,b⟩:=x;obtain⟨c,d⟩:=y
 (try dsimp only at h1);(try dsimp only at h2)
 have e1:a=c:=by omega
 have e2:b=d:=by omega
 rw[e1,e2]
def Gt(l:List Pair):List Pair:=l.mergeSort fun x y=>!(ltOf cfP) y x
theorem KQ{x y:Pair}:(!(ltOf cfP) y x)=true↔¬ltP y x:=by
 rw[Bool.not_eq_true',M2]
theorem GZ(l:List Pair):(Gt l).Perm l:=List.mergeSort_perm _ _
theorem VH{l:List Pair}(hn:l.Nodup):Ajl (Gt l):=by
 have h:=List.pairwise_mergeSort (le:=fun x y:Pair=>!(ltOf cfP) y x) (fun a b c h1 h2=>by
  have h1:=KQ.1 h1;have h2:=KQ.1 h2;refine KQ.2 ?_;unfold ltP at *;omega) (fun a b=>by
  rw[Bool.or_eq_true,KQ,KQ];unfold ltP;omega) l
 have hd:(Gt l).Nodup:=(GZ l).nodup_iff.2 hn;refine(h.and hd).imp fun{x y} hxy=>?_
 obtain⟨h1,h2⟩:=hxy;have h1:=KQ.1 h1;unfold ltP at h1;obtain⟨a,b⟩:=x;obtain⟨c,d⟩:=y;unfold ltP
 (try dsimp only at h1);(try dsimp only)
 rcases Int.lt_trichotomy a c with h|h|h
 ·exact .inl h
 ·rcases Int.lt_trichotomy b d with k|k|k
  ·exact .inr ⟨h,k⟩
  ·exact absurd (by rw[h,k]) h2
  ·omega
 ·omega
theorem X4{R:List Int}{S:Pair→Bool}{l:List Pair}(hR:Asc R)(hin:InP R S)(hn:l.Nodup)(h1:∀x∈l,S x=true)(h2:∀x,S x=true→x∈l):Gt l=G9 R S:=
 Vk (VH hn) (T7 hR) fun x=>by
  rw[(GZ l).mem_iff,TB hR hin];exact⟨h1 x,h2 x⟩
theorem Zk{l:List Pair}{i:Nat}{d:Pair}(hd:l[i]? =some d):((flatK G7 2 l.toArray).toList.drop (i * 2)).take 2=G7 d:=by
 have hil:=(List.getElem?_eq_some_iff.1 hd).1;have hdd:l.toArray[i]! =d:=by simp[getElem!_def,hd]
 refine List.ext_getElem? fun j=>?_
 by_cases hj:j < 2
 ·rw[List.getElem?_take_of_lt hj,List.getElem?_drop,Array.getElem?_toList];have hlt:i * 2+j < (flatK G7 2 l.toArray).size:=by simp;omega
  have e:=get_flatK G7 2 l.toArray (i * 2+j) (by simpa using hlt);rw[getElem!_pos (flatK G7 2 l.toArray) _ hlt]at e;rw[Array.getElem?_eq_getElem hlt,e,show(i * 2+j) / 2=i by omega,show(i * 2+j) % 2=j by omega,hdd];have hj2:j < (G7 d).length:=hj;rw[getElem!_pos (G7 d) _ hj2,List.getElem?_eq_getElem hj2]
 ·rw[List.getElem?_take_eq_none (by omega),List.getElem?_eq_none (by show 2≤j;omega)]
theorem NQ(cur F:Array Value)(h:F.size≤cur.size):(Go.Sort.putCells id 0 F cur).toList.take F.size=F.toList:=by
 apply List.ext_getElem?;intro j;by_cases hj:j < F.size
 ·rw[List.getElem?_take_of_lt hj,Array.getElem?_toList];simp[Go.Sort.putCells,hj,show j < cur.size by omega]
 ·rw[List.getElem?_take_eq_none (by omega),List.getElem?_eq_none (by simp;omega)]
theorem M8{w:World}{g n:Nat}{os:Array Obj}(d:Array Value):w.grownBy (grow (putRow id (Sort.ahead w n) g 0 d) os) (some g):=by
 refine⟨rfl,rfl,rfl,by simp,fun k hk hne=>?_⟩;rw[heap_grow_old _ _ (by simpa using hk)];have:g≠k:=fun e=>hne (by rw[e])
 simp[putRow,mapBlock,Sort.ahead,Array.getElem?_modify,this]
theorem Lz{w:World}{g n:Nat}{os:Array Obj}{cur:Array Value}{e:TypeId}{fr:Nat×Nat}(d:Array Value)(hb:w.heap[g]? =some (.cells cur e fr)):
 (grow (putRow id (Sort.ahead w n) g 0 d) os).heap[g]? =some (.cells (Go.Sort.putCells id 0 d cur) e fr):=by
 have hg:g < w.heap.size:=(Array.getElem?_eq_some_iff.1 hb).1;rw[heap_grow_old _ _ (by simpa using hg)];simp[putRow,mapBlock,Sort.ahead,Array.getElem?_modify,hb,onCells]
theorem VP{w:World}{S:Nat→Prop}{h:List ABlk}{ψ:Nat→Value}{u v:Value}{vs:List Value}(H:Ah w S h ψ [.lit u,.lit v] vs):vs= [u,v]:=by
 obtain⟨a,b,rfl,h1,h2⟩:=Akd H;unfold AV.rel at h1 h2;rw[h1,h2]
theorem VG{v:Value}{l:List Pair}(hl:l.length < 4611686018427387904):Hn Tryz.prog 187 (rowR v 57 AH l) [.lit v,.lit (.func (.func 163) #[] #[])] (fun _:Unit=>rowR v 57 AH (Gt l)) (fun _=>.tuple #[]):=by
 refine⟨by kernel_rfl,fun w S vs hS hF hR hr=>?_⟩;obtain⟨cells,hown,h0,hc⟩:=hR;rw[VP hr];rcases hown.2 with⟨rfl,hn⟩|⟨g,cap,cur,rfl,_,hb,h1,h2,h3,h4⟩
 ·have hz:l= []:=List.eq_nil_of_length_eq_zero hn;subst hz;rw[show Gt []= []by simp[Gt]];refine(AnyF.slices_SortFunc_none Tryz.sortP none 0 _ w).mono fun e w' ⟨he,hw⟩=>?_
  subst hw;exact⟨_,he,⟨⟨rfl,rfl,rfl,Nat.le_refl _,fun _ _ _=>rfl⟩,(),rfl,⟨cells,hown,h0,hc⟩,fun k hk=>⟨.inl hk,hF k hk⟩⟩⟩
 ·have hgl:g < w.heap.size:=(Array.getElem?_eq_some_iff.1 hb).1;have hcl:cells.length=l.length * 2:=hown.1;have h4':cur.toList.take (l.length * 2)=cells:=h4;have h3':cur.size=cap * 2:=h3;have hcell:∀i d,l[i]? =some d→(cells.drop (i * 2)).take 2=G7 d∧wfI .i64 d.a∧wfI .i64 d.b:=fun i d hd=>Eo.1 (hc i d hd)
  have hH:HoldsK G7 2 w g 0 l.toArray:=fun j hj=>by
   have hj':j < l.length * 2:=by simpa using hj
   obtain⟨d,hd⟩:∃d,l[j / 2]? =some d:=⟨_,List.getElem?_eq_getElem (by omega)⟩
   have hdd:l.toArray[j / 2]! =d:=by simp[getElem!_def,hd]
   have e1:=congrArg (fun(l:List Value)=>l[j % 2]?) (hcell _ d hd).1;rw[List.getElem?_take_of_lt (by omega),List.getElem?_drop,←h4',List.getElem?_take_of_lt (by omega),Array.getElem?_toList,show j / 2 * 2+j % 2=j by omega]at e1;refine⟨?_,by simp[World.frozen?,hb]⟩;rw[get_flatK _ _ _ _ (by simpa using hj'),hdd];have hj2:j % 2 < (G7 d).length:=by show j % 2 < 2;omega
   rw[getElem!_pos (G7 d) _ hj2];rw[List.getElem?_eq_getElem hj2]at e1;simp[World.cell?,hb,e1]
  have eg:∀args w,(callFunc 163 args).run Tryz.prog w= .ok (.enter 163 args) w:=enters_of Tryz.func163 (by kernel_rfl) rfl;have hS':=AnyQ.slices_SortFunc_total Tryz.sortP 2 (fun w=>by kernel_rfl) (fun w=>by kernel_rfl) G7 (fun _=>rfl) (fun x v hv=>by
   simp only[G7,List.mem_cons,List.not_mem_nil,or_false]at hv;rcases hv with rfl|rfl <;> rfl) cfP Akz 163 #[] g 0 cap l.toArray w eg (fun m os dk _ x y=>Acx x y _) hH hgl (by simpa using hl) Aky
  refine hS'.mono ?_;rintro e w' ⟨he,n,os,rfl⟩;have hts:(l.toArray.toList.mergeSort fun x y=>!(ltOf cfP) y x)=Gt l:=rfl;rw[hts];have hlen:(Gt l).length=l.length:=(GZ l).length_eq;have hsz:(flatK G7 2 (Gt l).toArray).size=l.length * 2:=by simp[hlen]
  refine⟨_,he,⟨Gr.of_grownBy (M8 _) |> fun G=>⟨G.os,G.tape,G.output,G.size,fun k hk hn=>G.block k hk fun e=>hn e⟩,(),rfl,⟨(flatK G7 2 (Gt l).toArray).toList,?_,h0,fun i d hd=>?_⟩,fun k hk=>⟨.inl hk,?_⟩⟩⟩
  ·rw[hlen];refine⟨by rw[Array.length_toList,hsz];rfl,.inr ⟨g,cap,_,rfl,Nat.zero_le _,Lz _ hb,h1,h2,by simp[Go.Sort.putCells,h3],?_⟩⟩;have e2:=NQ cur (flatK G7 2 (Gt l).toArray) (by rw[hsz,h3'];omega);rw[hsz]at e2;exact e2
  ·have hdl:d∈l:=(GZ l).mem_iff.1 (List.mem_of_getElem? hd);obtain⟨i',hi'⟩:=List.mem_iff_getElem?.1 hdl;exact Eo.2 ⟨Zk hd,(hcell _ _ hi').2⟩
  ·have hk:BY (.slice (some ⟨g,0,none⟩) l.length cap)=some k:=hk;have hk:g=k:=by simpa[BY]using hk
   subst hk;exact(Array.getElem?_eq_some_iff.1 (Lz _ hb)).1
end Mu
end
