/-
  Own texts laid together, part 3: MuOwnG, MuClo, MuLine, MuMark, MuZeros, MuFnC2, MuBoxRow, MuLift, MuTok, MuArr, MuEqS, MuLiftA, MuDrawG, MuTurnW, MuLiftG, MuRaw, MuRawB, MuRawC, MuOwnS, MuPlan, MuPair, MuYield, MuRangeY, MuDrawY, MuFnN, MuBackward, MuBackK, MuCopy, MuSetR, MuRes2, MuMapsR, MuRowsAt, MuBefore, MuPlaces, MuRef17G.
  Conditions: as each part says.
-/
import Derived.Test.YtebigcfcmpogpaaGreatBr2
import Derived.Deep.Onto
import Derived.Lib.AppendZeros
import Derived.Laws.StructEq
import Derived.Deep.AppendSrc
import Derived.Lib.SliceRun
import Derived.Shelf.SlMaps.Clone
import Derived.Shelf.SlMaps.Copy
import Derived.Lib.SlMapMerge
import Derived.Carry
import Derived.Deep.OwnRows
import Derived.RangeFuncNested
set_option linter.unusedSimpArgs false
set_option linter.unusedVariables false
set_option maxRecDepth 100000
set_option maxHeartbeats 4000000
section
namespace Mu
open Go Go.RowKit Go.Proofs
section
variable{P:Program}{C:Ctx}{t:List AV}{h:List ABlk}{o:Oper}
def NE(P:Program)(f:FuncId)(args:List AV)(e:TypeId){α:Type}(T:Ty α)(l:List α):Prop:=
 B6 P f=true∧∀(w:World) (S:Nat→Prop) (vs:List Value),(∀k,S k→k < w.heap.size)→Ah w S [] ψ0 args vs→
  Calls P f vs.toArray w fun r w'=>∃v cells,r= .returned v∧Below w.heap.size w w'∧w'.ownsRow w.heap.size e T.size v l.length cells∧∀i d,l[i]? =some d→T.RS w' S ((cells.drop (i * T.size)).take T.size) d
theorem TN{w:World}{e:TypeId}{α:Type}{T:Ty α}{l:List α}{ver base n sz:Nat}{cells:List Value}{v:Value}(hv:w.ownsRow base e sz v n cells):∀g,ftp (some (.row ver e T l)) v g→base≤g:=fun g hg=>by
 obtain⟨_,⟨rfl,_⟩|⟨g',cap,cur,rfl,hb,_⟩⟩:=hv
 ·simp[ftp,BY]at hg
 ·simp[ftp,BY]at hg;omega
theorem Jz{f:FuncId}{args:Array Operand}{tys:Array TypeId}{xs:List AV}{K:St→Prop}{e:TypeId}{α:Type}{T:Ty α}{l:List α}
 (ho:o.op= .call {callee:=.value (.func f),args:=args,argTypes:=tys}) (hF:NE P f xs e T l) (h0:0 < T.size) (hx:args.toList.map (evA t)=xs) (hc:Bt xs=true)
 (hK:K ⟨BH t o.dst (.own h.length 0),h++[.row 0 e T l]⟩):AOp P C o ⟨t,h⟩ K:=by
 rintro Q' a w ⟨hd,S,ψ,H,hl⟩;refine⟨fun c e=>(by rw[ho]at e;cases e),?_⟩;have h2:Ah w S h ψ xs (args.toList.map a.eval):=by
  rw[←hx];exact Cm fun x _=>BJ hl x
 unfold Oper.wp;rw[CY ho hF.1 a.eval w rfl];simp only[Oper.upon];rw[show(args.map a.eval)=(args.toList.map a.eval).toArray from(by rw[←Array.toList_map])];refine(hF.2 w S (args.toList.map a.eval) H.lt (Bi _ _ hc h2)).mono ?_;rintro r w' ⟨v,cells,rfl,hb,hown,hR⟩;have X:Ext w S h ψ w' S (h++[.row 0 e T l]) (Bo ψ h.length v):=Ext.push _ _ fun k hk=>hb.block k (H.lt k hk)
 have hB:Gm C.N w' S (h++[.row 0 e T l]) (Bo ψ h.length v) v (.row 0 e T l):=
  ⟨cells,hown.mono (Nat.zero_le _),h0,hR,fun g hg=>by
   have hlt:=hown.lt g hg;exact⟨fun hN=>by have:=H.nlt _ hN;have:=H.bel.size;omega,fun hS=>by have:=H.lt _ hS;omega⟩⟩
 refine⟨_,hK,Mo (s:=⟨t,h⟩) hd hl (H.push hb hB (TN hown)) X ?_⟩;unfold AV.rel;refine⟨by simp,fun c' hc'=>?_⟩;rw[List.getElem?_append_right (Nat.le_refl _)]at hc';simp[ABlk.ver]at hc';exact⟨by omega,fun _=>AZ.symm⟩
end
theorem Lu{w:World}{e:TypeId}{sz n base:Nat}{v:Value}{cells:List Value}(h:w.ownsRow 0 e sz v n cells)(hg:∀g,v.ownBlock=some g→base≤g):w.ownsRow base e sz v n cells:=by
 obtain⟨h1,h2|⟨g,cap,cur,rfl,_,h3⟩⟩:=h
 ·exact⟨h1,.inl h2⟩
 ·exact⟨h1,.inr ⟨g,cap,cur,rfl,hg g rfl,h3⟩⟩
def Aji(t:Tmp)(e:TypeId){α:Type}(T:Ty α)(l:List α):Exit→St→Prop:=fun ex s=>(ex= .normal∨ex= .ret)∧mkD s.h= []∧∃i ver,evA s.t (.tmp t)= .own i ver∧s.h[i]? =some (.row ver e T l)
theorem Im{P:Program}{f:FuncId}{fn:Go.Func}{c:Code}{args:List AV}{e:TypeId}{α:Type}{T:Ty α}{l:List α}{t:Tmp}{n:Nat}(hf:P.funcs[f]? =some fn)(hb:fn.body=some c)(hE:B6 P f=true)(hres:fn.results= #[.tmp t])(hn:fn.ntmps=n)
 (hT:∀w S S' cs d,T.RS w S cs d→T.RS w S' cs d)
 (h:∀C:Ctx,C.std→Awp P C c (Aji t e T l) ⟨args++List.replicate (n - args.length) (.lit undef),[]⟩):NE P f args e T l:=by
 refine⟨hE,fun w S vs hS hr=>calls_of_wp hf hb ?_⟩;rw[hn];refine wp_mono ((h ⟨w,S,fun k=>k < w.heap.size,none⟩ (fun _ h=>h)).wp rfl (Dk hS hr)) ?_;rintro ex a' w' ⟨s,⟨he,hm,i,ver,hx,hi⟩,hd,S1,ψ,H,hl⟩;rw[hm]at hd;have hv:=BJ hl (.tmp t);rw[hx]at hv;unfold AV.rel at hv;have hv':=(hv.2 _ (by rw[hi];rfl)).2 rfl;obtain⟨cells,h1,_,h2,h3⟩:=H.blk i _ hi;have hres':(results fn a'.tmps).run P w'= .ok (a'.eval (.tmp t)) w':=results_tmp hres _ _ _;have hown:w'.ownsRow w.heap.size e T.size (ψ i) l.length cells:=Lu h1 fun g hg=>Nat.le_of_not_lt fun hlt=>(h3 g hg).1 hlt
 rw[hv']at hres';have hR:∀j d,l[j]? =some d→T.RS w' S ((cells.drop (j * T.size)).take T.size) d:=fun j d hd=>hT _ _ _ _ _ (h2 j d hd)
 rcases he with rfl|rfl
 ·exact⟨hd,_,hres',_,cells,rfl,H.bel.below fun _ h=>h,hown,hR⟩
 ·exact⟨hd,_,hres',_,cells,rfl,H.bel.below fun _ h=>h,hown,hR⟩
theorem NE.fn{P:Program}{f:FuncId}{args:List AV}{e:TypeId}{α:Type}{T:Ty α}{l:List α}(h:NE P f args e T l):Fn P f args (.bs T l):=by
 refine⟨h.1,fun w S vs hS hr=>(h.2 w S vs hS hr).mono ?_⟩;rintro r w' ⟨v,cells,rfl,hb,hown,hR⟩;refine⟨v,rfl,hb,fun k=>S k∨v.ownBlock=some k,fun _ h=>.inl h,fun k hk=>?_,fun k hk=>?_,?_⟩
 ·rcases hk with hk|hk
  ·exact .inl hk
  ·exact .inr (hown.lt k hk).1
 ·rcases hk with hk|hk
  ·exact Nat.lt_of_lt_of_le (hS k hk) hb.size
  ·exact(hown.lt k hk).2
 ·unfold AV.rel;exact EJ hown (fun i d hd=>T.keepS (hR i d hd) (fun _ _=>rfl) fun _ h=>.inl h) fun _ h=>.inr h
def LH(P:Program)(f:FuncId)(e:TypeId){α:Type}(T:Ty α)(l:List α)(xs:List AV)(l':List α):Prop:=
 B6 P f=true∧∀(N S:Nat→Prop) (w:World) (v:Value) (vs:List Value),(∀k,N k→k < w.heap.size)→(∀k,S k→k < w.heap.size)→Gm N w S [] ψ0 v (.row 0 e T l)→Ah w S [] ψ0 xs vs→
  Calls P f (v::vs).toArray w fun x w'=>∃v',x= .returned v'∧w.grownBy w' (BY v)∧Gm N w' S [] ψ0 v' (.row 0 e T l')∧∀g,BY v'=some g→BY v=some g∨w.heap.size≤g
theorem Hf{P:Program}{f:FuncId}{fn:Go.Func}{c:Code}{e:TypeId}{α:Type}{T:Ty α}{l l':List α}{xs:List AV}{t:Tmp}{n:Nat}(hf:P.funcs[f]? =some fn)(hb:fn.body=some c)(hE:B6 P f=true)(hres:fn.results= #[.tmp t])(hn:fn.ntmps=n)(hflat:∀w S S' cs d,T.RS w S cs d→T.RS w S' cs d)
 (h:∀C:Ctx,Awp P C c (Aah t e T l') ⟨(.own 0 0::xs)++List.replicate (n - (xs.length+1)) (.lit undef),[.row 0 e T l]⟩):LH P f e T l xs l':=by
 refine⟨hE,fun N S w v vs hN hS hB hr=>calls_of_wp hf hb ?_⟩;rw[hn];have hlv:=hB.lt rfl;have hst:St.rel ⟨w,S,fun k=>k < w.heap.size∧BY v≠some k,none⟩ ⟨(.own 0 0::xs)++List.replicate (n - (xs.length+1)) (.lit undef),[.row 0 e T l]⟩ {tmps:=(v::vs).toArray++Array.replicate (n - (v::vs).toArray.size) undef,defers:=[]} w:=by
  refine⟨rfl,S,fun _=>v,⟨Kp.refl _ _,fun k hk=>hk.1,hS,fun _ h=>h,fun _ h=>.inl h,fun i b hi=>?_,fun i j hij hi hj=>?_⟩,?_⟩
  ·cases i with
   |zero=>
    simp only[List.getElem?_cons_zero,Option.some.injEq]at hi;subst hi;obtain⟨cells,k1,k2,k3,k4⟩:=hB;exact⟨cells,k1,k2,k3,fun g hg=>⟨fun hc=>hc.2 (BZ hg),(k4 g hg).2⟩⟩
   |succ i=>simp at hi
  ·cases i with
   |zero=>cases j with
    |zero=>exact absurd rfl hij
    |succ j=>simp[ABlk.live]at hj
   |succ i=>simp[ABlk.live]at hi
  ·have X:Ext w S [] ψ0 w S [.row 0 e T l] (fun _=>v):=⟨fun _ _=>rfl,fun _ h=>h,by simp,fun i c' hi=>by simp at hi,fun i hi=>by simp at hi⟩
   simp only[Array.toList_append,Array.toList_replicate];refine B1 ?_ (DS (by simp[By hr]) fun i x u hx hu=>?_)
   ·unfold Ah;refine⟨v,vs,rfl,?_,Ay X _ _ hr⟩;unfold AV.rel;refine⟨by simp,fun c hc=>?_⟩;simp[ABlk.ver]at hc;exact⟨by omega,fun _=>rfl⟩
   ·rw[List.getElem?_replicate]at hx hu;split at hx <;> cases hx
    split at hu <;> cases hu
    unfold AV.rel;rfl
 refine wp_mono ((h ⟨w,S,fun k=>k < w.heap.size∧BY v≠some k,none⟩).wp rfl hst) ?_;rintro x a' w' ⟨s,⟨hx,i,ver,hev,hi,hmk⟩,hd,S1,ψ,H,hl⟩;rw[hmk]at hd;have hv:=BJ hl (.tmp t);rw[hev]at hv;unfold AV.rel at hv;have hv':=(hv.2 _ (by rw[hi];rfl)).2 rfl;have hBi:=H.blk i _ hi;have hlt:=hBi.lt rfl;have hres':(results fn a'.tmps).run P w'= .ok (a'.eval (.tmp t)) w':=results_tmp hres _ _ _;have hg:w.grownBy w' (BY v):=⟨H.bel.os,H.bel.tape,H.bel.output,H.bel.size,fun k hk hne=>H.bel.block k ⟨hk,fun e=>hne e.symm⟩⟩
 have hfin:∃v',Ending.returned (a'.eval (.tmp t))= .returned v'∧w.grownBy w' (BY v)∧Gm N w' S [] ψ0 v' (.row 0 e T l')∧∀g,BY v'=some g→BY v=some g∨w.heap.size≤g:=by
  have hor:∀g,BY (ψ i)=some g→BY v=some g∨w.heap.size≤g:=fun g hgg=>by
   have:=(hlt g hgg).1;by_cases hc:BY v=some g
   ·exact .inl hc
   ·exact .inr (Nat.le_of_not_lt fun h=>this ⟨h,hc⟩)
  obtain⟨cells,k1,k2,k3,k4⟩:=hBi;rw[hv'];refine⟨_,rfl,hg,⟨cells,k1,k2,?_,fun g hgg=>?_⟩,hor⟩
  ·intro j d hj;exact hflat _ _ _ _ _ (k3 j d hj)
  ·refine⟨fun hNg=>?_,fun hSg=>(k4 g hgg).2 (H.sub g hSg)⟩;rcases hor g (BZ hgg)with h1|h1
   ·exact(hlv g h1).1 hNg
   ·have:=hN g hNg;omega
 rcases hx with rfl|rfl
 ·exact⟨hd,_,hres',hfin⟩
 ·exact⟨hd,_,hres',hfin⟩
theorem LK{P:Program}{C:Ctx}{o:Oper}{t:List AV}{h:List ABlk}{K:St→Prop}{f:FuncId}{x:Operand}{more:List Operand}{args:Array Operand}{tys:Array TypeId}{i ver:Nat}{e:TypeId}{α:Type}{T:Ty α}{l l':List α}{xs:List AV}
 (ho:o.op= .call {callee:=.value (.func f),args:=args,argTypes:=tys}) (ha:args.toList=x::more) (hF:LH P f e T l xs l') (hx:evA t x= .own i ver) (hi:h[i]? =some (.row ver e T l)) (hm:more.map (evA t)=xs) (hc:Bt xs=true)
 (hK:K ⟨BH t o.dst (.own i (ver+1)),h.set i (.row (ver+1) e T l')⟩):AOp P C o ⟨t,h⟩ K:=by
 rintro Q' a w ⟨hd,S,ψ,H,hl⟩;refine⟨fun c e=>(by rw[ho]at e;cases e),?_⟩;have hx':=BJ hl x;rw[show evA (St.mk t h).t x= .own i ver from hx]at hx';unfold AV.rel at hx';have hv:=(hx'.2 _ (by rw[hi];rfl)).2 rfl;have hBi:=H.blk i _ hi;have hlt:=hBi.lt rfl;have h2:Ah w S h ψ xs (more.map a.eval):=by
  rw[←hm];exact Cm fun x _=>BJ hl x
 unfold Oper.wp;rw[CY ho hF.1 a.eval w rfl];simp only[Oper.upon];have hc:=hF.2 C.N S w (ψ i) (more.map a.eval) (fun k hk=>Nat.lt_of_lt_of_le (H.nlt k hk) H.bel.size) H.lt hBi (Bi _ _ hc h2);rw[show(args.map a.eval)=(ψ i::more.map a.eval).toArray from by
  obtain rfl:args=(x::more).toArray:=by rw[←ha]
  simp[hv]]
 refine hc.mono ?_;rintro r w' ⟨v',rfl,hgr,hB',hor⟩;have hblk:∀k,S k→w'.heap[k]? =w.heap[k]?:=fun k hk=>hgr.block k (H.lt k hk) fun e=>(hlt k e.symm).2.2 hk
 have X:Ext w S h ψ w' S (h.set i (.row (ver+1) e T l')) (Bo ψ i v'):=Ext.set hblk hi (fun c' hc=>by
  simp only[ABlk.ver,Option.some.injEq]at hc;exact⟨ver,rfl,by omega,fun e=>by omega⟩) fun h=>by simp[Bj]at h
 refine⟨_,hK,JI (s:=⟨t,h⟩) hi hd hl (H.set hi rfl (Gr.of_grownBy hgr) X hB' hor) X ?_⟩;unfold AV.rel;refine⟨by simp[(List.getElem?_eq_some_iff.1 hi).1],fun c' hc'=>?_⟩;rw[List.getElem?_set_self (List.getElem?_eq_some_iff.1 hi).1]at hc';simp only[ABlk.ver,Option.some.injEq]at hc';exact⟨by omega,fun _=>by rw[AZ]⟩
section
variable{P:Program}{C:Ctx}{o:Oper}{t:List AV}{h:List ABlk}
theorem Yf{f:FuncId}{x:Operand}{args:Array Operand}{tys:Array TypeId}{cs:Array Value}(ho:o.op= .call {callee:=.value x,args:=args,argTypes:=tys})(hE:B6 P f=true)(ρ:Operand→Value)(w:World)(hρ:ρ x= .func (.func f) #[] cs):
 (execOp ρ o).run P w= .ok (.enter f (args.map ρ++cs)) w:=by
 unfold B6 at hE;cases hf:P.funcs[f]? with
 |none=>rw[hf]at hE;cases hE
 |some fn=>
  rw[hf]at hE;simp only[Bool.and_eq_true,Bool.not_eq_true']at hE;have h1:¬fn.name= "runtime.NumGoroutine" :=by simpa using hE.1
  have h2:¬fn.body=none:=fun e=>by have:=hE.2;rw[e]at this;cases this
  simp[execOp,ho,resolve,Deferred.ofValue,hρ,invoke,callFunc,hf,h1,h2]
theorem Xi{f:FuncId}{cap:Array Operand}(ho:o.op= .makeFunc (.func f) #[] cap):AX P C t h o (.fn f (cap.toList.map (evA t))):=
 AR fun S ψ w ρ H hρ=>by
  have hl:Ah w S h ψ (cap.toList.map (evA t)) (cap.toList.map ρ):=Cm fun x hx=>hρ x (by rw[ho];simpa[Op.operands]using hx)
  refine⟨.func (.func f) #[] (cap.map ρ),by simp[execOp,ho,Instr.makeFunc],?_⟩;unfold AV.rel;exact⟨_,by rw[←Array.toList_map],hl⟩
theorem OH:∀l m:List AV,Bt (l++m)=(Bt l&&Bt m)
 | [],m=>by simp[Bt]
 |x::l,m=>by
  have e:∀y k,Bt (y::k)=(AV.cl y&&Bt k):=fun _ _=>by rw[Bt]
  rw[List.cons_append,e,e,OH l m,Bool.and_assoc]
mutual
theorem PX(n:Nat):∀x:AV,AV.cl x=true→AV.bd n x=true
 | .any,_=>rfl
 | .lit _,_=>rfl
 | .bs _ _,_=>rfl
 | .tv _ _,_=>rfl
 | .own _ _,h=>by simp[AV.cl]at h
 | .ptr _ _,h=>by simp[AV.cl]at h
 | .rp _ _ _ _,h=>by simp[AV.cl]at h
 | .bp _ _ _,_=>rfl
 | .agg l,h=>by unfold AV.cl at h;unfold AV.bd;exact Kj n l h
 | .tup l,h=>by unfold AV.cl at h;unfold AV.bd;exact Kj n l h
 | .fn _ l,h=>by unfold AV.cl at h;unfold AV.bd;exact Kj n l h
theorem Kj(n:Nat):∀l:List AV,Bt l=true→Kt n l=true
 | [],_=>rfl
 |x::l,h=>by
  unfold Bt at h;rw[Bool.and_eq_true]at h;unfold Kt;rw[PX n x h.1,Kj n l h.2];rfl
end
theorem Uh{f:FuncId}{x:Operand}{args:Array Operand}{tys:Array TypeId}{l xs:List AV}{r:AV}(ho:o.op= .call {callee:=.value x,args:=args,argTypes:=tys})(hv:evA t x= .fn f l)(hx:args.toList.map (evA t)++l=xs)(hF:Fn P f xs r)(hc1:Bt (args.toList.map (evA t))=true)(hc2:Bt l=true)(hr:AV.cl r=true):AX P C t h o r:=by
 have hc:Bt xs=true:=by rw[←hx,OH,hc1,hc2];rfl
 intro S ψ w ρ H hρ;have h1:=hρ x (by rw[ho];exact Array.mem_append.2 (.inl (by simp)));rw[hv]at h1;unfold AV.rel at h1;obtain⟨cs,e,hcs⟩:=h1;rw[Yf ho hF.1 ρ w e];refine⟨rfl,?_⟩;have h2:Ah w S h ψ xs (args.toList.map ρ++cs):=by
  rw[←hx];exact B1 (Cm fun x hx'=>hρ x (by rw[ho];exact Array.mem_append.2 (.inr (Array.mem_toList_iff.1 hx')))) hcs
 have h3:=hF.2 w S (args.toList.map ρ++cs) H.lt (Bi _ _ hc h2);rw[show(args.map ρ++cs.toArray)=(args.toList.map ρ++cs).toArray from(by simp)];refine h3.mono ?_;rintro e w' ⟨v,he,hb,S',k1,k2,k3,k4⟩;exact⟨v,he,hb,S',k1,k2,k3,Dz _ _ hr k4⟩
mutual
inductive LendV (h:List ABlk):AV→AV→Prop
 |cl {x:AV} (hx:AV.cl x=true):LendV h x x
 |own {i ver:Nat} {e:TypeId} {α:Type} {T:Ty α} {d:List α} (hi:h[i]? =some (.row ver e T d)):LendV h (.own i ver) (.bs T d)
 |box {i off:Nat} {cells:List AV} {α:Type} {T:Ty α} {d:α} (hi:h[i]? =some (.box cells)) (hn:((cells.drop off).take T.size).length=T.size) (hp:∀(C:Ctx) (S:Nat→Prop) (ψ:Nat→Value) (w:World) (cs:List Value),HRel C h S ψ w→Ah w S h ψ ((cells.drop off).take T.size) cs→T.RS w S cs d):LendV h (.ptr i off) (.bp T d 0)
 |fn {f:FuncId} {l l':List AV} (hl:LendL h l l'):LendV h (.fn f l) (.fn f l')
 |fl {f:FuncId}:LendV h (.lit (.func (.func f) #[] #[])) (.fn f [])
inductive LendL (h:List ABlk):List AV→List AV→Prop
 |nil:LendL h [] []
 |cons {x x':AV} {l l':List AV} (hx:LendV h x x') (hl:LendL h l l'):LendL h (x::l) (x'::l')
end
mutual
theorem LendV.rel{w:World}{S:Nat→Prop}{ψ:Nat→Value}(H:HRel C h S ψ w):∀{x x':AV} {v:Value},LendV h x x'→AV.rel w S h ψ x v→AV.rel w (fun k=>k < w.heap.size) [] ψ0 x' v
 |x,_,v,.cl hx,hr=>Dz _ _ hx (GV (Ext.grow h ψ (fun _ _=>rfl) H.lt:Ext w S h ψ w (fun k=>k < w.heap.size) h ψ) _ _ hr)
 |_,_,v,.own (i:=i) hi,hr=>by
  unfold AV.rel at hr⊢;have hv:=(hr.2 _ (by rw[hi];rfl)).2 rfl;subst hv;obtain⟨cells,k1,k0,k2,k3⟩:=H.blk _ _ hi;exact EJ k1 (fun i d hd=>Ty.keepS _ (k2 i d hd) (fun _ _=>rfl) H.lt) fun g hg=>(World.ownsRow.lt k1 g hg).2
 |_,_,v,.box (i:=i) (off:=off) (cells:=cells) (T:=T) (d:=d) hi hn hp,hr=>by
  unfold AV.rel at hr⊢;obtain⟨g,hg,hv⟩:=hr.2 (by rw[hi];rfl);obtain⟨g',cs,e,hg',_,_,hw,hcs⟩:=H.blk _ _ hi;rw[hg]at hg';cases hg';have hlt:g < w.heap.size:=(Array.getElem?_eq_some_iff.1 hw).1;have hl:=JN (JO hcs off) T.size;refine⟨g,off,by rw[hv];rfl,hlt,(cs.drop off).take T.size,Ty.keepS _ (hp C S ψ w _ H hl) (fun _ _=>rfl) H.lt,fun j u hj=>?_⟩;rw[List.getElem?_take]at hj;split at hj
  ·rw[List.getElem?_drop]at hj;have:w.cell? ⟨g,off+0+j,none⟩=some u:=by
    unfold World.cell?;rw[hw];simpa using hj
   simpa using this
  ·cases hj
 |_,_,v,.fn hl,hr=>by
  unfold AV.rel at hr⊢;obtain⟨cs,e,hcs⟩:=hr;exact⟨cs,e,LendL.rel H hl hcs⟩
 |_,_,v,.fl,hr=>by
  unfold AV.rel at hr⊢;exact⟨[],hr,by unfold Ah;rfl⟩
theorem LendL.rel{w:World}{S:Nat→Prop}{ψ:Nat→Value}(H:HRel C h S ψ w):∀{l l':List AV} {vs:List Value},LendL h l l'→Ah w S h ψ l vs→Ah w (fun k=>k < w.heap.size) [] ψ0 l' vs
 |_,_,vs,.nil,hr=>by
  unfold Ah at hr⊢;exact hr
 |_,_,vs,.cons hx hl,hr=>by
  unfold Ah at hr⊢;obtain⟨v,vs',e,h1,h2⟩:=hr;exact⟨v,vs',e,LendV.rel H hx h1,LendL.rel H hl h2⟩
end
end
section
variable{P:Program}{C:Ctx}
theorem Ub{ops:Array Oper}{h:List ABlk}{K K':List AV→Prop}(hk:∀s,K s→K' s):∀{l:List Oper} {t:List AV},aQ P C ops h K l t→aQ P C ops h K' l t
 | [],s,h=>hk s h
 |o::rest,t,h=>by
  obtain⟨r,h1,h2⟩:=h;exact⟨r,h1,Ub hk h2⟩
theorem Ba{t:List AV}{h:List ABlk}{o:Oper}{f:FuncId}{args:Array Operand}{tys:Array TypeId}{xs:List AV}{r:AV}
 (ho:o.op= .call {callee:=.value (.func f),args:=args,argTypes:=tys}) (hx:args.toList.map (evA t)=xs) (hF:Fn P f xs r) (hc:Bt xs=true) (hr:AV.cl r=true):AX P C t h o r:=AX.call ho hF hx hc hr
theorem Hb{t:List AV}{h:List ABlk}{o:Oper}{c a b:Operand}{q e:Bool}(ho:o.op= .pick c a b)(hc:evA t c= .lit (.bool q))(ha:evA t a= .lit (.bool true))(hb:evA t b=cond (!q) (.lit (.bool e)) (.lit undef)):AX P C t h o (.lit (.bool (q||e))):=
 Ap ho hc ha (by rw[hb];cases q <;> rfl)
theorem DN{t:List AV}{h:List ABlk}{o:Oper}{c a b:Operand}{q e:Bool}(ho:o.op= .pick c a b)(hc:evA t c= .lit (.bool q))(ha:evA t a=cond q (.lit (.bool e)) (.lit undef))(hb:evA t b= .lit (.bool false)):AX P C t h o (.lit (.bool (q&&e))):=
 Ao ho hc (by rw[ha];cases q <;> rfl) hb
theorem Ajp{ops:Array Oper}{h:List ABlk}{t t':List AV}(e:t=t'):aQ P C ops h (fun x=>x=t') [] t:=e
section
variable{t t' t'':List AV}{h h' h'':List ABlk}{o:Oper}{r:AV}{ops:Array Oper}{rest:List Oper}{K:St→Prop}
theorem qAt (hq:AX P C t h o r:=by(first
 |exact Ba rfl rfl (by assumption) rfl rfl
 |exact AX.callTA rfl rfl (by assumption) (by assumption) (by assumption) (by assumption) rfl rfl
 |exact CF rfl rfl rfl (by assumption)
 |exact Ap rfl rfl rfl rfl
 |exact Ao rfl rfl rfl rfl
 |exact Hb rfl rfl rfl rfl
 |exact DN rfl rfl rfl rfl
 |exact AX.pickOr' rfl rfl rfl rfl
 |exact AX.pickAnd' rfl rfl rfl rfl
 |exact AX.move rfl (by(conv=>lhs;whnf);try rfl)
 |exact AX.assign rfl (by(conv=>lhs;whnf);try rfl)
 |exact BU rfl rfl rfl
 |exact DX rfl rfl
 |exact C1 rfl rfl rfl
 |exact Sq rfl rfl
 |exact Bk rfl rfl rfl rfl
 |exact DE rfl rfl rfl
 |exact Cp rfl rfl rfl (by assumption) rfl
 |exact Bc rfl rfl rfl rfl
 |exact CK rfl rfl rfl
 |exact Hd rfl rfl rfl rfl (by assumption)
 |exact GT rfl rfl rfl rfl (by first|decide|omega) (by assumption)
 |exact Ik rfl rfl rfl rfl rfl (by first|assumption|omega)
 |exact Ex rfl rfl rfl rfl rfl (by first|decide|omega) (by first|assumption|omega)
 |exact ON rfl rfl rfl (by first|assumption|omega)
 |exact Hc rfl rfl
 |exact GP rfl rfl rfl
 |exact Ij rfl rfl
 |exact FM rfl rfl rfl (by omega)
 |exact FK rfl rfl rfl (by omega)
 |exact GU rfl rfl rfl rfl (by assumption)
 |exact CF rfl rfl rfl rfl
 |exact CT rfl rfl
 |exact AX.pick rfl rfl (by(conv=>lhs;whnf);try rfl)
 |exact AX.extract rfl rfl rfl
 |exact Ek rfl rfl rfl (by rfl) (by decide) (by first|exact Fit.bool|exact Fit.bs|exact Fit.int (by assumption))
 |exact AX.max2 rfl rfl rfl
 |exact AX.min2 rfl rfl rfl
 |exact Ck (i:=0) rfl rfl rfl (by first|rfl|assumption) rfl
 |exact Ck (i:=1) rfl rfl rfl (by first|rfl|assumption) rfl
 |exact Ck (i:=2) rfl rfl rfl (by first|rfl|assumption) rfl
 |exact Ck (i:=3) rfl rfl rfl (by first|rfl|assumption) rfl
 |exact Ck (i:=4) rfl rfl rfl (by first|rfl|assumption) rfl
 |exact Ck (i:=5) rfl rfl rfl (by first|rfl|assumption) rfl
 |exact Ck (i:=6) rfl rfl rfl (by first|rfl|assumption) rfl
 |exact Ck (i:=7) rfl rfl rfl (by first|rfl|assumption) rfl
 |exact Ck (i:=8) rfl rfl rfl (by first|rfl|assumption) rfl
 |exact Cd (i:=1) rfl rfl rfl rfl rfl
 |exact Cd (i:=2) rfl rfl rfl rfl rfl
 |exact Cd (i:=3) rfl rfl rfl rfl rfl
 |exact Cd (i:=4) rfl rfl rfl rfl rfl
 |exact Cd (i:=5) rfl rfl rfl rfl rfl
 |exact Cd (i:=6) rfl rfl rfl rfl rfl
 |exact Cd (i:=7) rfl rfl rfl rfl rfl
 |exact Cd (i:=8) rfl rfl rfl rfl rfl
 |exact AX.eqb rfl rfl rfl (by assumption)
 |exact AX.eqb rfl rfl rfl rfl
 |exact NA rfl rfl rfl (by assumption)
 |exact NA rfl rfl rfl rfl
 |exact AX.eqSs rfl rfl rfl
 |exact AX.eqS rfl rfl rfl
 |exact AX.neS rfl rfl rfl
 |exact AX.lnS rfl rfl
 |exact AX.ixS rfl rfl rfl (by assumption)
 |exact AX.cat rfl rfl rfl (by first|assumption|omega)
 |exact AX.cut rfl rfl rfl rfl (by first|assumption|omega) (by first|assumption|omega)
 |exact AX.cutS rfl rfl rfl (by first|assumption|omega)
 |exact AX.shl rfl rfl rfl (by decide) (by assumption)
 |exact AX.shl rfl rfl rfl (by decide) rfl
 |exact AX.shr rfl rfl rfl (by decide) (by assumption)
 |exact AX.shr rfl rfl rfl (by decide) rfl
 |exact AX.bit rfl rfl rfl rfl (by assumption)
 |exact AX.bit rfl rfl rfl rfl rfl
 |exact Xi rfl
 |exact Uh rfl rfl rfl (by assumption) rfl (by first|rfl|assumption) rfl
 |exact AX.cv rfl rfl (by assumption)
 |exact AX.cv rfl rfl rfl
 |exact AX.b2s rfl rfl
 |exact AX.s2b rfl rfl (by first|assumption|omega))):AX P C t h o r:=hq
theorem sA(hk:Dj P C ops K rest ⟨t',h⟩)(hg:gA ops t o=some true:=by rfl)(hq:AX P C t h o r:=by exact qAt)(ht:BH t o.dst r=t':=by((try simp only[BH,List.set_cons_zero,List.set_cons_succ]);exact rfl)):Dj P C ops K (o::rest) ⟨t,h⟩:=by
 subst ht;exact Aac hg hq hk
theorem qA{K:List AV→Prop}(hk:aQ P C ops h K rest t')(hg:gA ops t o=some true:=by rfl)(hq:AX P C t h o r:=by exact qAt)(ht:BH t o.dst r=t':=by((try simp only[BH,List.set_cons_zero,List.set_cons_succ]);exact rfl)):aQ P C ops h K (o::rest) t:=by
 subst ht;exact Aks hg hq hk
theorem sAG{g:Bool}(hk:Dj P C ops K rest ⟨t',h⟩)(hg:gA ops t o=some g:=by first|rfl|exact Ai5 rfl rfl)(hq:g=true→AX P C t h o r:=by(intro hg;(try simp only[Bool.and_eq_true,beq_true,beq_false,Bool.not_eq_true',Bool.not_eq_eq_eq_not,Bool.not_true,Bool.not_false]at hg);(try simp only[hg,beq_true,beq_false,cond_true,Bool.true_and,Bool.and_true,Bool.not_false,Bool.not_true,beq_self_eq_true]);exact qAt))(ht:BH t o.dst (cond g r (.lit undef))=t':=by((try simp only[BH,List.set_cons_zero,List.set_cons_succ]);exact rfl)):Dj P C ops K (o::rest) ⟨t,h⟩:=sG hk hg hq ht
end
section
variable{id:Nat}{l l1 l2:List Oper}{y:Code}{Q:Exit→St→Prop}{t t' t'':List AV}{h h':List ABlk}
theorem wR(hk:Awp P C y Q ⟨t',h'⟩)(hx:Dj P C l.toArray (fun s=>s=⟨t',h'⟩) l ⟨t,h⟩:=by((repeat(first|refine sA ?_|refine AW ?_|refine sAG ?_|refine BQ (hk:=?_)));exact Gq rfl)):Awp P C (.seq (.region id l.toArray false) y) Q ⟨t,h⟩:=
 Ad fun _ hK=>Awp.region (Dx (fun s e=>by subst e;exact hK _ hk) hx)
theorem wRE(hk:Q .normal ⟨t',h'⟩)(hx:Dj P C l.toArray (fun s=>s=⟨t',h'⟩) l ⟨t,h⟩:=by((repeat(first|refine sA ?_|refine AW ?_|refine sAG ?_|refine BQ (hk:=?_)));exact Gq rfl)):Awp P C (.region id l.toArray false) Q ⟨t,h⟩:=
 Awp.region (Dx (fun s e=>by subst e;exact hk) hx)
theorem wDE(n:Nat)(hm:P.follows .mixedOrders=true:=by kernel_rfl)(hB:Xw l.toArray n=true:=by kernel_rfl)(h1:l.take n=l1:=by(simp only[List.take_succ_cons,List.take_zero,List.drop_succ_cons,List.drop_zero,List.take_nil,List.drop_nil];exact rfl))(h2:l.drop n=l2:=by(simp only[List.take_succ_cons,List.take_zero,List.drop_succ_cons,List.drop_zero,List.take_nil,List.drop_nil];exact rfl))
 (hq:aQ P C l.toArray h (fun x=>x=t'') l1 t:=by((repeat(first|refine qA ?_|refine HF ?_|refine qAG (hk:=?_)));exact Ajp rfl))
 (hx:Dj P C l.toArray (fun s=>s=⟨t',h'⟩) l2 ⟨t'',h⟩:=by((repeat(first|refine sA ?_|refine AW ?_|refine sAG ?_|refine BQ (hk:=?_)));exact Gq rfl)) (hk:Q .normal ⟨t',h'⟩):Awp P C (.region id l.toArray true) Q ⟨t,h⟩:=by
 subst h1 h2;exact Mg n hm hB (Ub (fun t e=>by subst e;exact Dx (fun s e=>by subst e;exact hk) hx) hq)
theorem wD(n:Nat)(hm:P.follows .mixedOrders=true:=by kernel_rfl)(hB:Xw l.toArray n=true:=by kernel_rfl)(h1:l.take n=l1:=by(simp only[List.take_succ_cons,List.take_zero,List.drop_succ_cons,List.drop_zero,List.take_nil,List.drop_nil];exact rfl))(h2:l.drop n=l2:=by(simp only[List.take_succ_cons,List.take_zero,List.drop_succ_cons,List.drop_zero,List.take_nil,List.drop_nil];exact rfl))
 (hq:aQ P C l.toArray h (fun x=>x=t'') l1 t:=by((repeat(first|refine qA ?_|refine HF ?_|refine qAG (hk:=?_)));exact Ajp rfl))
 (hx:Dj P C l.toArray (fun s=>s=⟨t',h'⟩) l2 ⟨t'',h⟩:=by((repeat(first|refine sA ?_|refine AW ?_|refine sAG ?_|refine BQ (hk:=?_)));exact Gq rfl)) (hk:Awp P C y Q ⟨t',h'⟩):Awp P C (.seq (.region id l.toArray true) y) Q ⟨t,h⟩:=
 Ad fun _ hK=>wDE n hm hB h1 h2 hq hx (hK _ hk)
end
theorem Bd{t t':List AV}{h:List ABlk}(hb:bdH h=true:=by rfl)(hf:Fgt h.length t t':=by((try simp only[BH,List.set_cons_zero,List.set_cons_succ]);repeat(first|exact Fgt.nil|refine Fgt.keep rfl ?_|refine Fgt.any ?_|refine Fgt.keep (by first|assumption|exact PX _ _ (by assumption)) ?_))):St.le C ⟨t,h⟩ ⟨t',h⟩:=P5 hb hf
end
end Mu
end
section
namespace Mu
open Go Go.RowKit Go.ChangeShapes Go.WideShapes Go.Proofs
def Yw(g:Nat)(cells:List Value)(e:TypeId):Res:=⟨[],fun k=>k=g,fun w _=>w.heap[g]? =some (.cells cells.toArray e (0,0)),fun h hk _ _=>(hk g rfl).trans h⟩
section
variable{P:Program}{C:Ctx}{t:List AV}{h:List ABlk}{o:Oper}{K:St→Prop}
end
section
variable{P:Program}{C:Ctx}{t:List AV}{h:List ABlk}{o:Oper}{K:St→Prop}
theorem Aem{ty ty':TypeId}{a:Option Addr}{n c:Nat}{w:World}(hs:H7 P ty=true):(Builtin.cap_ #[ty] ty' #[.slice a n c]).run P w= .ok (.int .i64 (c:Int)) w:=by
 unfold H7 at hs;split at hs <;> try(cases hs;done)
 rename_i e h1;simp[Builtin.cap_,underlying,h1,goInt]
theorem Su{ty:TypeId}{x:Operand}{a:Option Addr}{n c:Nat}[SL P ty](ho:o.op= .call {callee:=.builtin .cap,args:=#[x],argTypes:=#[ty]})(hx:evA t x= .lit (.slice a n c)):AX P C t h o (.lit (.int .i64 (c:Int))):=
 AR fun S ψ w ρ H hρ=>by
  have h1:=hρ x (by simp[ho,Op.operands,Call.operands]);rw[hx]at h1;unfold AV.rel at h1;refine⟨_,by simp[execOp,ho,resolve,invoke,builtin,h1,Aem (SL.eq (P:=P) (ty:=ty))];rfl,?_⟩;unfold AV.rel;rfl
theorem Sn{ty:TypeId}{x y:Operand}{k:IntKind}{n:Nat}[ES P ty n](ho:o.op= .slice ty x none (some y) none)(hx:evA t x= .lit (.slice none 0 0))(hy:evA t y= .lit (.int k ((0:Nat):Int))):AX P C t h o (.lit (.slice none 0 0)):=
 AR fun S ψ w ρ H hρ=>by
  have h1:=hρ x (by simp[ho,Op.operands]);have h2:=hρ y (by simp[ho,Op.operands]);rw[hx]at h1;rw[hy]at h2;unfold AV.rel at h1 h2;have hr:=QF (P:=P) (w:=w) (a:=none) (len:=0) (cap:=0) (lo:=none) (hi:=some (.int k ((0:Nat):Int))) (l:=0) (m:=0) (ES.eq (P:=P) (ty:=ty) (n:=n)) rfl ⟨k,rfl⟩ (Nat.le_refl _) (Nat.le_refl _);have hr':(Instr.sliceAt ty (.slice none 0 0) none (some (.int k 0)) none).run P w= .ok (.slice none 0 0) w:=by simpa using hr
  refine⟨.slice none 0 0,by simp[execOp,ho,h1,h2,hr'],?_⟩;unfold AV.rel;rfl
end
end Mu
end
section
namespace Mu
open Go Go.RowKit Go.Proofs
section
variable{P:Program}
def Ajj(t u:Tmp)(m:Nat)(r q:AV):Exit→St→Prop:=fun e s=>(e= .normal∨e= .ret)∧∃i cells,evA s.t (.tmp t)= .ptr i 0∧s.h[i]? =some (.box cells)∧cells.length=m∧Fin s.h (.tup [.agg cells,evA s.t (.tmp u)]) (.tup [r,q])
theorem NG{f:FuncId}{fn:Go.Func}{c:Code}{args:List AV}{r q:AV}{t u:Tmp}{ty:TypeId}{n m:Nat}(hf:P.funcs[f]? =some fn)(hb:fn.body=some c)(hE:B6 P f=true)(hres:fn.results= #[.cell t ty,.tmp u])(ha:T9 P ty=some (true,m))(hn:fn.ntmps=n)
 (h:∀C:Ctx,C.std→Awp P C c (Ajj t u m r q) ⟨args++List.replicate (n - args.length) (.lit undef),[]⟩):Fn P f args (.tup [r,q]):=by
 refine⟨hE,fun w S vs hS hr=>calls_of_wp hf hb ?_⟩;rw[hn];refine wp_mono ((h ⟨w,S,fun k=>k < w.heap.size,none⟩ (fun _ h=>h)).wp rfl (Dk hS hr)) ?_;rintro e a' w' ⟨s,⟨he,i,cells,hev,hi,hm,hfin⟩,hd,S1,ψ,H,hl⟩;rw[hfin.1]at hd;have hv:=BJ hl (.tmp t);rw[hev]at hv;unfold AV.rel at hv;obtain⟨g,h1,h2⟩:=hv.2 (by rw[hi];rfl);obtain⟨g',cs,e',h3,_,_,h4,h5⟩:=H.blk i _ hi;rw[h1]at h3;cases h3;have hc:∀j v,cs[j]? =some v→w'.cell? ⟨g,0+j,none⟩=some v:=fun j v hv=>by simp[World.cell?,h4,hv]
 have hload:=Hv (P:=P) (ty:=ty) (b:=g) (off:=0) ha (by rw[By h5];exact hm) hc;have hres':(results fn a'.tmps).run P w'= .ok (.tuple #[.agg cs.toArray,a'.eval (.tmp u)]) w':=by
  have e1:(a'.tmps[t]?).getD undef= .pointer (some ⟨g,0,none⟩):=by rw[←Array.getD_eq_getD_getElem?];exact h2
  have e2:(a'.tmps[u]?).getD undef=a'.eval (.tmp u):=by rw[←Array.getD_eq_getD_getElem?];rfl
  unfold Instr.loadAt Instr.sureAddr at hload;simp only[Sem.run_bind,Sem.run_pure,Result.andThen_ok]at hload;simp[results,hres,e1,e2,asAddr,hload]
 have hrl:AV.rel w' S1 s.h ψ (.tup [.agg cells,evA s.t (.tmp u)]) (.tuple #[.agg cs.toArray,a'.eval (.tmp u)]):=by
  unfold AV.rel;refine⟨[.agg cs.toArray,a'.eval (.tmp u)],rfl,?_⟩;unfold Ah;refine⟨_,_,rfl,(by unfold AV.rel;exact⟨cs,rfl,h5⟩),?_⟩;unfold Ah;refine⟨_,_,rfl,BJ hl (.tmp u),?_⟩;unfold Ah;rfl
 have hg:Xm w S [] ψ0 (.tup [r,q]) (.tuple #[.agg cs.toArray,a'.eval (.tmp u)]) w':=by
  first
   |exact Es H hfin hrl
   |exact Es (a':=a') H hfin hrl
 rcases he with rfl|rfl
 ·exact⟨hd,_,hres',_,rfl,hg⟩
 ·exact⟨hd,_,hres',_,rfl,hg⟩
end
end Mu
end
section
namespace Mu
open Go Go.RowKit Go.ChangeShapes Go.WideShapes Go.Proofs
theorem AK{P:Program}{C:Ctx}{t:List AV}{h:List ABlk}{o:Oper}{ty:TypeId}{parts:Array (Nat×Operand)}{zs:List Value}{pl:List (Nat×Nat)}{rs:List AV}[ZC P ty zs](ho:o.op= .build ty parts)(hpl:Ec P ty=some pl)
 (hr:putCells pl (zs.map .lit) (parts.toList.map fun p=>(p.1,evA t p.2))=some rs) (h1:(parts.toList.all fun p=>TE (evA t p.2))=true):AX P C t h o (.agg rs):=
 AX.build ho ZC.eq hpl hr fun p hp=>Kr (List.all_eq_true.1 h1 p hp)
theorem Xc{C:Ctx}{t:List AV}{h:List ABlk}(i j:Nat)(e:TypeId){α:Type}(T:Ty α){cells:List AV}(hi:h[i]? =some (.box cells))(hj:cells[j]? =some (.lit (.slice none 0 0)))(h0:0 < T.size):
 St.le C ⟨t,h⟩ ⟨t,h.set i (.box (cells.set j (.own h.length 0)))++[.row 0 e T []]⟩:=fun a w ⟨hd,S,ψ,H,hl⟩=>by
 have hil:=(List.getElem?_eq_some_iff.1 hi).1;have X1:Ext w S h ψ w S (h++[.row 0 e T []]) (Bo ψ h.length (.slice none 0 0)):=Ext.push _ _ fun _ _=>rfl
 have hB:Gm C.N w S (h++[.row 0 e T []]) (Bo ψ h.length (.slice none 0 0)) (.slice none 0 0) (.row 0 e T []):=
  ⟨[],World.ownsRow_nil _ _ _ _,h0,fun i d hi=>by simp at hi,fun g hg=>by simp[Value.ownBlock]at hg⟩
 have H1:=H.push (Below.refl _ _) hB (fun g hg=>by simp[ftp,BY]at hg);have hi1:(h++[ABlk.row 0 e T []])[i]? =some (.box cells):=by rw[List.getElem?_append_left hil];exact hi
 have X2:Ext w S (h++[ABlk.row 0 e T []]) (Bo ψ h.length (.slice none 0 0)) w S ((h++[ABlk.row 0 e T []]).set i (.box (cells.set j (.own h.length 0)))) (Bo (Bo ψ h.length (.slice none 0 0)) i (Bo ψ h.length (.slice none 0 0) i)):=
  Ext.set (b:=.box cells) (b':=.box (cells.set j (.own h.length 0))) (v':=Bo ψ h.length (.slice none 0 0) i) (fun _ _=>rfl) hi1 (fun c' hc=>by simp[ABlk.ver]at hc) fun _=>⟨rfl,rfl⟩
 obtain⟨g,cs,e',k1,k2,k3,k4,k5⟩:=H1.blk i _ hi1;obtain⟨v,h1,h2⟩:=B9 k5 hj;unfold AV.rel at h2;subst h2;have hset:∀(φ:Nat→Value) k,Bo φ k (φ k)=φ:=fun φ k=>funext fun q=>by unfold Bo;split <;> simp_all
 have hcell:AV.rel w S ((h++[ABlk.row 0 e T []]).set i (.box (cells.set j (.own h.length 0)))) (Bo (Bo ψ h.length (.slice none 0 0)) i (Bo ψ h.length (.slice none 0 0) i)) (.own h.length 0) (.slice none 0 0):=by
  unfold AV.rel;refine⟨by simp,fun c' hc'=>?_⟩;rw[List.getElem?_set_ne (by omega),List.getElem?_append_right (Nat.le_refl _)]at hc';simp[ABlk.ver]at hc';exact⟨by omega,fun _=>by rw[hset,AZ]⟩
 have hcs:cs.set j (.slice none 0 0)=cs:=by
  apply List.ext_getElem?;intro q;by_cases hq:j=q
  ·subst hq;rw[List.getElem?_set_self (List.getElem?_eq_some_iff.1 h1).1,h1]
  ·rw[List.getElem?_set_ne hq]
 have hB2:Gm C.N w S ((h++[ABlk.row 0 e T []]).set i (.box (cells.set j (.own h.length 0)))) (Bo (Bo ψ h.length (.slice none 0 0)) i (Bo ψ h.length (.slice none 0 0) i)) (Bo ψ h.length (.slice none 0 0) i) (.box (cells.set j (.own h.length 0))):=by
  refine⟨g,cs,e',k1,k2,k3,k4,?_⟩;have:=G0 (Ay X2 _ _ k5) j hcell;rwa [hcs]at this
 have H2:=H1.set (v':=Bo ψ h.length (.slice none 0 0) i) hi1 rfl ⟨rfl,rfl,rfl,Nat.le_refl _,fun _ _ _=>rfl⟩ X2 hB2 fun g' hg'=>.inl hg'
 have hE:(h++[ABlk.row 0 e T []]).set i (.box (cells.set j (.own h.length 0)))=h.set i (.box (cells.set j (.own h.length 0)))++[.row 0 e T []]:=List.set_append_left _ _ hil;rw[hE]at H2 X2;refine⟨?_,S,_,H2,Ay X2 _ _ (Ay X1 _ _ hl)⟩;rw[hd];show mkD h=mkD (h.set i _++[_]);rw[FW,Dc (b':=.box (cells.set j (.own h.length 0))) hi rfl];rfl
theorem Fin.weak{h:List ABlk}{x r:AV}(hx:AV.cl x=true)(hw:∀w S v,AV.rel w S [] ψ0 x v→AV.rel w S [] ψ0 r v)(hm:mkD h= []:=by rfl):Fin h x r:=
 ⟨hm,fun _ S _ w v _ H hv=>⟨S,fun _ h=>h,fun _ h=>.inl h,H.lt,hw w S v (Dz _ _ hx hv)⟩⟩
end Mu
end
section
namespace Mu
open Go Go.RowKit Go.Proofs
def ixD{α:Type}[Inhabited α](l:List α)(z:Int):α:=l.getD z.toNat default
def BN{α:Type}(l:List α)(z:Int):Bool:=decide (0≤z)&&decide (z.toNat < l.length)
theorem Ee{α:Type}{l:List α}{z:Int}:BN l z=true↔0≤z∧z.toNat < l.length:=by unfold BN;simp
theorem Jl{α:Type}[Inhabited α]{l:List α}{z:Int}(h:BN l z=true):l[z.toNat]? =some (ixD l z):=by
 have h1:=(Ee.1 h).2;unfold ixD;rw[List.getD_eq_getElem?_getD,List.getElem?_eq_getElem h1];rfl
theorem Ce{α:Type}[Inhabited α]{l:List α}{k:Nat}{x:α}(h:l[k]? =some x):ixD l (k:Int)=x:=by
 unfold ixD;rw[Int.toNat_natCast,List.getD_eq_getElem?_getD,h];rfl
def slB{α:Type}(l:List α)(a b:Int):Bool:=decide (0≤a)&&decide (a≤b)&&decide (b.toNat≤l.length)
def slD{α:Type}(l:List α)(a b:Int):List α:=(l.take b.toNat).drop a.toNat
def Gn(n bytes:Nat):Bool:=decide (n≤maxLen)&&decide (n * bytes≤140737488355328)
def Aj5(s:ByteArray):Bool:=decide (s.size≤maxLen)
def wfB(k:IntKind)(a:Int):Bool:=(Lit.int k a).wf
theorem Li{k:IntKind}{a:Int}(h:wfB k a=true):wfI k a:=h
theorem Abf{n b:Nat}(h:Gn n b=true):n≤maxLen:=by unfold Gn at h;simp at h;exact h.1
theorem VO{n b:Nat}(h:Gn n b=true):n * b≤140737488355328:=by unfold Gn at h;simp at h;exact h.2
theorem XT{s:ByteArray}(h:Aj5 s=true):s.size≤maxLen:=of_decide_eq_true h
theorem DG{g p:Bool}(h:(!g||p)=true)(hg:g=true):p=true:=by subst hg;simpa using h
theorem GO{a b:Bool}(h:(a&&b)=true):a=true:=by cases a;cases h;rfl
theorem KY{α:Type 1}{a b:Bool}(h:a=true)(x y:α):(bif a&&b then x else y)=bif b then x else y:=by subst h;rfl
theorem Cf{α:Type 1}{b:Bool}(h:b=true)(x y:α):(bif b then x else y)=x:=by subst h;rfl
theorem Oc{x0 r:AV}{l:List AV}:BH (x0::l) (some 0) r=r::l:=rfl
theorem LN{x0 x1 r:AV}{l:List AV}:BH (x0::x1::l) (some 1) r=x0::r::l:=rfl
theorem O8{x0 x1 x2 r:AV}{l:List AV}:BH (x0::x1::x2::l) (some 2) r=x0::x1::r::l:=rfl
theorem Ob{x0 x1 x2 x3 r:AV}{l:List AV}:BH (x0::x1::x2::x3::l) (some 3) r=x0::x1::x2::r::l:=rfl
theorem O7{x0 x1 x2 x3 x4 r:AV}{l:List AV}:BH (x0::x1::x2::x3::x4::l) (some 4) r=x0::x1::x2::x3::r::l:=rfl
theorem S6{x0 x1 x2 x3 x4 x5 r:AV}{l:List AV}:BH (x0::x1::x2::x3::x4::x5::l) (some 5) r=x0::x1::x2::x3::x4::r::l:=rfl
theorem Mx{x0 x1 x2 x3 x4 x5 x6 r:AV}{l:List AV}:BH (x0::x1::x2::x3::x4::x5::x6::l) (some 6) r=x0::x1::x2::x3::x4::x5::r::l:=rfl
theorem LM{x0 x1 x2 x3 x4 x5 x6 x7 r:AV}{l:List AV}:BH (x0::x1::x2::x3::x4::x5::x6::x7::l) (some 7) r=x0::x1::x2::x3::x4::x5::x6::r::l:=rfl
theorem AA{x0 x1 x2 x3 x4 x5 x6 x7 r:AV}{l l':List AV}{k:Nat}(e:BH l (some k) r=l'):BH (x0::x1::x2::x3::x4::x5::x6::x7::l) (some (k+8)) r=x0::x1::x2::x3::x4::x5::x6::x7::l':=by subst e;rfl
theorem As{x0 x1 x2 x3 x4 x5 x6 x7 x8 x9 x10 x11 x12 x13 x14 x15 x16 x17 x18 x19 x20 x21 x22 x23 x24 x25 x26 x27 x28 x29 x30 x31 r:AV}{l l':List AV}{k:Nat}(e:BH l (some k) r=l'):BH (x0::x1::x2::x3::x4::x5::x6::x7::x8::x9::x10::x11::x12::x13::x14::x15::x16::x17::x18::x19::x20::x21::x22::x23::x24::x25::x26::x27::x28::x29::x30::x31::l) (some (k+32)) r=x0::x1::x2::x3::x4::x5::x6::x7::x8::x9::x10::x11::x12::x13::x14::x15::x16::x17::x18::x19::x20::x21::x22::x23::x24::x25::x26::x27::x28::x29::x30::x31::l':=by subst e;rfl
theorem Oy{x0:AV}{l:List AV}:evA (x0::l) (.tmp 0)=x0:=rfl
theorem U2{x0 x1:AV}{l:List AV}:evA (x0::x1::l) (.tmp 1)=x1:=rfl
theorem PJ{x0 x1 x2:AV}{l:List AV}:evA (x0::x1::x2::l) (.tmp 2)=x2:=rfl
theorem Kw{x0 x1 x2 x3:AV}{l:List AV}:evA (x0::x1::x2::x3::l) (.tmp 3)=x3:=rfl
theorem NU{x0 x1 x2 x3 x4:AV}{l:List AV}:evA (x0::x1::x2::x3::x4::l) (.tmp 4)=x4:=rfl
theorem L9{x0 x1 x2 x3 x4 x5:AV}{l:List AV}:evA (x0::x1::x2::x3::x4::x5::l) (.tmp 5)=x5:=rfl
theorem Qd{x0 x1 x2 x3 x4 x5 x6:AV}{l:List AV}:evA (x0::x1::x2::x3::x4::x5::x6::l) (.tmp 6)=x6:=rfl
theorem NO{x0 x1 x2 x3 x4 x5 x6 x7:AV}{l:List AV}:evA (x0::x1::x2::x3::x4::x5::x6::x7::l) (.tmp 7)=x7:=rfl
theorem AO{x0 x1 x2 x3 x4 x5 x6 x7 r:AV}{l:List AV}{k:Nat}(e:evA l (.tmp k)=r):evA (x0::x1::x2::x3::x4::x5::x6::x7::l) (.tmp (k+8))=r:=e
theorem AL{x0 x1 x2 x3 x4 x5 x6 x7 x8 x9 x10 x11 x12 x13 x14 x15 x16 x17 x18 x19 x20 x21 x22 x23 x24 x25 x26 x27 x28 x29 x30 x31 r:AV}{l:List AV}{k:Nat}(e:evA l (.tmp k)=r):evA (x0::x1::x2::x3::x4::x5::x6::x7::x8::x9::x10::x11::x12::x13::x14::x15::x16::x17::x18::x19::x20::x21::x22::x23::x24::x25::x26::x27::x28::x29::x30::x31::l) (.tmp (k+32))=r:=e
theorem Zc{l:List AV}{v:Value}:evA l (.const v)= .lit v:=rfl
theorem Ako{l:List AV}{r:AV}:BH l none r=l:=rfl
inductive Up:AV→AV→Prop
 |refl (x:AV):Up x x
 |nil {α:Type} (T:Ty α):Up (.lit (.slice none 0 0)) (.bs T [])
 |agg {l l':List AV}:l.length=l'.length→(∀(i:Nat) (x y:AV),l[i]? =some x→l'[i]? =some y→Up x y)→Up (.agg l) (.agg l')
 |tup {l l':List AV}:l.length=l'.length→(∀(i:Nat) (x y:AV),l[i]? =some x→l'[i]? =some y→Up x y)→Up (.tup l) (.tup l')
theorem Up.rel{w:World}{S:Nat→Prop}{h:List ABlk}{ψ:Nat→Value}{x y:AV}(hu:Up x y):∀{v:Value},AV.rel w S h ψ x v→AV.rel w S h ψ y v:=by
 induction hu with
 |refl x=>exact fun h=>h
 |nil T=>
  intro v H;unfold AV.rel at H⊢;rw[H];exact T.slice_nilS _ _
 |@agg l l' hlen hi ih=>
  intro v H;unfold AV.rel at H⊢;obtain⟨cs,e,hl⟩:=H;refine⟨cs,e,DS (by rw[By hl,hlen]) fun i y u hy hu=>?_⟩;have hlt:i < l.length:=by rw[hlen];exact(List.getElem?_eq_some_iff.1 hy).1
  obtain⟨x,hx⟩:∃x,l[i]? =some x:=⟨_,List.getElem?_eq_getElem hlt⟩
  obtain⟨u',h1,h2⟩:=B9 hl hx;rw[h1]at hu;cases hu;exact ih i x y hx hy h2
 |@tup l l' hlen hi ih=>
  intro v H;unfold AV.rel at H⊢;obtain⟨cs,e,hl⟩:=H;refine⟨cs,e,DS (by rw[By hl,hlen]) fun i y u hy hu=>?_⟩;have hlt:i < l.length:=by rw[hlen];exact(List.getElem?_eq_some_iff.1 hy).1
  obtain⟨x,hx⟩:∃x,l[i]? =some x:=⟨_,List.getElem?_eq_getElem hlt⟩
  obtain⟨u',h1,h2⟩:=B9 hl hx;rw[h1]at hu;cases hu;exact ih i x y hx hy h2
inductive UpL:List AV→List AV→Prop
 |nil:UpL [] []
 |cons {x y:AV} {l l':List AV}:Up x y→UpL l l'→UpL (x::l) (y::l')
theorem UpL.len{l l':List AV}(h:UpL l l'):l.length=l'.length:=by
 induction h with
 |nil=>rfl
 |cons _ _ ih=>simp[ih]
theorem UpL.get{l l':List AV}(h:UpL l l'):∀(i:Nat) (x y:AV),l[i]? =some x→l'[i]? =some y→Up x y:=by
 induction h with
 |nil=>intro i x y hx;simp at hx
 |cons h1 _ ih=>
  intro i x y hx hy;cases i with
  |zero=>simp at hx hy;subst hx hy;exact h1
  |succ i=>exact ih i x y (by simpa using hx) (by simpa using hy)
theorem UpL.rel{w:World}{S:Nat→Prop}{h:List ABlk}{ψ:Nat→Value}{l l':List AV}(hu:UpL l l'){cs:List Value}(H:Ah w S h ψ l cs):Ah w S h ψ l' cs:=by
 refine DS (by rw[By H,hu.len]) fun i y u hy hv=>?_
 have hlt:i < l.length:=by rw[hu.len];exact(List.getElem?_eq_some_iff.1 hy).1
 obtain⟨x,hx⟩:∃x,l[i]? =some x:=⟨_,List.getElem?_eq_getElem hlt⟩
 obtain⟨u',h1,h2⟩:=B9 H hx;rw[h1]at hv;cases hv;exact(hu.get i x y hx hy).rel h2
theorem Lf{l l':List AV}(h:UpL l l'):Up (.agg l) (.agg l'):=.agg h.len h.get
theorem Ajf{l l':List AV}(h:UpL l l'):Up (.tup l) (.tup l'):=.tup h.len h.get
section
variable{P:Program}{C:Ctx}{t t':List AV}{h h':List ABlk}{o:Oper}
theorem Dy{ty:TypeId}{x y:Operand}{ik:IntKind}{z:Int}{n:Nat}{α:Type}[Inhabited α]{T:Ty α}{l:List α}[ES P ty n](ho:o.op= .indexAddr ty x y)(hx:evA t x= .bs T l)(hy:evA t y= .lit (.int ik z))(hs:T.size=n)(hz:BN l z=true):AX P C t h o (.bp T (ixD l z) 0):=
 GT ho hx hy hs (Ee.1 hz).1 (Jl hz)
theorem GS{ty:TypeId}{x y:Operand}{ik:IntKind}{z:Int}{n i ver:Nat}{e:TypeId}{α:Type}{T:Ty α}{l:List α}[ES P ty n](ho:o.op= .indexAddr ty x y)(hx:evA t x= .own i ver)(hi:h[i]? =some (.row ver e T l))(hy:evA t y= .lit (.int ik z))(hs:T.size=n)(hz:BN l z=true):AX P C t h o (.rp i ver z.toNat 0):=
 Ex ho hx hi hy hs (Ee.1 hz).1 (Ee.1 hz).2
theorem O6{α:Type}{l:List α}{a b:Int}:slB l a b=true↔0≤a∧a≤b∧b.toNat≤l.length:=by unfold slB;simp[and_assoc]
theorem Aam{d:Nat}{y:Operand}{ik:IntKind}{a:Int}(hy:evA t y= .lit (.int ik a))(h0:0≤a):Aeb t d (some y) a.toNat:=⟨ik,by rw[hy];congr 2;omega⟩
theorem Xg{ty:TypeId}{x y:Operand}{n:Nat}{α:Type}{T:Ty α}{l:List α}{a:Int}{ik:IntKind}[ES P ty n](ho:o.op= .slice ty x (some y) none none)(hx:evA t x= .bs T l)(hs:T.size=n)(hy:evA t y= .lit (.int ik a))(hc:slB l a (l.length:Int)=true):AX P C t h o (.bs T (slD l a (l.length:Int))):=by
 obtain⟨h1,h2,h3⟩:=O6.1 hc;have:=Kq (P:=P) (C:=C) (h:=h) (lo:=some y) (hi:=none) (m:=l.length) ho hx hs (Aam hy h1) rfl (by omega) (Nat.le_refl _);unfold slD;rwa [Int.toNat_natCast]
theorem Xh{ty:TypeId}{x z:Operand}{n:Nat}{α:Type}{T:Ty α}{l:List α}{b:Int}{ik:IntKind}[ES P ty n](ho:o.op= .slice ty x none (some z) none)(hx:evA t x= .bs T l)(hs:T.size=n)(hz:evA t z= .lit (.int ik b))(hc:slB l 0 b=true):AX P C t h o (.bs T (slD l 0 b)):=by
 obtain⟨h1,h2,h3⟩:=O6.1 hc;exact Kq (lo:=none) (l:=0) ho hx hs rfl (Aam hz h2) (by omega) h3
theorem Kv{ty:TypeId}{x y:Operand}{i ver:Nat}{e:TypeId}{bytes n:Nat}{α:Type}{T:Ty α}{l l2:List α}{enc:α→List AV}{K:St→Prop}[RT P ty e n bytes][EncOf T enc](ho:o.op= .call {callee:=.builtin .append,args:=#[x,y],argTypes:=#[ty,ty]})
 (hx:evA t x= .own i ver) (hi:h[i]? =some (.row ver e T l)) (hy:evA t y= .bs T l2) (hs:T.size=n) (hb:Gn (l.length+l2.length) bytes=true)
 (hK:K ⟨BH t o.dst (.own i (ver+1)),h.set i (.row (ver+1) e T (l++l2))⟩):AOp P C o ⟨t,h⟩ K:=Qb ho hx hi hy hs (Abf hb) (VO hb) hK
theorem Gg{ops:Array Oper}{b:Bool}(hg:gA ops t o=some (b ==true)):gA ops t o=some b:=by rw[hg];cases b <;> rfl
theorem SJ{ops:Array Oper}{b:Bool}(hg:gA ops t o=some (b ==false)):gA ops t o=some (!b):=by rw[hg];cases b <;> rfl
theorem J5{ops:Array Oper}{j:Nat}{q c:Bool}(ho:o.guard=some (j,true))(hd:((ops[j]?).bind (·.dst)).bind (t[·]?)=some (cond q (.lit (.bool c)) (.lit undef))):gA ops t o=some (q&&c):=by rw[Ai5 ho hd];cases c <;> rfl
theorem Afr{ops:Array Oper}{j:Nat}{q c:Bool}(ho:o.guard=some (j,false))(hd:((ops[j]?).bind (·.dst)).bind (t[·]?)=some (cond q (.lit (.bool c)) (.lit undef))):gA ops t o=some (q&&!c):=by rw[Ai5 ho hd];cases c <;> rfl
theorem Fit.up{α:Type}{T:Ty α}{x y:AV}{d:α}(hu:Up x y)(hf:Fit h T y d):Fit h T x d:=fun C S ψ w v H hv=>hf C S ψ w v H (hu.rel hv)
theorem Ada(hu:UpL t t'):St.le C ⟨t,h⟩ ⟨t',h⟩:=fun a w ⟨hd,S,ψ,H,hl⟩=>⟨hd,S,ψ,H,hu.rel hl⟩
theorem Ur:∀t:List AV,UpL t t
 | []=>.nil
 |x::t=>.cons (.refl x) (Ur t)
theorem XJ:∀{t:List AV} {j:Nat} {x y:AV},t[j]? =some x→Up x y→UpL t (t.set j y)
 | [],_,_,_,h,_=>by simp at h
 |a::t,0,x,y,h,hu=>by
  simp at h;subst h;exact .cons hu (Ur t)
 |a::t,j+1,x,y,h,hu=>.cons (.refl a) (XJ (t:=t) (by simpa using h) hu)
theorem Ko(j:Nat){α:Type}(T:Ty α)(hj:t[j]? =some (.lit (.slice none 0 0)))(ht:t.set j (.bs T [])=t':=by((try simp only[List.set_cons_zero,List.set_cons_succ]);exact rfl)):St.le C ⟨t,h⟩ ⟨t',h⟩:=by
 subst ht;exact Ada (XJ hj (.nil T))
theorem CS(j:Nat)(e:TypeId){α:Type}(T:Ty α)(hj:t[j]? =some (.lit (.slice none 0 0)))(h0:0 < T.size)(ht:t.set j (.own h.length 0)=t':=by((try simp only[List.set_cons_zero,List.set_cons_succ,List.length_nil,List.length_cons,Nat.reduceAdd]);exact rfl))(hh:h++[.row 0 e T []]=h':=by((try simp only[List.nil_append,List.cons_append]);exact rfl)):St.le C ⟨t,h⟩ ⟨t',h'⟩:=by
 subst ht hh;exact Cx j e T hj h0
theorem leC(hc:Cut h h')(hb:bdH h'=true:=by rfl)(hf:Fgt h'.length t t':=by((try simp only[BH,List.set_cons_zero,List.set_cons_succ]);repeat(first|exact Fgt.nil|refine Fgt.keep rfl ?_|refine Fgt.any ?_|refine Fgt.keep (by first|assumption|exact PX _ _ (by assumption)) ?_)))(hm:mkD h'=mkD h:=by rfl):St.le C ⟨t,h⟩ ⟨t',h'⟩:=Aag hc hb hf hm
theorem exN{id:Nat}{Q:Exit→St→Prop}{s:St}(hq:Q .normal s):Kn id Q (.exit id) s:=by
 unfold Kn;simp[hq]
theorem BM{K:St→Prop}{Q:Exit→St→Prop}{id:Nat}{s:St}(hq:Q (.exit id) s):IH K Q (.exit id) s:=hq
theorem abN{id:Nat}{Q:Exit→St→Prop}{s:St}(hq:Q .normal s):Kn id Q .normal s:=hq
theorem Vs{elem:TypeId}{x:Operand}{cells:List AV}{K:St→Prop}(i:Nat)(hi:h.length=i)(ho:o.op= .box elem x)(hp:Vp h (evA t x) cells)(hK:K ⟨BH t o.dst (.ptr i 0),h++[.box cells]⟩):AOp P C o ⟨t,h⟩ K:=by
 subst hi;exact AOp.box (s:=⟨t,h⟩) ho hp hK
theorem Agm{elem:TypeId}{zs:List Value}{K:St→Prop}[ZC P elem zs](i:Nat)(hi:h.length=i)(ho:o.op= .alloc elem)(hK:K ⟨BH t o.dst (.ptr i 0),h++[.box (zs.map .lit)]⟩):AOp P C o ⟨t,h⟩ K:=by
 subst hi;exact Vt ho hK
theorem Adk{ty e:TypeId}{bytes n:Nat}{parts:Array (Nat×Operand)}{xs:List Operand}{α:Type}{T:Ty α}{ds:List α}{K:St→Prop}(i:Nat)(hi:h.length=i)(ho:o.op= .buildSlice ty n parts)(hp:parts=E4 xs)(hn:n=xs.length)
 (hT:Pc P ty=some (e,T.size,bytes)) (h0:0 < T.size) (hsz:n * T.size≤16777216) (hf:Fits h T (xs.map (evA t)) ds) (hK:K ⟨BH t o.dst (.own i 0),h++[.row 0 e T ds]⟩):AOp P C o ⟨t,h⟩ K:=by
 subst hi;exact AOp.lit (s:=⟨t,h⟩) ho hp hn hT h0 hsz hf hK
theorem Ah6{ops:Array Oper}{rest:List Oper}{K:St→Prop}(hk:Dj P C ops K rest ⟨t',h'⟩)(ht:t=t':=by exact rfl)(hh:h=h':=by((try simp only[List.nil_append,List.cons_append,List.set_cons_zero,List.set_cons_succ,List.take_zero,List.take_succ_cons,List.drop_succ_cons,List.drop_zero,List.drop_nil,List.take_nil,List.map_cons,List.map_nil,List.append_nil,List.length_cons,List.length_nil,Nat.zero_add,Nat.reduceAdd]);exact rfl)):Dj P C ops K rest ⟨t,h⟩:=by
 subst ht hh;exact hk
theorem F7{ops:Array Oper}{K:St→Prop}{rest:List Oper}{s s':St}(hg:o.guard=none)(hle:St.le C s s')(hk:Dj P C ops K (o::rest) s'):Dj P C ops K (o::rest) s:=by
 obtain⟨b,h1,h2,h3⟩:=hk;have e:∀t,gA ops t o=some true:=fun t=>by unfold gA;rw[hg]
 rw[e]at h1;cases h1;exact⟨true,e _,fun _ Q' a w H=>h2 rfl Q' a w (hle a w H),fun h=>by cases h⟩
theorem Bn{x y:Code}{Q:Exit→St→Prop}{s:St}{β:Type}(J:β→Prop)(G:β→St)(hx:Awp P C x (IH (fun s'=>∃b,J b∧St.le C s' (G b)) Q) s)(hy:∀b,J b→Awp P C y Q (G b)):Awp P C (.seq x y) Q s:=
 Ad fun K hK=>hx.mono fun e s' q=>by
  cases e with
  |normal=>
   obtain⟨b,hJ,hle⟩:=q;exact hK s' ((hy b hJ).le hle)
  |_=>exact q
theorem NH{c:Code}{Q:Exit→St→Prop}{s:St}{β:Type}(J:β→Prop)(G:β→St)(hx:Awp P C c (IH (fun s'=>∃b,J b∧St.le C s' (G b)) Q) s)(hy:∀b s',J b→St.le C s' (G b)→Q .normal s'):Awp P C c Q s:=
 hx.mono fun e s' q=>by
  cases e with
  |normal=>
   obtain⟨b,hJ,hle⟩:=q;exact hy b s' hJ hle
  |_=>exact q
theorem Bv{c:Code}{Q:Exit→St→Prop}{s:St}{σ ρ β:Type}{step:σ→M (σ⊕ρ)}{s0:σ}{r:ρ}(H:(M.loop step s0).to r)(F:σ→β→St)(b0:β)(h0:St.le C s (F s0 b0))
 (hr:∀s' b x,(step s').to x→(∀r',x= .inr r'→r'=r)→Awp P C c (IH (fun st=>∃s'' b',x= .inl s''∧St.le C st (F s'' b')) Q) (F s' b)):Awp P C (.loop c) Q s:=by
 obtain⟨k,hk⟩:=Sf.1 H;refine Awp.loop (fun m st=>∃s' b,st=F s' b∧M.Rounds step m s' r) k ⟨_,h0,s0,b0,rfl,hk⟩ ?_;rintro m st ⟨s',b,rfl,hm⟩;cases hm with
 |out hx=>
  refine(hr s' b _ hx fun r' e=>by cases e;rfl).mono fun e s1 q=>?_
  cases e with
  |normal=>obtain⟨_,_,e,_⟩:=q;cases e
  |_=>exact q
 |on hx hm=>
  refine(hr s' b _ hx fun r' e=>by cases e).mono fun e s1 q=>?_
  cases e with
  |normal=>
   obtain⟨s2,b',e,hle⟩:=q;cases e;exact⟨_,Nat.lt_succ_self _,_,hle,_,b',rfl,hm⟩
  |_=>exact q
theorem IY(hC:C.std)(i:Nat){ver:Nat}{e:TypeId}{α:Type}{T:Ty α}{l:List α}(hi:h[i]? =some (.row ver e T l))(ht:Cr i ver (.bs T l) t=t')(hh:fzH i ver (.bs T l) h=h'):St.le C ⟨t,h⟩ ⟨t',h'⟩:=by
 subst ht hh;exact Mf hC i hi
end
instance Ai2:Inhabited Ins:=⟨⟨0,0,0,0,0,0,[],0,0⟩⟩
instance Ai1:Inhabited Block:=⟨⟨⟨#[]⟩,[]⟩⟩
class GA(t:List AV)(x:Operand)(r:outParam AV):Prop where
 e:evA t x=r
class PA(t:List AV)(d:Option Nat)(r:AV)(t':outParam (List AV)):Prop where
 e:BH t d r=t'
instance{l:List AV}{v:Value}:GA l (.const v) (.lit v):=⟨rfl⟩
instance{x0:AV}{l:List AV}:GA (x0::l) (.tmp 0) x0:=⟨rfl⟩
instance{x0 x1:AV}{l:List AV}:GA (x0::x1::l) (.tmp 1) x1:=⟨rfl⟩
instance{x0 x1 x2:AV}{l:List AV}:GA (x0::x1::x2::l) (.tmp 2) x2:=⟨rfl⟩
instance{x0 x1 x2 x3:AV}{l:List AV}:GA (x0::x1::x2::x3::l) (.tmp 3) x3:=⟨rfl⟩
instance{x0 x1 x2 x3 x4:AV}{l:List AV}:GA (x0::x1::x2::x3::x4::l) (.tmp 4) x4:=⟨rfl⟩
instance{x0 x1 x2 x3 x4 x5:AV}{l:List AV}:GA (x0::x1::x2::x3::x4::x5::l) (.tmp 5) x5:=⟨rfl⟩
instance{x0 x1 x2 x3 x4 x5 x6:AV}{l:List AV}:GA (x0::x1::x2::x3::x4::x5::x6::l) (.tmp 6) x6:=⟨rfl⟩
instance{x0 x1 x2 x3 x4 x5 x6 x7:AV}{l:List AV}:GA (x0::x1::x2::x3::x4::x5::x6::x7::l) (.tmp 7) x7:=⟨rfl⟩
instance{x0 x1 x2 x3 x4 x5 x6 x7 r:AV}{l:List AV}{k:Nat}[GA l (.tmp k) r]:GA (x0::x1::x2::x3::x4::x5::x6::x7::l) (.tmp (k+8)) r:=⟨AO GA.e⟩
instance{x0 x1 x2 x3 x4 x5 x6 x7 x8 x9 x10 x11 x12 x13 x14 x15 x16 x17 x18 x19 x20 x21 x22 x23 x24 x25 x26 x27 x28 x29 x30 x31 r:AV}{l:List AV}{k:Nat}[GA l (.tmp k) r]:GA (x0::x1::x2::x3::x4::x5::x6::x7::x8::x9::x10::x11::x12::x13::x14::x15::x16::x17::x18::x19::x20::x21::x22::x23::x24::x25::x26::x27::x28::x29::x30::x31::l) (.tmp (k+32)) r:=⟨AL GA.e⟩
instance{l:List AV}{r:AV}:PA l none r l:=⟨rfl⟩
instance{x0 r:AV}{l:List AV}:PA (x0::l) (some 0) r (r::l):=⟨rfl⟩
instance{x0 x1 r:AV}{l:List AV}:PA (x0::x1::l) (some 1) r (x0::r::l):=⟨rfl⟩
instance{x0 x1 x2 r:AV}{l:List AV}:PA (x0::x1::x2::l) (some 2) r (x0::x1::r::l):=⟨rfl⟩
instance{x0 x1 x2 x3 r:AV}{l:List AV}:PA (x0::x1::x2::x3::l) (some 3) r (x0::x1::x2::r::l):=⟨rfl⟩
instance{x0 x1 x2 x3 x4 r:AV}{l:List AV}:PA (x0::x1::x2::x3::x4::l) (some 4) r (x0::x1::x2::x3::r::l):=⟨rfl⟩
instance{x0 x1 x2 x3 x4 x5 r:AV}{l:List AV}:PA (x0::x1::x2::x3::x4::x5::l) (some 5) r (x0::x1::x2::x3::x4::r::l):=⟨rfl⟩
instance{x0 x1 x2 x3 x4 x5 x6 r:AV}{l:List AV}:PA (x0::x1::x2::x3::x4::x5::x6::l) (some 6) r (x0::x1::x2::x3::x4::x5::r::l):=⟨rfl⟩
instance{x0 x1 x2 x3 x4 x5 x6 x7 r:AV}{l:List AV}:PA (x0::x1::x2::x3::x4::x5::x6::x7::l) (some 7) r (x0::x1::x2::x3::x4::x5::x6::r::l):=⟨rfl⟩
instance{x0 x1 x2 x3 x4 x5 x6 x7 r:AV}{l l':List AV}{k:Nat}[PA l (some k) r l']:PA (x0::x1::x2::x3::x4::x5::x6::x7::l) (some (k+8)) r (x0::x1::x2::x3::x4::x5::x6::x7::l'):=⟨AA PA.e⟩
instance{x0 x1 x2 x3 x4 x5 x6 x7 x8 x9 x10 x11 x12 x13 x14 x15 x16 x17 x18 x19 x20 x21 x22 x23 x24 x25 x26 x27 x28 x29 x30 x31 r:AV}{l l':List AV}{k:Nat}[PA l (some k) r l']:PA (x0::x1::x2::x3::x4::x5::x6::x7::x8::x9::x10::x11::x12::x13::x14::x15::x16::x17::x18::x19::x20::x21::x22::x23::x24::x25::x26::x27::x28::x29::x30::x31::l) (some (k+32)) r (x0::x1::x2::x3::x4::x5::x6::x7::x8::x9::x10::x11::x12::x13::x14::x15::x16::x17::x18::x19::x20::x21::x22::x23::x24::x25::x26::x27::x28::x29::x30::x31::l'):=⟨As PA.e⟩
class BI(op:BinOp)(k:IntKind)(a b:Int)(v:outParam Value):Prop where
 e:Hi op k a b=some v
instance{k:IntKind}{a b:Int}:BI .add k a b (.int k (k.wrap (a+b))):=⟨rfl⟩
instance{k:IntKind}{a b:Int}:BI .mul k a b (.int k (k.wrap (a * b))):=⟨rfl⟩
instance{k:IntKind}{a b:Int}:BI .eql k a b (.bool (a ==b)):=⟨rfl⟩
instance{k:IntKind}{a b:Int}:BI .neq k a b (.bool (a !=b)):=⟨rfl⟩
instance{k:IntKind}{a b:Int}:BI .lss k a b (.bool (decide (a < b))):=⟨rfl⟩
instance{k:IntKind}{a b:Int}:BI .leq k a b (.bool (decide (a≤b))):=⟨rfl⟩
instance{k:IntKind}{a b:Int}:BI .gtr k a b (.bool (decide (a > b))):=⟨rfl⟩
instance{k:IntKind}{a b:Int}:BI .geq k a b (.bool (decide (a≥b))):=⟨rfl⟩
class HB(h:List ABlk)(i:Nat)(b:outParam ABlk):Prop where
 e:h[i]? =some b
instance{b:ABlk}{h:List ABlk}:HB (b::h) 0 b:=⟨rfl⟩
instance{b c:ABlk}{h:List ABlk}{i:Nat}[HB h i b]:HB (c::h) (i+1) b:=⟨by rw[List.getElem?_cons_succ];exact HB.e⟩
class LD(l:List AV)(k:Nat)(x:outParam AV):Prop where
 e:(l.drop k)[0]? =some x
instance{x:AV}{l:List AV}:LD (x::l) 0 x:=⟨rfl⟩
instance{x y:AV}{l:List AV}{k:Nat}[LD l k x]:LD (y::l) (k+1) x:=⟨by rw[List.drop_succ_cons];exact LD.e⟩
class TK(l:List AV)(k n:Nat)(r:outParam (List AV)):Prop where
 e:(l.drop k).take n=r∧r.length=n
instance{l:List AV}:TK l 0 0 []:=⟨by simp⟩
instance{x:AV}{l r:List AV}{n:Nat}[TK l 0 n r]:TK (x::l) 0 (n+1) (x::r):=⟨by have h:=TK.e (l:=l) (k:=0) (n:=n) (r:=r);rw[List.drop_zero]at h;rw[List.drop_zero,List.take_succ_cons,h.1,List.length_cons,h.2];exact⟨rfl,rfl⟩⟩
instance{x:AV}{l r:List AV}{k n:Nat}[TK l k n r]:TK (x::l) (k+1) n r:=⟨by rw[List.drop_succ_cons];exact TK.e⟩
class AD(a b:Nat)(c:outParam Nat):Prop where
 e:a+b=c
instance{a b:Nat}:AD a b (a+b):=⟨rfl⟩
instance{n:Nat}:AD n 0 n:=⟨rfl⟩
instance{n:Nat}:AD 0 n n:=⟨Nat.zero_add n⟩
class EL{α:Type}(T:Ty α)(d:α)(l:outParam (List AV)):Prop where
 e:∀(h:List ABlk) (off:Nat),Jw h (.bp T d off) (l.drop off)
instance{α:Type}{T:Ty α}{d:α}{enc:α→List AV}[EncOf T enc]:EL T d (enc d):=⟨fun _ _=>Jw.bp EncOf.ok⟩
class QI(P:Program)(C:Ctx)(t:List AV)(h:List ABlk)(op:Op)(r:outParam AV):Prop where
 e:∀(d:Option Nat) (ty:TypeId) (ps:String) (af:Array Go.Edge),AX P C t h ⟨d,op,ty,ps,af,none⟩ r
section
variable{P:Program}{C:Ctx}{t t':List AV}{h h':List ABlk}
instance{x:Operand}{r:AV}[GA t x r]:QI P C t h (.move x) r:=⟨fun _ _ _ _=>AX.move rfl GA.e⟩
instance{x:Operand}{r:AV}[GA t x r]:QI P C t h (.assign x) r:=⟨fun _ _ _ _=>AX.assign rfl GA.e⟩
instance{op:BinOp}{xt yt:TypeId}{x z:Operand}{k:IntKind}{a b:Int}{v:Value}[GA t x (.lit (.int k a))][GA t z (.lit (.int k b))][BI op k a b v]:QI P C t h (.binOp op xt x z yt) (.lit v):=⟨fun _ _ _ _=>CF rfl GA.e GA.e BI.e⟩
instance{xt:TypeId}{x:Operand}{b:Bool}[GA t x (.lit (.bool b))]:QI P C t h (.unOp .not xt x) (.lit (.bool (!b))):=⟨fun _ _ _ _=>CT rfl GA.e⟩
instance{ty:TypeId}{x:Operand}{n i off:Nat}{r:AV}{cells:List AV}[AG P ty false n][GA t x (.ptr i off)][HB h i (.box cells)][LD cells off r]:QI P C t h (.load ty x) r:=⟨fun _ _ _ _=>Bk rfl GA.e HB.e LD.e⟩
instance{ty:TypeId}{x:Operand}{n i off:Nat}{cells r:List AV}[AG P ty true n][GA t x (.ptr i off)][HB h i (.box cells)][TK cells off n r]:QI P C t h (.load ty x) (.agg r):=⟨fun _ _ _ _=>Ev rfl AG.eq GA.e (Jw.ptr HB.e) (TK.e (l:=cells) (k:=off) (n:=n) (r:=r)).1 (TK.e (l:=cells) (k:=off) (n:=n) (r:=r)).2⟩
instance{ty:TypeId}{x:Operand}{n off:Nat}{r:AV}{α:Type}{T:Ty α}{d:α}{cells:List AV}[AG P ty false n][GA t x (.bp T d off)][EL T d cells][LD cells off r]:QI P C t h (.load ty x) r:=⟨fun _ _ _ _=>Ew rfl AG.eq GA.e (EL.e h off) LD.e⟩
instance{ty:TypeId}{x:Operand}{n off:Nat}{r:List AV}{α:Type}{T:Ty α}{d:α}{cells:List AV}[AG P ty true n][GA t x (.bp T d off)][EL T d cells][TK cells off n r]:QI P C t h (.load ty x) (.agg r):=⟨fun _ _ _ _=>Ev rfl AG.eq GA.e (EL.e h off) (TK.e (l:=cells) (k:=off) (n:=n) (r:=r)).1 (TK.e (l:=cells) (k:=off) (n:=n) (r:=r)).2⟩
instance{st:TypeId}{x:Operand}{j n m i off:Nat}{cells:List AV}[FO P st j n][GA t x (.ptr i off)][HB h i (.box cells)][AD off n m]:QI P C t h (.fieldAddr st x j) (.ptr i m):=⟨fun _ _ _ _=>by rw[←AD.e (a:=off) (b:=n) (c:=m)];exact BU rfl GA.e HB.e⟩
instance{st:TypeId}{x:Operand}{j n m off:Nat}{α:Type}{T:Ty α}{d:α}[FO P st j n][GA t x (.bp T d off)][AD off n m]:QI P C t h (.fieldAddr st x j) (.bp T d m):=⟨fun _ _ _ _=>by rw[←AD.e (a:=off) (b:=n) (c:=m)];exact DX rfl GA.e⟩
instance{ty:TypeId}{x:Operand}{α:Type}{T:Ty α}{l:List α}[SL P ty][GA t x (.bs T l)]:QI P C t h (.call {callee:=.builtin .len,args:=#[x],argTypes:=#[ty]}) (.lit (.int .i64 (l.length:Int))):=⟨fun _ _ _ _=>Hc rfl GA.e⟩
instance{ty:TypeId}{x:Operand}{i ver:Nat}{e:TypeId}{α:Type}{T:Ty α}{l:List α}[SL P ty][GA t x (.own i ver)][HB h i (.row ver e T l)]:QI P C t h (.call {callee:=.builtin .len,args:=#[x],argTypes:=#[ty]}) (.lit (.int .i64 (l.length:Int))):=⟨fun _ _ _ _=>GP rfl GA.e HB.e⟩
instance{x:Operand}{j:Nat}{xs:List AV}{r:AV}[GA t x (.tup xs)][LD xs j r]:QI P C t h (.extract x j) r:=⟨fun _ _ _ _=>AX.extract rfl GA.e (by rw[←LD.e (l:=xs) (k:=j) (x:=r),List.getElem?_drop,Nat.add_zero])⟩
instance{c a b:Operand}{q e:Bool}[GA t c (.lit (.bool q))][GA t a (.lit (.bool true))][GA t b (cond (!q) (.lit (.bool e)) (.lit undef))]:QI P C t h (.pick c a b) (.lit (.bool (q||e))):=⟨fun _ _ _ _=>Hb rfl GA.e GA.e GA.e⟩
instance{c a b:Operand}{q e:Bool}[GA t c (.lit (.bool q))][GA t a (cond q (.lit (.bool e)) (.lit undef))][GA t b (.lit (.bool false))]:QI P C t h (.pick c a b) (.lit (.bool (q&&e))):=⟨fun _ _ _ _=>DN rfl GA.e GA.e GA.e⟩
end
section
variable{P:Program}{C:Ctx}{t t':List AV}{h h':List ABlk}{ops:Array Oper}{rest l:List Oper}{d:Option Nat}{ty:TypeId}{ps:String}{af:Array Go.Edge}{K:St→Prop}{L:List AV→Prop}{y:Code}{Q:Exit→St→Prop}{id:Nat}
theorem wS(hx:Dj P C l.toArray (fun s=>Awp P C y Q s) l ⟨t,h⟩):Awp P C (.seq (.region id l.toArray false) y) Q ⟨t,h⟩:=Ad fun _ hK=>Awp.region (Dx (fun _ e=>hK _ e) hx)
theorem wSE(hx:Dj P C l.toArray (Q .normal) l ⟨t,h⟩):Awp P C (.region id l.toArray false) Q ⟨t,h⟩:=Awp.region hx
theorem wN{s:St}(hk:K s):Dj P C ops K [] s:=hk
theorem qN(hk:L t):aQ P C ops h L [] t:=hk
theorem sT{op:Op}{r:AV}[QI P C t h op r][PA t d r t'](hk:Dj P C ops K rest ⟨t',h⟩):Dj P C ops K (⟨d,op,ty,ps,af,none⟩::rest) ⟨t,h⟩:=sA (hg:=rfl) (hq:=QI.e d ty ps af) (ht:=PA.e) (hk:=hk)
theorem qT{op:Op}{r:AV}[QI P C t h op r][PA t d r t'](hk:aQ P C ops h L rest t'):aQ P C ops h L (⟨d,op,ty,ps,af,none⟩::rest) t:=qA (hg:=rfl) (hq:=QI.e d ty ps af) (ht:=PA.e) (hk:=hk)
theorem sX{st:TypeId}{x z:Operand}{ik:IntKind}{m:Int}{n:Nat}{α:Type}[Inhabited α]{T:Ty α}{l:List α}(hz:BN l m=true)[GA t x (.bs T l)][GA t z (.lit (.int ik m))][ES P st n][PA t d (.bp T (ixD l m) 0) t'](hk:Dj P C ops K rest ⟨t',h⟩)(hs:T.size=n:=by exact rfl):Dj P C ops K (⟨d,.indexAddr st x z,ty,ps,af,none⟩::rest) ⟨t,h⟩:=sA (hg:=rfl) (hq:=Dy rfl GA.e GA.e hs hz) (ht:=PA.e) (hk:=hk)
theorem qX{st:TypeId}{x z:Operand}{ik:IntKind}{m:Int}{n:Nat}{α:Type}[Inhabited α]{T:Ty α}{l:List α}(hz:BN l m=true)[GA t x (.bs T l)][GA t z (.lit (.int ik m))][ES P st n][PA t d (.bp T (ixD l m) 0) t'](hk:aQ P C ops h L rest t')(hs:T.size=n:=by exact rfl):aQ P C ops h L (⟨d,.indexAddr st x z,ty,ps,af,none⟩::rest) t:=qA (hg:=rfl) (hq:=Dy rfl GA.e GA.e hs hz) (ht:=PA.e) (hk:=hk)
theorem sC{f:FuncId}{args:Array Operand}{tys:Array TypeId}{xs:List AV}{r:AV}(hF:Fn P f xs r)[PA t d r t'](hk:Dj P C ops K rest ⟨t',h⟩)(hx:args.toList.map (evA t)=xs:=by exact rfl)(hc:Bt xs=true:=by exact rfl)(hr:AV.cl r=true:=by exact rfl):Dj P C ops K (⟨d,.call {callee:=.value (.func f),args:=args,argTypes:=tys},ty,ps,af,none⟩::rest) ⟨t,h⟩:=sA (hg:=rfl) (hq:=Ba rfl hx hF hc hr) (ht:=PA.e) (hk:=hk)
theorem qC{f:FuncId}{args:Array Operand}{tys:Array TypeId}{xs:List AV}{r:AV}(hF:Fn P f xs r)[PA t d r t'](hk:aQ P C ops h L rest t')(hx:args.toList.map (evA t)=xs:=by exact rfl)(hc:Bt xs=true:=by exact rfl)(hr:AV.cl r=true:=by exact rfl):aQ P C ops h L (⟨d,.call {callee:=.value (.func f),args:=args,argTypes:=tys},ty,ps,af,none⟩::rest) t:=qA (hg:=rfl) (hq:=Ba rfl hx hF hc hr) (ht:=PA.e) (hk:=hk)
end
class GX(g:Bool)(t:List AV)(x:Operand)(r:outParam AV):Prop where
 e:g=true→evA t x=r
instance{g:Bool}{t:List AV}{x:Operand}{r:AV}[GA t x r]:GX g t x r:=⟨fun _=>GA.e⟩
instance{g:Bool}{t:List AV}{x:Operand}{r:AV}[GA t x (cond g r (.lit undef))]:GX g t x r:=⟨fun h=>by have e:=GA.e (t:=t) (x:=x) (r:=cond g r (.lit undef));rw[e,h];rfl⟩
class QG(P:Program)(C:Ctx)(t:List AV)(h:List ABlk)(op:Op)(g:Bool)(r:outParam AV):Prop where
 e:∀(d:Option Nat) (ty:TypeId) (ps:String) (af:Array Go.Edge) (gd:Option (Nat×Bool)),g=true→AX P C t h ⟨d,op,ty,ps,af,gd⟩ r
section
variable{P:Program}{C:Ctx}{t t':List AV}{h h':List ABlk}{g:Bool}
instance{x:Operand}{r:AV}[GX g t x r]:QG P C t h (.move x) g r:=⟨fun _ _ _ _ _ hg=>AX.move rfl (GX.e hg)⟩
instance{op:BinOp}{xt yt:TypeId}{x z:Operand}{k:IntKind}{a b:Int}{v:Value}[GX g t x (.lit (.int k a))][GX g t z (.lit (.int k b))][BI op k a b v]:QG P C t h (.binOp op xt x z yt) g (.lit v):=⟨fun _ _ _ _ _ hg=>CF rfl (GX.e hg) (GX.e hg) BI.e⟩
instance{xt:TypeId}{x:Operand}{b:Bool}[GX g t x (.lit (.bool b))]:QG P C t h (.unOp .not xt x) g (.lit (.bool (!b))):=⟨fun _ _ _ _ _ hg=>CT rfl (GX.e hg)⟩
instance{ty:TypeId}{x:Operand}{n i off:Nat}{r:AV}{cells:List AV}[AG P ty false n][GX g t x (.ptr i off)][HB h i (.box cells)][LD cells off r]:QG P C t h (.load ty x) g r:=⟨fun _ _ _ _ _ hg=>Bk rfl (GX.e hg) HB.e LD.e⟩
instance{ty:TypeId}{x:Operand}{n off:Nat}{r:AV}{α:Type}{T:Ty α}{d:α}{cells:List AV}[AG P ty false n][GX g t x (.bp T d off)][EL T d cells][LD cells off r]:QG P C t h (.load ty x) g r:=⟨fun _ _ _ _ _ hg=>Ew rfl AG.eq (GX.e hg) (EL.e h off) LD.e⟩
instance{st:TypeId}{x:Operand}{j n m i off:Nat}{cells:List AV}[FO P st j n][GX g t x (.ptr i off)][HB h i (.box cells)][AD off n m]:QG P C t h (.fieldAddr st x j) g (.ptr i m):=⟨fun _ _ _ _ _ hg=>by rw[←AD.e (a:=off) (b:=n) (c:=m)];exact BU rfl (GX.e hg) HB.e⟩
instance{st:TypeId}{x:Operand}{j n m off:Nat}{α:Type}{T:Ty α}{d:α}[FO P st j n][GX g t x (.bp T d off)][AD off n m]:QG P C t h (.fieldAddr st x j) g (.bp T d m):=⟨fun _ _ _ _ _ hg=>by rw[←AD.e (a:=off) (b:=n) (c:=m)];exact DX rfl (GX.e hg)⟩
instance{ty:TypeId}{x:Operand}{α:Type}{T:Ty α}{l:List α}[SL P ty][GX g t x (.bs T l)]:QG P C t h (.call {callee:=.builtin .len,args:=#[x],argTypes:=#[ty]}) g (.lit (.int .i64 (l.length:Int))):=⟨fun _ _ _ _ _ hg=>Hc rfl (GX.e hg)⟩
end
class HA(h:List ABlk)(b:ABlk)(i:outParam Nat)(h':outParam (List ABlk)):Prop where
 e:h.length=i∧h++[b]=h'
instance{b:ABlk}:HA [] b 0 [b]:=⟨rfl,rfl⟩
instance{b c0:ABlk}:HA [c0] b 1 [c0,b]:=⟨rfl,rfl⟩
instance{b c0 c1:ABlk}:HA [c0,c1] b 2 [c0,c1,b]:=⟨rfl,rfl⟩
instance{b c0 c1 c2:ABlk}:HA [c0,c1,c2] b 3 [c0,c1,c2,b]:=⟨rfl,rfl⟩
instance{b c0 c1 c2 c3:ABlk}:HA [c0,c1,c2,c3] b 4 [c0,c1,c2,c3,b]:=⟨rfl,rfl⟩
instance{b c0 c1 c2 c3 c4:ABlk}:HA [c0,c1,c2,c3,c4] b 5 [c0,c1,c2,c3,c4,b]:=⟨rfl,rfl⟩
instance{b c0 c1 c2 c3 c4 c5:ABlk}:HA [c0,c1,c2,c3,c4,c5] b 6 [c0,c1,c2,c3,c4,c5,b]:=⟨rfl,rfl⟩
instance{b c0 c1 c2 c3 c4 c5 c6:ABlk}:HA [c0,c1,c2,c3,c4,c5,c6] b 7 [c0,c1,c2,c3,c4,c5,c6,b]:=⟨rfl,rfl⟩
class HS(h:List ABlk)(i:Nat)(b:ABlk)(h':outParam (List ABlk)):Prop where
 e:h.set i b=h'
instance{b c:ABlk}{h:List ABlk}:HS (c::h) 0 b (b::h):=⟨rfl⟩
instance{b c:ABlk}{h h':List ABlk}{i:Nat}[HS h i b h']:HS (c::h) (i+1) b (c::h'):=⟨by rw[List.set_cons_succ,HS.e (h:=h) (i:=i) (b:=b) (h':=h')]⟩
class OneI(h:List ABlk)(x:AV):Prop where
 e:One h x
instance{h:List ABlk}{k:IntKind}{n:Int}:OneI h (.lit (.int k n)):=⟨One.lit rfl⟩
instance{h:List ABlk}{b:Bool}:OneI h (.lit (.bool b)):=⟨One.lit rfl⟩
instance{h:List ABlk}{b:ByteArray}:OneI h (.lit (.string b)):=⟨One.lit rfl⟩
instance{h:List ABlk}{a:Option Addr}{n c:Nat}:OneI h (.lit (.slice a n c)):=⟨One.lit rfl⟩
instance{h:List ABlk}{α:Type}{T:Ty α}{l:List α}:OneI h (.bs T l):=⟨One.bs⟩
instance{h:List ABlk}{i ver:Nat}{e:TypeId}{α:Type}{T:Ty α}{l:List α}[HB h i (.row ver e T l)]:OneI h (.own i ver):=⟨One.own HB.e⟩
instance{h:List ABlk}{i off:Nat}{cells:List AV}[HB h i (.box cells)]:OneI h (.ptr i off):=⟨One.ptr HB.e⟩
class AllO(h:List ABlk)(l:List AV):Prop where
 e:∀x∈l,One h x
instance{h:List ABlk}:AllO h []:=⟨fun _ hx=>by cases hx⟩
instance{h:List ABlk}{x:AV}{l:List AV}[OneI h x][AllO h l]:AllO h (x::l):=⟨fun y hy=>by
 rcases List.mem_cons.1 hy with rfl|hy
 ·exact OneI.e
 ·exact AllO.e (h:=h) (l:=l) y hy⟩
class PT(h:List ABlk)(y:AV)(new:outParam (List AV)):Prop where
 e:Sx h y new
instance{h:List ABlk}{l:List AV}[AllO h l]:PT h (.agg l) l:=⟨Sx.agg AllO.e⟩
instance{h:List ABlk}{x:AV}[OneI h x]:PT h x [x]:=⟨Sx.one OneI.e⟩
class WR(cells:List AV)(off:Nat)(new:List AV)(r:outParam (List AV)):Prop where
 e:cells.take off++new++cells.drop (off+new.length)=r∧off+new.length≤cells.length
instance{l:List AV}:WR l 0 [] l:=⟨by simp⟩
instance{c x:AV}{l new r:List AV}[WR l 0 new r]:WR (c::l) 0 (x::new) (x::r):=⟨by
 have h:=WR.e (cells:=l) (off:=0) (new:=new) (r:=r);simp only[List.take_zero,List.nil_append,Nat.zero_add,List.length_cons,List.cons_append,List.drop_succ_cons]at h⊢;exact⟨by rw[h.1],by omega⟩⟩
instance{c:AV}{l new r:List AV}{k:Nat}[WR l k new r]:WR (c::l) (k+1) new (c::r):=⟨by
 have h:=WR.e (cells:=l) (off:=k) (new:=new) (r:=r);rw[show k+1+new.length=(k+new.length)+1 by omega,List.take_succ_cons,List.drop_succ_cons,List.cons_append,List.cons_append,h.1,List.length_cons];exact⟨rfl,by omega⟩⟩
class ML(zs:List Value)(l:outParam (List AV)):Prop where
 e:zs.map AV.lit=l
instance:ML [] []:=⟨rfl⟩
instance{z:Value}{zs:List Value}{l:List AV}[ML zs l]:ML (z::zs) (.lit z::l):=⟨by rw[List.map_cons,ML.e (zs:=zs) (l:=l)]⟩
section
variable{P:Program}{C:Ctx}{t t':List AV}{h h':List ABlk}{ops:Array Oper}{rest l l1 l2:List Oper}{d:Option Nat}{ty:TypeId}{ps:String}{af:Array Go.Edge}{gd:Option (Nat×Bool)}{K:St→Prop}{L:List AV→Prop}{y:Code}{Q:Exit→St→Prop}{id j:Nat}{g:Bool}
theorem sGt{op:Op}{r:AV}(hg:gA ops t ⟨d,op,ty,ps,af,some (j,true)⟩=some (g ==true))[QG P C t h op g r][PA t d (cond g r (.lit undef)) t'](hk:Dj P C ops K rest ⟨t',h⟩):Dj P C ops K (⟨d,op,ty,ps,af,some (j,true)⟩::rest) ⟨t,h⟩:=sG (hg:=Gg hg) (hq:=fun hg=>QG.e d ty ps af (some (j,true)) hg) (ht:=PA.e) (hk:=hk)
theorem sGf{op:Op}{r:AV}(hg:gA ops t ⟨d,op,ty,ps,af,some (j,false)⟩=some (g ==false))[QG P C t h op (!g) r][PA t d (cond (!g) r (.lit undef)) t'](hk:Dj P C ops K rest ⟨t',h⟩):Dj P C ops K (⟨d,op,ty,ps,af,some (j,false)⟩::rest) ⟨t,h⟩:=sG (hg:=SJ hg) (hq:=fun hg=>QG.e d ty ps af (some (j,false)) hg) (ht:=PA.e) (hk:=hk)
theorem qGt{op:Op}{r:AV}(hg:gA ops t ⟨d,op,ty,ps,af,some (j,true)⟩=some (g ==true))[QG P C t h op g r][PA t d (cond g r (.lit undef)) t'](hk:aQ P C ops h L rest t'):aQ P C ops h L (⟨d,op,ty,ps,af,some (j,true)⟩::rest) t:=qG (hg:=Gg hg) (hq:=fun hg=>QG.e d ty ps af (some (j,true)) hg) (ht:=PA.e) (hk:=hk)
theorem qGf{op:Op}{r:AV}(hg:gA ops t ⟨d,op,ty,ps,af,some (j,false)⟩=some (g ==false))[QG P C t h op (!g) r][PA t d (cond (!g) r (.lit undef)) t'](hk:aQ P C ops h L rest t'):aQ P C ops h L (⟨d,op,ty,ps,af,some (j,false)⟩::rest) t:=qG (hg:=SJ hg) (hq:=fun hg=>QG.e d ty ps af (some (j,false)) hg) (ht:=PA.e) (hk:=hk)
theorem Adp{st:TypeId}{x z:Operand}{ik:IntKind}{m:Int}{n:Nat}{α:Type}[Inhabited α]{T:Ty α}{l:List α}(hg:gA ops t ⟨d,.indexAddr st x z,ty,ps,af,some (j,true)⟩=some (g ==true))(hz:(!g||BN l m)=true)[GX g t x (.bs T l)][GX g t z (.lit (.int ik m))][ES P st n][PA t d (cond g (.bp T (ixD l m) 0) (.lit undef)) t'](hk:Dj P C ops K rest ⟨t',h⟩)(hs:T.size=n:=by exact rfl):Dj P C ops K (⟨d,.indexAddr st x z,ty,ps,af,some (j,true)⟩::rest) ⟨t,h⟩:=sG (hg:=Gg hg) (hq:=fun hg=>Dy rfl (GX.e hg) (GX.e hg) hs (DG hz hg)) (ht:=PA.e) (hk:=hk)
theorem UI{st:TypeId}{x z:Operand}{ik:IntKind}{m:Int}{n:Nat}{α:Type}[Inhabited α]{T:Ty α}{l:List α}(hg:gA ops t ⟨d,.indexAddr st x z,ty,ps,af,some (j,true)⟩=some (g ==true))(hz:(!g||BN l m)=true)[GX g t x (.bs T l)][GX g t z (.lit (.int ik m))][ES P st n][PA t d (cond g (.bp T (ixD l m) 0) (.lit undef)) t'](hk:aQ P C ops h L rest t')(hs:T.size=n:=by exact rfl):aQ P C ops h L (⟨d,.indexAddr st x z,ty,ps,af,some (j,true)⟩::rest) t:=qG (hg:=Gg hg) (hq:=fun hg=>Dy rfl (GX.e hg) (GX.e hg) hs (DG hz hg)) (ht:=PA.e) (hk:=hk)
theorem sB{elem:TypeId}{x:Operand}{cells:List AV}{i:Nat}[GA t x (.agg cells)][HA h (.box cells) i h'][PA t d (.ptr i 0) t'](hk:Dj P C ops K rest ⟨t',h'⟩):Dj P C ops K (⟨d,.box elem x,ty,ps,af,none⟩::rest) ⟨t,h⟩:=Bu rfl (Vs i (HA.e (b:=.box cells) (h':=h')).1 rfl (by rw[GA.e (t:=t) (x:=x) (r:=.agg cells)];exact Vp.agg) (by rw[(HA.e (h:=h) (b:=.box cells) (i:=i) (h':=h')).2,PA.e (t:=t) (d:=d) (r:=.ptr i 0) (t':=t')];exact hk))
theorem sA0{elem:TypeId}{zs:List Value}{cells:List AV}{i:Nat}[ZC P elem zs][ML zs cells][HA h (.box cells) i h'][PA t d (.ptr i 0) t'](hk:Dj P C ops K rest ⟨t',h'⟩):Dj P C ops K (⟨d,.alloc elem,ty,ps,af,none⟩::rest) ⟨t,h⟩:=Bu rfl (Agm i (HA.e (b:=.box cells) (h':=h')).1 rfl (by rw[ML.e (zs:=zs) (l:=cells),(HA.e (h:=h) (b:=.box cells) (i:=i) (h':=h')).2,PA.e (t:=t) (d:=d) (r:=.ptr i 0) (t':=t')];exact hk))
theorem sW{sty:TypeId}{x z:Operand}{i off n:Nat}{cells new r:List AV}{v:AV}[SZ P sty n][GA t x (.ptr i off)][HB h i (.box cells)][GA t z v][PT h v new][WR cells off new r][HS h i (.box r) h'][PA t d (.lit undef) t'](hk:Dj P C ops K rest ⟨t',h'⟩)(hs:n=new.length:=by exact rfl):Dj P C ops K (⟨d,.store sty x z,ty,ps,af,none⟩::rest) ⟨t,h⟩:=
 Bu rfl (DO rfl GA.e HB.e (by rw[GA.e (t:=t) (x:=z) (r:=v)];exact PT.e) hs (WR.e (cells:=cells) (off:=off) (new:=new) (r:=r)).2 (by rw[(WR.e (cells:=cells) (off:=off) (new:=new) (r:=r)).1,HS.e (h:=h) (i:=i) (b:=.box r) (h':=h'),PA.e (t:=t) (d:=d) (r:=.lit undef) (t':=t')];exact hk))
theorem sP{at_:TypeId}{x z:Operand}{i ver:Nat}{e:TypeId}{bytes n:Nat}{α:Type}{T:Ty α}{l l2:List α}{enc:α→List AV}(hb:Gn (l.length+l2.length) bytes=true)[GA t x (.own i ver)][HB h i (.row ver e T l)][GA t z (.bs T l2)][RT P at_ e n bytes][EncOf T enc][HS h i (.row (ver+1) e T (l++l2)) h'][PA t d (.own i (ver+1)) t'](hk:Dj P C ops K rest ⟨t',h'⟩)(hs:T.size=n:=by exact rfl):Dj P C ops K (⟨d,.call {callee:=.builtin .append,args:=#[x,z],argTypes:=#[at_,at_]},ty,ps,af,none⟩::rest) ⟨t,h⟩:=Bu rfl (Kv rfl GA.e HB.e GA.e hs hb (by rw[HS.e (h:=h) (i:=i) (b:=.row (ver+1) e T (l++l2)) (h':=h'),PA.e (t:=t) (d:=d) (r:=.own i (ver+1)) (t':=t')];exact hk))
theorem dS(n:Nat)(hm:P.follows .mixedOrders=true:=by kernel_rfl)(hB:Xw l.toArray n=true:=by kernel_rfl)(h1:l.take n=l1:=by(simp only[List.take_succ_cons,List.take_zero,List.drop_succ_cons,List.drop_zero,List.take_nil,List.drop_nil];exact rfl))(h2:l.drop n=l2:=by(simp only[List.take_succ_cons,List.take_zero,List.drop_succ_cons,List.drop_zero,List.take_nil,List.drop_nil];exact rfl))
 (hq:aQ P C l.toArray h (fun t=>Dj P C l.toArray (fun s=>Awp P C y Q s) l2 ⟨t,h⟩) l1 t):Awp P C (.seq (.region id l.toArray true) y) Q ⟨t,h⟩:=by
 subst h1 h2;exact Ad fun _ hK=>Mg n hm hB (Ub (fun _ hx=>Dx (fun s e=>hK _ e) hx) hq)
theorem dSE(n:Nat)(hm:P.follows .mixedOrders=true:=by kernel_rfl)(hB:Xw l.toArray n=true:=by kernel_rfl)(h1:l.take n=l1:=by(simp only[List.take_succ_cons,List.take_zero,List.drop_succ_cons,List.drop_zero,List.take_nil,List.drop_nil];exact rfl))(h2:l.drop n=l2:=by(simp only[List.take_succ_cons,List.take_zero,List.drop_succ_cons,List.drop_zero,List.take_nil,List.drop_nil];exact rfl))
 (hq:aQ P C l.toArray h (fun t=>Dj P C l.toArray (Q .normal) l2 ⟨t,h⟩) l1 t):Awp P C (.region id l.toArray true) Q ⟨t,h⟩:=by
 subst h1 h2;exact Mg n hm hB hq
end
theorem Fh{C:Ctx}{t:List AV}{h h':List ABlk}(i j:Nat)(e:TypeId){α:Type}(T:Ty α){cells:List AV}(hi:h[i]? =some (.box cells))(hj:cells[j]? =some (.lit (.slice none 0 0)))(h0:0 < T.size)
 (hh:h.set i (.box (cells.set j (.own h.length 0)))++[.row 0 e T []]=h':=by(simp only[List.set_cons_zero,List.set_cons_succ,List.length_cons,List.length_nil,Nat.reduceAdd,Nat.zero_add,List.cons_append,List.nil_append];exact rfl)):St.le C ⟨t,h⟩ ⟨t,h'⟩:=by
 subst hh;exact Xc i j e T hi hj h0
end Mu
end
section
namespace Mu
open Go Go.RowKit Go.ChangeShapes Go.WideShapes
section
variable{P:Program}{C:Ctx}{t:List AV}{h:List ABlk}{o:Oper}
def R9(P:Program)(ty:TypeId):Option (Nat×Nat):=
 match P.underlying ty with
 |some (.array n e)=>(P.info? e).map fun i=>(n,i.size)
 |_=>none
theorem My{ty:TypeId}{b off n sz k:Nat}{ik:IntKind}{w:World}(hs:R9 P ty=some (n,sz))(hk:k < n):(Instr.indexAt ty (.pointer (some ⟨b,off,none⟩)) (.int ik (k:Int))).run P w= .ok (.pointer (some ⟨b,off+k * sz,none⟩)) w:=by
 unfold R9 at hs;split at hs <;> try(cases hs;done)
 rename_i n' e h1;cases h2:P.info? e with
 |none=>rw[h2]at hs;cases hs
 |some i=>
  rw[h2]at hs;simp only[Option.map_some,Option.some.injEq,Prod.mk.injEq]at hs;obtain⟨rfl,rfl⟩:=hs;have h3:(0:Int)≤(k:Int)∧(k:Int) < (n':Int):=by omega
  simp[Instr.indexAt,asIntOf,underlying,h1,Instr.sureAddr,Go.sizeOf,typeInfo,h2,add_plain,hk]
theorem Cy{ty:TypeId}{x y:Operand}{ik:IntKind}{i off n k:Nat}{cells:List AV}(hs:R9 P ty=some (n,1))(ho:o.op= .indexAddr ty x y)(hx:evA t x= .ptr i off)(hi:h[i]? =some (.box cells))(hy:evA t y= .lit (.int ik (k:Int)))(hk:k < n):AX P C t h o (.ptr i (off+k)):=
 AR fun S ψ w ρ H hρ=>by
  have h1:=hρ x (by simp[ho,Op.operands]);have h2:=hρ y (by simp[ho,Op.operands]);rw[hx]at h1;rw[hy]at h2;unfold AV.rel at h1 h2;obtain⟨g,h3,h4⟩:=h1.2 (by rw[hi];rfl);have hr:=My (P:=P) (w:=w) (b:=g) (off:=off) (ik:=ik) hs hk;refine⟨.pointer (some ⟨g,off+k * 1,none⟩),by simp[execOp,ho,h4,h2,hr],?_⟩;unfold AV.rel;exact⟨h1.1,fun _=>⟨g,h3,by rw[Nat.mul_one]⟩⟩
def HJ:List AV→List (Nat×AV)→Option (List AV)
 |cs,[]=>some cs
 |cs,(j,x)::ps=>if j < cs.length then HJ (cs.set j x) ps else none
theorem PO{w:World}{S:Nat→Prop}{h:List ABlk}{ψ:Nat→Value}:∀(ps:List (Nat×AV)) (cs rs:List AV) (vs:List (Nat×Value)) (us:List Value),HJ cs ps=some rs→Ah w S h ψ cs us→
 vs.map (·.1)=ps.map (·.1)→(∀(j:Nat) (p:Nat×AV) (v:Nat×Value),ps[j]? =some p→vs[j]? =some v→AV.rel w S h ψ p.2 v.2∧v.2.oneCell'=true)→
 ∃us',Instr.fill (fun i=>some (i * 1,1)) us.toArray vs=some us'.toArray∧Ah w S h ψ rs us'
 | [],cs,rs,vs,us,hp,hr,hv,_=>by
  cases hp;have:vs= []:=by simpa using hv
  subst this;exact⟨us,rfl,hr⟩
 |(j,x)::ps,cs,rs,vs,us,hp,hr,hv,hrel=>by
  cases vs with
  |nil=>simp at hv
  |cons v vs=>
   simp only[List.map_cons,List.cons.injEq]at hv;obtain⟨hv1,hv2⟩:=hv;unfold HJ at hp;split at hp <;> try(cases hp;done)
   rename_i hoff;obtain⟨h1,h2⟩:=hrel 0 _ _ rfl rfl;have hul:=By hr;obtain⟨us',h3,h4⟩:=PO ps (cs.set j x) rs vs (us.set j v.2) hp (G0 hr j h1) hv2 fun j p v hp hv=>hrel (j+1) p v (by simpa using hp) (by simpa using hv)
   refine⟨us',?_,h4⟩;obtain⟨i,v⟩:=v;dsimp only at hv1 h1 h2 h3;subst hv1;unfold Instr.fill;simp only[Nat.mul_one,Ic h2];have hc:¬((decide ((#[v]:Array Value).size≠1)||decide (i+(#[v]:Array Value).size > us.toArray.size))=true):=by
    simp;omega
   rw[if_neg hc];simpa using h3
theorem Xk{ty:TypeId}{parts:Array (Nat×Operand)}{zs:List Value}{n:Nat}{rs:List AV}(ho:o.op= .build ty parts)(hz:B2 P ty=some zs)(hs:R9 P ty=some (n,1))
 (hr:HJ (zs.map .lit) (parts.toList.map fun p=>(p.1,evA t p.2))=some rs) (h1:(parts.toList.all fun p=>TE (evA t p.2))=true):AX P C t h o (.agg rs):=
 AR fun S ψ w ρ H hρ=>by
  unfold B2 at hz;obtain⟨z,hz1,rfl⟩:=Option.map_eq_some_iff.1 hz;obtain⟨i,hi,hz2⟩:=Option.bind_eq_some_iff.1 hz1;unfold R9 at hs;split at hs <;> try(cases hs;done)
  rename_i n' e hu;cases h2:P.info? e with
  |none=>rw[h2]at hs;cases hs
  |some ie=>
   rw[h2]at hs;simp only[Option.map_some,Option.some.injEq,Prod.mk.injEq]at hs;obtain⟨rfl,he1⟩:=hs;have hmem:∀p∈parts.toList,AV.rel w S h ψ (evA t p.2) (ρ p.2):=fun p hp=>hρ p.2 (by rw[ho];exact List.mem_toArray.2 (List.mem_map.2 ⟨p,hp,rfl⟩))
   obtain⟨us',h3,h4⟩:=PO (w:=w) (S:=S) (h:=h) (ψ:=ψ) _ _ rs (parts.toList.map fun p=>(p.1,ρ p.2)) z.cells.toList hr (EF _) (by simp) fun j p v hp hv=>by
    rw[List.getElem?_map]at hp hv;obtain⟨q,hq,rfl⟩:=Option.map_eq_some_iff.1 hp;rw[hq]at hv;cases hv;have hqm:=List.mem_of_getElem? hq;exact⟨hmem q hqm,Kr (List.all_eq_true.1 h1 q hqm) C S ψ w _ H (hmem q hqm)⟩
   refine⟨.agg us'.toArray,?_,by unfold AV.rel;exact⟨us',rfl,h4⟩⟩;have hf:Instr.fill (fun i=>some (i * 1,1)) z.cells (parts.map fun p=>(p.1,ρ p.2)).toList=some us'.toArray:=by simpa using h3
   simp only[execOp,ho,Instr.build,zeroValue,typeInfo,underlying,Go.sizeOf,Sem.run_bind,run_program,Result.andThen_ok,hi,hz2,Sem.run_pure,hu,h2,he1,hf]
end
end Mu
end
section
namespace Mu
open Go Go.RowKit Go.Proofs
def OB(P:Program):List Field→Nat→List Bool→Bool
 | [],_,[]=>true
 |f::fs,j,b::bs=>f.name != "_" &&f.offset ==j&&(match P.underlying f.type with|some (.int _)=>b|some .bool=>!b|_=>false)&&OB P fs (j+1) bs
 |_,_,_=>false
def VN:List Bool→List Value→List Value→Option Bool
 | [],[],[]=>some true
 |true::bs,.int k a::vs,.int k' b::ws=>if k=k' then(VN bs vs ws).map fun r=>a ==b&&r else none
 |false::bs,.bool a::vs,.bool b::ws=>(VN bs vs ws).map fun r=>a ==b&&r
 |_,_,_=>none
def Ajo(P:Program)(ty:TypeId)(bs:List Bool):Bool:=
 (match P.underlying ty with
  |some (.struct fs)=>OB P fs.toList 0 bs
  |_=>false)&&!P.stoodInHeld ty&&!P.eqGuardType P.depth ty
section
variable{P:Program}{w:World}
theorem Lm{e:TypeId}{k:IntKind}{xs:Array Value}{off:Nat}{v:Value}(he:P.underlying e=some (.int k))(hx:xs[off]? =some v):(part e xs off).run P w= .ok v w:=by
 simp[part,isAgg,run_underlying he,hx]
theorem Ln{e:TypeId}{xs:Array Value}{off:Nat}{v:Value}(he:P.underlying e=some .bool)(hx:xs[off]? =some v):(part e xs off).run P w= .ok v w:=by
 simp[part,isAgg,run_underlying he,hx]
theorem Yd{b:Bool}{bs:List Bool}{vs ws:List Value}{r:Bool}(h:VN (b::bs) vs ws=some r):
 (∃k a c vs' ws' r',b=true∧vs= .int k a::vs'∧ws= .int k c::ws'∧VN bs vs' ws'=some r'∧r=(a ==c&&r'))∨
 (∃a c vs' ws' r',b=false∧vs= .bool a::vs'∧ws= .bool c::ws'∧VN bs vs' ws'=some r'∧r=(a ==c&&r')):=by
 cases vs with
 |nil=>cases b <;> simp[VN]at h
 |cons v vs=>
  cases ws with
  |nil=>cases b <;> cases v <;> simp[VN]at h
  |cons u ws=>
   cases b <;> cases v <;> cases u <;> simp only[VN,reduceCtorEq]at h
   ·obtain⟨r',hr',rfl⟩:=Option.map_eq_some_iff.1 h;exact .inr ⟨_,_,_,_,r',rfl,rfl,rfl,hr',rfl⟩
   ·split at h
    ·rename_i hk;subst hk;obtain⟨r',hr',rfl⟩:=Option.map_eq_some_iff.1 h;exact .inl ⟨_,_,_,_,_,r',rfl,rfl,rfl,hr',rfl⟩
    ·cases h
theorem Pa{d:Nat}{xs ys:Array Value}:∀(fs:List Field) (j:Nat) (bs:List Bool) (vs ws:List Value) (r:Bool),OB P fs j bs=true→VN bs vs ws=some r→(∀i,xs[j+i]? =vs[i]?)→(∀i,ys[j+i]? =ws[i]?)→(Op.eqFields (d+1) xs ys fs).run P w= .ok r w
 | [],j,bs,vs,ws,r,h,hr,hx,hy=>by
  cases bs with
  |nil=>
   cases vs <;> cases ws <;> simp[VN]at hr
   subst hr;rfl
  |cons b bs=>simp[OB]at h
 |f::fs,j,bs,vs,ws,r,h,hr,hx,hy=>by
  cases bs with
  |nil=>simp[OB]at h
  |cons b bs=>
   simp only[OB,Bool.and_eq_true,bne_iff_ne,ne_eq,beq_iff_eq]at h;obtain⟨⟨⟨hn,ho⟩,ht⟩,hrest⟩:=h;have shift:∀{zs:Array Value} {u:Value} {us:List Value},(∀i,zs[j+i]? =(u::us)[i]?)→zs[f.offset]? =some u∧∀i,zs[j+1+i]? =us[i]?:=fun hz=>by
    refine⟨by rw[ho];simpa using hz 0,fun i=>?_⟩;have:=hz (i+1);rw[List.getElem?_cons_succ]at this;rw[←this];congr 1;omega
   rcases Yd hr with⟨k,a,c,vs',ws',r',rfl,rfl,rfl,hr',rfl⟩|⟨a,c,vs',ws',r',rfl,rfl,rfl,hr',rfl⟩
   ·obtain⟨hx0,hx1⟩:=shift hx;obtain⟨hy0,hy1⟩:=shift hy;have ih:=Pa (d:=d) (xs:=xs) (ys:=ys) fs (j+1) bs vs' ws' r' hrest hr' hx1 hy1;cases hu:P.underlying f.type with
    |none=>rw[hu]at ht;cases ht
    |some td=>
     rw[hu]at ht;cases td <;> simp at ht
     rename_i ik;have q:(Op.equalIn (d+1) f.type (.int k a) (.int k c)).run P w= .ok (a ==c) w:=run_equalIn_int (P:=P) w d f.type k ik a c hu;simp only[Op.eqFields,hn,ne_eq,not_false_eq_true,if_true,Sem.run_bind];rw[Lm hu hx0,Result.andThen_ok,Lm hu hy0,Result.andThen_ok,q,Result.andThen_ok];cases(a ==c)
     ·rfl
     ·simpa using ih
   ·obtain⟨hx0,hx1⟩:=shift hx;obtain⟨hy0,hy1⟩:=shift hy;have ih:=Pa (d:=d) (xs:=xs) (ys:=ys) fs (j+1) bs vs' ws' r' hrest hr' hx1 hy1;cases hu:P.underlying f.type with
    |none=>rw[hu]at ht;cases ht
    |some td=>
     rw[hu]at ht;cases td <;> simp at ht
     have q:(Op.equalIn (d+1) f.type (.bool a) (.bool c)).run P w= .ok (a ==c) w:=run_equalIn_bool' (P:=P) w d f.type a c hu;simp only[Op.eqFields,hn,ne_eq,not_false_eq_true,if_true,Sem.run_bind];rw[Ln hu hx0,Result.andThen_ok,Ln hu hy0,Result.andThen_ok,q,Result.andThen_ok];cases(a ==c)
     ·rfl
     ·simpa using ih
theorem QH{ty:TypeId}{bs:List Bool}{vs ws:List Value}{r:Bool}(h:Ajo P ty bs=true)(hr:VN bs vs ws=some r):(Op.equalIn 10000 ty (.agg vs.toArray) (.agg ws.toArray)).run P w= .ok r w∧P.eqGuardType P.depth ty=false:=by
 unfold Ajo at h;simp only[Bool.and_eq_true,Bool.not_eq_true']at h;obtain⟨⟨h1,h2⟩,h3⟩:=h;refine⟨?_,h3⟩;split at h1
 ·rename_i fs hfs;have hF:P.fieldsOf ty=fs:=by unfold Program.fieldsOf;rw[hfs]
  rw[show(10000:Nat)=9999+1 from rfl,run_equalIn_struct w 9999 ty _ _ (by rw[hF];exact hfs) h2,hF];exact Pa (d:=9998) fs.toList 0 bs vs ws r h1 hr (fun i=>by simp) (fun i=>by simp)
 ·cases h1
end
theorem Hw{w:World}{S:Nat→Prop}{h:List ABlk}{ψ:Nat→Value}:∀(vs:List Value) {us:List Value},Ah w S h ψ (vs.map .lit) us→us=vs
 | [],us,H=>by
  unfold Ah at H;exact H
 |v::vs,us,H=>by
  unfold List.map Ah at H;obtain⟨u,us',rfl,h1,h2⟩:=H;unfold AV.rel at h1;rw[h1,Hw vs h2]
section
variable{P:Program}{C:Ctx}{t:List AV}{h:List ABlk}{o:Oper}
theorem Ug{xt yt:TypeId}{x y:Operand}{bs:List Bool}{vs ws:List Value}{r:Bool}(hT:Ajo P xt bs=true)(ho:o.op= .binOp .eql xt x y yt)(hx:evA t x= .agg (vs.map .lit))(hy:evA t y= .agg (ws.map .lit))(hr:VN bs vs ws=some r):AX P C t h o (.lit (.bool r)):=
 AR fun S ψ w ρ _ hρ=>by
  have h1:=hρ x (by simp[ho,Op.operands]);have h2:=hρ y (by simp[ho,Op.operands]);rw[hx]at h1;rw[hy]at h2;unfold AV.rel at h1 h2;obtain⟨us,h1,h3⟩:=h1;obtain⟨us',h2,h4⟩:=h2;rw[Hw _ h3]at h1;rw[Hw _ h4]at h2;obtain⟨e1,e2⟩:=QH (w:=w) hT hr;refine⟨_,?_,by unfold AV.rel;rfl⟩;simp only[execOp,ho,h1,h2,Sem.run_bind];rw[run_eqGuard_agg w .eql xt x y _ _ e2,Result.andThen_ok,run_eql_struct,e1,Result.andThen_ok];rfl
end
end Mu
end
section
namespace Mu
open Go Go.RowKit Go.Proofs Go.ChangeShapes Go.WideShapes
section
variable{P:Program}{C:Ctx}{t:List AV}{h:List ABlk}{o:Oper}
theorem Hh{α:Type}{T:Ty α}{enc:α→List AV}{x:α}(hp:∀w S cs ψ,Ah w S h ψ (enc x) cs→T.RS w S cs x):Fit h T (.agg (enc x)) x:=fun C S ψ w v H hv=>by
 unfold AV.rel at hv;obtain⟨cs,rfl,hl⟩:=hv;exact hp w S cs ψ hl
theorem Ju{xt yt:TypeId}{x y:Operand}{bs:List Bool}{vs ws:List Value}{r:Bool}(hT:Ajo P xt bs=true)(ho:o.op= .binOp .neq xt x y yt)(hx:evA t x= .agg (vs.map .lit))(hy:evA t y= .agg (ws.map .lit))(hr:VN bs vs ws=some r):AX P C t h o (.lit (.bool (!r))):=
 AR fun S ψ w ρ _ hρ=>by
  have h1:=hρ x (by simp[ho,Op.operands]);have h2:=hρ y (by simp[ho,Op.operands]);rw[hx]at h1;rw[hy]at h2;unfold AV.rel at h1 h2;obtain⟨us,h1,h3⟩:=h1;obtain⟨us',h2,h4⟩:=h2;rw[Hw _ h3]at h1;rw[Hw _ h4]at h2;obtain⟨e1,e2⟩:=QH (w:=w) hT hr;refine⟨_,?_,by unfold AV.rel;rfl⟩;simp only[execOp,ho,h1,h2,Sem.run_bind];rw[run_eqGuard_agg w .neq xt x y _ _ e2,Result.andThen_ok,run_neq_struct,e1,Result.andThen_ok];rfl
end
end Mu
end
section
namespace Mu
open Go Go.RowKit
section
variable{P:Program}{C:Ctx}
def upd(b:Nat→Bool)(i:Nat):Nat→Bool:=fun j=>if j=i then true else b j
def W7(b:Nat→Bool)(o:Oper):Prop:=∀(k:Nat) (e:Go.Edge),o.after[k]? =some e→Region.binds .any e=true→b e.on=true
def ZM(ops:Array Oper)(b:Nat→Bool):Prop:=∀(j:Nat) (o:Oper),ops[j]? =some o→b j=true→W7 b o
def gS(P:Program)(C:Ctx)(F:(Nat→Bool)→St)(ops:Array Oper):Nat→List Oper→Prop
 |_,[]=>True
 |k,o::rest=>(∀b,b k=false→W7 b o→ZM ops b→AOp P C o (F b) fun s=>St.le C s (F (upd b k)))∧gS P C F ops (k+1) rest
theorem Ad1{F:(Nat→Bool)→St}{ops:Array Oper}:∀{l:List Oper} {k j:Nat} {o:Oper},gS P C F ops k l→l[j]? =some o→∀b,b (k+j)=false→W7 b o→ZM ops b→AOp P C o (F b) fun s=>St.le C s (F (upd b (k+j)))
 | [],_,_,_,_,hj=>by simp at hj
 |o'::l,k,0,o,h,hj=>by
  simp at hj;subst hj;exact h.1
 |o'::l,k,j+1,o,h,hj=>by
  have:=Ad1 (l:=l) (k:=k+1) (j:=j) h.2 (by simpa using hj);rwa [show k+1+j=k+(j+1)by omega]at this
def Ai7(ops:Array Oper):Bool:=(List.range ops.size).all fun i=>match ops[i]? with
 |none=>true
 |some o=>o.guard.isNone&&o.after.all fun e=>!Region.binds .any e||decide (e.on < i)
theorem PK{ops:Array Oper}(hf:Ai7 ops=true){i:Nat}{o:Oper}(ho:ops[i]? =some o):o.guard=none∧∀e∈o.after,Region.binds .any e=true→e.on < i:=by
 have h1:=List.all_eq_true.1 hf i (List.mem_range.2 (Array.getElem?_eq_some_iff.1 ho).1);simp only[ho,Bool.and_eq_true]at h1;refine⟨by simpa using h1.1,fun e he hb=>?_⟩;have h2:=Array.all_eq_true_iff_forall_mem.1 h1.2 e he;rw[hb]at h2;simpa using h2
theorem Kl{b:Nat→Bool}{i:Nat}{o:Oper}(h:W7 b o):W7 (upd b i) o:=fun k e he hb=>by
 unfold upd;split
 ·rfl
 ·exact h k e he hb
theorem Ad0{listed:Array Bool}{j:Nat}(h:listed.getD j false=true):listed.getD j true=true:=by
 rcases Nat.lt_or_ge j listed.size with h'|h'
 ·simp[h']at h⊢;exact h
 ·simp[Array.getElem?_eq_none h']at h
theorem O1{listed:Array Bool}{i:Nat}(hi:i < listed.size):(fun j=>(listed.setIfInBounds i true).getD j true)=upd (fun j=>listed.getD j true) i:=by
 funext j;unfold upd;by_cases h:j=i
 ·subst h;rw[if_pos rfl];simp[Array.getD_eq_getD_getElem?,hi]
 ·rw[if_neg h,getD_set_ne true (Ne.symm h)]
theorem Vw{ops:Array Oper}{F:(Nat→Bool)→St}{Q':Exit→Act→World→Prop}(hf:Ai7 ops=true)
 (hs:∀(j:Nat) (o:Oper),ops[j]? =some o→∀b,b j=false→W7 b o→ZM ops b→AOp P C o (F b) fun s=>St.le C s (F (upd b j)))
 (hQ:∀a w,(F fun _=>true).rel C a w→Q' .normal a w):
 ∀(f:Nat) (listed:Array Bool) (a:Act) (w:World),listed.size=ops.size→listed.toList.count false=f→ZM ops (fun j=>listed.getD j true)→(F fun j=>listed.getD j true).rel C a w→wpAny P .any ops Q' f listed a w:=by
 intro f;induction f with
 |zero=>
  intro listed a w hsz hc hcl H;have hall:∀j,listed.getD j true=true:=fun j=>by
   rcases Nat.lt_or_ge j listed.size with h'|h'
   ·have hm:=List.count_eq_zero.1 hc;simp only[Array.getD_eq_getD_getElem?,Array.getElem?_eq_getElem h',Option.getD_some];rcases hx:listed[j]with _|_
    ·exact absurd (by rw[←hx];simp) hm
    ·rfl
   ·simp[Array.getD_eq_getD_getElem?,Array.getElem?_eq_none h']
  refine⟨List.eq_nil_iff_forall_not_mem.2 fun i hi=>?_,hQ a w ?_⟩
  ·have:=(mem_ready.1 hi).1;rw[hall i]at this;cases this
  ·have e:(fun j=>listed.getD j true)=fun _=>true:=funext hall
   rwa [e]at H
 |succ f ih=>
  intro listed a w hsz hc hcl H;refine⟨fun h0=>?_,fun i hi=>?_⟩
  ·exfalso;have hex:∃j,listed.getD j true=false:=by
    have hm:false∈listed.toList:=List.count_pos_iff.1 (by omega);obtain⟨j,hj,he⟩:=List.getElem_of_mem hm;exact⟨j,by simp only[Array.length_toList]at hj;simp only[Array.getElem_toList]at he;simp[Array.getD_eq_getD_getElem?,hj,he]⟩
   obtain⟨j,hj,hmin⟩:=G4 hex;have hjs:j < ops.size:=by
    rcases Nat.lt_or_ge j listed.size with h'|h'
    ·omega
    ·simp[Array.getElem?_eq_none h']at hj
   have hmem:j∈Region.ready .any ops listed:=mem_ready.2 ⟨hj,_,Array.getElem?_eq_getElem hjs,fun e he hb=>by
    have hlt:=(PK hf (Array.getElem?_eq_getElem hjs)).2 e he hb;cases hx:listed.getD e.on false with
    |true=>rfl
    |false=>
     have hin:e.on < listed.size:=by omega
     have:=hmin e.on (getD_in hin hx);omega⟩
   rw[h0]at hmem;cases hmem
  ·obtain⟨hun,o,ho,hall⟩:=mem_ready.1 hi;have his:i < listed.size:=by rw[hsz];exact(Array.getElem?_eq_some_iff.1 ho).1
   obtain⟨hg,hfw⟩:=PK hf ho;have haft:W7 (fun j=>listed.getD j true) o:=fun k e he hb=>Ad0 (hall e (Array.mem_of_getElem? he) hb)
   have hcnt:(listed.setIfInBounds i true).toList.count false=f:=by
    have hfalse:listed.toList[i]'(by simpa using his)=false:=by
     have:=hun;simp[Array.getD_eq_getD_getElem?,his]at this;simpa using this
    rw[Array.toList_setIfInBounds,List.count_set (by simpa using his),hfalse,hc];simp
   unfold wpOp;simp only[ho];have hw:Region.wanted o (yielded ops a.tmps)=true:=by unfold Region.wanted;rw[hg]
   rw[hw,if_pos rfl];refine .inl (Oper.wp_mono (fun a' w' ⟨s',hle,hr⟩=>?_) (hs i o ho _ hun haft hcl Q' a w H).2);refine ih _ a' w' (by simpa using hsz) hcnt ?_ ?_
   ·rw[O1 his];intro j o' hj hbj;by_cases hji:j=i
    ·subst hji;rw[ho]at hj;cases hj;exact Kl haft
    ·exact Kl (hcl j o' hj (by unfold upd at hbj;rwa [if_neg hji]at hbj))
   ·rw[O1 his];exact hle a' w' hr
theorem Ip{id n:Nat}{l:List Oper}{Q:Exit→St→Prop}(F:(Nat→Bool)→St)(hn:l.length=n)(hm:P.follows .mixedOrders=true)(hB:(Region.noSelect l.toArray&&HV l.toArray&&Ai7 l.toArray)=true)
 (hs:gS P C F l.toArray 0 l) (hQ:Q .normal (F fun _=>true)):Awp P C (.region id l.toArray true) Q (F fun j=>decide (n≤j)):=fun a w H=>by
 simp only[Bool.and_eq_true]at hB;obtain⟨⟨hsel,hnd⟩,hf⟩:=hB;refine Ff hm hnd ?_;have e0:(fun j=>(Array.replicate l.toArray.size false).getD j true)=fun j=>decide (n≤j):=by
  funext j;simp only[Array.getD_eq_getD_getElem?,Array.getElem?_replicate,List.size_toArray,hn];by_cases h:j < n
  ·rw[if_pos h,decide_eq_false (by omega)];rfl
  ·rw[if_neg h,decide_eq_true (by omega)];rfl
 refine Vw (Q':=fun e a' w'=>e= .normal∧∃s',Q e s'∧s'.rel C a' w') hf (fun j o ho b h1 h2 h3=>?_) (fun a' w' h=>⟨rfl,_,hQ,h⟩) _ _ a _ (by simp) (by simp) ?_ ?_
 ·have:=Ad1 (l:=l) (k:=0) (j:=j) hs (by simpa using ho) b (by rwa [Nat.zero_add]) h2 h3;rwa [Nat.zero_add]at this
 ·intro j o ho hb;have hj:j < l.toArray.size:=(Array.getElem?_eq_some_iff.1 ho).1;have:(Array.replicate l.toArray.size false).getD j true=true:=hb;rw[Array.getD_eq_getD_getElem?,Array.getElem?_replicate,if_pos hj]at this;cases this
 ·rw[e0];obtain⟨hd,S,ψ,hh',hl⟩:=H;have hb:Below w.heap.size w {w with drawn:=w.drawn+1}:=⟨rfl,rfl,rfl,Nat.le_refl _,fun _ _=>rfl⟩
  exact⟨hd,S,ψ,hh'.grow hb (fun _ h=>h) (fun _ h=>.inl h) hh'.lt,Ay (show Ext w S _ ψ {w with drawn:=w.drawn+1} S _ ψ from Ext.grow _ ψ (fun k hk=>rfl) fun _ h=>h) _ _ hl⟩
theorem Jj{p:Nat}:C9 p []=true:=rfl
theorem BS{p:Nat}{x:AV}{l:List AV}(hx:EY p x=true)(hl:C9 p l=true):C9 p (x::l)=true:=by unfold C9;rw[hx,hl];rfl
theorem Ae7{p:Nat}{c:Bool}{x y:AV}(hx:EY p x=true)(hy:EY p y=true):EY p (bif c then x else y)=true:=by cases c;exact hy;exact hx
theorem US{p:Nat}{c:Bool}{x y:AV}(hc:c=false)(hy:EY p y=true):EY p (bif c then x else y)=true:=by subst hc;exact hy
theorem Jk{p:Nat}:List.all [] (nrB p)=true:=rfl
theorem BT{p:Nat}{x:ABlk}{l:List ABlk}(hx:nrB p x=true)(hl:l.all (nrB p)=true):(x::l).all (nrB p)=true:=by rw[List.all_cons,hx,hl];rfl
theorem CL{p:Nat}{c:Bool}{x y:ABlk}(hx:nrB p x=true)(hy:nrB p y=true):nrB p (bif c then x else y)=true:=by cases c;exact hy;exact hx
theorem Mh{o:Oper}{t:List AV}{h:List ABlk}{elem:TypeId}{zs:List Value}{K:St→Prop}[ZC P elem zs](p:Nat)(ho:o.op= .alloc elem)(hp:h[p]? =some .dead)(hn:h.all (nrB p)=true)(hnt:C9 p t=true)(hK:K ⟨BH t o.dst (.ptr p 0),h.set p (.box (zs.map .lit))⟩):AOp P C o ⟨t,h⟩ K:=by
 rintro Q' a w ⟨hd,S,ψ,hh',hl⟩;refine⟨fun c e=>(by rw[ho]at e;cases e),?_⟩;have hz:B2 P elem=some zs:=ZC.eq;unfold B2 at hz;obtain⟨z,hz1,rfl⟩:=Option.map_eq_some_iff.1 hz;obtain⟨ti,hti,hz2⟩:=Option.bind_eq_some_iff.1 hz1;have hrun:(execOp a.eval o).run P w= .ok (.value (.pointer (some ⟨w.heap.size,0,none⟩))) (w.alloc (.cells z.cells elem)):=by
  simp[execOp,ho,Instr.alloc,zeroValue,typeInfo,hti,hz2,Go.newVar,Go.newRow]
 unfold Oper.wp;rw[hrun];have hb:Below w.heap.size w (w.alloc (.cells z.cells elem)):=(Below.refl _ _).alloc (Nat.le_refl _) _;have hB:Gm C.N (w.alloc (.cells z.cells elem)) S (h.set p (.box (z.cells.toList.map .lit))) (Bo ψ p (.pointer (some ⟨w.heap.size,0,none⟩))) (.pointer (some ⟨w.heap.size,0,none⟩)) (.box (z.cells.toList.map .lit)):=
  ⟨w.heap.size,z.cells.toList,elem,rfl,fun hN=>by have:=hh'.nlt _ hN;have:=hh'.bel.size;omega,fun hS=>by have:=hh'.lt _ hS;omega,by simpa using heap_alloc_new w (.cells z.cells elem),EF _⟩
 have H1:=hh'.revive hp hn hb hB fun g hg=>by simp[ftp,BY]at hg;omega
 have hl1:=Ay (Ext.grow h ψ (fun k hk=>hb.block k (hh'.lt k hk)) fun _ h=>h) _ _ hl;have hl2:=Cu (b:=.box (z.cells.toList.map .lit)) (ψ':=Bo ψ p (.pointer (some ⟨w.heap.size,0,none⟩))) (fun i hi=>Bq hi) _ _ hnt hl1;refine⟨_,hK,by rw[put_defers,hd];exact(Dc (b':=.box (z.cells.toList.map .lit)) hp rfl).symm,S,_,H1,Gc hl2 o.dst ?_⟩;unfold AV.rel;exact⟨by simpa using(List.getElem?_eq_some_iff.1 hp).1,fun _=>⟨w.heap.size,AZ,rfl⟩⟩
theorem IF{o:Oper}{t:List AV}{h:List ABlk}{ty:TypeId}{x y:Operand}{i off n:Nat}{v:AV}{cells new:List AV}{K:St→Prop}[SZ P ty n](ho:o.op= .store ty x y)(hx:evA t x= .ptr i off)(hi:h[i]? =some (.box cells))(hy:evA t y=v)(hp:Sx h v new)(hs:n=new.length)(hle:off+new.length≤cells.length)
 (hK:K ⟨BH t o.dst (.lit undef),h.set i (.box (cells.take off++new++cells.drop (off+new.length)))⟩):AOp P C o ⟨t,h⟩ K:=by
 subst hy;exact DO ho hx hi hp hs hle hK
theorem FJ{t:List AV}{h h':List ABlk}(k:Nat)(e:h++List.replicate k .dead=h'):St.le C ⟨t,h⟩ ⟨t,h'⟩:=by
 subst e;induction k with
 |zero=>simpa using St.le.refl
 |succ k ih=>
  refine ih.trans ?_;have:=OL (C:=C) (t:=t) (h:=h++List.replicate k .dead);rwa [List.append_assoc,←List.replicate_succ']at this
theorem RQ{b:Bool}(h:b=true)(x y:ABlk):(bif b then x else y)=x:=by subst h;rfl
theorem DJ{b:Bool}(h:b=false)(x y:ABlk):(bif b then x else y)=y:=by subst h;rfl
theorem Bh{F:(Nat→Bool)→St}{ops:Array Oper}{k:Nat}{o:Oper}{rest:List Oper}(h1:∀b,b k=false→W7 b o→ZM ops b→AOp P C o (F b) fun s=>St.le C s (F (upd b k)))(h2:gS P C F ops (k+1) rest):gS P C F ops k (o::rest):=⟨h1,h2⟩
theorem Ry{F:(Nat→Bool)→St}{ops:Array Oper}{k:Nat}:gS P C F ops k []:=trivial
theorem Ct{ops:Array Oper}{b:Nat→Bool}(hc:ZM ops b){i j k:Nat}{o:Oper}{e:Go.Edge}(hj:ops[j]? =some o)(hk:o.after[k]? =some e)(hb:Region.binds .any e=true)(he:e.on=i)(hi:b i=false):b j=false:=by
 cases h:b j with
 |false=>rfl
 |true=>
  have:=hc j o hj h k e hk hb;rw[he,hi]at this;cases this
end
end Mu
end
section
namespace Mu
open Go Go.RowKit Go.Proofs
section
variable{P:Program}{C:Ctx}{o:Oper}{t:List AV}{h:List ABlk}{ι:Type}{Rs:ι→Res}{val:ι→Value}
end
section
variable{P:Program}{C:Ctx}
variable{t:List AV}{h:List ABlk}{o:Oper}
end
section
variable{P:Program}{C:Ctx}{t:List AV}{h:List ABlk}{o:Oper}
def Aid(h:List ABlk):AV→Bool
 | .ptr i _=>Bj h[i]?
 |x=>TE x
theorem Aaj{x:AV}(hx:Aid h x=true):One h x:=by
 cases x with
 |ptr i off=>
  have hx:Bj h[i]? =true:=hx;cases hi:h[i]? with
  |none=>rw[hi]at hx;cases hx
  |some b=>cases b <;> rw[hi]at hx <;> first|exact One.ptr hi|cases hx
 |_=>exact Kr hx
theorem Xj{ty:TypeId}{parts:Array (Nat×Operand)}{zs:List Value}{n:Nat}{rs:List AV}(ho:o.op= .build ty parts)(hz:B2 P ty=some zs)(hs:R9 P ty=some (n,1))
 (hr:HJ (zs.map .lit) (parts.toList.map fun p=>(p.1,evA t p.2))=some rs) (h1:(parts.toList.all fun p=>Aid h (evA t p.2))=true):AX P C t h o (.agg rs):=
 AR fun S ψ w ρ H hρ=>by
  unfold B2 at hz;obtain⟨z,hz1,rfl⟩:=Option.map_eq_some_iff.1 hz;obtain⟨i,hi,hz2⟩:=Option.bind_eq_some_iff.1 hz1;unfold R9 at hs;split at hs <;> try(cases hs;done)
  rename_i n' e hu;cases h2:P.info? e with
  |none=>rw[h2]at hs;cases hs
  |some ie=>
   rw[h2]at hs;simp only[Option.map_some,Option.some.injEq,Prod.mk.injEq]at hs;obtain⟨rfl,he1⟩:=hs;have hmem:∀p∈parts.toList,AV.rel w S h ψ (evA t p.2) (ρ p.2):=fun p hp=>hρ p.2 (by rw[ho];exact List.mem_toArray.2 (List.mem_map.2 ⟨p,hp,rfl⟩))
   obtain⟨us',h3,h4⟩:=PO (w:=w) (S:=S) (h:=h) (ψ:=ψ) _ _ rs (parts.toList.map fun p=>(p.1,ρ p.2)) z.cells.toList hr (EF _) (by simp) fun j p v hp hv=>by
    rw[List.getElem?_map]at hp hv;obtain⟨q,hq,rfl⟩:=Option.map_eq_some_iff.1 hp;rw[hq]at hv;cases hv;have hqm:=List.mem_of_getElem? hq;exact⟨hmem q hqm,Aaj (List.all_eq_true.1 h1 q hqm) C S ψ w _ H (hmem q hqm)⟩
   refine⟨.agg us'.toArray,?_,by unfold AV.rel;exact⟨us',rfl,h4⟩⟩;have hf:Instr.fill (fun i=>some (i * 1,1)) z.cells (parts.map fun p=>(p.1,ρ p.2)).toList=some us'.toArray:=by simpa using h3
   simp only[execOp,ho,Instr.build,zeroValue,typeInfo,underlying,Go.sizeOf,Sem.run_bind,run_program,Result.andThen_ok,hi,hz2,Sem.run_pure,hu,h2,he1,hf]
end
theorem Ab2{x y:AV}{l l':List AV}(h1:x=y)(h2:l=l'):x::l=y::l':=by rw[h1,h2]
theorem Cl{h:List ABlk}{α:Type}{T:Ty α}{x y:AV}{d:α}(e:x=y)(hf:Fit h T y d):Fit h T x d:=by rw[e];exact hf
section
variable{G:World→Prop}{P:Program}{f:FuncId}{fn:Go.Func}{c:Code}{args:List AV}{ι:Type}{R:Res}{Rs:ι→Res}{val:ι→Value}{t:Tmp}{n:Nat}
end
section
variable{G:World→Prop}{P:Program}{C:Ctx}{o:Oper}{t:List AV}{h:List ABlk}{ι:Type}{Rs:ι→Res}{val:ι→Value}
end
end Mu
end
section
namespace Mu
open Go Go.RowKit Go.ChangeShapes Go.WideShapes Go.Proofs
def Jg(cells:List Value)(off:Nat)(news:List Value):List Value:=cells.take off++news++cells.drop (off+news.length)
def Xv(g sz cap l m:Nat):Value:=.slice (if cap=l then some ⟨g,0,none⟩else some ⟨g,l * sz,none⟩) (m - l) (cap - l)
theorem Iv{cells:List Value}{off:Nat}{news:List Value}(h:off+news.length≤cells.length):(Jg cells off news).length=cells.length:=by
 unfold Jg;simp;omega
theorem QC(P:Program){w:World}{g off:Nat}{cells news:List Value}{e:TypeId}(hg:w.heap[g]? =some (.cells cells.toArray e (0,0)))(hle:off+news.length≤cells.length)(h1:∀u∈news,u.oneCell'=true):
 w.setCells g off news=w.setRow g (Jg cells off news).toArray:=by
 have a:=run_storeCells_cells (P:=P) g off news 0 w (fun j hj=>by simp[World.cell?,hg];omega) (fun j hj=>by simp[World.frozen?,hg]) h1;have b:=run_storeCells_at (P:=P) g off e news 0 cells.toArray w hg (by simpa using hle) h1;rw[a]at b;simpa[Jg]using b
section
variable{P:Program}{C:Ctx}{t:List AV}{h:List ABlk}{o:Oper}{K:St→Prop}
theorem FL{ty:TypeId}{x:Operand}{lo hi:Option Operand}{g n cap l m sz:Nat}[ES P ty sz](ho:o.op= .slice ty x lo hi none)(hx:evA t x= .lit (.slice (some ⟨g,0,none⟩) n cap))(hl:Aeb t 0 lo l)(hm:Aeb t n hi m)(h1:l≤m)(h2:m≤cap):
 AX P C t h o (.lit (Xv g sz cap l m)):=
 AR fun S ψ w ρ H hρ=>by
  have hx':=hρ x (by rw[ho];simp[Op.operands]);have hlo:=hl.val (h:=h) (w:=w) (S:=S) (ψ:=ψ) (ρ:=ρ) fun y hy=>hρ y (by rw[ho,hy];simp[Op.operands])
  have hhi:=hm.val (h:=h) (w:=w) (S:=S) (ψ:=ψ) (ρ:=ρ) fun y hy=>hρ y (by rw[ho,hy];simp[Op.operands])
  rw[hx]at hx';unfold AV.rel at hx';have hr:=QF (P:=P) (w:=w) (a:=some ⟨g,0,none⟩) (len:=n) (cap:=cap) (ES.eq (P:=P) (ty:=ty) (n:=sz)) hlo hhi h1 h2;have e:(Value.slice (if cap=l then some ⟨g,0,none⟩else(some (⟨g,0,none⟩:Addr)).map (·.add (l * sz))) (m - l) (cap - l))=Xv g sz cap l m:=by
   unfold Xv;split <;> simp[add_plain]
  rw[e]at hr;refine⟨Xv g sz cap l m,by simp[execOp,ho,hx',hr],?_⟩;unfold AV.rel;rfl
theorem Jt{ty:TypeId}{x:Operand}{hi:Option Operand}{g n cap m sz:Nat}[ES P ty sz](ho:o.op= .slice ty x none hi none)(hx:evA t x= .lit (.slice (some ⟨g,0,none⟩) n cap))(hm:Aeb t n hi m)(h2:m≤cap):
 AX P C t h o (.lit (.slice (some ⟨g,0,none⟩) m cap)):=by
 have e:Xv g sz cap 0 m= .slice (some ⟨g,0,none⟩) m cap:=by
  unfold Xv;split <;> simp
 rw[←e];exact FL ho hx rfl hm (Nat.zero_le _) h2
theorem Uf{ty:TypeId}{x y z u:Operand}{g n cap l m k sz:Nat}{k1 k2 k3:IntKind}[ES P ty sz](ho:o.op= .slice ty x (some y) (some z) (some u))(hx:evA t x= .lit (.slice (some ⟨g,0,none⟩) n cap))(hy:evA t y= .lit (.int k1 (l:Int)))(hz:evA t z= .lit (.int k2 (m:Int)))(hu:evA t u= .lit (.int k3 (k:Int)))
 (h1:l≤m) (h2:m≤k) (h3:k≤cap):AX P C t h o .any:=
 AR fun S ψ w ρ H hρ=>by
  have hx':=hρ x (by rw[ho];simp[Op.operands]);have hy':=hρ y (by rw[ho];simp[Op.operands]);have hz':=hρ z (by rw[ho];simp[Op.operands]);have hu':=hρ u (by rw[ho];simp[Op.operands]);rw[hx]at hx';rw[hy]at hy';rw[hz]at hz';rw[hu]at hu';unfold AV.rel at hx' hy' hz' hu';obtain⟨e,hu1,hsz⟩:∃e,P.underlying ty=some (.slice e)∧∃i,P.info? e=some i:=by
   have hs:=ES.eq (P:=P) (ty:=ty) (n:=sz);unfold LB at hs;split at hs <;> try(cases hs;done)
   rename_i e hu;cases hi':P.info? e with
   |none=>rw[hi']at hs;cases hs
   |some i=>exact⟨e,hu,i,hi'⟩
  obtain⟨i,hi⟩:=hsz;have b1:(Instr.sliceBounds true n cap (some (.int k1 (l:Int))) (some (.int k2 (m:Int))) (some (.int k3 (k:Int)))).run P w= .ok (l,m,k) w:=by
   simp[Instr.sliceBounds,run_sliceBound,h1,h2,h3]
  have hr:∃v,(Instr.sliceAt ty (.slice (some ⟨g,0,none⟩) n cap) (some (.int k1 (l:Int))) (some (.int k2 (m:Int))) (some (.int k3 (k:Int)))).run P w= .ok v w:=by
   have hel:P.elem ty=e:=by simp[Program.elem,hu1]
   rw[run_sliceAt_slice (h:=by rw[hel];exact hu1)];exact⟨_,by simp[Instr.slice,run_underlying hu1,b1,Go.sizeOf,typeInfo,hi];rfl⟩
  obtain⟨v,hr⟩:=hr;refine⟨v,by simp[execOp,ho,hx',hy',hz',hu',hr],?_⟩;unfold AV.rel;trivial
theorem Gl{ty:TypeId}{x:Operand}{n i ver k off:Nat}{e:TypeId}{α:Type}{T:Ty α}{l:List α}{d:α}{enc:α→List AV}[AG P ty true n][EncOf T enc](ho:o.op= .load ty x)(hx:evA t x= .rp i ver k off)(hi:h[i]? =some (.row ver e T l))(hk:l[k]? =some d)
 (hn:(((enc d).drop off).take n).length=n):AX P C t h o (.agg (((enc d).drop off).take n)):=
 Ev ho AG.eq hx (Jw.rp hi hk EncOf.ok) rfl hn
theorem UH{S:Nat→Prop}{w:World}{g off:Nat}{cells news:List Value}{e:TypeId}(hg:w.heap[g]? =some (.cells cells.toArray e (0,0))){v:Value}:
 Turns w S (fun k=>k=g) (fun _:Unit=>Yw g (Jg cells off news) e) (fun _=>v) v (w.setRow g (Jg cells off news).toArray):=by
 have hgr:=F1 w g (Jg cells off news).toArray;refine⟨⟨hgr.os,hgr.tape,hgr.output,hgr.size,fun k hk hn=>hgr.block k hk fun e=>hn (by injection e)⟩,(),rfl,setRow_heap w g _ _ e _ hg,fun k hk=>?_⟩;have hk:k=g:=hk;subst hk;exact⟨.inl rfl,Nat.lt_of_lt_of_le (Array.getElem?_eq_some_iff.1 hg).1 hgr.size⟩
theorem UL{cells:List Value}{l m sz:Nat}(h1:∀u∈cells.take (m * sz),u.oneCell'=true):∀u∈(cells.drop (l * sz)).take ((m - l) * sz),u.oneCell'=true:=fun u hu=>by
 rw[Nat.sub_mul,←List.drop_take]at hu;exact h1 u (List.mem_of_mem_drop hu)
theorem Aej{ty e:TypeId}{w:World}{g cap l m sz:Nat}{cells:List Value}(hu:P.underlying ty=some (.slice e))(hg:w.heap[g]? =some (.cells cells.toArray e (0,0)))(hc:cells.length=cap * sz)(h1:∀u∈cells.take (m * sz),u.oneCell'=true)(hm:m≤cap):
 Go.Src P sz ty (Xv g sz cap l m) (m - l) ((cells.drop (l * sz)).take ((m - l) * sz)) w:=by
 have hnl:l≤m→((cells.drop (l * sz)).take ((m - l) * sz)).length=(m - l) * sz:=fun hlm=>by
  have h2:m * sz≤cap * sz:=Nat.mul_le_mul_right _ hm;have h3:l * sz≤m * sz:=Nat.mul_le_mul_right _ hlm;rw[List.length_take,List.length_drop,hc,Nat.sub_mul];omega
 have hone:∀u∈(cells.drop (l * sz)).take ((m - l) * sz),u.oneCell'=true:=fun u hu=>UL h1 u hu
 unfold Xv;by_cases hlm:l≤m
 ·by_cases hcl:cap=l
  ·rw[if_pos hcl];have e0:m - l=0:=by omega
   rw[e0,Nat.zero_mul,List.take_zero];exact Go.Src.ofSlice _ hu _ _ _ _ (by simp) (fun j u hj=>by simp at hj) (fun u hu=>by simp at hu)
  ·rw[if_neg hcl];refine Go.Src.ofSlice _ hu _ _ _ _ (hnl hlm) (fun j u hj=>?_) hone;rw[List.getElem?_take]at hj;split at hj
   ·rw[List.getElem?_drop]at hj;simp[World.cell?,add_plain,hg,hj]
   ·cases hj
 ·have e0:m - l=0:=by omega
  rw[e0,Nat.zero_mul,List.take_zero];split <;> exact Go.Src.ofSlice _ hu _ _ _ _ (by simp) (fun j u hj=>by simp at hj) (fun u hu=>by simp at hu)
theorem Xu{ty:TypeId}{x y:Operand}{i g n cap l m sz bytes:Nat}{e:TypeId}{cells:List Value}[RT P ty e sz bytes](ho:o.op= .call {callee:=.builtin .append,args:=#[x,y],argTypes:=#[ty,ty]})
 (hx:evA t x= .lit (.slice (some ⟨g,0,none⟩) n cap)) (hy:evA t y= .lit (Xv g sz cap l m)) (hi:h[i]? =some (.res (Yw g cells e))) (hc:cells.length=cap * sz) (h1:∀u∈cells.take (m * sz),u.oneCell'=true) (hlm:l≤m) (hm:m≤cap) (hr:n+(m - l)≤cap)
 (hK:K ⟨BH t o.dst (.lit (.slice (some ⟨g,0,none⟩) (n+(m - l)) cap)),h.set i (.res (Yw g (Jg cells (n * sz) ((cells.drop (l * sz)).take ((m - l) * sz))) e))⟩):AOp P C o ⟨t,h⟩ K:=by
 refine AOp.turn (ι:=Unit) (Rs:=fun _=>Yw g (Jg cells (n * sz) ((cells.drop (l * sz)).take ((m - l) * sz))) e) (val:=fun _=>.slice (some ⟨g,0,none⟩) (n+(m - l)) cap) hi (fun _=>rfl) (fun S ψ w ρ H hR hlt hρ=>?_) fun _=>hK
 have hx':=hρ x (by simp[ho,Op.operands,Call.operands]);have hy':=hρ y (by simp[ho,Op.operands,Call.operands]);rw[hx]at hx';rw[hy]at hy';unfold AV.rel at hx' hy';have hg:w.heap[g]? =some (.cells cells.toArray e (0,0)):=hR;obtain⟨q1,ti,z,q2,q3,q4,q5,q6⟩:=DZ (RT.eq (P:=P) (ty:=ty) (e:=e) (n:=sz) (bytes:=bytes));have hs:=Aej (P:=P) (m:=m) (l:=l) q1 hg hc h1 hm;have hnl:((cells.drop (l * sz)).take ((m - l) * sz)).length=(m - l) * sz:=by
  have h2:m * sz≤cap * sz:=Nat.mul_le_mul_right _ hm;have h3:l * sz≤m * sz:=Nat.mul_le_mul_right _ hlm;rw[List.length_take,List.length_drop,hc,Nat.sub_mul];omega
 have hle:n * sz+(m - l) * sz≤cells.length:=by
  rw[hc,←Nat.add_mul];exact Nat.mul_le_mul_right _ hr
 have hrun:=run_append_room_src (P:=P) w ty ty o.type e ti q1 q2 g 0 n cap _ (m - l) _ (by rw[q4];exact hs) hr (fun j hj=>by rw[q4];simp[World.cell?,hg];omega) (fun j hj=>by simp[World.frozen?,hg]);rw[q4,Nat.zero_add,QC P hg (by rw[hnl];exact hle) (UL h1)]at hrun;have hres:(execOp ρ o).run P w= .ok (.value (.slice (some ⟨g,0,none⟩) (n+(m - l)) cap)) (w.setRow g (Jg cells (n * sz) ((cells.drop (l * sz)).take ((m - l) * sz))).toArray):=by
  simp[execOp,ho,resolve,invoke,builtin,hx',hy',hrun]
 rw[hres];exact UH hg
theorem XC(z:Value)(n:Nat):(Builtin.zeroCells z.cells n).toList.length=n * z.cells.size:=by
 simp[Builtin.zeroCells]
def Qh(P:Program)(e:TypeId)(n:Nat):List Value:=(Builtin.zeroCells (((P.info? e).bind (·.zero)).getD undef).cells n).toList
theorem Uo{e:TypeId}{ti:TypeInfo}{z:Value}(h1:P.info? e=some ti)(h2:ti.zero=some z)(n:Nat):Qh P e n=(Builtin.zeroCells z.cells n).toList:=by
 unfold Qh;rw[h1];simp only[Option.bind_some,h2,Option.getD_some]
theorem Qg{ty e:TypeId}{sz bytes:Nat}[RT P ty e sz bytes](n:Nat):(Qh P e n).length=n * sz:=by
 obtain⟨q1,ti,z,q2,q3,q4,q5,q6⟩:=DZ (RT.eq (P:=P) (ty:=ty) (e:=e) (n:=sz) (bytes:=bytes));rw[Uo q2 q3,XC,q6]
theorem OW{ty:TypeId}{x:Operand}{i g cap l m sz bytes:Nat}{e:TypeId}{cells:List Value}{zs:List Value}[RT P ty e sz bytes][ZC P e zs](h1z:zs.all (·.oneCell')=true)(ho:o.op= .call {callee:=.builtin .clear,args:=#[x],argTypes:=#[ty]})
 (hx:evA t x= .lit (Xv g sz cap l m)) (hi:h[i]? =some (.res (Yw g cells e))) (hc:cells.length=cap * sz) (hm:m≤cap)
 (hK:K ⟨BH t o.dst (.lit (.tuple #[])),h.set i (.res (Yw g (Jg cells (l * sz) (Qh P e (m - l))) e))⟩):AOp P C o ⟨t,h⟩ K:=by
 obtain⟨q1,ti,z,q2,q3,q4,q5,q6⟩:=DZ (RT.eq (P:=P) (ty:=ty) (e:=e) (n:=sz) (bytes:=bytes));rw[Uo q2 q3]at hK;have hzz:z.cells.toList=zs:=by
  have:=ZC.eq (P:=P) (ty:=e) (zs:=zs);unfold B2 at this;rw[q2]at this;simp only[Option.bind_some,q3,Option.map_some,Option.some.injEq]at this;exact this
 have hzl:(Builtin.zeroCells z.cells (m - l)).toList.length=(m - l) * sz:=by rw[XC,q6]
 have hz1:∀u∈(Builtin.zeroCells z.cells (m - l)).toList,u.oneCell'=true:=fun u hu=>by
  have hu':u∈Builtin.zeroCells z.cells (m - l):=by simpa using hu
  unfold Builtin.zeroCells at hu';obtain⟨j,hj,rfl⟩:=Array.mem_map.1 hu';have hj:=Array.mem_range.1 hj;have hjz:j % z.cells.size < z.cells.size:=Nat.mod_lt _ (by
   rcases Nat.eq_zero_or_pos z.cells.size with h|h
   ·rw[h,Nat.mul_zero]at hj;omega
   ·exact h)
  rw[getElem!_pos z.cells (j % z.cells.size) hjz];exact List.all_eq_true.1 h1z _ (by rw[←hzz];simp)
 refine AOp.turn (ι:=Unit) (Rs:=fun _=>Yw g (Jg cells (l * sz) (Builtin.zeroCells z.cells (m - l)).toList) e) (val:=fun _=>.tuple #[]) hi (fun _=>rfl) (fun S ψ w ρ H hR hlt hρ=>?_) fun _=>hK
 have hx':=hρ x (by simp[ho,Op.operands,Call.operands]);rw[hx]at hx';unfold AV.rel at hx';have hg:w.heap[g]? =some (.cells cells.toArray e (0,0)):=hR;have hres:(execOp ρ o).run P w= .ok (.value (.tuple #[])) (w.setRow g (Jg cells (l * sz) (Builtin.zeroCells z.cells (m - l)).toList).toArray):=by
  by_cases hlm:m≤l
  ·have e0:m - l=0:=by omega
   have e1:(Builtin.zeroCells z.cells (m - l)).toList= []:=List.eq_nil_of_length_eq_zero (by rw[hzl,e0,Nat.zero_mul]);have e2:Jg cells (l * sz) []=cells:=by unfold Jg;simp
   rw[e1,e2,setRow_self w g cells.toArray e (0,0) hg];unfold Xv at hx';rw[e0]at hx';simp only[execOp,ho,resolve,invoke,builtin];split at hx' <;> simp[hx',Builtin.clear_,run_underlying q1]
  ·have hne:¬cap=l:=by omega
   unfold Xv at hx';rw[if_neg hne]at hx';have hle:l * sz+(m - l) * sz≤cells.length:=by
    rw[hc,←Nat.add_mul];exact Nat.mul_le_mul_right _ (by omega)
   have hst:=run_storeCells_at (P:=P) g (l * sz) e (Builtin.zeroCells z.cells (m - l)).toList 0 cells.toArray w hg (by rw[hzl];simpa using hle) hz1;obtain⟨q,hq⟩:∃q,m - l=q+1:=⟨m - l - 1,by omega⟩
   have hzv:(zeroValue e).run P w= .ok z w:=by simp[zeroValue,typeInfo,q2,q3]
   rw[hq]at hx' hst⊢;simp only[Nat.add_zero]at hst;simp[execOp,ho,resolve,invoke,builtin,hx',Builtin.clear_,run_underlying q1,hzv,hst,Jg]
 rw[hres];exact UH hg
def Xf{α:Type}(T:Ty α)(cells:List Value)(l:List α):Prop:=∀w S j d,l[j]? =some d→T.RS w S ((cells.drop (j * T.size)).take T.size) d
end
section
variable{P:Program}{C:Ctx}{t:List AV}{h:List ABlk}{c:Code}{Q:Exit→St→Prop}
theorem LJ(i:Nat){ver:Nat}{e:TypeId}{α:Type}{T:Ty α}{l:List α}(hi:h[i]? =some (.row ver e T l))(hn:Wh i h=true)(hne:l≠[])(hfl:∀w w' S S' cs d,T.RS w S cs d→T.RS w' S' cs d)(h1T:SM T)(t':Value→List AV)(ht:∀v,Opn i ver v t (t' v))
 (hK:∀g cap cells,cells.length=cap * T.size→l.length≤cap→cap≤maxLen→Xf T cells l→(∀u∈cells.take (l.length * T.size),u.oneCell'=true)→Awp P C c Q ⟨t' (.slice (some ⟨g,0,none⟩) l.length cap),h.set i (.res (Yw g cells e))⟩):Awp P C c Q ⟨t,h⟩:=fun a w ⟨hd,S,ψ,H,hl⟩=>by
 have hB:=H.blk i _ hi;have hlt:=hB.lt rfl;obtain⟨cells,h1,h0,h2,h3⟩:=id hB;rcases h1.2 with⟨_,e0⟩|⟨g,cap,cur,e1,e2,e3,e4,e5,e6,e7⟩
 ·exact absurd (List.eq_nil_of_length_eq_zero e0) hne
 ·have hlt':=hlt g (by rw[e1];rfl);have H':=H.desc (b':=.res (Yw g cur.toList e)) (v':=ψ i) hi rfl (JW hn) ⟨fun k hk=>by
   have hk:k=g:=hk;subst hk;obtain⟨a1,a2,a3⟩:=hlt';exact⟨a1,a3,a2⟩,by show w.heap[g]? =_;rw[e3]⟩ fun k hk=>by
    have hk:k=g:=hk;subst hk;rw[e1];rfl
  rw[OX]at H';have hcl:l.length * T.size≤cur.toList.length:=by
   have e8:cur.toList.length=cap * T.size:=by simpa using e6
   rw[e8];exact Nat.mul_le_mul_right _ e4
  have hpart:∀j d,l[j]? =some d→(cells.drop (j * T.size)).take T.size=(cur.toList.drop (j * T.size)).take T.size:=fun j d hj=>by
   have hjl:=(List.getElem?_eq_some_iff.1 hj).1;have hle:(j+1) * T.size≤l.length * T.size:=Nat.mul_le_mul_right _ (by omega);rw[Nat.add_mul,Nat.one_mul]at hle;rw[←e7,List.drop_take,List.take_take,Nat.min_eq_left (by omega)]
  have hone:∀u∈cells,u.oneCell'=true:=fun u hu=>by
   obtain⟨j,hj,rfl⟩:=List.mem_iff_getElem.1 hu;have hjl:j < l.length * T.size:=by rw[←h1.1];exact hj
   have hq:j / T.size < l.length:=(Nat.div_lt_iff_lt_mul h0).2 hjl;have hR:=h2 (j / T.size) _ (List.getElem?_eq_getElem hq);refine h1T _ _ _ _ hR _ (List.mem_iff_getElem?.2 ⟨j % T.size,?_⟩);rw[List.getElem?_take_of_lt (Nat.mod_lt _ h0),List.getElem?_drop,Nat.mul_comm,Nat.div_add_mod,List.getElem?_eq_getElem hj]
  have hK':=hK g cap cur.toList (by rw[Array.length_toList,e6]) e4 e5 (fun w' S' j d hj=>by
   rw[←hpart j d hj];exact hfl _ _ _ _ _ _ (h2 j d hj)) (by rw[e7];exact hone)
  refine hK' a w ⟨by rw[hd];exact(Dc (b':=.res (Yw g cur.toList e)) hi rfl).symm,S,ψ,H',?_⟩;rw[←e1];refine(ht (ψ i)).rel (fun u hu=>?_) hl;unfold AV.rel at hu;exact(hu.2 _ (by rw[hi];rfl)).2 rfl
theorem IX(i:Nat){ver g cap:Nat}{e:TypeId}{cells:List Value}{α:Type}{T:Ty α}{l:List α}{t':List AV}(hi:h[i]? =some (.res (Yw g cells e)))(hn:Wh i h=true)(hc:cells.length=cap * T.size)(hle:l.length≤cap)(hm:cap≤maxLen)(h0:0 < T.size)(hR:Xf T cells l)
 (ht:Cls i ver (.slice (some ⟨g,0,none⟩) l.length cap) t t'):St.le C ⟨t,h⟩ ⟨t',h.set i (.row ver e T l)⟩:=fun a w ⟨hd,S,ψ,H,hl⟩=>by
 have hB:=H.blk i _ hi;have hg:w.heap[g]? =some (.cells cells.toArray e (0,0)):=hB.2;have hmul:l.length * T.size≤cells.length:=by rw[hc];exact Nat.mul_le_mul_right _ hle
 have hown:w.ownsRow 0 e T.size (.slice (some ⟨g,0,none⟩) l.length cap) l.length (cells.take (l.length * T.size)):=
  ⟨by rw[List.length_take];omega,.inr ⟨g,cap,cells.toArray,rfl,Nat.zero_le _,hg,hle,hm,by rw[List.size_toArray,hc],rfl⟩⟩
 have H':=H.desc (b':=.row ver e T l) (v':=.slice (some ⟨g,0,none⟩) l.length cap) hi rfl (JW hn) ⟨_,hown,h0,fun j d hj=>by
  have hjl:=(List.getElem?_eq_some_iff.1 hj).1;have hle:(j+1) * T.size≤l.length * T.size:=Nat.mul_le_mul_right _ (by omega);rw[Nat.add_mul,Nat.one_mul]at hle;rw[List.drop_take,List.take_take,Nat.min_eq_left (by omega)];exact hR w S j d hj,fun k hk=>by
  obtain⟨a1,a2,_⟩:=hB.1 k (show k=g by simpa[Value.ownBlock]using hk.symm);exact⟨a1,a2⟩⟩ fun k hk=>by
   have:g=k:=by simpa[ftp,BY]using hk
   exact this.symm
 exact⟨by rw[hd];exact(Dc (b':=.row ver e T l) hi rfl).symm,S,_,H',ht.rel (List.getElem?_eq_some_iff.1 hi).1 rfl hl⟩
end
inductive Mv (i k ver ver':Nat):List AV→List AV→Prop
 |nil:Mv i k ver ver' [] []
 |any {x:AV} {t t':List AV} (h:Mv i k ver ver' t t'):Mv i k ver ver' (x::t) (.any::t')
 |keep {x:AV} {t t':List AV} (hi:EY i x=true) (hk:EY k x=true) (h:Mv i k ver ver' t t'):Mv i k ver ver' (x::t) (x::t')
 |own {t t':List AV} (h:Mv i k ver ver' t t'):Mv i k ver ver' (.own k ver::t) (.own i ver'::t')
section
variable{C:Ctx}{h:List ABlk}{S:Nat→Prop}{ψ:Nat→Value}{w:World}{t t':List AV}
theorem Mv.rel{i k ver ver':Nat}{e:TypeId}{α:Type}{T:Ty α}{l:List α}(hk:h[k]? =some (.row ver e T l))(hi:i < h.length)(hm:Mv i k ver ver' t t'):∀{cs:List Value},Ah w S h ψ t cs→Ah w S ((h.set k .dead).set i (.row ver' e T l)) (Bo ψ i (ψ k)) t' cs:=by
 induction hm with
 |nil=>intro cs h;unfold Ah at h⊢;exact h
 |any _ ih=>
  intro cs h;unfold Ah at h⊢;obtain⟨v,vs,e,_,h2⟩:=h;exact⟨v,vs,e,by unfold AV.rel;trivial,ih h2⟩
 |keep h1 h2 _ ih=>
  intro cs h;unfold Ah at h⊢;obtain⟨v,vs,e,h3,h4⟩:=h;exact⟨v,vs,e,FN (fun j hj=>Bq hj) _ _ h1 (FN (fun _ _=>rfl) _ _ h2 h3),ih h4⟩
 |own _ ih=>
  intro cs h;unfold Ah at h⊢;obtain⟨v,vs,e,h3,h4⟩:=h;refine⟨v,vs,e,?_,ih h4⟩;unfold AV.rel at h3⊢;have hv:=(h3.2 _ (by rw[hk];rfl)).2 rfl;refine⟨by simpa using hi,fun c hc=>?_⟩;rw[List.getElem?_set_self (by simpa using hi)]at hc;simp only[ABlk.ver,Option.some.injEq]at hc;exact⟨by omega,fun _=>by rw[AZ];exact hv⟩
def Aig(i k:Nat)(h:List ABlk):Bool:=h.all fun b=>nrB i b&&nrB k b
theorem Adb(i k:Nat){ver ver':Nat}{e:TypeId}{α:Type}{T:Ty α}{l:List α}(hik:i≠k)(hk:h[k]? =some (.row ver e T l))(hi:ABlk.mrk (h[i]?.getD .dead)= [])(hil:i < h.length)(hn:Aig i k h=true)(ht:Mv i k ver ver' t t'):
 St.le C ⟨t,h⟩ ⟨t',(h.set k .dead).set i (.row ver' e T l)⟩:=fun a w ⟨hd,S,ψ,H,hl⟩=>by
 have hkl:=(List.getElem?_eq_some_iff.1 hk).1;have hgi:((h.set k .dead).set i (.row ver' e T l))[i]? =some (.row ver' e T l):=List.getElem?_set_self (by simpa using hil);have hgk:((h.set k .dead).set i (.row ver' e T l))[k]? =some .dead:=by rw[List.getElem?_set_ne hik,List.getElem?_set_self hkl]
 have hgo:∀j,j≠i→j≠k→((h.set k .dead).set i (.row ver' e T l))[j]? =h[j]?:=fun j h1 h2=>by rw[List.getElem?_set_ne (Ne.symm h1),List.getElem?_set_ne (Ne.symm h2)]
 have hmk:mkD ((h.set k .dead).set i (.row ver' e T l))=mkD h:=by
  have e1:mkD (h.set k .dead)=mkD h:=Dc (b':=.dead) hk rfl;obtain⟨b,hb⟩:∃b,(h.set k .dead)[i]? =some b:=⟨_,List.getElem?_eq_getElem (by simpa using hil)⟩
  have hb':h[i]? =some b:=by rw[←hb,List.getElem?_set_ne (Ne.symm hik)]
  rw[hb']at hi;rw[Dc (b':=.row ver' e T l) hb (show ABlk.mrk (.row ver' e T l)=b.mrk from hi.symm),e1]
 refine⟨by rw[hd];exact hmk.symm,S,Bo ψ i (ψ k),⟨H.bel,H.nlt,H.lt,H.sub,H.new,fun j c hc=>?_,fun j m hjm hj hm g hgj hgm=>?_⟩,ht.rel hk hil hl⟩
 ·by_cases hji:j=i
  ·subst hji;rw[hgi]at hc;cases hc;rw[AZ];exact H.blk k _ hk
  ·by_cases hjk:j=k
   ·subst hjk;rw[hgk]at hc;cases hc;trivial
   ·rw[hgo j hji hjk]at hc;rw[Bq hji];have hB:=H.blk j c hc;have hnr:=List.all_eq_true.1 hn c (List.mem_of_getElem? hc);rw[Bool.and_eq_true]at hnr;cases c with
    |dead=>trivial
    |box cells=>
     obtain⟨g,cs,e,k1,k2,k3,k4,k5⟩:=hB;exact⟨g,cs,e,k1,k2,k3,k4,Cu (fun j hj=>Bq hj) _ _ hnr.1 (Cu (fun _ _=>rfl) _ _ hnr.2 k5)⟩
    |row ver e T l=>exact hB
    |res R=>exact hB
 ·
  have key:∀j,ABlk.live ((h.set k .dead).set i (.row ver' e T l))[j]? =true→∃q,ABlk.live h[q]? =true∧(ftp ((h.set k .dead).set i (.row ver' e T l))[j]? (Bo ψ i (ψ k) j) g→ftp h[q]? (ψ q) g)∧q=(if j=i then k else j)∧j≠k:=fun j hj=>by
   by_cases hji:j=i
   ·subst hji;refine⟨k,by rw[hk];rfl,fun hg=>?_,(if_pos rfl).symm,hik⟩;rw[hgi,AZ]at hg;rw[hk];exact hg
   ·by_cases hjk:j=k
    ·subst hjk;rw[hgk]at hj;simp[ABlk.live]at hj
    ·rw[hgo j hji hjk]at hj⊢;rw[Bq hji];exact⟨j,hj,fun h=>h,(if_neg hji).symm,hjk⟩
  obtain⟨q1,a1,a2,a3,a4⟩:=key j hj;obtain⟨q2,b1,b2,b3,b4⟩:=key m hm;refine H.dis q1 q2 ?_ a1 b1 g (a2 hgj) (b2 hgm);rw[a3,b3];by_cases hji:j=i
  ·by_cases hmi:m=i
   ·omega
   ·rw[if_pos hji,if_neg hmi];omega
  ·by_cases hmi:m=i
   ·rw[if_neg hji,if_pos hmi];omega
   ·rw[if_neg hji,if_neg hmi];omega
end
section
variable{α0:Type}{P:Program}{C:Ctx}{t:List AV}{h:List ABlk}{o:Oper}{K:St→Prop}
theorem Aax{ty e:TypeId}{bytes m:Nat}{α:Type}{T:Ty α}[RT P ty e m bytes](p:Nat)(ho:o.op= .buildSlice ty 0 #[])(h0:0 < T.size)(hp:h[p]? =some .dead)(hn:h.all (nrB p)=true)(hnt:C9 p t=true)(hK:K ⟨BH t o.dst (.own p 0),h.set p (.row 0 e T [])⟩):AOp P C o ⟨t,h⟩ K:=by
 rintro Q' a w ⟨hd,S,ψ,hh',hl⟩;refine⟨fun c e=>(by rw[ho]at e;cases e),?_⟩;have ho':o.op= .buildSlice ty ([]:List Operand).length (E4 []):=ho;have hrun:=I9 (P:=P) (ρ:=a.eval) (w:=w) ho';rw[S7 (RT.eq (P:=P) (ty:=ty) (e:=e) (n:=m) (bytes:=bytes)) (by simp) (fun v hv=>by cases hv)]at hrun;have hb:Below w.heap.size w (w.alloc (.cells (([].map a.eval).flatMap fun v=>v.cells.toList).toArray e)):=(Below.refl _ _).alloc (Nat.le_refl _) _;have hown:(w.alloc (.cells (([].map a.eval).flatMap fun v=>v.cells.toList).toArray e)).ownsRow w.heap.size e T.size (.slice (some ⟨w.heap.size,0,none⟩) 0 0) 0 []:=
  ⟨by simp,.inr ⟨w.heap.size,0,#[],rfl,Nat.le_refl _,heap_alloc_new w _,Nat.le_refl _,Nat.zero_le _,by simp,by simp⟩⟩
 have hB:Gm C.N (w.alloc (.cells (([].map a.eval).flatMap fun v=>v.cells.toList).toArray e)) S (h.set p (.row 0 e T [])) (Bo ψ p (.slice (some ⟨w.heap.size,0,none⟩) 0 0)) (.slice (some ⟨w.heap.size,0,none⟩) 0 0) (.row 0 e T ([]:List α)):=
  ⟨[],hown.mono (Nat.zero_le _),h0,fun i d hd=>by simp at hd,fun g hg=>by
   have hlt:=hown.lt g hg;exact⟨fun hN=>by have:=hh'.nlt _ hN;have:=hh'.bel.size;omega,fun hS=>by have:=hh'.lt _ hS;omega⟩⟩
 unfold Oper.wp;rw[hrun];have H1:=hh'.revive hp hn hb hB fun g hg=>by simp[ftp,BY]at hg;omega
 have hl1:=Ay (Ext.grow h ψ (fun k hk=>hb.block k (hh'.lt k hk)) fun _ h=>h) _ _ hl;have hl2:=Cu (b:=.row 0 e T ([]:List α)) (ψ':=Bo ψ p (.slice (some ⟨w.heap.size,0,none⟩) 0 0)) (fun i hi=>Bq hi) _ _ hnt hl1;refine⟨_,hK,by rw[put_defers,hd];exact(Dc (b':=.row 0 e T ([]:List α)) hp rfl).symm,S,_,H1,Gc hl2 o.dst ?_⟩;unfold AV.rel;refine⟨by simpa using(List.getElem?_eq_some_iff.1 hp).1,fun c hc=>?_⟩;rw[List.getElem?_set_self (List.getElem?_eq_some_iff.1 hp).1]at hc;simp only[ABlk.ver,Option.some.injEq]at hc;exact⟨by omega,fun _=>AZ.symm⟩
def P8(h:List ABlk)(x x':AV):Prop:=∀(C:Ctx) (S:Nat→Prop) (ψ:Nat→Value) (w:World) (v:Value),HRel C h S ψ w→AV.rel w S h ψ x v→AV.rel w (fun k=>k < w.heap.size) [] ψ0 x' v
inductive LendWs (h:List ABlk):List AV→List AV→Prop
 |nil:LendWs h [] []
 |cons {x x':AV} {l l':List AV} (hx:P8 h x x') (hl:LendWs h l l'):LendWs h (x::l) (x'::l')
theorem LendWs.rel{w:World}{S:Nat→Prop}{ψ:Nat→Value}(H:HRel C h S ψ w){l l':List AV}(hl:LendWs h l l'):∀{vs:List Value},Ah w S h ψ l vs→Ah w (fun k=>k < w.heap.size) [] ψ0 l' vs:=by
 induction hl with
 |nil=>intro vs hr;unfold Ah at hr⊢;exact hr
 |cons hx _ ih=>
  intro vs hr;unfold Ah at hr⊢;obtain⟨v,vs',e,h1,h2⟩:=hr;exact⟨v,vs',e,hx C S ψ w v H h1,ih h2⟩
theorem P8.of{x x':AV}(hl:LendV h x x'):P8 h x x':=fun _ _ _ _ _ H hr=>LendV.rel H hl hr
theorem P8.cl{x:AV}(hx:AV.cl x=true):P8 h x x:=.of (.cl hx)
theorem P8.own{i ver:Nat}{e:TypeId}{α:Type}{T:Ty α}{d:List α}(hi:h[i]? =some (.row ver e T d)):P8 h (.own i ver) (.bs T d):=.of (.own hi)
theorem P8.fn{f:FuncId}{l l':List AV}(hl:LendWs h l l'):P8 h (.fn f l) (.fn f l'):=fun C S ψ w v H hr=>by
 unfold AV.rel at hr⊢;obtain⟨cs,e,hcs⟩:=hr;exact⟨cs,e,hl.rel H hcs⟩
theorem P8.boxO{i j ver:Nat}{cells:List AV}{e:TypeId}{α:Type}{T:Ty α}{l:List α}(hi:h[i]? =some (.box cells))(hx:cells[0]? =some (.own j ver))(hj:h[j]? =some (.row ver e T l)):P8 h (.ptr i 0) (.bp T.slice l 0):=fun C S ψ w v H hr=>by
 unfold AV.rel at hr⊢;obtain⟨g,hg,hv⟩:=hr.2 (by rw[hi];rfl);obtain⟨g',cs,e',hg',_,_,hw,hcs⟩:=H.blk _ _ hi;rw[hg]at hg';cases hg';obtain⟨u,hu1,hu2⟩:=B9 hcs hx;have hlt:g < w.heap.size:=(Array.getElem?_eq_some_iff.1 hw).1;have hu3:=P8.own hj C S ψ w u H hu2;unfold AV.rel at hu3;refine⟨g,0,hv,hlt,[u],hu3,fun j' u' hj'=>?_⟩;cases j' with
 |zero=>
  simp only[List.getElem?_cons_zero,Option.some.injEq]at hj';subst hj';unfold World.cell?;simp[hw,hu1]
 |succ j'=>simp at hj'
theorem C2{f:FuncId}{args:Array Operand}{tys:Array TypeId}{xs:List AV}{u:Value}
 (ho:o.op= .call {callee:=.value (.func f),args:=args,argTypes:=tys}) (hF:Fn P f xs (.lit u)) (hx:LendWs h (args.toList.map (evA t)) xs):AX P C t h o (.lit u):=by
 intro S ψ w ρ H hρ;have h1:ρ (.func f)= .func (.func f) #[] #[]:=by
  have:=hρ (.func f) (by rw[ho];exact Array.mem_append.2 (.inl (by simp)));simpa[evA,AV.rel]using this
 rw[CY ho hF.1 ρ w h1];refine⟨rfl,?_⟩;have h2:Ah w S h ψ (args.toList.map (evA t)) (args.toList.map ρ):=Cm fun x hx'=>hρ x (by rw[ho];exact Array.mem_append.2 (.inr (Array.mem_toList_iff.1 hx')))
 have h3:=hF.2 w _ (args.toList.map ρ) (fun _ h=>h) (hx.rel H h2);rw[show(args.map ρ)=(args.toList.map ρ).toArray from(by rw[←Array.toList_map])];refine h3.mono ?_;rintro e w' ⟨v,he,hb,S',k1,k2,k3,k4⟩;refine⟨v,he,hb,S,fun _ h=>h,fun _ h=>.inl h,fun k hk=>Nat.lt_of_lt_of_le (H.lt k hk) hb.size,?_⟩;unfold AV.rel at k4⊢;exact k4
theorem Sw{f:FuncId}{args:Array Operand}{tys:Array TypeId}{xs:List AV}{u:Value}
 (ho:o.op= .call {callee:=.value (.func f),args:=args,argTypes:=tys}) (hF:Fn P f xs (.lit u)) (hx:LendWs h (args.toList.map (evA t)) xs):AX P C t h o (.lit u):=C2 ho hF hx
theorem SG{f:FuncId}{args:Array Operand}{tys:Array TypeId}{xs:List AV}{e:TypeId}{α:Type}{T:Ty α}{l:List α}
 (ho:o.op= .call {callee:=.value (.func f),args:=args,argTypes:=tys}) (hF:NE P f xs e T l) (h0:0 < T.size) (hfl:∀w S S' cs d,T.RS w S cs d→T.RS w S' cs d) (hx:LendWs h (args.toList.map (evA t)) xs)
 (hK:K ⟨BH t o.dst (.own h.length 0),h++[.row 0 e T l]⟩):AOp P C o ⟨t,h⟩ K:=by
 rintro Q' a w ⟨hd,S,ψ,H,hl⟩;refine⟨fun c e=>(by rw[ho]at e;cases e),?_⟩;have h2:Ah w S h ψ (args.toList.map (evA t)) (args.toList.map a.eval):=Cm fun x _=>BJ hl x
 unfold Oper.wp;rw[CY ho hF.1 a.eval w rfl];simp only[Oper.upon];rw[show(args.map a.eval)=(args.toList.map a.eval).toArray from(by rw[←Array.toList_map])];refine(hF.2 w _ (args.toList.map a.eval) (fun _ h=>h) (hx.rel H h2)).mono ?_;rintro r w' ⟨v,cells,rfl,hb,hown,hR⟩;have X:Ext w S h ψ w' S (h++[.row 0 e T l]) (Bo ψ h.length v):=Ext.push _ _ fun k hk=>hb.block k (H.lt k hk)
 have hB:Gm C.N w' S (h++[.row 0 e T l]) (Bo ψ h.length v) v (.row 0 e T l):=
  ⟨cells,hown.mono (Nat.zero_le _),h0,fun i d hd=>hfl _ _ _ _ _ (hR i d hd),fun g hg=>by
   have hlt:=hown.lt g hg;exact⟨fun hN=>by have:=H.nlt _ hN;have:=H.bel.size;omega,fun hS=>by have:=H.lt _ hS;omega⟩⟩
 refine⟨_,hK,Mo (s:=⟨t,h⟩) hd hl (H.push hb hB (TN hown)) X ?_⟩;unfold AV.rel;refine⟨by simp,fun c' hc'=>?_⟩;rw[List.getElem?_append_right (Nat.le_refl _)]at hc';simp[ABlk.ver]at hc';exact⟨by omega,fun _=>AZ.symm⟩
theorem SH{f:FuncId}{args:Array Operand}{tys:Array TypeId}{xs:List AV}{e:TypeId}{α:Type}{T:Ty α}{l:List α}(i:Nat)(hi:h.length=i)
 (ho:o.op= .call {callee:=.value (.func f),args:=args,argTypes:=tys}) (hF:NE P f xs e T l) (h0:0 < T.size) (hfl:∀w S S' cs d,T.RS w S cs d→T.RS w S' cs d) (hx:LendWs h (args.toList.map (evA t)) xs)
 (hK:K ⟨BH t o.dst (.own i 0),h++[.row 0 e T l]⟩):AOp P C o ⟨t,h⟩ K:=by
 subst hi;exact SG ho hF h0 hfl hx hK
theorem Vo.lit{T:Ty α0}{enc:α0→List AV}[EncOf T enc]{d d':α0}{off:Nat}{u:Value}(hu:u.cells.toList= [u])(h1:u.oneCell'=true)(ho:off+1≤T.size)(he:(enc d).take off++[.lit u]++(enc d).drop (off+1)=enc d')
 (hput:∀(w:World) (S:Nat→Prop) (cs:List Value),Ah w S [] ψ0 (enc d') cs→T.RS w S cs d'):Vo h T d off (.lit u) 1 d':=fun C S ψ w v cs H hv hcs=>by
 unfold AV.rel at hv;subst hv;refine⟨by rw[hu];rfl,ho,fun x hx=>by rw[hu]at hx;rw[List.mem_singleton.1 hx];exact h1,hput w S _ ?_⟩;have he1:Ah w S [] ψ0 (enc d) cs:=EncOf.ok (T:=T) (enc:=enc) w S [] ψ0 cs d hcs;rw[←he,hu];refine B1 (B1 (JN he1 off) ?_) (JO he1 (off+1));unfold Ah;refine⟨v,[],rfl,by unfold AV.rel;rfl,?_⟩;unfold Ah;rfl
theorem Aav{T:Ty α0}{enc:α0→List AV}[EncOf T enc]{ty:TypeId}{x y:Operand}{i ver k off:Nat}{e:TypeId}{l:List α0}{d:α0}(d':α0){u:Value}[SZ P ty 1](ho:o.op= .store ty x y)(hx:evA t x= .rp i ver k off)(hy:evA t y= .lit u)(hi:h[i]? =some (.row ver e T l))(hk:l[k]? =some d)
 (hu:u.cells.toList= [u]) (h1:u.oneCell'=true) (ho2:off+1≤T.size) (he:(enc d).take off++[.lit u]++(enc d).drop (off+1)=enc d') (hput:∀(w:World) (S:Nat→Prop) (cs:List Value),Ah w S [] ψ0 (enc d') cs→T.RS w S cs d')
 (hK:K ⟨BH t o.dst (.lit undef),h.set i (.row ver e T (l.set k d'))⟩):AOp P C o ⟨t,h⟩ K:=
 Iq (s:=⟨t,h⟩) ho hx hi hk (by rw[show evA (St.mk t h).t y=_ from hy];exact Vo.lit hu h1 ho2 he hput) SZ.eq hK
end
section
variable{P:Program}{C:Ctx}{t:List AV}{h:List ABlk}{o:Oper}{K:St→Prop}
end
def LI(P:Program)(f:FuncId)(args:List AV)(e:TypeId){α:Type}(T:Ty α)(l:List α):Prop:=
 B6 P f=true∧∀(w:World) (S:Nat→Prop) (vs:List Value),(∀k,S k→k < w.heap.size)→Ah w S [] ψ0 args vs→
  Calls P f vs.toArray w fun r w'=>∃v cells,r= .returned v∧Below w.heap.size w w'∧w'.ownsRow w.heap.size e T.size v l.length cells∧
   ∃S':Nat→Prop,(∀k,S k→S' k)∧(∀k,S' k→S k∨w.heap.size≤k)∧(∀k,S' k→k < w'.heap.size)∧(∀i d,l[i]? =some d→T.RS w' S' ((cells.drop (i * T.size)).take T.size) d)∧∀g,v.ownBlock=some g→¬S' g
section
variable{P:Program}{C:Ctx}{t:List AV}{h:List ABlk}{o:Oper}{K:St→Prop}
theorem Hg{f:FuncId}{fn:Go.Func}{c:Code}{args:List AV}{e:TypeId}{α:Type}{T:Ty α}{l:List α}{tt:Tmp}{n:Nat}(hf:P.funcs[f]? =some fn)(hb:fn.body=some c)(hE:B6 P f=true)(hres:fn.results= #[.tmp tt])(hn:fn.ntmps=n)
 (h:∀C:Ctx,C.std→Awp P C c (Aji tt e T l) ⟨args++List.replicate (n - args.length) (.lit undef),[]⟩):LI P f args e T l:=by
 refine⟨hE,fun w S vs hS hr=>calls_of_wp hf hb ?_⟩;rw[hn];refine wp_mono ((h ⟨w,S,fun k=>k < w.heap.size,none⟩ (fun _ h=>h)).wp rfl (Dk hS hr)) ?_;rintro ex a' w' ⟨s,⟨he,hm,i,ver,hx,hi⟩,hd,S1,ψ,H,hl⟩;rw[hm]at hd;have hv:=BJ hl (.tmp tt);rw[hx]at hv;unfold AV.rel at hv;have hv':=(hv.2 _ (by rw[hi];rfl)).2 rfl;obtain⟨cells,h1,_,h2,h3⟩:=H.blk i _ hi;have hres':(results fn a'.tmps).run P w'= .ok (a'.eval (.tmp tt)) w':=results_tmp hres _ _ _;have hown:w'.ownsRow w.heap.size e T.size (ψ i) l.length cells:=Lu h1 fun g hg=>Nat.le_of_not_lt fun hlt=>(h3 g hg).1 hlt
 rw[hv']at hres';have hfin:∃v cells,Ending.returned (ψ i)= .returned v∧Below w.heap.size w w'∧w'.ownsRow w.heap.size e T.size v l.length cells∧
  ∃S':Nat→Prop,(∀k,S k→S' k)∧(∀k,S' k→S k∨w.heap.size≤k)∧(∀k,S' k→k < w'.heap.size)∧(∀i d,l[i]? =some d→T.RS w' S' ((cells.drop (i * T.size)).take T.size) d)∧∀g,v.ownBlock=some g→¬S' g:=
  ⟨_,cells,rfl,H.bel.below fun _ h=>h,hown,S1,H.sub,H.new,H.lt,h2,fun g hg=>(h3 g hg).2⟩
 rcases he with rfl|rfl
 ·exact⟨hd,_,hres',hfin⟩
 ·exact⟨hd,_,hres',hfin⟩
theorem LI.fn{f:FuncId}{args:List AV}{e:TypeId}{α:Type}{T:Ty α}{l:List α}(h:LI P f args e T l):Fn P f args (.bs T l):=by
 refine⟨h.1,fun w S vs hS hr=>(h.2 w S vs hS hr).mono ?_⟩;rintro r w' ⟨v,cells,rfl,hb,hown,S',k1,k2,k3,k4,k5⟩;refine⟨v,rfl,hb,fun k=>S' k∨v.ownBlock=some k,fun k h=>.inl (k1 k h),fun k hk=>?_,fun k hk=>?_,?_⟩
 ·rcases hk with hk|hk
  ·exact k2 k hk
  ·exact .inr (hown.lt k hk).1
 ·rcases hk with hk|hk
  ·exact k3 k hk
  ·exact(hown.lt k hk).2
 ·unfold AV.rel;exact EJ hown (fun i d hd=>T.keepS (k4 i d hd) (fun _ _=>rfl) fun _ h=>.inl h) fun _ h=>.inr h
theorem OI{f:FuncId}{args:Array Operand}{tys:Array TypeId}{xs:List AV}{e:TypeId}{α:Type}{T:Ty α}{l:List α}{a:Act}{w:World}{S:Nat→Prop}{ψ:Nat→Value}{Q':Exit→Act→World→Prop}{K':Act→World→Prop}
 (ho:o.op= .call {callee:=.value (.func f),args:=args,argTypes:=tys}) (hF:LI P f xs e T l) (hx:args.toList.map (evA t)=xs) (hc:Bt xs=true) (H:HRel C h S ψ w) (hl:Ah w S h ψ t a.tmps.toList)
 (hK:∀v cells w' S',Below w.heap.size w w'→w'.ownsRow w.heap.size e T.size v l.length cells→(∀k,S k→S' k)→HRel C h S' ψ w'→(∀i d,l[i]? =some d→T.RS w' S' ((cells.drop (i * T.size)).take T.size) d)→(∀g,v.ownBlock=some g→¬S' g)→K' (a.put o.dst v) w'):
 o.wp P a w K' Q':=by
 have h2:Ah w S h ψ xs (args.toList.map a.eval):=by
  rw[←hx];exact Cm fun x _=>BJ hl x
 unfold Oper.wp;rw[CY ho hF.1 a.eval w rfl];simp only[Oper.upon];rw[show(args.map a.eval)=(args.toList.map a.eval).toArray from(by rw[←Array.toList_map])];refine(hF.2 w S (args.toList.map a.eval) H.lt (Bi _ _ hc h2)).mono ?_;rintro r w' ⟨v,cells,rfl,hb,hown,S',k1,k2,k3,k4,k5⟩;exact hK v cells w' S' hb hown k1 (H.grow hb k1 k2 k3) k4 k5
theorem HRel.add{S:Nat→Prop}{ψ:Nat→Value}{w:World}{b:ABlk}{v:Value}(H:HRel C h S ψ w)(hB:Gm C.N w S (h++[b]) (Bo ψ h.length v) v b)(hd:∀g,ftp (some b) v g→∀i,ABlk.live h[i]? =true→¬ftp h[i]? (ψ i) g):
 HRel C (h++[b]) S (Bo ψ h.length v) w:=by
 have X:Ext w S h ψ w S (h++[b]) (Bo ψ h.length v):=Ext.push b v fun _ _=>rfl
 refine⟨H.bel,H.nlt,H.lt,H.sub,H.new,fun i c hc=>?_,fun i j hij hi hj g hg hg'=>?_⟩
 ·by_cases hi:i < h.length
  ·rw[List.getElem?_append_left hi]at hc;rw[Bq (by omega)];exact(H.blk i c hc).keep X fun g _=>⟨rfl,fun h=>h⟩
  ·have hi':i=h.length:=by
    have:=(List.getElem?_eq_some_iff.1 hc).1;simp at this;omega
   subst hi';simp at hc;subst hc;rw[AZ];exact hB
 ·have hil:i < h.length+1:=by
   obtain⟨c,hc⟩:=Dq hi;have:=(List.getElem?_eq_some_iff.1 hc).1;simpa using this
  have hjl:j < h.length+1:=by
   obtain⟨c,hc⟩:=Dq hj;have:=(List.getElem?_eq_some_iff.1 hc).1;simpa using this
  by_cases h1:i < h.length
  ·rw[Bq (by omega),List.getElem?_append_left h1]at hg;rw[List.getElem?_append_left h1]at hi;by_cases h2:j < h.length
   ·rw[Bq (by omega),List.getElem?_append_left h2]at hg';rw[List.getElem?_append_left h2]at hj;exact H.dis i j hij hi hj g hg hg'
   ·have:j=h.length:=by omega
    subst this;rw[AZ,List.getElem?_concat_length]at hg';exact hd g hg' i hi hg
  ·have:i=h.length:=by omega
   subst this;rw[AZ,List.getElem?_concat_length]at hg;have h2:j < h.length:=by omega
   rw[Bq (by omega),List.getElem?_append_left h2]at hg';rw[List.getElem?_append_left h2]at hj;exact hd g hg j hj hg'
theorem HRel.addAt{S:Nat→Prop}{ψ:Nat→Value}{w:World}{b:ABlk}{v:Value}{p:Nat}(H:HRel C h S ψ w)(hp:h[p]? =some .dead)(hn:h.all (nrB p)=true)(hB:Gm C.N w S (h.set p b) (Bo ψ p v) v b)(hd:∀g,ftp (some b) v g→∀i,ABlk.live h[i]? =true→¬ftp h[i]? (ψ i) g):
 HRel C (h.set p b) S (Bo ψ p v) w:=by
 have hpl:=(List.getElem?_eq_some_iff.1 hp).1;refine⟨H.bel,H.nlt,H.lt,H.sub,H.new,fun i c hi=>?_,fun i j hij hi hj g h1 h2=>?_⟩
 ·by_cases hip:i=p
  ·subst hip;rw[List.getElem?_set_self hpl]at hi;cases hi;rw[AZ];exact hB
  ·rw[List.getElem?_set_ne (Ne.symm hip)]at hi;rw[Bq hip];have hc:=H.blk i c hi;have hnr:=List.all_eq_true.1 hn c (List.mem_of_getElem? hi);cases c with
   |dead=>trivial
   |box cells=>
    obtain⟨g,cs,e,k1,k2,k3,k4,k5⟩:=hc;exact⟨g,cs,e,k1,k2,k3,k4,Cu (fun i hi=>Bq hi) _ _ hnr k5⟩
   |row ver e T l=>exact hc
   |res R=>exact hc
 ·by_cases hip:i=p
  ·subst hip;rw[AZ,List.getElem?_set_self hpl]at h1;have hji:j≠i:=Ne.symm hij;rw[Bq hji,List.getElem?_set_ne (Ne.symm hji)]at h2;rw[List.getElem?_set_ne (Ne.symm hji)]at hj;exact hd g h1 j hj h2
  ·rw[Bq hip,List.getElem?_set_ne (Ne.symm hip)]at h1;rw[List.getElem?_set_ne (Ne.symm hip)]at hi;by_cases hjp:j=p
   ·subst hjp;rw[AZ,List.getElem?_set_self hpl]at h2;exact hd g h2 i hi h1
   ·rw[Bq hjp,List.getElem?_set_ne (Ne.symm hjp)]at h2;rw[List.getElem?_set_ne (Ne.symm hjp)]at hj;exact H.dis i j hij hi hj g h1 h2
theorem YO{S:Nat→Prop}{ψ:Nat→Value}{w w':World}{e:TypeId}{α:Type}{T:Ty α}{l:List α}{ver sz n:Nat}{cells:List Value}{v:Value}(H:HRel C h S ψ w)(hv:w'.ownsRow w.heap.size e sz v n cells):∀g,ftp (some (.row ver e T l)) v g→∀i,ABlk.live h[i]? =true→¬ftp h[i]? (ψ i) g:=fun g hg i hi hgi=>by
 have h1:=TN hv g hg;obtain⟨c,hc⟩:=Dq hi;rw[hc]at hgi;have:=((H.blk i c hc).lt (by rw[←hc];exact hi) g hgi).2.1;omega
theorem LL{f:FuncId}{args:Array Operand}{tys:Array TypeId}{xs:List AV}{e:TypeId}{α:Type}{T:Ty α}{l:List α}(i:Nat)(hi:h.length=i)
 (ho:o.op= .call {callee:=.value (.func f),args:=args,argTypes:=tys}) (hx:args.toList.map (evA t)=xs) (hF:LI P f xs e T l) (h0:0 < T.size) (hc:Bt xs=true)
 (hK:K ⟨BH t o.dst (.own i 0),h++[.row 0 e T l]⟩):AOp P C o ⟨t,h⟩ K:=by
 subst hi;rintro Q' a w ⟨hd,S,ψ,H,hl⟩;refine⟨fun c e=>(by rw[ho]at e;cases e),?_⟩;refine OI ho hF hx hc H hl fun v cells w' S' hb hown hS H' hR hN=>?_
 have hlt:=hown.lt;have hB:Gm C.N w' S' (h++[.row 0 e T l]) (Bo ψ h.length v) v (.row 0 e T l):=⟨cells,hown.mono (Nat.zero_le _),h0,hR,fun g hg=>⟨fun hN'=>by have:=H.nlt _ hN';have:=H.bel.size;have:=(hlt g hg).1;omega,hN g hg⟩⟩
 have X:Ext w S h ψ w' S' (h++[.row 0 e T l]) (Bo ψ h.length v):=by
  have X1:=Ext.push (h:=h) (ψ:=ψ) (w:=w) (w':=w') (S:=S) (.row 0 e T l) v fun k hk=>hb.block k (H.lt k hk)
  exact⟨X1.blk,hS,X1.len,X1.ver,X1.box⟩
 refine⟨_,hK,by rw[put_defers,FW];exact hd,S',_,H'.add hB (YO H hown),Gc (Ay X _ _ hl) o.dst ?_⟩;unfold AV.rel;refine⟨by simp,fun c' hc'=>?_⟩;rw[List.getElem?_append_right (Nat.le_refl _)]at hc';simp[ABlk.ver]at hc';exact⟨by omega,fun _=>AZ.symm⟩
theorem I1{f:FuncId}{args:Array Operand}{tys:Array TypeId}{xs:List AV}{e:TypeId}{α:Type}{T:Ty α}{l:List α}(p:Nat)
 (ho:o.op= .call {callee:=.value (.func f),args:=args,argTypes:=tys}) (hx:args.toList.map (evA t)=xs) (hF:LI P f xs e T l) (h0:0 < T.size) (hc:Bt xs=true) (hp:h[p]? =some .dead) (hn:h.all (nrB p)=true) (hnt:C9 p t=true)
 (hK:K ⟨BH t o.dst (.own p 0),h.set p (.row 0 e T l)⟩):AOp P C o ⟨t,h⟩ K:=by
 rintro Q' a w ⟨hd,S,ψ,H,hl⟩;refine⟨fun c e=>(by rw[ho]at e;cases e),?_⟩;refine OI ho hF hx hc H hl fun v cells w' S' hb hown hS H' hR hN=>?_
 have hlt:=hown.lt;have hB:Gm C.N w' S' (h.set p (.row 0 e T l)) (Bo ψ p v) v (.row 0 e T l):=⟨cells,hown.mono (Nat.zero_le _),h0,hR,fun g hg=>⟨fun hN'=>by have:=H.nlt _ hN';have:=H.bel.size;have:=(hlt g hg).1;omega,hN g hg⟩⟩
 have hl1:=Ay (Ext.grow h ψ (fun k hk=>hb.block k (H.lt k hk)) hS) _ _ hl;have hl2:=Cu (b:=.row 0 e T l) (ψ':=Bo ψ p v) (fun i hi=>Bq hi) _ _ hnt hl1;refine⟨_,hK,by rw[put_defers,hd];exact(Dc (b':=.row 0 e T l) hp rfl).symm,S',_,H'.addAt hp hn hB (YO H hown),Gc hl2 o.dst ?_⟩;unfold AV.rel;refine⟨by simpa using(List.getElem?_eq_some_iff.1 hp).1,fun c hc=>?_⟩;rw[List.getElem?_set_self (List.getElem?_eq_some_iff.1 hp).1]at hc;simp only[ABlk.ver,Option.some.injEq]at hc;exact⟨by omega,fun _=>AZ.symm⟩
end
end Mu
end
section
namespace Mu
open Go Go.RowKit Go.Proofs
structure Plan where
 leaf:Bool
 slots:Int
 at_:List Int
def KB:Ty Plan:=(Ty.bool.cons (tInt.cons (tInt.slice.cons C0))).via (fun x=>⟨x.1,x.2.1,x.2.2.1⟩) (fun d=>(d.leaf,d.slots,d.at_,()))
theorem O2{w:World}{S:Nat→Prop}{cs:List Value}{x:Plan}:KB.RS w S cs x↔∃s2:Value,cs= [.bool x.leaf,.int .i64 x.slots,s2]∧wfI .i64 x.slots∧tInt.slice.RS w S [s2] x.at_:=by
 constructor
 ·rintro⟨⟨_,_,rfl,rfl,_,_,rfl,⟨rfl,h1⟩,_,_,rfl,h2,rfl⟩,_⟩;have k2:=h2;obtain⟨A2,c2,rfl,_⟩:=h2;exact⟨_,rfl,h1,k2⟩
 ·rintro⟨s2,rfl,h1,h2⟩;exact⟨⟨[_],_,rfl,rfl,[_],_,rfl,⟨rfl,h1⟩,[_],_,rfl,h2,rfl⟩,rfl⟩
theorem Tr:Opens Tryz.prog 27 KB:=FV Tryz.underlying27 (by kernel_rfl) (BL rfl (by kernel_rfl) (Wc Tryz.underlying4) (BL rfl (by kernel_rfl) (Fz Tryz.underlying3) (BL rfl (by kernel_rfl) (G2 Tryz.underlying25 (by kernel_rfl) (by decide) (Fz Tryz.underlying3)) Ix))) (fun _=>rfl)
@[reducible] def AM(x:Plan):List AV:=[.lit (.bool x.leaf),.lit (.int .i64 x.slots),.bs tInt x.at_]
theorem U8:Enc KB AM:=by
 intro w S h ψ cs d H;obtain⟨s2,rfl,h1,h2⟩:=O2.1 H;simp only[AM,Ah,AV.rel];exact⟨_,_,rfl,rfl,_,_,rfl,rfl,_,_,rfl,h2,rfl⟩
theorem YM:SM KB:=DT U8 fun d x hx=>by
 simp only[AM,List.mem_cons,List.not_mem_nil,or_false]at hx;rcases hx with rfl|rfl|rfl <;> first|exact .inl ⟨_,rfl,rfl⟩|exact .inr ⟨_,_,_,rfl⟩
instance Air:EncOf KB AM:=⟨U8,YM,by decide⟩
structure okPlan(x:Plan):Prop where
 slots:wfI .i64 x.slots
theorem Ae5{w:World}{S:Nat→Prop}{cs:List Value}{x:Plan}(H:KB.RS w S cs x):okPlan x:=by
 obtain⟨s2,rfl,h1,h2⟩:=O2.1 H;exact⟨h1⟩
theorem Abr{w:World}{S:Nat→Prop}{cs:List Value}{h:List ABlk}{ψ:Nat→Value}{x:Plan}(ho:okPlan x)(H:Ah w S h ψ (AM x) cs):KB.RS w S cs x:=by
 simp only[AM,Ah,AV.rel]at H;obtain⟨_,_,rfl,rfl,_,_,rfl,rfl,_,_,rfl,h2,rfl⟩:=H;exact O2.2 ⟨_,rfl,ho.slots,h2⟩
def Tw(x:Plan):Bool:=wfB .i64 x.slots
theorem KK{x:Plan}(h:Tw x=true):okPlan x:=by
 unfold Tw at h;exact⟨h⟩
theorem Adt:Ec Tryz.prog 27=some [(0,1),(1,1),(2,1)]:=by kernel_rfl
instance Aiq:AG Tryz.prog 27 true 3:=⟨by kernel_rfl⟩
instance Aip:FO Tryz.prog 27 0 0:=⟨by kernel_rfl⟩
instance Aio:FO Tryz.prog 27 1 1:=⟨by kernel_rfl⟩
instance Ain:FO Tryz.prog 27 2 2:=⟨by kernel_rfl⟩
instance Aim:ZC Tryz.prog 27 [.bool false,.int .i64 0,.slice none 0 0]:=⟨by kernel_rfl⟩
structure ACell where
 kind:Int
 at_:Int
 d:Int
 a:Int
 b:Int
 args:List Int
def AN:Ty ACell:=((Ty.int .u8).cons (tInt.cons (tInt.cons (tInt.cons (tInt.cons (tInt.slice.cons C0)))))).via (fun x=>⟨x.1,x.2.1,x.2.2.1,x.2.2.2.1,x.2.2.2.2.1,x.2.2.2.2.2.1⟩) (fun d=>(d.kind,d.at_,d.d,d.a,d.b,d.args,()))
theorem O3{w:World}{S:Nat→Prop}{cs:List Value}{x:ACell}:AN.RS w S cs x↔∃s5:Value,cs= [.int .u8 x.kind,.int .i64 x.at_,.int .i64 x.d,.int .i64 x.a,.int .i64 x.b,s5]∧wfI .u8 x.kind∧wfI .i64 x.at_∧wfI .i64 x.d∧wfI .i64 x.a∧wfI .i64 x.b∧tInt.slice.RS w S [s5] x.args:=by
 constructor
 ·rintro⟨⟨_,_,rfl,⟨rfl,h0⟩,_,_,rfl,⟨rfl,h1⟩,_,_,rfl,⟨rfl,h2⟩,_,_,rfl,⟨rfl,h3⟩,_,_,rfl,⟨rfl,h4⟩,_,_,rfl,h5,rfl⟩,_⟩;have k5:=h5;obtain⟨A5,c5,rfl,_⟩:=h5;exact⟨_,rfl,h0,h1,h2,h3,h4,k5⟩
 ·rintro⟨s5,rfl,h0,h1,h2,h3,h4,h5⟩;exact⟨⟨[_],_,rfl,⟨rfl,h0⟩,[_],_,rfl,⟨rfl,h1⟩,[_],_,rfl,⟨rfl,h2⟩,[_],_,rfl,⟨rfl,h3⟩,[_],_,rfl,⟨rfl,h4⟩,[_],_,rfl,h5,rfl⟩,rfl⟩
@[reducible] def Co(x:ACell):List AV:=[.lit (.int .u8 x.kind),.lit (.int .i64 x.at_),.lit (.int .i64 x.d),.lit (.int .i64 x.a),.lit (.int .i64 x.b),.bs tInt x.args]
theorem RK:Enc AN Co:=by
 intro w S h ψ cs d H;obtain⟨s5,rfl,h0,h1,h2,h3,h4,h5⟩:=O3.1 H;simp only[Co,Ah,AV.rel];exact⟨_,_,rfl,rfl,_,_,rfl,rfl,_,_,rfl,rfl,_,_,rfl,rfl,_,_,rfl,rfl,_,_,rfl,h5,rfl⟩
theorem We:SM AN:=DT RK fun d x hx=>by
 simp only[Co,List.mem_cons,List.not_mem_nil,or_false]at hx;rcases hx with rfl|rfl|rfl|rfl|rfl|rfl <;> first|exact .inl ⟨_,rfl,rfl⟩|exact .inr ⟨_,_,_,rfl⟩
instance Ahk:EncOf AN Co:=⟨RK,We,by decide⟩
structure okACell(x:ACell):Prop where
 kind:wfI .u8 x.kind
 at_:wfI .i64 x.at_
 d:wfI .i64 x.d
 a:wfI .i64 x.a
 b:wfI .i64 x.b
theorem Yy{w:World}{S:Nat→Prop}{cs:List Value}{h:List ABlk}{ψ:Nat→Value}{x:ACell}(ho:okACell x)(H:Ah w S h ψ (Co x) cs):AN.RS w S cs x:=by
 simp only[Co,Ah,AV.rel]at H;obtain⟨_,_,rfl,rfl,_,_,rfl,rfl,_,_,rfl,rfl,_,_,rfl,rfl,_,_,rfl,rfl,_,_,rfl,h5,rfl⟩:=H;exact O3.2 ⟨_,rfl,ho.kind,ho.at_,ho.d,ho.a,ho.b,h5⟩
instance Ahj:Inhabited ACell:=⟨⟨0,0,0,0,0,[]⟩⟩
def Bg(x:ACell):Bool:=wfB .u8 x.kind&&wfB .i64 x.at_&&wfB .i64 x.d&&wfB .i64 x.a&&wfB .i64 x.b
theorem TA{x:ACell}(h:Bg x=true):okACell x:=by
 unfold Bg at h;simp only[Bool.and_eq_true]at h;exact⟨h.1.1.1.1,h.1.1.1.2,h.1.1.2,h.1.2,h.2⟩
theorem Ca{h:List ABlk}{x:ACell}(hk:Bg x=true):Fit h AN (.agg (Co x)) x:=Hh (enc:=Co) fun _ _ _ _ H=>Yy (TA hk) H
theorem G1:Ec Tryz.prog 67=some [(0,1),(1,1),(2,1),(3,1),(4,1),(5,1)]:=by kernel_rfl
instance Ahi:AG Tryz.prog 67 true 6:=⟨by kernel_rfl⟩
instance Ahh:SZ Tryz.prog 67 6:=⟨by kernel_rfl⟩
instance Ahg:FO Tryz.prog 67 0 0:=⟨by kernel_rfl⟩
instance Ahf:FO Tryz.prog 67 1 1:=⟨by kernel_rfl⟩
instance Ahe:FO Tryz.prog 67 2 2:=⟨by kernel_rfl⟩
instance Ahd:FO Tryz.prog 67 3 3:=⟨by kernel_rfl⟩
instance Ahc:FO Tryz.prog 67 4 4:=⟨by kernel_rfl⟩
instance Ahb:FO Tryz.prog 67 5 5:=⟨by kernel_rfl⟩
instance Aha:ZC Tryz.prog 67 [.int .u8 0,.int .i64 0,.int .i64 0,.int .i64 0,.int .i64 0,.slice none 0 0]:=⟨by kernel_rfl⟩
instance Ag9:AG Tryz.prog 31 false 1:=⟨by kernel_rfl⟩
instance Ag8:SZ Tryz.prog 31 1:=⟨by kernel_rfl⟩
instance Ag7:ES Tryz.prog 31 6:=⟨by kernel_rfl⟩
instance Ag6:SL Tryz.prog 31:=⟨by kernel_rfl⟩
instance Ag5:RT Tryz.prog 31 67 6 64:=⟨by kernel_rfl⟩
structure ABlock where
 cells:List ACell
def CH:Ty ABlock:=(AN.slice.cons C0).via (fun x=>⟨x.1⟩) (fun d=>(d.cells,()))
theorem Qo{w:World}{S:Nat→Prop}{cs:List Value}{x:ABlock}:CH.RS w S cs x↔∃s0:Value,cs= [s0]∧AN.slice.RS w S [s0] x.cells:=by
 constructor
 ·rintro⟨⟨_,_,rfl,h0,rfl⟩,_⟩;have k0:=h0;obtain⟨A0,c0,rfl,_⟩:=h0;exact⟨_,rfl,k0⟩
 ·rintro⟨s0,rfl,h0⟩;exact⟨⟨[_],_,rfl,h0,rfl⟩,rfl⟩
@[reducible] def EK(x:ABlock):List AV:=[.bs AN x.cells]
theorem OD:Enc CH EK:=by
 intro w S h ψ cs d H;obtain⟨s0,rfl,h0⟩:=Qo.1 H;simp only[EK,Ah,AV.rel];exact⟨_,_,rfl,h0,rfl⟩
theorem Tv:SM CH:=DT OD fun d x hx=>by
 simp only[EK,List.mem_cons,List.not_mem_nil,or_false]at hx;rcases hx with rfl <;> first|exact .inl ⟨_,rfl,rfl⟩|exact .inr ⟨_,_,_,rfl⟩
instance Ag4:EncOf CH EK:=⟨OD,Tv,by decide⟩
structure okABlock(x:ABlock):Prop where
theorem V1{w:World}{S:Nat→Prop}{cs:List Value}{h:List ABlk}{ψ:Nat→Value}{x:ABlock}(ho:okABlock x)(H:Ah w S h ψ (EK x) cs):CH.RS w S cs x:=by
 simp only[EK,Ah,AV.rel]at H;obtain⟨_,_,rfl,h0,rfl⟩:=H;exact Qo.2 ⟨_,rfl,h0⟩
instance Ag3:Inhabited ABlock:=⟨⟨[]⟩⟩
def HT(x:ABlock):Bool:=true
theorem Rb{x:ABlock}(h:HT x=true):okABlock x:=by
 exact⟨⟩
theorem KV{h:List ABlk}{x:ABlock}(hk:HT x=true):Fit h CH (.agg (EK x)) x:=Hh (enc:=EK) fun _ _ _ _ H=>V1 (Rb hk) H
theorem Abu:Ec Tryz.prog 69=some [(0,1)]:=by kernel_rfl
instance Ag2:AG Tryz.prog 69 true 1:=⟨by kernel_rfl⟩
instance Ag1:FO Tryz.prog 69 0 0:=⟨by kernel_rfl⟩
instance Ag0:ZC Tryz.prog 69 [.slice none 0 0]:=⟨by kernel_rfl⟩
instance Agz:AG Tryz.prog 32 false 1:=⟨by kernel_rfl⟩
instance Agy:SZ Tryz.prog 32 1:=⟨by kernel_rfl⟩
instance Agx:ES Tryz.prog 32 1:=⟨by kernel_rfl⟩
instance Agw:SL Tryz.prog 32:=⟨by kernel_rfl⟩
instance Agv:RT Tryz.prog 32 69 1 24:=⟨by kernel_rfl⟩
structure AFunc where
 leaf:Bool
 slots:Int
 entry:List ACell
 blocks:List ABlock
@[reducible] def IA(x:AFunc):List AV:=[.lit (.bool x.leaf),.lit (.int .i64 x.slots),.bs AN x.entry,.bs CH x.blocks]
theorem MP:Ec Tryz.prog 34=some [(0,1),(1,1),(2,1),(3,1)]:=by kernel_rfl
instance Agu:AG Tryz.prog 34 true 4:=⟨by kernel_rfl⟩
instance Agt:SZ Tryz.prog 34 4:=⟨by kernel_rfl⟩
instance Ags:FO Tryz.prog 34 0 0:=⟨by kernel_rfl⟩
instance Agr:FO Tryz.prog 34 1 1:=⟨by kernel_rfl⟩
instance Agq:FO Tryz.prog 34 2 2:=⟨by kernel_rfl⟩
instance Agp:FO Tryz.prog 34 3 3:=⟨by kernel_rfl⟩
instance Ago:ZC Tryz.prog 34 [.bool false,.int .i64 0,.slice none 0 0,.slice none 0 0]:=⟨by kernel_rfl⟩
instance Aj1:ZC Tryz.prog 73 [.bool false,.int .i64 0,.slice none 0 0]:=⟨by kernel_rfl⟩
instance Ake:AG Tryz.prog 73 true 3:=⟨by kernel_rfl⟩
instance Aj4:SZ Tryz.prog 73 3:=⟨by kernel_rfl⟩
instance Aj9:FO Tryz.prog 73 0 0:=⟨by kernel_rfl⟩
theorem OO{P:Program}{C:Ctx}{t:List AV}{h:List ABlk}{o:Oper}{ty:TypeId}{x:Operand}{z0 z1 z2:Value}{a b c:AV}[ZC P ty [z0,z1,z2]](ho:o.op= .build ty #[(0,x)])(hpl:Ec P ty=some [(0,3)])(hx:evA t x= .agg [a,b,c]):AX P C t h o (.agg [a,b,c]):=
 AR fun S ψ w ρ H hρ=>by
  have hz:=ZC.eq (P:=P) (ty:=ty) (zs:=[z0,z1,z2]);unfold B2 at hz;obtain⟨z,hz1,hzc⟩:=Option.map_eq_some_iff.1 hz;obtain⟨i,hi,hz2⟩:=Option.bind_eq_some_iff.1 hz1;unfold Ec at hpl;split at hpl <;> try(cases hpl;done)
  rename_i fs hu;have hrp:=KE (P:=P) w fs.toList _ hpl;have hm:=hρ x (by rw[ho];simp[Op.operands]);rw[hx]at hm;unfold AV.rel at hm;obtain⟨cs,e,hcs⟩:=hm;have hl:=By hcs;obtain⟨c0,c1,c2,rfl⟩:∃c0 c1 c2,cs= [c0,c1,c2]:=by
   match cs,hl with
   | [c0,c1,c2],_=>exact⟨c0,c1,c2,rfl⟩
  have hzz:z.cells= #[z0,z1,z2]:=by
   apply Array.ext';rw[hzc]
  refine⟨.agg #[c0,c1,c2],?_,by unfold AV.rel;exact⟨[c0,c1,c2],rfl,hcs⟩⟩;have hpa:(fs.mapM (m:=Sem) fun f=>do pure (f.offset,←Go.sizeOf f.type)).run P w= .ok #[(0,3)] w:=by
   rw[←Array.toArray_toList (xs:=fs),List.mapM_toArray,Sem.run_map,hrp];rfl
  have hf:Instr.fill (fun i=>(#[(0,3)]:Array (Nat×Nat))[i]?) z.cells [(0,.agg #[c0,c1,c2])]=some #[c0,c1,c2]:=by
   rw[hzz];simp[Instr.fill,Value.cells]
  have hf':Instr.fill (fun i=>(#[(0,3)]:Array (Nat×Nat))[i]?) z.cells ((#[(0,x)]:Array (Nat×Operand)).map fun p=>(p.1,ρ p.2)).toList=some #[c0,c1,c2]:=by
   simpa[e]using hf
  simp only[execOp,ho,Instr.build,zeroValue,typeInfo,underlying,Sem.run_bind,run_program,Result.andThen_ok,hi,hz2,Sem.run_pure,hu,hpa,hf']
theorem ND{P:Program}{C:Ctx}{t:List AV}{h:List ABlk}{o:Oper}{ty:TypeId}{parts:Array (Nat×Operand)}{zs:List Value}{pl:List (Nat×Nat)}{rs xs:List AV}[ZC P ty zs](ho:o.op= .build ty parts)(hpl:Ec P ty=some pl)
 (hx:(parts.toList.map fun p=>evA t p.2)=xs) (hr:putCells pl (zs.map .lit) ((parts.toList.map fun p=>p.1).zip xs)=some rs) (h1:xs.all TE=true):AX P C t h o (.agg rs):=by
 subst hx;rw[List.zip_map']at hr;exact AK ho hpl hr (by rw[List.all_map]at h1;exact h1)
structure Pair where
 a:Int
 b:Int
def AH:Ty Pair:=(tInt.cons (tInt.cons C0)).via (fun x=>⟨x.1,x.2.1⟩) (fun d=>(d.a,d.b,()))
theorem Eo{w:World}{S:Nat→Prop}{cs:List Value}{x:Pair}:AH.RS w S cs x↔cs= [.int .i64 x.a,.int .i64 x.b]∧wfI .i64 x.a∧wfI .i64 x.b:=by
 constructor
 ·rintro⟨⟨_,_,rfl,⟨rfl,h0⟩,_,_,rfl,⟨rfl,h1⟩,rfl⟩,_⟩;exact⟨rfl,h0,h1⟩
 ·rintro⟨rfl,h0,h1⟩;exact⟨⟨[_],_,rfl,⟨rfl,h0⟩,[_],_,rfl,⟨rfl,h1⟩,rfl⟩,rfl⟩
@[reducible] def Cb(x:Pair):List AV:=[.lit (.int .i64 x.a),.lit (.int .i64 x.b)]
theorem U9:Enc AH Cb:=by
 intro w S h ψ cs d H;obtain⟨rfl,h0,h1⟩:=Eo.1 H;simp only[Cb,Ah,AV.rel];exact⟨_,_,rfl,rfl,_,_,rfl,rfl,rfl⟩
theorem JU:SM AH:=DT U9 fun d x hx=>by
 simp only[Cb,List.mem_cons,List.not_mem_nil,or_false]at hx;rcases hx with rfl|rfl <;> first|exact .inl ⟨_,rfl,rfl⟩|exact .inr ⟨_,_,_,rfl⟩
instance Ai0:EncOf AH Cb:=⟨U9,JU,by decide⟩
structure okPair(x:Pair):Prop where
 a:wfI .i64 x.a
 b:wfI .i64 x.b
theorem Iu{w:World}{S:Nat→Prop}{cs:List Value}{h:List ABlk}{ψ:Nat→Value}{x:Pair}(ho:okPair x)(H:Ah w S h ψ (Cb x) cs):AH.RS w S cs x:=by
 simp only[Cb,Ah,AV.rel]at H;obtain⟨_,_,rfl,rfl,_,_,rfl,rfl,rfl⟩:=H;exact Eo.2 ⟨rfl,ho.a,ho.b⟩
instance Aiz:Inhabited Pair:=⟨⟨0,0⟩⟩
def BA(x:Pair):Bool:=wfB .i64 x.a&&wfB .i64 x.b
theorem DC{x:Pair}(h:BA x=true):okPair x:=by
 unfold BA at h;simp only[Bool.and_eq_true]at h;exact⟨h.1,h.2⟩
theorem BO{h:List ABlk}{x:Pair}(hk:BA x=true):Fit h AH (.agg (Cb x)) x:=Hh (enc:=Cb) fun _ _ _ _ H=>Iu (DC hk) H
theorem CA:Ec Tryz.prog 57=some [(0,1),(1,1)]:=by kernel_rfl
instance Aiy:AG Tryz.prog 57 true 2:=⟨by kernel_rfl⟩
instance Aix:SZ Tryz.prog 57 2:=⟨by kernel_rfl⟩
instance Aiw:FO Tryz.prog 57 0 0:=⟨by kernel_rfl⟩
instance Aiv:FO Tryz.prog 57 1 1:=⟨by kernel_rfl⟩
instance Aiu:ZC Tryz.prog 57 [.int .i64 0,.int .i64 0]:=⟨by kernel_rfl⟩
instance Ait:TyOf Tryz.prog 57 _ AH:=⟨trivial⟩
instance Ais:AG Tryz.prog 54 false 1:=⟨by kernel_rfl⟩
instance Ahp:SZ Tryz.prog 54 1:=⟨by kernel_rfl⟩
instance Aho:ES Tryz.prog 54 2:=⟨by kernel_rfl⟩
instance Ahn:SL Tryz.prog 54:=⟨by kernel_rfl⟩
instance Ahm:RT Tryz.prog 54 57 2 16:=⟨by kernel_rfl⟩
end Mu
end
section
namespace Mu
open Go Go.RowKit
section
variable{P:Program}{C:Ctx}{t:List AV}{h:List ABlk}{o:Oper}
def Ajz(P:Program)(C:Ctx)(o:Oper)(s:St)(K:St→Prop):Prop:=
 ∀(Q':Exit→Act→World→Prop),¬LetsOut Q'→∀a w,s.rel C a w→o.wpIn (fnc C.rd) 4 P a w (fun a' w'=>∃s',K s'∧s'.rel C a' w') Q'
theorem Ajz.op{s:St}{K:St→Prop}(h:AOp P C o s K):Ajz P C o s K:=fun Q' hQ a w H=>PL (h Q' a w H).1 hQ (h Q' a w H).2
def LS(P:Program)(C:Ctx)(ops:Array Oper)(K:St→Prop):List Oper→St→Prop
 | [],s=>K s
 |o::rest,s=>∃b,gA ops s.t o=some b∧(b=true→Ajz P C o s (LS P C ops K rest))∧(b=false→LS P C ops K rest ⟨BH s.t o.dst (.lit undef),s.h⟩)
theorem DA{rd:Option Nat}(hrd:C.rd=rd){ops:Array Oper}{K:St→Prop}{Q':Exit→Act→World→Prop}(hlo:¬LetsOut Q')(hQ:∀s a w,K s→s.rel C a w→Q' .normal a w):∀(l:List Oper) (s:St) (a:Act) (w:World),LS P C ops K l s→s.rel C a w→wpListIn (fnc rd) 4 P ops Q' l a w
 | [],s,a,w,h,H=>hQ s a w h H
 |o::rest,s,a,w,h,H=>by
  obtain⟨b,hg,ht,hf⟩:=h;obtain⟨_,S,ψ,_,hl⟩:=id H;have hw:=DL hg hl;unfold wpListIn;rw[hw];cases b with
  |true=>
   rw[if_pos rfl];subst hrd;have key:=ht rfl Q' hlo a w H;exact Oper.wpIn_mono (fun a' w' ⟨s',h1,h2⟩=>DA rfl hlo hQ rest s' a' w' h1 h2) key
  |false=>
   rw[if_neg (by simp)];exact⟨fun _ _=>RF _ _,DA hrd hlo hQ rest _ _ w (hf rfl) (Fj H o.dst)⟩
theorem Uk{id:Nat}{l:List Oper}{Q:Exit→St→Prop}{s:St}(h:LS P C l.toArray (Q .normal) l s):Awp P C (.region id l.toArray false) Q s:=fun a w H=>
 wpIn_mono (wpIn_region_lit (DA rfl (Q':=fun e a' w'=>e= .normal∧∃s',Q e s'∧s'.rel C a' w') (fun⟨_,_,h⟩=>by cases h.1) (fun s a w h H=>⟨rfl,s,h,H⟩) l s a w h H)) fun _ _ _ h=>h.2
theorem Si{ops:Array Oper}{K:St→Prop}{s:St}(h:K s):LS P C ops K [] s:=h
theorem P3{ops:Array Oper}{K:St→Prop}{rest:List Oper}{s:St}(hg:gA ops s.t o=some true)(hq:AOp P C o s (LS P C ops K rest)):LS P C ops K (o::rest) s:=⟨true,hg,fun _=>Ajz.op hq,fun h=>by cases h⟩
theorem Aad{ops:Array Oper}{K:St→Prop}{rest:List Oper}{s:St}(hg:gA ops s.t o=some true)(hq:Ajz P C o s (LS P C ops K rest)):LS P C ops K (o::rest) s:=⟨true,hg,fun _=>hq,fun h=>by cases h⟩
theorem Me{ops:Array Oper}{K:St→Prop}{l:List Oper}{t t':List AV}{h h':List ABlk}(ht:t=t')(hh:h=h')(hk:LS P C ops K l ⟨t',h'⟩):LS P C ops K l ⟨t,h⟩:=by subst ht hh;exact hk
def W9{ι:Type}(P:Program)(l:Nat)(S0:Nat→Prop)(n0:Nat)(R:Res)(xs:List AV)(Rs:ι→Res):Prop:=
 ∀(w:World) (S:Nat→Prop) (vs:List Value),(∀k,S0 k→S k)→(∀k,S k→S0 k∨n0≤k)→(∀k,S k→k < w.heap.size∧¬R.F k)→(∀g,R.F g→g < w.heap.size)→R.R w S→Ah w S [] ψ0 xs vs→
  YieldAt Fence.wide 2 P l vs.toArray w fun e w'=>e= .returned (.bool true)∧Turns w S R.F Rs (fun _=>.bool true) (.bool true) w'
theorem Ajz.yield{ι:Type}{Rs:ι→Res}{i l:Nat}{R:Res}{x:Operand}{args:Array Operand}{tys:Array TypeId}{xs:List AV}{K:St→Prop}(hrd:C.rd=none)(hi:h[i]? =some (.res R))(hm:∀p,(Rs p).mrk=R.mrk)
 (ho:o.op= .call {callee:=.value x,args:=args,argTypes:=tys}) (hx:evA t x= .lit (.func (.yield l) #[] #[])) (hxs:args.toList.map (evA t)=xs) (hc:Bt xs=true)
 (hY:W9 P l C.S0 C.w0.heap.size R xs Rs) (hK:∀p,K ⟨BH t o.dst (.lit (.bool true)),h.set i (.res (Rs p))⟩):Ajz P C o ⟨t,h⟩ K:=by
 rintro Q' hQ a w ⟨hd,S,ψ,H,hl⟩;have hB:=H.blk i _ hi;have h1:=BJ hl x;rw[hx]at h1;unfold AV.rel at h1;have h2:Ah w S h ψ xs (args.toList.map a.eval):=by
  rw[←hxs];exact Cm fun x _=>BJ hl x
 obtain⟨fn,tmps,assign,body,hy,hR⟩:=hY w S (args.toList.map a.eval) H.sub H.new (fun k hk=>⟨H.lt k hk,fun hf=>(hB.1 k hf).2.1 hk⟩) (fun g hg=>(hB.1 g hg).2.2) hB.2 (Bi _ _ hc h2);have hdf:∀c,o.op≠.defer c:=fun c e=>by rw[ho]at e;cases e
 have hrun:(execOp a.eval o).run P w= .ok (.round l fn tmps assign body) w:=by
  have e:(args.map a.eval)=(args.toList.map a.eval).toArray:=by rw[←Array.toList_map]
  simp only[execOp,ho,resolve,h1];simp[Deferred.ofValue,invoke];rw[e,hy]
 rw[hrd];refine⟨fun _ _=>RF _ _,?_⟩;rw[Oper.semAt_eq _ _ _ hdf,hrun];refine⟨fun h=>(by cases h),?_⟩;have hR':RoundIn Fence.wide 3 P l fn tmps assign body w _:=⟨hR.1,fun c cs _=>hR.2 c cs (room_wide _)⟩
 refine RoundIn.mono hR' ?_;rintro e w' ⟨rfl,hT⟩;obtain⟨p,_,hRp,hF⟩:=hT.some;have hblk:∀k,S k→w'.heap[k]? =w.heap[k]?:=fun k hk=>hT.gr.block k (H.lt k hk) fun hf=>(hB.1 k hf).2.1 hk
 have X:Ext w S h ψ w' S (h.set i (.res (Rs p))) (Bo ψ i (ψ i)):=Ext.set hblk hi (fun c' hc=>by simp[ABlk.ver]at hc) fun h=>by simp[Bj]at h
 have hBn:Gm C.N w' S (h.set i (.res (Rs p))) (Bo ψ i (ψ i)) (ψ i) (.res (Rs p)):=⟨fun g hg=>by
  obtain⟨h1,h2⟩:=hF g hg;rcases h1 with h1|h1
  ·exact⟨(hB.1 g h1).1,(hB.1 g h1).2.1,h2⟩
  ·exact⟨fun hn=>by have:=H.nlt g hn;have:=H.bel.size;omega,fun hs=>by have:=H.lt g hs;omega,h2⟩,hRp⟩
 exact⟨_,hK p,JI (s:=⟨t,h⟩) hi hd hl (H.set hi rfl hT.gr X hBn fun g hg=>(hF g hg).1) X (by unfold AV.rel;rfl) (by show(Rs p).mrk.map HW=R.mrk.map HW;rw[hm p])⟩
end
def Agf(P:Program)(gf:FuncId)(lb:List Value)(RB:Res)(encs:Nat→List AV)(N:Nat):Prop:=
 B6 P gf=true∧∀(w:World) (S:Nat→Prop) (ι:Type) (l:Nat) (Jr:Nat→ι→Res),(∀k p,(Jr k p).mrk= [])→(∀k p,k < N→W9 P l S w.heap.size (Jr k p) (encs k) (Jr (k+1)))→
  ∀p,(∀k,S k→k < w.heap.size∧¬(Jr 0 p).F k∧¬RB.F k)→(∀g,(Jr 0 p).F g→g < w.heap.size∧¬RB.F g)→(∀g,RB.F g→g < w.heap.size)→(Jr 0 p).R w S→RB.R w S→
   CallsIn Fence.wide 3 P gf (#[Value.func (.yield l) #[] #[]]++lb.toArray) w fun e w'=>(∃v,e= .returned v)∧Gr (fun g=>(Jr 0 p).F g∨RB.F g) w w'∧∃q S',(∀k,S k→S' k)∧(Jr N q).R w' S'∧(∀k,S' k→k < w'.heap.size∧¬(Jr N q).F k)∧(∀k,S' k→S k∨w.heap.size≤k)∧∀g,(Jr N q).F g→((Jr 0 p).F g∨RB.F g∨w.heap.size≤g)∧g < w'.heap.size
def Akg{ι:Type}(Rs:ι→Res):Exit→St→Prop:=fun e s=>(e= .normal∨e= .ret)∧∃q,s.h[0]? =some (.res (Rs q))∧mkD s.h= []
theorem EG{w:World}{S:Nat→Prop}{h:List ABlk}{ψ:Nat→Value}:∀l:List Value,Ah w S h ψ (l.map .lit) l
 | []=>by unfold Ah;rfl
 |v::l=>by
  simp only[List.map_cons];unfold Ah;exact⟨v,l,rfl,by unfold AV.rel;rfl,EG l⟩
theorem Sy{P:Program}{gf:FuncId}{fn:Go.Func}{c:Code}{lb:List Value}{RB:Res}{encs:Nat→List AV}{N n:Nat}(hf:P.funcs[gf]? =some fn)(hb:fn.body=some c)(hE:B6 P gf=true)(hres:fn.results= #[])(hn:fn.ntmps=n)(hmB:RB.mrk= [])
 (h:∀(C:Ctx),C.rd=none→∀(ι:Type) (l:Nat) (Jr:Nat→ι→Res),(∀k p,(Jr k p).mrk= [])→(∀k p,k < N→W9 P l C.S0 C.w0.heap.size (Jr k p) (encs k) (Jr (k+1)))→∀p,
  Awp P C c (Akg (Jr N)) ⟨(.lit (.func (.yield l) #[] #[])::lb.map .lit)++List.replicate (n - (lb.length+1)) (.lit undef),[.res (Jr 0 p),.res RB]⟩):Agf P gf lb RB encs N:=by
 refine⟨hE,fun w S ι l Jr hm hY p hS hF hB hR hRB=>callsIn_of_wp hf hb trivial ?_⟩;rw[hn];let N0:Nat→Prop:=fun k=>k < w.heap.size∧¬(Jr 0 p).F k∧¬RB.F k
 have hH:HRel ⟨w,S,N0,none⟩ [.res (Jr 0 p),.res RB] S ψ0 w:=by
  refine⟨Kp.refl _ _,fun k hk=>hk.1,fun k hk=>(hS k hk).1,fun _ h=>h,fun _ h=>.inl h,fun i b hi=>?_,fun i j hij hi hj g h1 h2=>?_⟩
  ·rcases i with _|_|i
   ·have:b= .res (Jr 0 p):=by simpa using hi.symm
    subst this;exact⟨fun g hg=>⟨fun hn=>hn.2.1 hg,fun hs=>(hS g hs).2.1 hg,(hF g hg).1⟩,hR⟩
   ·have:b= .res RB:=by simpa using hi.symm
    subst this;exact⟨fun g hg=>⟨fun hn=>hn.2.2 hg,fun hs=>(hS g hs).2.2 hg,hB g hg⟩,hRB⟩
   ·simp at hi
  ·rcases i with _|_|i
   ·rcases j with _|_|j
    ·exact hij rfl
    ·exact(hF g h1).2 h2
    ·simp[ABlk.live]at hj
   ·rcases j with _|_|j
    ·exact(hF g h2).2 h1
    ·exact hij rfl
    ·simp[ABlk.live]at hj
   ·simp[ABlk.live]at hi
 have hst:St.rel ⟨w,S,N0,none⟩ ⟨(.lit (.func (.yield l) #[] #[])::lb.map .lit)++List.replicate (n - (lb.length+1)) (.lit undef),[.res (Jr 0 p),.res RB]⟩ {tmps:=(#[Value.func (.yield l) #[] #[]]++lb.toArray)++Array.replicate (n - (#[Value.func (.yield l) #[] #[]]++lb.toArray).size) undef,defers:=[]} w:=by
  refine⟨?_,S,ψ0,hH,?_⟩
  ·show []=mkD _;simp[mkD,ABlk.mrk,hm 0 p,hmB]
  ·have e:((#[Value.func (.yield l) #[] #[]]++lb.toArray)++Array.replicate (n - (#[Value.func (.yield l) #[] #[]]++lb.toArray).size) undef).toList=(Value.func (.yield l) #[] #[]::lb)++List.replicate (n - (lb.length+1)) undef:=by
    simp[Nat.add_comm 1 lb.length]
   rw[e,show(AV.lit (.func (.yield l) #[] #[])::lb.map .lit)=((Value.func (.yield l) #[] #[]::lb).map AV.lit)from rfl,show List.replicate (n - (lb.length+1)) (AV.lit undef)=(List.replicate (n - (lb.length+1)) undef).map AV.lit by simp];exact B1 (EG _) (EG _)
 have hw:=h ⟨w,S,N0,none⟩ rfl ι l Jr hm hY p _ w hst;refine wpIn_mono (RE (m:=3) hw) ?_;rintro e a' w' ⟨s,⟨he,q,h0,hmk⟩,hd,S1,ψ,H,hl⟩;rw[hmk]at hd;have hq:=H.blk 0 _ h0;have hfin:(∃v,Ending.returned (.tuple #[])= .returned v)∧Gr (fun g=>(Jr 0 p).F g∨RB.F g) w w'∧∃q S',(∀k,S k→S' k)∧(Jr N q).R w' S'∧(∀k,S' k→k < w'.heap.size∧¬(Jr N q).F k)∧(∀k,S' k→S k∨w.heap.size≤k)∧∀g,(Jr N q).F g→((Jr 0 p).F g∨RB.F g∨w.heap.size≤g)∧g < w'.heap.size:=by
  refine⟨⟨_,rfl⟩,⟨H.bel.os,H.bel.tape,H.bel.output,H.bel.size,fun k hk hno=>H.bel.block k ⟨hk,fun h=>hno (.inl h),fun h=>hno (.inr h)⟩⟩,q,S1,H.sub,hq.2,fun k hk=>⟨H.lt k hk,fun hf=>(hq.1 k hf).2.1 hk⟩,H.new,fun g hg=>⟨?_,(hq.1 g hg).2.2⟩⟩;have h1:=(hq.1 g hg).1;by_cases hlt:g < w.heap.size
  ·by_cases h2:(Jr 0 p).F g
   ·exact .inl h2
   ·by_cases h3:RB.F g
    ·exact .inr (.inl h3)
    ·exact absurd ⟨hlt,h2,h3⟩ h1
  ·exact .inr (.inr (by show w.heap.size≤g;omega))
 rcases he with rfl|rfl
 ·exact⟨hd,_,results_none hres _ _ _,hfin⟩
 ·exact⟨hd,_,results_none hres _ _ _,hfin⟩
theorem HRel.widen{C:Ctx}{h:List ABlk}{S S':Nat→Prop}{ψ:Nat→Value}{W:World}(H:HRel C h S ψ W)(hs:∀k,S k→S' k)(hl:∀k,S' k→k < W.heap.size∧¬owns h ψ k)(N':Nat→Prop)(hN:∀k,N' k→k < W.heap.size∧¬owns h ψ k)(rd:Option Nat):HRel ⟨W,S',N',rd⟩ h S' ψ W:=by
 have H1:=H.re (W':=W) (fun _ _=>rfl) (fun _ _=>rfl) N' hN rd;refine⟨Kp.refl _ _,fun k hk=>(hN k hk).1,fun k hk=>(hl k hk).1,fun _ h=>h,fun _ h=>.inl h,fun i b hi=>?_,H.dis⟩;by_cases hlv:ABlk.live (some b)=true
 ·exact(H1.blk i b hi).keep (Ext.grow h ψ (fun _ _=>rfl) hs) fun g hg=>⟨rfl,fun _ hs'=>(hl g hs').2 ⟨i,by rw[hi];exact hlv,by rw[hi];exact hg⟩⟩
 ·cases b <;> simp[ABlk.live]at hlv
  trivial
structure BetY(S own0:Nat→Prop)(w:World)(rec_:Loop)(hk:List ABlk)(Sk:Nat→Prop)(ψk:Nat→Value)(X:Nat→Prop)(W:World)(SI:Nat→Prop):Prop where
 loop:W.heap[w.heap.size+1]? =some (.loop rec_)
 dfr:W.heap[w.heap.size]? =some (.deferred (some []))
 size:w.heap.size+2≤W.heap.size
 same:∀g,S g→W.heap[g]? =w.heap[g]?
 st:HRel ⟨W,Sk,fun _=>False,none⟩ hk Sk ψk W
 sub:∀g,S g→Sk g
 new:∀g,Sk g→S g∨w.heap.size+2≤g
 old:∀g,owns hk ψk g→own0 g∨w.heap.size+2≤g
 cover:∀g,Sk g→X g∨SI g
abbrev Agi:=(Nat→Prop)×(Nat→Value)×(Nat→Prop)
def Af2(w:World)(hk:List ABlk)(p:Agi)(g:Nat):Prop:=g=w.heap.size∨g=w.heap.size+1∨owns hk p.2.1 g∨p.2.2 g
def Ajx(S own0:Nat→Prop)(w:World)(rec_:Loop)(hk:List ABlk)(p:Agi):Res:=⟨[],Af2 w hk p,fun W SI=>BetY S own0 w rec_ hk p.1 p.2.1 p.2.2 W SI,by
 intro W W' SI SI' H hF hS hsub;have hSk:∀g,p.1 g→W'.heap[g]? =W.heap[g]?:=fun g hg=>by
  rcases H.cover g hg with h1|h1
  ·exact hF g (.inr (.inr (.inr h1)))
  ·exact hS g h1
 have hl:=(hF _ (.inr (.inl rfl))).trans H.loop;refine⟨hl,(hF _ (.inl rfl)).trans H.dfr,by have:=(Array.getElem?_eq_some_iff.1 hl).1;omega,fun g hg=>(hSk g (H.sub g hg)).trans (H.same g hg),H.st.re hSk (fun k hk=>hF k (.inr (.inr (.inl hk)))) _ (fun _ h=>h.elim) none,H.sub,H.new,H.old,fun g hg=>(H.cover g hg).imp id (hsub g)⟩⟩
theorem Yj{P:Program}{own0 S SI:Nat→Prop}{w W:World}{t es:List AV}{hk hk1:List ABlk}{ps:Array Tmp}{vs:List Value}{tmps:Array Value}{assign body:Code}{fn:FuncId}{rec_:LoopState→Loop}{p:Agi}
 (hst:∀x y,({rec_ x with state:=y}:Loop)=rec_ y) (hrst:(rec_ .ready).state= .ready) (hpe:∀x,(rec_ x).pending=none)
 (ho0:∀g,own0 g→g < w.heap.size) (hS0:∀g,S g→g < w.heap.size)
 (ht:Bt t=true) (hes:Bt es=true) (htr:Ah w S [] ψ0 t tmps.toList) (hev:Ah W SI [] ψ0 es vs) (hm:mkD hk= [])
 (hI1:∀g,S g→SI g) (hI2:∀g,SI g→S g∨w.heap.size+2≤g) (hI3:∀g,SI g→g < W.heap.size∧¬Af2 w hk p g)
 (hB:BetY S own0 w (rec_ .ready) hk p.1 p.2.1 p.2.2 W SI)
 (hA:∀C':Ctx,C'.rd.isSome=true→Awp P C' assign (IH (JM P body hk1) (fun _ _=>False)) ⟨IN t ps.toList es,hk⟩):
 RoundIn Fence.wide 2 P (w.heap.size+1) fn ((ps.toList.zip vs).foldl (fun t p=>t.setIfInBounds p.1 p.2) tmps) assign body W fun e W'=>e= .returned (.bool true)∧Turns W SI (Af2 w hk p) (Ajx S own0 w (rec_ .ready) hk1) (fun _=>.bool true) (.bool true) W':=by
 obtain⟨Sk,ψk,X⟩:=p;obtain⟨hl,hD,hsz,hsame,H,hs1,hs2,hs3,hcov⟩:=hB;dsimp only at H hs1 hs2 hs3 hcov;have hF:∀g,Af2 w hk (Sk,ψk,X) g↔(g=w.heap.size∨g=w.heap.size+1∨owns hk ψk g∨X g):=fun g=>Iff.rfl
 let S1:Nat→Prop:=fun g=>Sk g∨SI g
 have hS1o:∀g,S1 g→g < W.heap.size∧¬owns hk ψk g:=fun g hg=>by
  rcases hg with hg|hg
  ·exact⟨H.lt g hg,fun ho=>(H.own_lt ho).2.2 hg⟩
  ·exact⟨(hI3 g hg).1,fun ho=>(hI3 g hg).2 (.inr (.inr (.inl ho)))⟩
 have hS1n:∀g,S1 g→S g∨w.heap.size+2≤g:=fun g hg=>by
  rcases hg with hg|hg
  ·exact hs2 g hg
  ·exact hI2 g hg
 let N1:Nat→Prop:=fun g=>g < W.heap.size∧¬owns hk ψk g
 have hlD:∀g,(g=w.heap.size∨g=w.heap.size+1)→N1 g:=fun g hg=>⟨by omega,fun ho=>by
  rcases hs3 g ho with h1|h1
  ·have:=ho0 g h1;omega
  ·omega⟩
 have H1:=H.widen (S':=S1) (fun k hk=>.inl hk) hS1o N1 (fun _ h=>h) (some (w.heap.size+1));refine roundIn_of_wpIn trivial ?_;have r1:St.rel ⟨W,S1,N1,some (w.heap.size+1)⟩ ⟨IN t ps.toList es,hk⟩ {tmps:=(ps.toList.zip vs).foldl (fun t p=>t.setIfInBounds p.1 p.2) tmps,defers:=[]} W:=by
  refine⟨hm.symm,S1,ψk,H1,Iw _ _ _ _ _ ?_ ?_⟩
  ·exact Bi _ _ hes (Ay (Ext.grow [] ψ0 (fun _ _=>rfl) fun k hk=>.inr hk) _ _ hev)
  ·exact Bi _ _ ht (Ay (Ext.grow [] ψ0 hsame fun k hk=>.inl (hs1 k hk)) _ _ htr)
 refine wpIn_mono (RE (hA ⟨W,S1,N1,some (w.heap.size+1)⟩ rfl _ _ r1)) ?_;rintro e a1 Wa ⟨s1,q1,hd1,Sa,ψa,Ha,hla⟩;cases e with
 |normal=>
  have hka:=Ha.bel;have hla1:Wa.heap[w.heap.size+1]? =some (.loop (rec_ .ready)):=(hka.block _ (hlD _ (.inr rfl))).trans hl;have hDa:Wa.heap[w.heap.size]? =some (.deferred (some [])):=(hka.block _ (hlD _ (.inl rfl))).trans hD;have hSa2:∀g,Sa g→S1 g∨W.heap.size≤g:=Ha.new;have hoa:∀g,owns s1.h ψa g→owns hk ψk g∨W.heap.size≤g:=fun g hg=>by
   by_cases hgW:g < W.heap.size
   ·have h1:=(Ha.own_lt hg).1;exact .inl (Classical.not_not.1 fun h2=>h1 ⟨hgW,h2⟩)
   ·right;omega
  have hneS:∀g,Sa g→g≠w.heap.size+1:=fun g hg=>by
   rcases hSa2 g hg with h1|h1
   ·rcases hS1n g h1 with h2|h2
    ·have:=hS0 g h2;omega
    ·omega
   ·omega
  have hneO:∀g,owns s1.h ψa g→g≠w.heap.size+1:=fun g hg=>by
   rcases hoa g hg with h1|h1
   ·rcases hs3 g h1 with h2|h2
    ·have:=ho0 g h2;omega
    ·omega
   ·omega
  refine⟨_,run_beginRound hla1 hrst,?_⟩;rw[hst];obtain⟨W2,hW2⟩:∃W2,W2=Wa.putObj (w.heap.size+1) (.loop (rec_ .busy)):=⟨_,rfl⟩
  rw[←hW2];have hot:∀g,g≠w.heap.size+1→W2.heap[g]? =Wa.heap[g]?:=fun g hg=>by rw[hW2];exact World.putObj_heap_other hg
  have hsz2:W2.heap.size=Wa.heap.size:=by rw[hW2];simp
  let N2:Nat→Prop:=fun g=>g < W2.heap.size∧¬owns s1.h ψa g
  have H2:=Ha.re (W':=W2) (fun k hk=>hot k (hneS k hk)) (fun k hk=>hot k (hneO k hk)) N2 (fun _ h=>h) (some (w.heap.size+1));have hla2:W2.heap[w.heap.size+1]? =some (.loop (rec_ .busy)):=by rw[hW2];exact World.putObj_heap_same (Array.getElem?_eq_some_iff.1 hla1).1
  have hWa:W.heap.size≤Wa.heap.size:=hka.size;have hN12:∀g,N1 g→N2 g:=fun g hg=>⟨by have:=hg.1;omega,fun ho=>by
   rcases hoa g ho with h1|h1
   ·exact hg.2 h1
   ·have:=hg.1;omega⟩
  have r2:St.rel ⟨W2,Sa,N2,some (w.heap.size+1)⟩ s1 a1 W2:=⟨hd1,Sa,ψa,H2,Ay (Ext.grow s1.h ψa (fun k hk=>hot k (hneS k hk)) fun _ h=>h) _ _ hla⟩
  refine wpIn_mono (RE (q1 ⟨W2,Sa,N2,some (w.heap.size+1)⟩ rfl _ _ r2)) ?_;rintro e a3 W3 ⟨s2,⟨rfl,hdr⟩,hd2,S3,ψ3,H3,hl3⟩;have hk3:=H3.bel;have hl31:W3.heap[w.heap.size+1]? =some (.loop (rec_ .busy)):=(hk3.block _ (hN12 _ (hlD _ (.inr rfl)))).trans hla2;have hD3:W3.heap[w.heap.size]? =some (.deferred (some [])):=(hk3.block _ (hN12 _ (hlD _ (.inl rfl)))).trans ((hot _ (by omega)).trans hDa);have H4:=H3.cut hdr.cut hdr.bd;have hk3s:W2.heap.size≤W3.heap.size:=hk3.size;have hS3:∀g,S3 g→S1 g∨W.heap.size≤g:=fun g hg=>by
   rcases H3.new g hg with h1|h1
   ·exact hSa2 g h1
   ·right;have:W2.heap.size≤g:=h1;omega
  have ho3:∀g,owns hk1 ψ3 g→owns hk ψk g∨W.heap.size≤g:=fun g hg=>by
   by_cases hgW:g < W2.heap.size
   ·have h1:=(H3.own_lt (Ps hdr.cut hg)).1;have:owns s1.h ψa g:=Classical.not_not.1 fun h2=>h1 ⟨hgW,h2⟩
    exact hoa g this
   ·right;omega
  have hS3n:∀g,S3 g→S g∨w.heap.size+2≤g:=fun g hg=>by
   rcases hS3 g hg with h1|h1
   ·exact hS1n g h1
   ·right;omega
  have ho3n:∀g,owns hk1 ψ3 g→own0 g∨w.heap.size+2≤g:=fun g hg=>by
   rcases ho3 g hg with h1|h1
   ·exact hs3 g h1
   ·right;omega
  have hneS3:∀g,S3 g→g≠w.heap.size+1:=fun g hg=>by
   rcases hS3n g hg with h2|h2
   ·have:=hS0 g h2;omega
   ·omega
  have hneO3:∀g,owns hk1 ψ3 g→g≠w.heap.size+1:=fun g hg=>by
   rcases ho3n g hg with h2|h2
   ·have:=ho0 g h2;omega
   ·omega
  have hr:=run_endRound (P:=P) none hl31;have hrec:({rec_ .busy with state:=.ready,pending:=none}:Loop)=rec_ .ready:=by rw[←hst .busy .ready,←hpe .busy]
  rw[show(if(none:Option Code).isNone=true then LoopState.ready else LoopState.done)= .ready from rfl,hrec]at hr;obtain⟨W4,hW4⟩:∃W4,W4=W3.putObj (w.heap.size+1) (.loop (rec_ .ready)):=⟨_,rfl⟩
  rw[←hW4]at hr;have hot4:∀g,g≠w.heap.size+1→W4.heap[g]? =W3.heap[g]?:=fun g hg=>by rw[hW4];exact World.putObj_heap_other hg
  have hsz4:W4.heap.size=W3.heap.size:=by rw[hW4];simp
  have hN1:∀g,N1 g→g≠w.heap.size+1→W4.heap[g]? =W.heap[g]?:=fun g hg hne=>by
   rw[hot4 g hne,hk3.block g (hN12 g hg)];show W2.heap[g]? =W.heap[g]?;rw[hot g hne];exact hka.block g hg
  refine⟨_,_,hr,rfl,⟨?_,?_,?_,by omega,fun g hg hno=>?_⟩,(S3,ψ3,fun g=>S3 g∧¬SI g),rfl,?_,fun g hg=>?_⟩
  ·rw[hW4];show W3.os=W.os;rw[hk3.os];show W2.os=W.os;rw[hW2];exact hka.os
  ·rw[hW4];show W3.tape=W.tape;rw[hk3.tape];show W2.tape=W.tape;rw[hW2];exact hka.tape
  ·rw[hW4];show W3.output=W.output;rw[hk3.output];show W2.output=W.output;rw[hW2];exact hka.output
  ·exact hN1 g ⟨hg,fun ho=>hno (.inr (.inr (.inl ho)))⟩ fun e=>hno (.inr (.inl e))
  ·refine⟨by rw[hW4];exact World.putObj_heap_same (Array.getElem?_eq_some_iff.1 hl31).1,(hot4 _ (by omega)).trans hD3,by omega,fun g hg=>?_,?_,fun g hg=>H3.sub g (Ha.sub g (.inl (hs1 g hg))),hS3n,ho3n,fun g hg=>?_⟩
   ·have hlt:=hS0 g hg;exact(hN1 g ⟨by omega,fun ho=>(H.own_lt ho).2.2 (hs1 g hg)⟩ (by omega)).trans (hsame g hg)
   ·exact H4.re (fun k hk=>hot4 k (hneS3 k hk)) (fun k hk=>hot4 k (hneO3 k hk)) _ (fun _ h=>h.elim) none
   ·show(S3 g∧¬SI g)∨SI g;by_cases h1:SI g
    ·exact .inr h1
    ·exact .inl ⟨hg,h1⟩
  ·have hg:g=w.heap.size∨g=w.heap.size+1∨owns hk1 ψ3 g∨(S3 g∧¬SI g):=hg;rcases hg with hg|hg|hg|hg
   ·exact⟨.inl (.inl hg),by omega⟩
   ·exact⟨.inl (.inr (.inl hg)),by omega⟩
   ·refine⟨?_,by rw[hsz4];exact(H4.own_lt hg).2.1⟩;rcases ho3 g hg with h1|h1
    ·exact .inl (.inr (.inr (.inl h1)))
    ·exact .inr h1
   ·refine⟨?_,by rw[hsz4];exact H4.lt g hg.1⟩;rcases hS3 g hg.1 with h1|h1
    ·rcases h1 with h1|h1
     ·rcases hcov g h1 with h2|h2
      ·exact .inl (.inr (.inr (.inr h2)))
      ·exact absurd h2 hg.2
     ·exact absurd h1 hg.2
    ·exact .inr h1
 |_=>exact q1.elim
section
variable{P:Program}
theorem OT{C:Ctx}{g:Operand}{ps:Array Tmp}{assign body:Code}{Q:Exit→St→Prop}{t:List AV}{h:List ABlk}{gf:FuncId}{lb:List Value}{RB:Res}{ds:List Nat}{N:Nat}{encs:Nat→List AV}(i im:Nat)(σ:Nat→List ABlk)
 (hrd:C.rd=none) (hg:evA t g= .lit (.func (.func gf) #[] lb.toArray)) (hne:i≠im) (hi:h[i]? =some (.res RB)) (hmi:h[im]? =some (.res (BR ds))) (hmk:mkD h=ds.map HW)
 (h0:Drops h (σ 0)) (h0i:(σ 0)[i]? =some .dead) (hσm:∀k,(σ k)[im]? =some .dead) (hmσ:∀k,mkD (σ k)= []) (ht:Bt t=true) (hes:∀k,Bt (encs k)=true) (hps:∀k,(encs k).length=ps.size)
 (hit:Agf P gf lb RB encs N)
 (hround:∀k,k < N→∀C':Ctx,C'.rd.isSome=true→Awp P C' assign (IH (JM P body (σ (k+1))) (fun _ _=>False)) ⟨IN t ps.toList (encs k),σ k⟩)
 (hdone:∀D,Q .normal ⟨t,(σ N).set im (.res (BR (D::ds)))⟩):Awp P C (.rangeFunc g ps assign body) Q ⟨t,h⟩:=fun a w ⟨hd,S,ψ,H,hl⟩=>by
 rw[hrd];show(Code.rangeFunc g ps assign body).wpIn Fence.wide 4 P _ a w;have H0:=H.cut h0.cut h0.bd;have hBi:=H.blk i _ hi;have hBm:=H.blk im _ hmi;have hgv:=BJ hl g;rw[hg]at hgv;unfold AV.rel at hgv;have hlit:Ah w S [] ψ0 t a.tmps.toList:=Bi _ _ ht hl;obtain⟨own0,hown0⟩:∃o,o=owns (σ 0) ψ:=⟨_,rfl⟩
 have ho0:∀g,own0 g→g < w.heap.size:=fun g hg=>by rw[hown0]at hg;exact(H0.own_lt hg).2.1
 have hdead:∀(j:Nat) (R':Res),h[j]? =some (.res R')→(σ 0)[j]? =some .dead→∀g,R'.F g→¬own0 g:=fun j R' hj hjd g hF ho=>by
  rw[hown0]at ho;obtain⟨j',h1,h2⟩:=ho;have hne:j'≠j:=fun e=>by subst e;rw[hjd]at h1;cases h1
  rw[h0.cut.same h1]at h2;exact H.dis j' j hne (h0.cut.live h1) (by rw[hj];rfl) g h2 (by rw[hj];exact hF)
 have hSo:∀g,S g→¬own0 g:=fun g hg ho=>by rw[hown0]at ho;exact(H0.own_lt ho).2.2 hg
 have hRlt:∀g,RB.F g→g < w.heap.size:=fun g hg=>(hBi.1 g hg).2.2
 refine wpIn_rangeFunc fun fn _=>?_
 obtain⟨rec_,hrec⟩:∃rec_:LoopState→Loop,rec_=fun st=>{state:=st,pending:=none,fn,tmps:=a.tmps,params:=ps,assign,body,defers:=w.heap.size}:=⟨_,rfl⟩
 have hst:∀x y,({rec_ x with state:=y}:Loop)=rec_ y:=fun x y=>by rw[hrec]
 have hrst:(rec_ .ready).state= .ready:=by rw[hrec]
 have hpe:∀x,(rec_ x).pending=none:=fun x=>by rw[hrec]
 obtain⟨W1,hW1⟩:∃W1,W1=(w.alloc (.deferred (some []))).alloc (.loop (rec_ .ready)):=⟨_,rfl⟩
 have hW1s:W1.heap.size=w.heap.size+2:=by rw[hW1];simp
 have hL1:W1.heap[w.heap.size+1]? =some (.loop (rec_ .ready)):=by
  rw[hW1];have:=heap_alloc_new (w.alloc (.deferred (some []))) (.loop (rec_ .ready));rwa [World.size_alloc]at this
 have hD1:W1.heap[w.heap.size]? =some (.deferred (some [])):=by
  rw[hW1];exact(Below.heap_alloc _ _ _ (by simp)).trans (heap_alloc_new w _)
 have hb1:Below w.heap.size w W1:=by rw[hW1];exact((Below.refl _ w).alloc (Nat.le_refl _) _).alloc (by simp) _
 have hJ0:BetY S own0 w (rec_ .ready) (σ 0) S ψ (fun _=>False) W1 S:=by
  refine⟨hL1,hD1,by omega,fun g hg=>hb1.block g (H.lt g hg),?_,fun _ h=>h,fun _ h=>.inl h,fun g hg=>.inl (by rw[hown0];exact hg),fun _ h=>.inr h⟩;exact H0.re (fun k hk=>hb1.block k (H.lt k hk)) (fun k hk=>hb1.block k (H0.own_lt hk).2.1) _ (fun _ h=>h.elim) none
 refine⟨w.heap.size+1,[HW w.heap.size],W1,{target:=.fn (.func gf) lb.toArray,args:=#[.func (.yield (w.heap.size+1)) #[] #[]]},W1,gf,#[.func (.yield (w.heap.size+1)) #[] #[]]++lb.toArray,W1,?_,?_,fun _ _=>trivial,?_,fun _=>by omega,?_⟩
 ·rw[hW1,hrec];exact run_enterLoop_outer _ _ _ _ _
 ·simp only[resolve,hgv];simp[go_sem]
 ·simp[invoke,go_sem,Jm hit.1]
 ·have key:=hit.2 W1 S Agi (w.heap.size+1) (fun k p=>Ajx S own0 w (rec_ .ready) (σ k) p) (fun _ _=>rfl) ?_ (S,ψ,fun _=>False) (fun k hk=>⟨by have:=H.lt k hk;omega,?_,fun hf=>(hBi.1 k hf).2.1 hk⟩) (fun g hg=>?_) (fun g hg=>by have:=hRlt g hg;omega) hJ0 (RB.keep hBi.2 (fun k hk=>hb1.block k (hRlt k hk)) (fun k hk=>hb1.block k (H.lt k hk)) fun _ h=>h)
  ·refine key.mono ?_;rintro e W' ⟨⟨v,rfl⟩,hgr,q,S',hSS,hJ,hS'lt,hS'new,hFq⟩;have hJ:BetY S own0 w (rec_ .ready) (σ N) q.1 q.2.1 q.2.2 W' S':=hJ;have hend:=run_endLoop (P:=P) hJ.loop (by rw[hrst];simp);rw[hpe]at hend;refine⟨none,_,hend,⟨t,(σ N).set im (.res (BR (w.heap.size::ds)))⟩,hdone _,?_⟩;obtain⟨hlp,hdf,hsz,hsame,Hk,hs1,hs2,hs3,_⟩:=hJ;suffices key:∀(W5:World) (ob:Obj),W5=W'.putObj (w.heap.size+1) ob→St.rel C ⟨t,(σ N).set im (.res (BR (w.heap.size::ds)))⟩ {a with defers:=[HW w.heap.size]++a.defers} W5 from key _ _ rfl
   intro W5 ob hW5;have hot:∀g,g≠w.heap.size+1→W5.heap[g]? =W'.heap[g]?:=fun g hg=>by rw[hW5];exact World.putObj_heap_other hg
   have hsz5:W5.heap.size=W'.heap.size:=by rw[hW5];simp
   have hSne:∀g,q.1 g→g≠w.heap.size+1:=fun g hg=>by
    rcases hs2 g hg with h1|h1
    ·have:=H.lt g h1;omega
    ·omega
   have hOne:∀g,owns (σ N) q.2.1 g→g≠w.heap.size+1:=fun g hg=>by
    rcases hs3 g hg with h1|h1
    ·have:=ho0 g h1;omega
    ·omega
   have hkeep:∀g,g < w.heap.size→¬own0 g→¬RB.F g→W5.heap[g]? =w.heap[g]?:=fun g h1 h2 h3=>by
    rw[hot g (by omega),hgr.block g (by omega) ?_,hb1.block g h1];rintro(h4|h4)
    ·have h4:g=w.heap.size∨g=w.heap.size+1∨owns (σ 0) ψ g∨False:=h4;rcases h4 with h4|h4|h4|h4
     ·omega
     ·omega
     ·exact h2 (by rw[hown0];exact h4)
     ·exact h4
    ·exact h3 h4
   have hH5:=Hk.re (W':=W5) (fun k hk=>hot k (hSne k hk)) (fun k hk=>hot k (hOne k hk)) (fun _=>False) (fun _ h=>h.elim) none;have hkp5:Kp C.N w W5:=⟨by rw[hW5];exact hgr.os.trans hb1.os,by rw[hW5];exact hgr.tape.trans hb1.tape,by rw[hW5];exact hgr.output.trans hb1.output,by omega,fun k hk=>hkeep k (Nat.lt_of_lt_of_le (H.nlt k hk) H.bel.size) (fun ho=>by rw[hown0]at ho;exact(H0.own_lt ho).1 hk) fun hf=>(hBi.1 k hf).1 hk⟩
   have hH6:HRel C (σ N) q.1 q.2.1 W5:=hH5.to (H.bel.trans hkp5) H.nlt (fun k hk=>hs1 k (H.sub k hk)) (fun k hk=>by
    rcases hs2 k hk with h1|h1
    ·exact H.new k h1
    ·right;have:=H.bel.size;omega) fun g hg hn=>by
     rcases hs3 g hg with h1|h1
     ·rw[hown0]at h1;exact(H0.own_lt h1).1 hn
     ·have:=H.nlt g hn;have:=H.bel.size;omega
   have hdP:∀g,g∈ds→¬own0 g:=fun g hg=>hdead im _ hmi (hσm 0) g hg
   have hdB:∀g,g∈ds→¬RB.F g:=fun g hg hf=>H.dis i im hne (by rw[hi];rfl) (by rw[hmi];rfl) g (by rw[hi];exact hf) (by rw[hmi];exact hg)
   refine⟨?_,q.1,q.2.1,hH6.rise (hσm N) ⟨List.nodup_cons.2 ⟨fun hm=>by have:=(hBm.1 _ hm).2.2;omega,hBm.2.1⟩,fun d hd=>?_⟩ fun g hg=>?_,?_⟩
   ·show [HW w.heap.size]++a.defers=mkD ((σ N).set im _);rw[PB (hσm N) (hmσ N),hd,hmk];rfl
   ·rcases List.mem_cons.1 hd with rfl|hd
    ·exact(hot _ (by omega)).trans hdf
    ·exact(hkeep d (hBm.1 d hd).2.2 (hdP d hd) (hdB d hd)).trans (hBm.2.2 d hd)
   ·rcases List.mem_cons.1 hg with rfl|hg
    ·refine⟨fun hn=>by have:=H.nlt _ hn;have:=H.bel.size;omega,fun hs=>?_,by omega,fun ho=>?_⟩
     ·rcases hs2 _ hs with h1|h1
      ·have:=H.lt _ h1;omega
      ·omega
     ·rcases hs3 _ ho with h1|h1
      ·have:=ho0 _ h1;omega
      ·omega
    ·have hlt:=(hBm.1 g hg).2.2;refine⟨(hBm.1 g hg).1,fun hs=>?_,by omega,fun ho=>?_⟩
     ·rcases hs2 _ hs with h1|h1
      ·exact(hBm.1 g hg).2.1 h1
      ·omega
     ·rcases hs3 _ ho with h1|h1
      ·exact hdP g hg h1
      ·omega
   ·exact Bi _ _ ht (Ay (Ext.grow [] ψ0 (fun k hk=>(hot k (by have:=H.lt k hk;omega)).trans (hsame k hk)) hs1) _ _ hlit)
  ·intro k p hkN W SI vs hI1 hI2 hI3 hFlt hB hev;have hB:BetY S own0 w (rec_ .ready) (σ k) p.1 p.2.1 p.2.2 W SI:=hB;have hvl:vs.length=ps.size:=by rw[By hev,hps]
   have hy:=run_yield (P:=P) (args:=vs.toArray) hB.loop (by rw[hrec];simpa using hvl);have hR:=Yj (P:=P) (fn:=fn) (ps:=ps) (tmps:=a.tmps) (body:=body) (p:=p) hst hrst hpe ho0 H.lt ht (hes k) hlit hev (hmσ k) hI1 (fun g hg=>by have:=hI2 g hg;rw[hW1s]at this;exact this) hI3 hB (hround k hkN);have e1:((rec_ .ready).params.zip vs.toArray).foldl (fun tmps (t,a)=>tmps.setIfInBounds t a) (rec_ .ready).tmps=(ps.toList.zip vs).foldl (fun t p=>t.setIfInBounds p.1 p.2) a.tmps:=by
    rw[hrec,←Array.foldl_toList,Array.toList_zip]
   rw[e1]at hy;rw[show(rec_ .ready).fn=fn by rw[hrec],show(rec_ .ready).assign=assign by rw[hrec],show(rec_ .ready).body=body by rw[hrec]]at hy;exact⟨fn,_,assign,body,hy,hR⟩
  ·intro hf;have hf:k=w.heap.size∨k=w.heap.size+1∨owns (σ 0) ψ k∨False:=hf;have:=H.lt k hk;rcases hf with hf|hf|hf|hf
   ·omega
   ·omega
   ·exact hSo k hk (by rw[hown0];exact hf)
   ·exact hf
  ·have hg:g=w.heap.size∨g=w.heap.size+1∨owns (σ 0) ψ g∨False:=hg;rcases hg with hg|hg|hg|hg
   ·exact⟨by omega,fun hf=>by have:=hRlt g hf;omega⟩
   ·exact⟨by omega,fun hf=>by have:=hRlt g hf;omega⟩
   ·exact⟨by have:=(H0.own_lt hg).2.1;omega,fun hf=>hdead i _ hi h0i g hf (by rw[hown0];exact hg)⟩
   ·exact hg.elim
end
section
variable{P:Program}{C:Ctx}{ops:Array Oper}{md:Region.Mode}{h:List ABlk}
theorem OZ{i:Nat}{t:List AV}{a:Act}{w:World}{K:List AV→Prop}{K':Act→World→Prop}{Q':Exit→Act→World→Prop}(hlo:¬LetsOut Q')(H:St.rel C ⟨t,h⟩ a w)(hK:∀t a w,K t→St.rel C ⟨t,h⟩ a w→K' a w)
 (hh:aOp P C ops h i K t):wpOpIn (fnc C.rd) 4 P ops Q' i K' a w:=by
 unfold aOp at hh;unfold wpOpIn;split
 ·rename_i ho;simp only[ho]at hh;exact hK _ _ _ hh H
 ·rename_i o ho;simp only[ho]at hh;obtain⟨r,hy,hk⟩:=hh;obtain⟨hd,S,ψ,hh',hl⟩:=id H;rcases hy with⟨hg,hq⟩|⟨hg,rfl⟩
  ·have hw:=DL hg hl;rw[hw,if_pos rfl];exact PL (JR (hq S ψ w a.eval hh' fun x _=>BJ hl x)) hlo (JC (s:=⟨t,h⟩) hd hh' hl (hq S ψ w a.eval hh' fun x _=>BJ hl x) fun a' w' h=>hK _ _ _ hk h)
  ·have hw:=DL hg hl;rw[hw,if_neg (by simp)];exact⟨fun _ _=>RF _ _,hK _ _ _ hk (Fj H o.dst)⟩
theorem Lh{n g:Nat}{L:Array Bool→List AV→Prop}{Q':Exit→Act→World→Prop}(hlo:¬LetsOut Q')(hL:∀listed t a w,L listed t→St.rel C ⟨t,h⟩ a w→wpAnyIn (fnc C.rd) 4 P md ops Q' g listed a w):
 ∀(f:Nat) (listed:Array Bool) (t:List AV) (a:Act) (w:World),Aa5 P C md ops h n L f listed t→St.rel C ⟨t,h⟩ a w→wpAnyIn (fnc C.rd) 4 P md ops Q' (f+g) listed a w
 |0,listed,t,a,w,hh,H=>by rw[Nat.zero_add];exact hL _ _ _ _ hh H
 |f+1,listed,t,a,w,hh,H=>by
  rw[show f+1+g=(f+g)+1 by omega];exact⟨fun h0=>absurd h0 hh.1,fun i hi=>OZ hlo H (fun t' a' w' h' H'=>Lh hlo hL f _ t' a' w' h' H') (hh.2 i hi).2⟩
theorem II{F:Fence}{m:Nat}{Q':Exit→Act→World→Prop}:∀(l:List Oper) (k:Nat) (listed:Array Bool) (a:Act) (w:World),(∀j,l[j]? =ops[k+j]?)→
 Region.seqB md ops l.length k listed=true→wpListIn F m P ops Q' l a w→wpAnyIn F m P md ops Q' l.length listed a w
 | [],_,_,_,_,_,hB,h=>⟨by simpa[Region.seqB]using hB,h⟩
 |o::l,k,listed,a,w,hl,hB,h=>by
  have h0:ops[k]? =some o:=by simpa using(hl 0).symm
  simp only[List.length_cons,Region.seqB,Bool.and_eq_true,decide_eq_true_eq]at hB;refine⟨fun h1=>(by rw[hB.1]at h1;cases h1),fun i hi=>?_⟩;rw[hB.1]at hi;have hik:i=k:=by simpa using hi
  subst hik;have hw:wpOpIn F m P ops Q' i (wpListIn F m P ops Q' l) a w:=by unfold wpOpIn;simp only[h0];exact h
  exact wpOpIn_mono (fun a' w' h'=>II l (i+1) _ a' w' (fun j=>by have:=hl (j+1);simpa[Nat.add_assoc,Nat.add_comm 1 j]using this) hB.2 h') hw
theorem Aan{id:Nat}{l:List Oper}{Q:Exit→St→Prop}{s:St}(n:Nat)(hm:P.follows .mixedOrders=true)(hB:Xw l.toArray n=true)
 (hh:aQ P C l.toArray s.h (fun t=>LS P C l.toArray (Q .normal) (l.drop n) ⟨t,s.h⟩) (l.take n) s.t):Awp P C (.region id l.toArray true) Q s:=fun a w H=>by
 simp only[Xw,Bool.and_eq_true,decide_eq_true_eq,Bool.or_eq_true,beq_iff_eq]at hB;obtain⟨⟨⟨⟨hsel,hnd⟩,hn⟩,hs⟩,hlex⟩:=hB;have hn':n≤l.length:=by simpa using hn
 have htl:(l.take n).length=n:=by simp;omega
 have hdl:(l.drop n).length=l.toArray.size - n:=by simp
 have inv0:HeadInv .any l.toArray n (Array.replicate l.toArray.size false):=
  ⟨by simp,fun j oj _ hl=>(by rw[getD_replicate_false]at hl;cases hl),fun t _ ht=>getD_in (by simpa using ht) (getD_replicate_false _ _)⟩
 have htail:∀(listed:Array Bool) (i:Nat),HeadInv .any l.toArray n listed→i < n→listed.getD i true=false→∀t,n≤t→t∉Region.ready .any l.toArray listed:=by
  intro listed i inv hi hun t ht;rcases hs with hs|⟨hs,hc⟩
  ·intro hr;obtain⟨_,o,ho,_⟩:=mem_ready.1 hr;have:=(Array.getElem?_eq_some_iff.1 ho).1;omega
  ·by_cases hlt:n < l.toArray.size
   ·exact tail_waits hs hc hlt inv _ i rfl hi hun t ht
   ·intro hr;obtain⟨_,o,ho,_⟩:=mem_ready.1 hr;have:=(Array.getElem?_eq_some_iff.1 ho).1;omega
 have HH:=P4 (md:=.any) (g:=l.toArray.size - n) htail (l.take n) 0 _ s.t (fun j hj=>by
  have hj':j < n:=by rw[htl]at hj;exact hj
  simp[hj']) (by simpa using htl) inv0 (by rw[htl];exact hlex) hh
 have hlo:¬LetsOut (fun e a' w'=>e=Exit.normal∧∃s',Q e s'∧s'.rel C a' w'):=fun⟨_,_,h⟩=>by cases h.1
 refine wpIn_mono (wpIn_region_any (Q:=fun e a' w'=>e= .normal∧∃s',Q e s'∧s'.rel C a' w') hm ?_) fun _ _ _ h=>h.2
 have H':St.rel C ⟨s.t,s.h⟩ a {w with drawn:=w.drawn+1}:=by
  obtain⟨hd,S,ψ,hh',hl⟩:=H;have hb:Below w.heap.size w {w with drawn:=w.drawn+1}:=⟨rfl,rfl,rfl,Nat.le_refl _,fun _ _=>rfl⟩
  exact⟨hd,S,ψ,hh'.grow hb (fun _ h=>h) (fun _ h=>.inl h) hh'.lt,Ay (show Ext w S s.h ψ {w with drawn:=w.drawn+1} S s.h ψ from Ext.grow s.h ψ (fun k hk=>rfl) fun _ h=>h) _ _ hl⟩
 have:=Lh (Q':=fun e a' w'=>e= .normal∧∃s',Q e s'∧s'.rel C a' w') hlo (g:=l.toArray.size - n) (fun listed t a' w' hL H'=>by
  have:=II (md:=.any) (l.drop n) n listed a' w' (fun j=>by simp[List.getElem?_drop]) (by rw[hdl];exact hL.1) (DA rfl (Q':=fun e a' w'=>e= .normal∧∃s',Q e s'∧s'.rel C a' w') hlo (fun s a w h H=>⟨rfl,s,h,H⟩) _ _ _ _ hL.2 H');rwa [hdl]at this) _ _ _ _ _ HH H'
 rw[htl,show n+(l.toArray.size - n)=l.toArray.size by omega]at this;exact this
end
def Aki{ι:Type}(t:Tmp)(Rs:ι→Res)(val:ι→Value):Exit→St→Prop:=fun e s=>(e= .normal∨e= .ret)∧∃ds j p,s.h[0]? =some (.res (BR ds))∧mkD s.h=ds.map HW∧j≠0∧s.h[j]? =some (.res (Rs p))∧evA s.t (.tmp t)= .lit (val p)
theorem P9{P:Program}{f:FuncId}{fn:Go.Func}{c:Code}{args:List AV}{ι:Type}{Rs:ι→Res}{val:ι→Value}{t:Tmp}{n:Nat}(hf:P.funcs[f]? =some fn)(hb:fn.body=some c)(hE:B6 P f=true)(hres:fn.results= #[.tmp t])(hn:fn.ntmps=n)
 (hS:∀p w S S',(Rs p).R w S→(Rs p).R w S')
 (h:∀C:Ctx,C.std→C.rd=none→Awp P C c (Aki t Rs val) ⟨args++List.replicate (n - args.length) (.lit undef),[.res (BR [])]⟩):Xn P f args Rs val:=by
 refine⟨hE,fun w S vs hSl hr=>(callsIn_wide (n:=4)).1 (callsIn_of_wp_marks hf hb trivial ?_)⟩;rw[hn];have hst:St.rel ⟨w,S,fun k=>k < w.heap.size,none⟩ ⟨args++List.replicate (n - args.length) (.lit undef),[.res (BR [])]⟩ {tmps:=vs.toArray++Array.replicate (n - vs.toArray.size) undef,defers:=[]} w:=by
  obtain⟨hd,S1,ψ,H,hl⟩:=Dk (n:=n) hSl hr;have X:=Ext.push (w:=w) (w':=w) (S:=S1) (h:=[]) (ψ:=ψ) (.res (BR [])) undef fun _ _=>rfl
  exact⟨rfl,S1,_,H.push (b:=.res (BR [])) (v:=undef) (Below.refl _ _) (show Gm _ _ _ _ _ _ (.res (BR []))from⟨fun g hg=>(List.not_mem_nil hg).elim,show([]:List Nat).Nodup∧∀d∈([]:List Nat),w.heap[d]? =some (.deferred (some []))from⟨List.nodup_nil,fun d hd=>(List.not_mem_nil hd).elim⟩⟩) (fun g hg=>(List.not_mem_nil hg).elim),Ay X _ _ hl⟩
 have hw:=h ⟨w,S,fun k=>k < w.heap.size,none⟩ (fun _ h=>h) rfl _ w hst;refine wpIn_mono hw ?_;rintro e a' w' ⟨s,⟨he,ds,j,p,h0,hm,hj0,hj,hx⟩,hd,S1,ψ,H,hl⟩;have hv:=BJ hl (.tmp t);rw[hm]at hd;have key:=L8 (P:=P) (C:=⟨w,S,fun k=>k < w.heap.size,none⟩) (fn:=fn) (tmps:=a'.tmps) (R:=fun e w'=>∃v,e= .returned v∧Turns w S (fun _=>False) Rs val v w') (n:=4) (x:=evA s.t (.tmp t)) (v:=a'.eval (.tmp t)) (fun W=>results_tmp hres _ _ _) ds w' s.h S1 ψ (fun W S2 ψ2 h1 h2=>by
  rw[hx]at h2;unfold AV.rel at h2;have hB:=h1.blk j (.res (Rs p)) (by rw[List.getElem?_set_ne (Ne.symm hj0)];exact hj);refine⟨_,rfl,⟨h1.bel.os,h1.bel.tape,h1.bel.output,h1.bel.size,fun k hk _=>h1.bel.block k hk⟩,p,h2,hS p _ _ _ hB.2,fun k hk=>?_⟩;obtain⟨k1,k2,k3⟩:=hB.1 k hk;exact⟨.inr (Nat.le_of_not_lt k1),k3⟩) h0 H hv
 rcases he with rfl|rfl
 ·show LeavesInM Fence.wide 4 P fn a'.tmps _ a'.defers .returning w';rw[hd];exact key
 ·show LeavesInM Fence.wide 4 P fn a'.tmps _ a'.defers .returning w';rw[hd];exact key
end Mu
end
section
namespace Mu
open Go Go.RowKit Go.Proofs Go.Shelf
attribute [local go_sem] Oper.semAt_some
abbrev BkE(W0:World)(S:Nat→Prop)(ds:List Ins):={x:Nat×List Value //∃d,ds[x.1]? =some d∧Ep.RS W0 S x.2 d}
def Ac3{W0:World}{S:Nat→Prop}{ds:List Ins}(x:BkE W0 S ds):Array Value:=#[.int .i64 ((x.1.1:Nat):Int),.agg x.1.2.toArray]
def GM{W0:World}{S:Nat→Prop}{ds:List Ins}(xs:List (BkE W0 S ds)):List Nat:=xs.map fun x=>x.1.1
def Akn{W0:World}{S:Nat→Prop}{ds:List Ins}(J Jx:List (BkE W0 S ds)→World→Prop)(W':World):Prop:=(∃ys,GM ys=(List.range ds.length).reverse∧J ys W')∨(∃pre,True∧Jx pre W')
theorem Abj{n j:Nat}(h:j < n):(List.range n).reverse.take (n - (j+1))++[j]=(List.range n).reverse.take (n - j):=by
 have e:n - j=(n - (j+1))+1:=by omega
 rw[e,List.take_add_one];congr 1;rw[List.getElem?_reverse (by simp;omega)];simp;rw[List.getElem?_range (by omega)];simp;omega
theorem R5(F:Fence)(n:Nat)(h105:F.fn 166)(hro:F.round=none)(hn:1≤n)(l:Nat)(ds:List Ins)(A:Option Addr)(c Bb:Nat)(S:Nat→Prop)(W0 W:World)(J Jx:List (BkE W0 S ds)→World→Prop)
 (hW:KS S W0 W)
 (hY:∀pre x W,J pre W→pre.length < ds.length→YieldAt F (n - 1) Tryz.prog l (Ac3 x) W fun e W'=>
  (e= .returned (.bool true)∧J (pre++[x]) W'∧KS S W W')∨(e= .returned (.bool false)∧Jx (pre++[x]) W'))
 (hB:S Bb) (hB0:W0.cell? ⟨Bb,0,none⟩=some (.slice A ds.length c)) (hR:Ep.slice.RS W0 S [.slice A ds.length c] ds) (hl:ds.length≤2097152) (h0:J [] W):
 CallsIn F n Tryz.prog 166 #[.func (.yield l) #[] #[],.pointer (some ⟨Bb,0,none⟩)] W fun e W'=>(∃v,e= .returned v)∧Akn J Jx W':=by
 have HR:=Lib.hid hR;have HY:=Lib.hid hY;have H0:=Lib.hid h0;have x1:IntKind.i64.wrap ((ds.length:Int) - 1)=(ds.length:Int) - 1:=IntWalk.i64_in _ (by omega);have hb0:=hW.cell hB hB0;clear hR hY h0;refine callsIn_of_wp Tryz.func166 rfl h105 ?_ hro;simp only[Tryz.ntmps166,List.size_toArray,List.length_cons,List.length_nil,Nat.reduceAdd,Nat.reduceSub,Array.replicate_succ,Array.replicate_zero,List.push_toArray,List.append_toArray,List.nil_append,List.cons_append]
 gi_wp2
 gi_loopw [3] (fun i wr=>∃m:Nat,m≤ds.length∧i= .int .i64 ((m:Int) - 1)∧(∃pre,GM pre=(List.range ds.length).reverse.take (ds.length - m)∧J pre wr)∧KS S W wr) (fun i _=>(RowKit.intOf i+1).toNat)
 case atStart=>exact⟨ds.length,Nat.le_refl _,rfl,⟨[],by simp[GM],H0.out⟩,KS.refl⟩
 case round=>
  obtain⟨m,hm,rfl,⟨pre,hpre,hJ⟩,hK⟩:=hrel;have HP:=Lib.hid hpre;clear hpre;rcases m with _|j
  ·have d0:decide ((0:Int)≤((0:Nat):Int) - 1)=false:=decide_eq_false (by omega)
   gi_wp2
   go_end0
   exact⟨⟨_,rfl⟩,.inl ⟨pre,by rw[HP.out];exact List.take_of_length_le (by simp),hJ⟩⟩
  ·have ej:((j+1:Nat):Int) - 1=(j:Int):=by omega
   rw[ej];have d0:decide ((0:Int)≤(j:Int))=true:=decide_eq_true (by omega);have x2:IntKind.i64.wrap ((j:Int) - 1)=(j:Int) - 1:=IntWalk.i64_in _ (by omega);obtain⟨x,hxk⟩:∃x,ds[j]? =some x:=⟨_,List.getElem?_eq_getElem (by omega)⟩
   obtain⟨ib,io,Aa,ca,rfl,hib,hat⟩:=Rv HR.out hxk;have hK0:=hW.trans hK;have e0:=hK0.cell (a:=⟨ib,_,none⟩) hib hat.c0;have e1:=hK0.cell (a:=⟨ib,_,none⟩) hib hat.c1;have e2:=hK0.cell (a:=⟨ib,_,none⟩) hib hat.c2;have e3:=hK0.cell (a:=⟨ib,_,none⟩) hib hat.c3;have e4:=hK0.cell (a:=⟨ib,_,none⟩) hib hat.c4;have e5:=hK0.cell (a:=⟨ib,_,none⟩) hib hat.c5;have e6:=hK0.cell (a:=⟨ib,_,none⟩) hib hat.c6;have e7:=hK0.cell (a:=⟨ib,_,none⟩) hib hat.c7;have e8:=hK0.cell (a:=⟨ib,_,none⟩) hib hat.c8;have eb:=hK0.cell hB hB0;have hjl:(j:Int) < (ds.length:Int):=by omega
   have HX:=Lib.hid (show∃d,ds[j]? =some d∧Ep.RS W0 S [.int .u8 x.op,.int .i64 x.d,.int .i64 x.a,.int .i64 x.b,.int .u32 x.n,.int .i64 x.f,.slice Aa x.args.length ca,.int .i64 x.l1,.int .i64 x.l2] d from⟨x,hxk,Fk.2 ⟨Aa,ca,hat.raw⟩⟩);have hpl:pre.length < ds.length:=by
    have:=congrArg List.length HP.out;simp[GM]at this;omega
   obtain⟨fn,tmps,assign,body,hy,hR⟩:=HY.out pre ⟨(j,[.int .u8 x.op,.int .i64 x.d,.int .i64 x.a,.int .i64 x.b,.int .u32 x.n,.int .i64 x.f,.slice Aa x.args.length ca,.int .i64 x.l1,.int .i64 x.l2]),HX.out⟩ wr hJ hpl;dsimp only[Ac3]at hy;clear hat hxk
   gi_wp2
   refine hR.mono ?_;rintro e W3 (⟨rfl,hJ3,hk3⟩|⟨rfl,hJx3⟩)
   ·gi_wp2
    go_roundw
    case rel=>
     refine⟨j,by omega,rfl,⟨_,?_,hJ3⟩,hK.trans hk3⟩;have h:=HP.out;unfold GM at h⊢;rw[List.map_append,h];exact Abj (by omega)
    case measure=>simp[RowKit.intOf]
   ·gi_wp2
    refine bodyPost_ret (results_none rfl _ _ _) rfl ?_;exact⟨⟨_,rfl⟩,.inr ⟨_,trivial,hJx3⟩⟩
theorem NX(F:Fence)(n:Nat)(h105:F.fn 166)(hro:F.round=none)(hn:1≤n)(ds:List Ins)(A:Option Addr)(c Bb:Nat)(S:Nat→Prop)(W0:World)(hS:∀k,S k→k < W0.heap.size)
 (hB:S Bb) (hB0:W0.cell? ⟨Bb,0,none⟩=some (.slice A ds.length c)) (hR:Ep.slice.RS W0 S [.slice A ds.length c] ds) (hl:ds.length≤2097152):
 SeqStopsK F n Tryz.prog 166 #[.pointer (some ⟨Bb,0,none⟩)] (fun x:BkE W0 S ds=>Ac3 x) (KS S) (fun ys=>GM ys=(List.range ds.length).reverse) (fun _=>True) ds.length W0:=fun l J Jx W hW _ _ hY h0=>
 R5 F n h105 hro hn l ds A c Bb S W0 W J Jx ⟨hW.size,fun k hk=>hW.block k (hS k hk)⟩ hY hB hB0 hR hl h0
theorem Nq(F:Fence)(n:Nat)(h78:F.fn 121)(hro:F.round=none)(A:Option Addr)(m c:Nat)(w:World):
 CallsIn F n Tryz.prog 121 #[.slice A m c] w fun e w'=>e= .returned (.func (.func 166) #[] #[.pointer (some ⟨w.heap.size,0,none⟩)])∧w'=w.alloc (.cells #[.slice A m c] 63):=by
 refine callsIn_of_wp Tryz.func121 rfl h78 ?_ hro;simp only[Tryz.ntmps121,List.size_toArray,List.length_cons,List.length_nil,Nat.reduceAdd,Nat.reduceSub,Array.replicate_succ,Array.replicate_zero,List.push_toArray,List.append_toArray,List.nil_append,List.cons_append]
 gi_wp2
 go_ret
 exact⟨rfl,rfl⟩
attribute [local go_sem] Oper.semAt_some
theorem T4(F:Fence)(n:Nat)(h105:F.fn 166)(hro:F.round=none)(hn:1≤n)(l:Nat)(ds:List Ins)(A:Option Addr)(c Bb:Nat)(S0 S:Nat→Prop)(hS0:∀k,S0 k→S k)(W0 W:World)(J:Nat→World→Prop)
 (hW:KS S W0 W)
 (hY:∀(k j:Nat) (es:List Value) (d:Ins) (W:World),k+j+1=ds.length→ds[j]? =some d→Ep.RS W0 S0 es d→J k W→YieldAt F (n - 1) Tryz.prog l #[.int .i64 (j:Int),.agg es.toArray] W fun e W'=>e= .returned (.bool true)∧J (k+1) W'∧KS S W W')
 (hB:S Bb) (hB0:W0.cell? ⟨Bb,0,none⟩=some (.slice A ds.length c)) (hR:Ep.slice.RS W0 S0 [.slice A ds.length c] ds) (hl:ds.length≤2097152) (h0:J 0 W):
 CallsIn F n Tryz.prog 166 #[.func (.yield l) #[] #[],.pointer (some ⟨Bb,0,none⟩)] W fun e W'=>(∃v,e= .returned v)∧J ds.length W':=by
 have HR:=Lib.hid hR;have HY:=Lib.hid hY;have H0:=Lib.hid h0;have x1:IntKind.i64.wrap ((ds.length:Int) - 1)=(ds.length:Int) - 1:=IntWalk.i64_in _ (by omega);have hb0:=hW.cell hB hB0;clear hR hY h0;refine callsIn_of_wp Tryz.func166 rfl h105 ?_ hro;simp only[Tryz.ntmps166,List.size_toArray,List.length_cons,List.length_nil,Nat.reduceAdd,Nat.reduceSub,Array.replicate_succ,Array.replicate_zero,List.push_toArray,List.append_toArray,List.nil_append,List.cons_append]
 gi_wp2
 gi_loopw [3] (fun i wr=>∃m:Nat,m≤ds.length∧i= .int .i64 ((m:Int) - 1)∧J (ds.length - m) wr∧KS S W wr) (fun i _=>(RowKit.intOf i+1).toNat)
 case atStart=>exact⟨ds.length,Nat.le_refl _,rfl,by rw[Nat.sub_self];exact H0.out,KS.refl⟩
 case round=>
  obtain⟨m,hm,rfl,hJ,hK⟩:=hrel;rcases m with _|j
  ·have d0:decide ((0:Int)≤((0:Nat):Int) - 1)=false:=decide_eq_false (by omega)
   gi_wp2
   go_end0
   exact⟨⟨_,rfl⟩,hJ⟩
  ·have ej:((j+1:Nat):Int) - 1=(j:Int):=by omega
   rw[ej];have d0:decide ((0:Int)≤(j:Int))=true:=decide_eq_true (by omega);have x2:IntKind.i64.wrap ((j:Int) - 1)=(j:Int) - 1:=IntWalk.i64_in _ (by omega);obtain⟨x,hxk⟩:∃x,ds[j]? =some x:=⟨_,List.getElem?_eq_getElem (by omega)⟩
   obtain⟨ib,io,Aa,ca,rfl,hib,hat⟩:=Rv HR.out hxk;replace hib:=hS0 _ hib;have hK0:=hW.trans hK;have e0:=hK0.cell (a:=⟨ib,_,none⟩) hib hat.c0;have e1:=hK0.cell (a:=⟨ib,_,none⟩) hib hat.c1;have e2:=hK0.cell (a:=⟨ib,_,none⟩) hib hat.c2;have e3:=hK0.cell (a:=⟨ib,_,none⟩) hib hat.c3;have e4:=hK0.cell (a:=⟨ib,_,none⟩) hib hat.c4;have e5:=hK0.cell (a:=⟨ib,_,none⟩) hib hat.c5;have e6:=hK0.cell (a:=⟨ib,_,none⟩) hib hat.c6;have e7:=hK0.cell (a:=⟨ib,_,none⟩) hib hat.c7;have e8:=hK0.cell (a:=⟨ib,_,none⟩) hib hat.c8;have eb:=hK0.cell hB hB0;have hjl:(j:Int) < (ds.length:Int):=by omega
   obtain⟨fn,tmps,assign,body,hy,hR⟩:=HY.out (ds.length - (j+1)) j [.int .u8 x.op,.int .i64 x.d,.int .i64 x.a,.int .i64 x.b,.int .u32 x.n,.int .i64 x.f,.slice Aa x.args.length ca,.int .i64 x.l1,.int .i64 x.l2] x wr (by omega) hxk (Fk.2 ⟨Aa,ca,hat.raw⟩) hJ;clear hat hxk
   gi_wp2
   refine hR.mono ?_;rintro e W3 ⟨rfl,hJ3,hk3⟩
   gi_wp2
   go_roundw
   case rel=>
    refine⟨j,by omega,rfl,?_,hK.trans hk3⟩;rw[show ds.length - (j+1)+1=ds.length - j by omega]at hJ3;exact hJ3
   case measure=>simp[RowKit.intOf]
def bkR(ds:List Ins)(p:Nat×Option Addr×Nat):Res:=⟨[],fun g=>g=p.1,fun w S=>w.heap[p.1]? =some (.cells #[.slice p.2.1 ds.length p.2.2] 63 (0,0))∧Ep.slice.RS w S [.slice p.2.1 ds.length p.2.2] ds,
 fun h hk hb hs=>⟨(hk _ rfl).trans h.1,Ep.slice.keepS h.2 hb hs⟩⟩
def bkF(p:Nat×Option Addr×Nat):Value:=.func (.func 166) #[] #[.pointer (some ⟨p.1,0,none⟩)]
theorem R4(ds:List Ins):Xn Tryz.prog 121 [.bs Ep ds] (bkR ds) bkF:=by
 refine⟨by kernel_rfl,fun w S vs hS hr=>?_⟩;unfold Ah AV.rel Ah at hr;obtain⟨v,_,rfl,hv,rfl⟩:=hr;obtain⟨A,c,e,hx⟩:=id hv;simp only[List.cons.injEq,and_true]at e;subst e;refine((callsIn_wide (n:=4)).1 (Nq Fence.wide 4 trivial rfl A ds.length c w)).mono ?_;rintro e w' ⟨rfl,rfl⟩;have hb:Below w.heap.size w (w.alloc (.cells #[.slice A ds.length c] 63)):=(Below.refl _ _).alloc (Nat.le_refl _) _;exact⟨_,rfl,⟨hb.os,hb.tape,hb.output,hb.size,fun k hk _=>hb.block k hk⟩,(w.heap.size,A,c),rfl,⟨heap_alloc_new w _,Ep.slice.keepS hv (fun k hk=>hb.block k (hS k hk)) fun _ h=>h⟩,fun k hk=>by
  have hk:k=w.heap.size:=hk;subst hk;exact⟨.inr (Nat.le_refl _),by simp⟩⟩
def bkE(ds:List Ins)(k:Nat):List AV:=match ds[ds.length - 1 - k]? with
 |some d=>[.lit (.int .i64 ((ds.length - 1 - k:Nat):Int)),.agg (BB d)]
 |none=>(A2 [])
theorem PY(ds:List Ins)(hl:ds.length≤2097152)(p:Nat×Option Addr×Nat)(w:World)(S:Nat→Prop)(hS:∀k,S k→k < w.heap.size)(hF:∀k,(bkR ds p).F k→k < w.heap.size)(hR:(bkR ds p).R w S):
 Ajk Tryz.prog 166 #[.pointer (some ⟨p.1,0,none⟩)] (fun k=>S k∨(bkR ds p).F k) w (fun k vs=>Ah w S [] ψ0 (bkE ds k) vs) ds.length:=fun l J W hW hY h0=>by
 refine T4 Fence.wide 3 trivial rfl (by decide) l ds p.2.1 p.2.2 p.1 S (fun k=>S k∨(bkR ds p).F k) (fun _ h=>.inl h) w W J hW ?_ (.inr rfl) (BK (cs:=[_]) hR.1 rfl) hR.2 hl h0;intro k j es d W1 hkj hd hes hJ;refine hY k [.int .i64 (j:Int),.agg es.toArray] W1 (by omega) ?_ hJ;have hj:ds.length - 1 - k=j:=by omega
 show Ah w S [] ψ0 (bkE ds k) _;unfold bkE;rw[hj,hd];unfold Ah;refine⟨_,_,rfl,by unfold AV.rel;rfl,?_⟩;unfold Ah;refine⟨_,_,rfl,?_,by unfold Ah;rfl⟩;unfold AV.rel;exact⟨es,rfl,EncOf.ok (T:=Ep) w S [] ψ0 es d hes⟩
theorem Ai9(ds:List Ins)(k:Nat):Bt (bkE ds k)=true:=by
 unfold bkE;split <;> rfl
theorem Af1(ds:List Ins)(k:Nat):(bkE ds k).length=2:=by
 unfold bkE;split <;> rfl
end Mu
end
section
namespace Mu
open Go Go.RowKit Go.Proofs Go.Shelf Go.Maps
theorem RR{b:Nat}{S:Int→Bool}(w:World)(h:Gk w b S):
 Calls Tryz.prog 120 #[.map (some b)] w fun e w'=>e= .returned (.map (some w.heap.size))∧Gk w' w.heap.size S∧∃es c,w'=w.alloc (.map es c):=by
 obtain⟨D,hown,hS⟩:=h;have hlt:=hown.lt;obtain⟨es,clock,hb,Ft,hs,hD⟩:=hown;refine(AnyW.maps_Clone Tryz.cloneM b es clock w hb).mono fun e w' ⟨he,hw⟩=>?_
 subst hw;exact⟨he,⟨D,⟨es,clock,(MapKept.heap_alloc w _).1,Ft,hs,hD⟩,hS⟩,es,clock,rfl⟩
theorem Za{w:World}{bd bs nd ns:Nat}{Dd Ds:DataW Unit}(hd:w.ownsMap Tryz.prog 3 (plainElem Tryz.prog 3) bd nd Dd)(hs:w.ownsMap Tryz.prog 3 (plainElem Tryz.prog 3) bs ns Ds)(k:Lit):
 has (Lib.mergeD Dd Ds) k=(has Dd k||has Ds k):=by
 obtain⟨ed,rfl,_,_⟩:=hd.entries Ady;obtain⟨es,rfl,_,_⟩:=hs.entries Ady;obtain⟨es',hD',hko⟩:=hs.keysOf;obtain rfl:es=es':=by simpa using hD'
 have hk:∀p∈es,WideAt.IsKeyLit p.1:=fun p hp=>by
  obtain⟨v,hv⟩:=hko p hp;obtain⟨x,_,hx,hw⟩:=Maps.keyOf_i64 Tryz.underlying3 hv;rw[hx];exact trivial
 exact has_foldPut k es _ ⟨_,rfl⟩ hk
theorem Acw{bd bs:Nat}{S T:Int→Bool}{R:List Int}(w:World)(hd:Gk w bd S)(hs:Gk w bs T)(hne:bd≠bs)(hR:RegsR R)(hi:InR R S)(hj:InR R T):
 Calls Tryz.prog 123 #[.map (some bd),.map (some bs)] w fun e w'=>e= .returned (.tuple #[])∧Gk w' bd (fun x=>S x||T x)∧Gk w' bs T∧w.grownBy w' (some bd):=by
 obtain⟨Dd,hod,hS⟩:=hd;obtain⟨Ds,hos,hT⟩:=hs;have h1:=Gu hod hS hR hi;have h2:=Gu hos hT hR hj;refine(AnyX.maps_Copy Tryz.copyM Ady (plainElem Tryz.prog 3) bd bs _ _ Dd Ds w hod hos hne ?_).mono ?_
 ·have:=h1.2;have:=h2.2;unfold maxLen;omega
 ·rintro e w' ⟨rfl,g1,g2,g3⟩;refine⟨rfl,⟨_,JT g1,fun x hx=>?_⟩,⟨Ds,g2,hT⟩,g3⟩;rw[Za hod hos,hS x hx,hT x hx]
end Mu
end
section
namespace Mu
open Go Go.RowKit Go.Proofs Go.Maps
def JY(S:Int→Bool)(m:Nat):Res:=⟨[],fun g=>g=m,fun w _=>Gk w m S,fun h hk _ _=>h.keep (hk m rfl)⟩
theorem E1{w:World}{S:Nat→Prop}{h:List ABlk}{ψ:Nat→Value}{u:Value}{l:List AV}{vs:List Value}(H:Ah w S h ψ (.lit u::l) vs):∃us,vs=u::us∧Ah w S h ψ l us:=by
 unfold Ah AV.rel at H;obtain⟨v,us,e,rfl,h2⟩:=H;exact⟨us,e,h2⟩
theorem ZW(x:Ins)(S:Int→Bool)(R:List Int)(m:Nat)(ho:okIns x)(hl:x.args.length≤2097152)(hR:RegsR R)(hi:InR R S)(hx:∀r∈readsC x,r∈R):
 Hn Tryz.prog 122 (JY S m) [.lit (.map (some m)),.agg (BB x)] (fun _:Unit=>JY (GN x S) m) (fun _=>.tuple #[]):=by
 refine⟨by kernel_rfl,fun w T vs hT hF hs hr=>?_⟩;obtain⟨us,rfl,h1⟩:=E1 hr;obtain⟨v,rfl,h2⟩:=Aa4 h1;unfold AV.rel at h2;obtain⟨cs,rfl,hcs⟩:=h2;refine(R6 x m S R w cs (Ep.keepS (KJ ho hcs) (fun _ _=>rfl) fun k hk=>(hT k hk).1) hl hs hR hi hx).mono ?_;rintro e w' ⟨rfl,h1,h2⟩;exact⟨_,rfl,⟨h2.os,h2.tape,h2.output,h2.size,fun k hk hn=>h2.block k hk fun e=>hn (by injection e)⟩,(),rfl,h1,fun k hk=>by
  have hk:k=m:=hk;subst hk;exact⟨.inl rfl,h1.lt⟩⟩
theorem ZN(Rr:Res)(S:Int→Bool)(m:Nat)(hRS:∀w T,Rr.R w T→Gk w m S):
 Aal Tryz.prog 120 Rr [.lit (.map (some m))] (JY S) (fun p=>.map (some p)):=by
 refine⟨by kernel_rfl,fun w T vs hT hF hs hr=>?_⟩;obtain⟨us,rfl,h0⟩:=E1 hr;unfold Ah at h0;subst h0;refine(RR w (hRS w T hs)).mono ?_;rintro e w' ⟨rfl,h1,es,c,rfl⟩;have hb:Below w.heap.size w (w.alloc (.map es c)):=(Below.refl _ _).alloc (Nat.le_refl _) _;exact⟨_,rfl,⟨hb.os,hb.tape,hb.output,hb.size,fun k hk _=>hb.block k hk⟩,w.heap.size,rfl,h1,fun k hk=>by
  have hk:k=w.heap.size:=hk;subst hk;exact⟨.inr (Nat.le_refl _),h1.lt⟩⟩
section
variable{P:Program}{C:Ctx}{t:List AV}{h:List ABlk}{o:Oper}{ι:Type}{Rs:ι→Res}{val:ι→Value}
def Aak(P:Program)(f:FuncId)(R R2:Res)(args:List AV)(Rs:ι→Res)(val:ι→Value):Prop:=
 B6 P f=true∧∀(w:World) (S:Nat→Prop) (vs:List Value),(∀k,S k→k < w.heap.size∧¬R.F k)→(∀g,R.F g→g < w.heap.size)→R.R w S→R2.R w S→(∀g,R.F g→¬R2.F g)→Ah w S [] ψ0 args vs→
  Calls P f vs.toArray w fun e w'=>∃v,e= .returned v∧Turns w S R.F Rs val v w'
theorem Qa{i j:Nat}{R R2:Res}{f:FuncId}{args:Array Operand}{tys:Array TypeId}{xs:List AV}{K:St→Prop}(hij:i≠j)(hi:h[i]? =some (.res R))(hj:h[j]? =some (.res R2))
 (ho:o.op= .call {callee:=.value (.func f),args:=args,argTypes:=tys}) (hF:Aak P f R R2 xs Rs val) (hm:∀p,(Rs p).mrk=R.mrk) (hx:args.toList.map (evA t)=xs) (hc:Bt xs=true)
 (hK:∀p,K ⟨BH t o.dst (.lit (val p)),h.set i (.res (Rs p))⟩):AOp P C o ⟨t,h⟩ K:=by
 refine AOp.turn hi hm (fun S ψ w ρ H hR hlt hρ=>?_) hK;have h1:ρ (.func f)= .func (.func f) #[] #[]:=by
  have:=hρ (.func f) (by rw[ho];exact Array.mem_append.2 (.inl (by simp)));simpa[evA,AV.rel]using this
 rw[CY ho hF.1 ρ w h1];refine⟨rfl,?_⟩;have h2:Ah w S h ψ xs (args.toList.map ρ):=by
  rw[←hx];exact Cm fun x hx'=>hρ x (by rw[ho];exact Array.mem_append.2 (.inr (Array.mem_toList_iff.1 hx')))
 rw[show(args.map ρ)=(args.toList.map ρ).toArray from(by rw[←Array.toList_map])];exact hF.2 w S (args.toList.map ρ) (fun k hk=>⟨H.lt k hk,fun hf=>((H.blk i _ hi).1 k hf).2.1 hk⟩) hlt hR (H.blk j _ hj).2 (fun g k1 k2=>H.dis i j hij (by rw[hi];rfl) (by rw[hj];rfl) g (by rw[hi];exact k1) (by rw[hj];exact k2)) (Bi _ _ hc h2)
end
def mapsR(ms:List Nat)(Ss:List (Int→Bool)):Res:=⟨[],fun g=>g∈ms,fun w _=>ms.length=Ss.length∧ms.Nodup∧∀(i m:Nat) (S:Int→Bool),ms[i]? =some m→Ss[i]? =some S→Gk w m S,
 fun h hk _ _=>⟨h.1,h.2.1,fun i m S hm hS=>(h.2.2 i m S hm hS).keep (hk m (List.mem_of_getElem? hm))⟩⟩
theorem Zx(w:World):Gk (w.alloc (.map #[] 0)) w.heap.size (fun _=>false):=
 ⟨.map [],JT (World.ownsMap_made w Tryz.prog 3 (plainElem Tryz.prog 3)),fun x _=>by simp[has_eq]⟩
theorem H5{ms:List Nat}{Ss:List (Int→Bool)}{k m:Nat}{S:Int→Bool}(hm:ms[k]? =some m)(hS:Ss[k]? =some S):∀w T,(mapsR ms Ss).R w T→Gk w m S:=fun _ _ h=>h.2.2 k m S hm hS
section
variable{C:Ctx}{t:List AV}{h:List ABlk}{o:Oper}{K:St→Prop}
theorem NI{ty:TypeId}(ho:o.op= .makeMap ty none)(hK:∀m,K ⟨BH t o.dst (.lit (.map (some m))),h++[.res (JY (fun _=>false) m)]⟩):AOp Tryz.prog C o ⟨t,h⟩ K:=by
 refine EQ (ι:=Nat) (Rs:=JY fun _=>false) (val:=fun m=>.map (some m)) (fun _=>rfl) (fun S ψ w ρ H hρ=>?_) hK;have he:(execOp ρ o).run Tryz.prog w= .ok (.value (.map (some w.heap.size))) (w.alloc (.map #[] 0)):=by simp[execOp,ho,run_makeMap]
 rw[he];have hbl:=(Below.refl w.heap.size w).alloc (Nat.le_refl _) (.map #[] 0);refine⟨⟨hbl.os,hbl.tape,hbl.output,hbl.size,fun k hk _=>hbl.block k hk⟩,w.heap.size,rfl,Zx w,fun k hk=>?_⟩;have hk:k=w.heap.size:=hk;subst hk;exact⟨.inr (Nat.le_refl _),by simp⟩
theorem Xd{i j m:Nat}{ms:List Nat}{Ss:List (Int→Bool)}{S:Int→Bool}(hij:i≠j)(hi:h[i]? =some (.res (mapsR ms Ss)))(hj:h[j]? =some (.res (JY S m))):
 St.le C ⟨t,h⟩ ⟨t,(h.set j .dead).set i (.res (mapsR (ms++[m]) (Ss++[S])))⟩:=
 Ny hij hi hj rfl rfl rfl (fun g hg=>by
  have hg:g∈ms++[m]:=hg;rcases List.mem_append.1 hg with h1|h1
  ·exact .inl h1
  ·exact .inr (show g=m by simpa using h1)) fun w T h1 h2 hd=>by
   obtain⟨k1,k2,k3⟩:=h1;refine⟨by simp[k1],?_,fun i m' S' hm hS=>?_⟩
   ·rw[List.nodup_append];refine⟨k2,by simp,fun a ha b hb e=>?_⟩;have hb:b=m:=by simpa using hb
    subst hb;subst e;exact hd a ha rfl
   ·by_cases hi:i < ms.length
    ·rw[List.getElem?_append_left hi]at hm;rw[List.getElem?_append_left (by omega)]at hS;exact k3 i m' S' hm hS
    ·rw[List.getElem?_append_right (by omega)]at hm hS;have e0:i - ms.length=0:=by
      have:=(List.getElem?_eq_some_iff.1 hm).1;simp at this;omega
     rw[e0]at hm;rw[←k1,e0]at hS;cases hm;cases hS;exact h2
theorem GR{ty:TypeId}{x:Operand}{i m:Nat}{R:Res}{S:Int→Bool}{L:List Int}(ho:o.op= .call {callee:=.builtin .len,args:=#[x],argTypes:=#[ty]})(hty:Tryz.prog.underlying ty=some (.map 3 3))(hx:evA t x= .lit (.map (some m)))(hi:h[i]? =some (.res R))(hRS:∀w T,R.R w T→Gk w m S)
 (hR:RegsR L) (hin:InR L S):AX Tryz.prog C t h o (.lit (.int .i64 (((L.filter S).length:Nat):Int))):=
 AR fun T ψ w ρ H hρ=>by
  have h1:=hρ x (by simp[ho,Op.operands,Call.operands]);rw[hx]at h1;unfold AV.rel at h1;obtain⟨D,hown,hS⟩:=hRS w T (H.blk i _ hi).2;have hsz:=(Gu hown hS hR hin).1;have hl:=hown.len (e:=3) hty o.type;rw[hsz]at hl;refine⟨_,by simp[execOp,ho,resolve,invoke,builtin,h1,hl];rfl,?_⟩;unfold AV.rel;rfl
end
theorem WP{ms:List Nat}{Ss:List (Int→Bool)}{k m:Nat}{S:Int→Bool}(hm:ms[k]? =some m)(hS:Ss[k]? =some S):
 Aal Tryz.prog 120 (mapsR ms Ss) [.lit (.map (some m))] (JY S) (fun p=>.map (some p)):=ZN _ S m (H5 hm hS)
theorem WO{ms:List Nat}{Ss:List (Int→Bool)}{k m mn:Nat}{S N:Int→Bool}{L:List Int}(hm:ms[k]? =some m)(hS:Ss[k]? =some S)(hR:RegsR L)(hi:InR L S)(hj:InR L N):
 Aak Tryz.prog 123 (mapsR ms Ss) (JY N mn) [.lit (.map (some m)),.lit (.map (some mn))] (fun _:Unit=>mapsR ms (Ss.set k (uni S N))) (fun _=>.tuple #[]):=by
 refine⟨by kernel_rfl,fun w T vs hT hF hs hs2 hd hr=>?_⟩;obtain⟨us,rfl,h1⟩:=E1 hr;obtain⟨us,rfl,h2⟩:=E1 h1;unfold Ah at h2;subst h2;have hmem:=List.mem_of_getElem? hm;have hkl:k < ms.length:=(List.getElem?_eq_some_iff.1 hm).1;refine(Acw w (H5 hm hS w T hs) hs2 (fun e=>hd m hmem e) hR hi hj).mono ?_;rintro e w' ⟨rfl,h1,h2,h3⟩;refine⟨_,rfl,⟨h3.os,h3.tape,h3.output,h3.size,fun q hq hn=>h3.block q hq fun e=>hn (by cases e;exact hmem)⟩,(),rfl,⟨by simp[hs.1],hs.2.1,fun i m' S' hm' hS'=>?_⟩,fun q hq=>?_⟩
 ·by_cases hik:i=k
  ·subst hik;rw[hm]at hm';cases hm';rw[List.getElem?_set_self (by rw[←hs.1];exact hkl)]at hS';cases hS';exact h1
  ·rw[List.getElem?_set_ne (Ne.symm hik)]at hS';have hne:m'≠m:=fun e=>hik (by
    subst e;exact(List.getElem?_inj (List.getElem?_eq_some_iff.1 hm').1 hs.2.1).1 (hm'.trans hm.symm))
   have hk:=hs.2.2 i m' S' hm' hS';exact hk.keep (h3.block m' hk.lt fun e=>hne (by cases e;rfl))
 ·have:=hF q hq;exact⟨.inl hq,Nat.lt_of_lt_of_le this h3.size⟩
end Mu
end
section
namespace Mu
open Go Go.RowKit Go.Proofs
structure RowsAt(W:World)(base:Nat)(S:Nat→Prop)(O:Nat)(vs:List Value)(ls:List (List Int)):Prop where
 box:W.heap[O]? =some (.cells vs.toArray 25 (0,0))
 len:vs.length=ls.length
 own:∀(i:Nat) (v:Value) (l:List Int),vs[i]? =some v→ls[i]? =some l→Hm W base v l
 far:∀(i:Nat) (v:Value) (g:Nat),vs[i]? =some v→v.ownBlock=some g→¬S g∧g≠O
 sep:∀(i j:Nat) (v u:Value) (g:Nat),i≠j→vs[i]? =some v→vs[j]? =some u→v.ownBlock=some g→u.ownBlock≠some g
 out:¬S O∧base≤O
section
variable{W W':World}{base:Nat}{S S':Nat→Prop}{O:Nat}{vs:List Value}{ls:List (List Int)}
theorem RowsAt.get(h:RowsAt W base S O vs ls){i:Nat}{v:Value}(hv:vs[i]? =some v):∃l,ls[i]? =some l∧Hm W base v l:=by
 have hi:i < ls.length:=by rw[←h.len];exact(List.getElem?_eq_some_iff.1 hv).1
 exact⟨_,List.getElem?_eq_getElem hi,h.own i v _ hv (List.getElem?_eq_getElem hi)⟩
theorem RowsAt.lt(h:RowsAt W base S O vs ls){i:Nat}{v:Value}{g:Nat}(hv:vs[i]? =some v)(hg:v.ownBlock=some g):base≤g∧g < W.heap.size:=by
 obtain⟨l,_,ho⟩:=h.get hv;exact ho.lt g hg
theorem RowsAt.keep(h:RowsAt W base S O vs ls)(hk:∀k,(k=O∨∃(i:Nat) (v:Value),vs[i]? =some v∧v.ownBlock=some k)→W'.heap[k]? =W.heap[k]?):RowsAt W' base S O vs ls:=
 ⟨(hk O (.inl rfl)).trans h.box,h.len,fun i v l hv hl=>Dp (h.own i v l hv hl) (fun k e=>hk k (.inr ⟨i,v,hv,e⟩)),h.far,h.sep,h.out⟩
theorem RowsAt.below(h:RowsAt W base S O vs ls)(hb:Below W.heap.size W W'):RowsAt W' base S O vs ls:=by
 refine h.keep fun k hk=>hb.block k ?_
 rcases hk with rfl|⟨i,v,hv,hg⟩
 ·exact Hl h.box
 ·exact(h.lt hv hg).2
theorem RowsAt.avoid(h:RowsAt W base S O vs ls)(hS:∀k,S' k→S k∨W.heap.size≤k):RowsAt W base S' O vs ls:=by
 refine⟨h.box,h.len,h.own,fun i v g hv hg=>⟨fun hs=>?_,(h.far i v g hv hg).2⟩,h.sep,fun hs=>?_,h.out.2⟩
 ·rcases hS g hs with hs|hs
  ·exact(h.far i v g hv hg).1 hs
  ·have:=(h.lt hv hg).2;omega
 ·rcases hS O hs with hs|hs
  ·exact h.out.1 hs
  ·have:=Hl h.box;omega
theorem RowsAt.grown(h:RowsAt W base S O vs ls){row:Option Nat}(hg:W.grownBy W' row)(hr:∀r,row=some r→∃o:Obj,W.heap[r]? =some o∧o.isCells=false):RowsAt W' base S O vs ls:=by
 refine h.keep fun k hk=>?_
 have hc:∃o:Obj,W.heap[k]? =some o∧o.isCells=true:=by
  rcases hk with rfl|⟨i,v,hv,hgk⟩
  ·exact⟨_,h.box,rfl⟩
  ·obtain⟨l,_,ho⟩:=h.get hv;rcases ho.2 with⟨rfl,_⟩|⟨g,cap,cur,rfl,_,hgb,_⟩
   ·simp[Value.ownBlock]at hgk
   ·obtain rfl:g=k:=by simpa[Value.ownBlock]using hgk
    exact⟨_,hgb,rfl⟩
 obtain⟨o,ho,hoc⟩:=hc;refine hg.block k (Hl ho) fun e=>?_
 obtain⟨o',ho',hoc'⟩:=hr k e.symm;rw[ho]at ho';cases ho';rw[hoc]at hoc';cases hoc'
theorem RowsAt.cell(h:RowsAt W base S O vs ls){k:Nat}{v:Value}(hv:vs[k]? =some v):W.cell? ⟨O,k,none⟩=some v:=BK h.box hv
theorem RowsAt.step(h:RowsAt W base S O vs ls)(hS:∀k,S k→k < W.heap.size){k:Nat}{v v':Value}{l:List Int}{x:Int}{w1:World}{tmp:Obj}{n:Nat}(hv:vs[k]? =some v)(hl:ls[k]? =some l)
 (hown':w1.ownsRow base 3 1 v' n (l.map (Value.int .i64)++[Value.int .i64 x])) (hn:n=l.length+1) (hg:(W.alloc tmp).grownBy w1 v.ownBlock) (hat:v'.ownBlock=v.ownBlock∨v'.ownBlock=some (W.alloc tmp).heap.size):
 RowsAt (w1.setCell ⟨O,k,none⟩ v') base S O (vs.set k v') (ls.set k (l++[x]))∧KS S W (w1.setCell ⟨O,k,none⟩ v')∧KeepsOthers W (w1.setCell ⟨O,k,none⟩ v')∧w1.heap[O]? =W.heap[O]?∧KS S W w1:=by
 have hs:=hg.size;have hs2:(W.alloc tmp).heap.size=W.heap.size+1:=by simp
 have hOl:=Hl h.box;have hold:∀q,q < W.heap.size→v.ownBlock≠some q→w1.heap[q]? =W.heap[q]?:=fun q hq hne=>(hg.block q (by omega) (fun e=>hne e.symm)).trans (Below.heap_alloc _ _ _ hq)
 have hO:w1.heap[O]? =W.heap[O]?:=hold O hOl fun e=>(h.far k v O hv e).2 rfl
 have hx:Hm w1 base v' (l++[x]):=.of hown' (by simp[hn]) (by simp);have hk:k < vs.length:=(List.getElem?_eq_some_iff.1 hv).1;have hv'f:∀g,v'.ownBlock=some g→(v.ownBlock=some g)∨g=W.heap.size+1:=fun g e=>by
  rcases hat with ha|ha
  ·exact .inl (ha▸e)
  ·rw[ha,hs2]at e;injection e with e;exact .inr e.symm
 have hne':∀g,v'.ownBlock=some g→¬S g∧g≠O:=fun g e=>by
  rcases hv'f g e with e|e
  ·exact h.far k v g hv e
  ·exact⟨fun hs'=>(by have:=hS g hs';omega),by omega⟩
 have hget:∀(i:Nat) (u:Value),(vs.set k v')[i]? =some u→(i=k∧u=v')∨(i≠k∧vs[i]? =some u):=fun i u hu=>by
  by_cases hik:i=k
  ·subst hik;rw[List.getElem?_set_self hk]at hu;cases hu;exact .inl ⟨rfl,rfl⟩
  ·rw[List.getElem?_set_ne (Ne.symm hik)]at hu;exact .inr ⟨hik,hu⟩
 have hks1:KS S W w1:=⟨by omega,fun q hq=>hold q (hS q hq) fun e=>(h.far k v q hv e).1 hq⟩
 refine⟨⟨?_,by simp[h.len],?_,?_,?_,h.out⟩,?_,?_,hO,hks1⟩
 ·rw[ZS (hO.trans h.box)]
 ·intro i u l' hu hl';rcases hget i u hu with⟨rfl,rfl⟩|⟨hik,hu'⟩
  ·rw[List.getElem?_set_self (by rw[←h.len];exact hk)]at hl';cases hl';exact Dp hx fun q e=>Below.heap_setCell _ _ _ _ (by show q≠O;exact(hne' q e).2)
  ·rw[List.getElem?_set_ne (Ne.symm hik)]at hl';have ho:=h.own i u l' hu' hl';refine Dp ho fun q e=>(Below.heap_setCell _ _ _ _ (by show q≠O;exact(h.far i u q hu' e).2)).trans (hold q (h.lt hu' e).2 (h.sep i k u v q hik hu' hv e))
 ·intro i u g hu e;rcases hget i u hu with⟨rfl,rfl⟩|⟨_,hu'⟩
  ·exact hne' g e
  ·exact h.far i u g hu' e
 ·intro i j u t g hij hu ht e;rcases hget i u hu with⟨rfl,rfl⟩|⟨hik,hu'⟩
  ·rcases hget j t ht with⟨rfl,_⟩|⟨hjk,ht'⟩
   ·exact absurd rfl hij
   ·rcases hv'f g e with e'|e'
    ·exact h.sep i j v t g hij hv ht' e'
    ·intro et;have:=(h.lt ht' et).2;omega
  ·rcases hget j t ht with⟨rfl,rfl⟩|⟨hjk,ht'⟩
   ·intro et;rcases hv'f g et with e'|e'
    ·exact h.sep i j u v g hij hu' hv e e'
    ·have:=(h.lt hu' e).2;omega
   ·exact h.sep i j u t g hij hu' ht' e
 ·exact⟨by simp[World.setCell];omega,fun q hq=>(Below.heap_setCell _ _ _ _ (by show q≠O;exact fun e=>h.out.1 (e▸hq))).trans (hks1.block q hq)⟩
 ·refine((KeepsOthers.alloc W tmp).trans (KeepsOthers.of_grownBy hg fun j o ej hj=>?_)).trans (KeepsOthers.setCell _ _ _);rcases((h.own k v l hv hl).alloc tmp).2 with⟨rfl,_⟩|⟨g,cap,cur,rfl,_,hgb,_⟩
  ·simp[Value.ownBlock]at ej
  ·obtain rfl:g=j:=by simpa[Value.ownBlock]using ej
   rw[hgb]at hj;cases hj;rfl
theorem RowsAt.step_below(h:RowsAt W base S O vs ls){k:Nat}{v v':Value}{w1:World}{tmp:Obj}(hv:vs[k]? =some v)(hbase:base≤W.heap.size)(hg:(W.alloc tmp).grownBy w1 v.ownBlock):Below base W (w1.setCell ⟨O,k,none⟩ v'):=
 (((Below.refl base W).alloc hbase tmp).grown hg (by simp;omega) fun _ ej=>(h.lt hv ej).1).setCell (p:=⟨O,k,none⟩) h.out.2 v'
end
theorem RowsAt.put{W W1:World}{base:Nat}{S:Nat→Prop}{O:Nat}{vs:List Value}{ls:List (List Int)}(h:RowsAt W base S O vs ls)(hS:∀k,S k→k < W.heap.size)(hb:Below W.heap.size W W1)(hbase:base≤W.heap.size){k:Nat}(hk:k < vs.length){v:Value}{l:List Int}
 (hown:Hm W1 W.heap.size v l):
 RowsAt (W1.setCell ⟨O,k,none⟩ v) base S O (vs.set k v) (ls.set k l)∧KS S W (W1.setCell ⟨O,k,none⟩ v)∧Below base W (W1.setCell ⟨O,k,none⟩ v)∧W1.heap[O]? =W.heap[O]?:=by
 have hOl:=Hl h.box;have hO:W1.heap[O]? =W.heap[O]?:=hb.block O hOl;have hs:=hb.size;have hget:∀(i:Nat) (u:Value),(vs.set k v)[i]? =some u→(i=k∧u=v)∨(i≠k∧vs[i]? =some u):=fun i u hu=>by
  by_cases hik:i=k
  ·subst hik;rw[List.getElem?_set_self hk]at hu;cases hu;exact .inl ⟨rfl,rfl⟩
  ·rw[List.getElem?_set_ne (Ne.symm hik)]at hu;exact .inr ⟨hik,hu⟩
 have hnew:∀g,v.ownBlock=some g→W.heap.size≤g:=fun g e=>(hown.lt g e).1
 refine⟨⟨?_,by simp[h.len],?_,?_,?_,h.out⟩,?_,?_,hO⟩
 ·rw[ZS (hO.trans h.box)]
 ·intro i u l' hu hl';rcases hget i u hu with⟨rfl,rfl⟩|⟨hik,hu'⟩
  ·rw[List.getElem?_set_self (by rw[←h.len];exact hk)]at hl';cases hl';exact Dp (hown.base hbase) fun q e=>Below.heap_setCell _ _ _ _ (by show q≠O;have:=hnew q e;omega)
  ·rw[List.getElem?_set_ne (Ne.symm hik)]at hl';exact Dp (h.own i u l' hu' hl') fun q e=>(Below.heap_setCell _ _ _ _ (by show q≠O;exact(h.far i u q hu' e).2)).trans (hb.block q (h.lt hu' e).2)
 ·intro i u g hu e;rcases hget i u hu with⟨rfl,rfl⟩|⟨_,hu'⟩
  ·have:=hnew g e;exact⟨fun hs'=>(by have:=hS g hs';omega),by omega⟩
  ·exact h.far i u g hu' e
 ·intro i j u t g hij hu ht e et;rcases hget i u hu with⟨rfl,rfl⟩|⟨hik,hu'⟩
  ·rcases hget j t ht with⟨rfl,_⟩|⟨hjk,ht'⟩
   ·exact absurd rfl hij
   ·have:=hnew g e;have:=(h.lt ht' et).2;omega
  ·rcases hget j t ht with⟨rfl,rfl⟩|⟨hjk,ht'⟩
   ·have:=hnew g et;have:=(h.lt hu' e).2;omega
   ·exact h.sep i j u t g hij hu' ht' e et
 ·exact⟨by simpa[World.setCell]using hs,fun q hq=>(Below.heap_setCell _ _ _ _ (by show q≠O;exact fun e=>h.out.1 (e▸hq))).trans (hb.block q (hS q hq))⟩
 ·exact(hb.mono hbase).setCell (p:=⟨O,k,none⟩) h.out.2 v
theorem LG{W:World}{base n O:Nat}{S:Nat→Prop}(h:W.heap[O]? =some (.cells (List.replicate n (Value.slice none 0 0)).toArray 25 (0,0)))(hS:¬S O)(hb:base≤O):
 RowsAt W base S O (List.replicate n (.slice none 0 0)) (List.replicate n []):=by
 refine⟨h,by simp,fun i v l hv hl=>?_,fun i v g hv hg=>?_,fun i j v u g _ hv _ hg=>?_,hS,hb⟩
 ·obtain rfl:=List.eq_of_mem_replicate (List.mem_of_getElem? hv);obtain rfl:=List.eq_of_mem_replicate (List.mem_of_getElem? hl);exact Hm.nil W base
 all_goals
  obtain rfl:=List.eq_of_mem_replicate (List.mem_of_getElem? hv);simp[Value.ownBlock]at hg
end Mu
end
section
namespace Mu
open Go Go.RowKit Go.Proofs Go.Shelf
attribute [local go_sem] Oper.semAt_some
def XB{f:Func}(b:Nat)(ls:List (List Int))(x:Blk f):List (List Int):=ls.set x.1 (ls.getD x.1 []++[(b:Int)])
def Km{f:Func}(b:Nat)(pre:List (Blk f))(ls:List (List Int)):List (List Int):=pre.foldl (XB b) ls
def JB(f:Func):Nat→List (List Int)
 |0=>List.replicate f.blocks.length []
 |b+1=>Km b (El f b) (JB f b)
theorem OJ{f:Func}(b:Nat)(pre:List (Blk f))(x:Blk f)(ls:List (List Int)):Km b (pre++[x]) ls=XB b (Km b pre ls) x:=by simp[Km]
theorem LF{f:Func}(b:Nat)(pre:List (Blk f))(ls:List (List Int)):(Km b pre ls).length=ls.length:=by
 induction pre generalizing ls with
 |nil=>rfl
 |cons x l ih=>
  show(Km b l (XB b ls x)).length=_;rw[ih];simp[XB]
theorem FH(f:Func)(b:Nat):(JB f b).length=f.blocks.length:=by
 induction b with
 |zero=>simp[JB]
 |succ b ih=>rw[JB,LF,ih]
theorem Af9{f:Func}{b:Nat}{ls:List (List Int)}{x:Blk f}{n:Nat}(h:∀l∈ls,l.length≤n):∀l∈XB b ls x,l.length≤n+1:=fun l hl=>by
 rcases List.mem_or_eq_of_mem_set hl with hl|rfl
 ·have:=h l hl;omega
 ·rw[List.length_append];have:(ls.getD x.1 []).length≤n:=by
   rw[List.getD_eq_getElem?_getD];cases hx:ls[x.1]? with
   |none=>simp
   |some l=>exact h l (List.mem_of_getElem? hx)
  simp;exact this
theorem P2{f:Func}{b:Nat}{n:Nat}:∀(pre:List (Blk f)) {ls:List (List Int)} (_:∀l∈ls,l.length≤n),∀l∈Km b pre ls,l.length≤n+pre.length
 | [],ls,h=>by simpa[Km]using h
 |x::pre,ls,h=>fun l hl=>by
  have:=P2 (n:=n+1) pre (Af9 (x:=x) (b:=b) h) l hl;simp;omega
theorem ZV(f:Func)(b:Nat):∀l∈JB f b,l.length≤2 * b:=by
 induction b with
 |zero=>intro l hl;obtain rfl:=List.eq_of_mem_replicate hl;simp
 |succ b ih=>
  intro l hl;have:=P2 (El f b) ih l hl;have:=Re f b;omega
theorem UU(z:Value)(n:Nat):madeCells #[z] n=(List.replicate n z).toArray:=by
 apply Array.ext
 ·simp[madeCells]
 ·intro i h1 h2;simp[madeCells,Nat.mod_one]
theorem WY(f:Func)(cs:List Value)(w:World)(hR:CX.R w w.heap.size cs f)(hl:f.blocks.length≤2097152)(hi:∀b∈f.blocks,b.ins.length≤2097152):
 Calls Tryz.prog 119 #[.agg cs.toArray] w fun e W'=>∃(O:Nat) (vs:List Value),e= .returned (.slice (some ⟨O,0,none⟩) f.blocks.length f.blocks.length)∧RowsAt W' w.heap.size (fun _=>False) O vs (JB f f.blocks.length)∧Below w.heap.size w W':=by
 refine(callsIn_wide (n:=6)).1 ?_;obtain⟨i0,hiI,hz0,hz1,hz2⟩:=info_parts ED;obtain⟨A,c,rfl,-,-,-,-⟩:=I3.1 hR;have HR:=Lib.hid hR;have HI:=Lib.hid hi;clear hR hi;have hmk:=run_make_row' (P:=Tryz.prog) 74 25 (.slice none 0 0) 24 Tryz.underlying74 Uy rfl .i64 .i64 f.blocks.length (by omega) (by omega);rw[UU]at hmk;refine callsIn_of_wp_marks Tryz.func119 rfl trivial ?_ rfl;simp only[Tryz.ntmps119,List.size_toArray,List.length_cons,List.length_nil,Nat.reduceAdd,Nat.reduceSub,Array.replicate_succ,Array.replicate_zero,List.push_toArray,List.append_toArray,List.nil_append,List.cons_append];obtain⟨W1,hW1⟩:∃W1:World,W1=((w.alloc (.cells #[.string f.name,.int .i64 f.args,.int .i64 f.regs,.slice A f.blocks.length c] 24)).alloc (.cells (List.replicate f.blocks.length (Value.slice none 0 0)).toArray 25)).alloc (.cells #[.slice (some ⟨w.heap.size+1,0,none⟩) f.blocks.length f.blocks.length] 74):=⟨_,rfl⟩
 gi_wp2
 refine wpIn_loop (fun a W=>∃(b:Nat) (ds:List Nat) (vs:List Value) (u4 u5 u14 u15 u16 u17 u18 u19 u20 u21 u22 u23 u24 u25 u26 u27 u28 u29 u30:Value),b≤f.blocks.length∧a= {tmps:=#[.agg #[.string f.name,.int .i64 f.args,.int .i64 f.regs,.slice A f.blocks.length c],.pointer (some ⟨w.heap.size,0,none⟩),.slice none 0 0,.pointer (some ⟨w.heap.size+1+1,0,none⟩),u4,u5,.pointer (some ⟨w.heap.size,3,none⟩),.slice A f.blocks.length c,.int .i64 f.blocks.length,.slice (some ⟨w.heap.size+1,0,none⟩) f.blocks.length f.blocks.length,.pointer (some ⟨w.heap.size,3,none⟩),.slice A f.blocks.length c,.int .i64 f.blocks.length,.int .i64 b,u14,u15,u16,u17,u18,u19,u20,u21,u22,u23,u24,u25,u26,u27,u28,u29,u30,undef],defers:=ds.map HW}∧RowsAt W w.heap.size (fun k=>k≤w.heap.size∨k=w.heap.size+2) (w.heap.size+1) vs (JB f b)∧
  KS (fun k=>k≤w.heap.size∨k=w.heap.size+2) W1 W∧Below w.heap.size w W∧ds.Nodup∧∀D∈ds,w.heap.size≤D∧W.heap[D]? =some (.deferred (some []))) (fun a _=>f.blocks.length - (RowKit.intOf (a.tmps.getD 13 undef)).toNat) ?start ?round
 case start=>
  refine⟨0,[],List.replicate f.blocks.length (.slice none 0 0),_,_,_,_,_,_,_,_,_,_,_,_,_,_,_,_,_,_,_,Nat.zero_le _,rfl,?_,?_,?_,List.nodup_nil,by simp⟩
  ·refine LG ?_ (by omega) (by omega);refine Ci ?_ _;have h:=heap_alloc_new (w.alloc (.cells #[.string f.name,.int .i64 f.args,.int .i64 f.regs,.slice A f.blocks.length c] 24)) (.cells (List.replicate f.blocks.length (Value.slice none 0 0)).toArray 25);rwa [World.size_alloc]at h
  ·rw[hW1];exact KS.refl
  ·exact(((Below.refl _ _).alloc (Nat.le_refl _) _).alloc (by simp) _).alloc (by simp;omega) _
 case round=>
  rintro a W ⟨b,ds,vs,u4,u5,u14,u15,u16,u17,u18,u19,u20,u21,u22,u23,u24,u25,u26,u27,u28,u29,u30,hb,rfl,hR,hK,hB,hN,hD⟩;have hW1s:W1.heap.size=w.heap.size+1+1+1:=by rw[hW1];simp
  have hc3:W.cell? ⟨w.heap.size+1+1,0,none⟩=some (.slice (some ⟨w.heap.size+1,0,none⟩) f.blocks.length f.blocks.length):=by
   refine hK.cell (.inr rfl) ?_;rw[hW1];have h:=heap_alloc_new ((w.alloc (.cells #[.string f.name,.int .i64 f.args,.int .i64 f.regs,.slice A f.blocks.length c] 24)).alloc (.cells (List.replicate f.blocks.length (Value.slice none 0 0)).toArray 25)) (.cells #[.slice (some ⟨w.heap.size+1,0,none⟩) f.blocks.length f.blocks.length] 74);rw[World.size_alloc,World.size_alloc]at h;exact BK (cs:=[_]) h rfl
  have hfB:W.heap[w.heap.size]? =some (.cells [.string f.name,.int .i64 f.args,.int .i64 f.regs,.slice A f.blocks.length c].toArray 24 (0,0)):=by
   rw[hK.block _ (.inl (Nat.le_refl _)),hW1];exact Ci (Ci (heap_alloc_new w _) _) _
  have hWs:w.heap.size+1+1+1≤W.heap.size:=by have:=hK.size;omega
  clear hW1;by_cases hbn:b=f.blocks.length
  ·subst hbn;have d0:decide ((f.blocks.length:Int) < (f.blocks.length:Int))=false:=decide_eq_false (by omega)
   gi_wp2
   refine Lw (fun X=>RowsAt X w.heap.size (fun _=>False) (w.heap.size+1) vs (JB f f.blocks.length)∧Below w.heap.size w X) w.heap.size ?_ (fun _=>results_tmp rfl _ _ _) (fun X h=>⟨_,vs,rfl,h⟩) ds W hN hD ⟨hR.avoid (fun _ h=>h.elim),hB⟩;intro X D hX hDX hDo;exact⟨hX.1.grown (grownBy_putObj' X D _) (fun r e=>by cases e;exact⟨_,hDo,rfl⟩),hX.2.trans (belowK_b (w:=w) (Nat.le_refl _) X D _ _ hDX hDo rfl rfl)⟩
  ·have hbl:b < f.blocks.length:=by omega
   have d0:decide ((b:Int) < (f.blocks.length:Int))=true:=decide_eq_true (by omega);have cG:∀W',CallsIn Fence.wide 5 Tryz.prog 164 #[.agg #[.string f.name,.int .i64 f.args,.int .i64 f.regs,.slice A f.blocks.length c],.int .i64 b] W' fun e w''=>e= .returned (.func (.func 189) #[] #[.pointer (some ⟨W'.heap.size+1,0,none⟩),.pointer (some ⟨W'.heap.size,0,none⟩)])∧
    w''=(W'.alloc (.cells #[.string f.name,.int .i64 f.args,.int .i64 f.regs,.slice A f.blocks.length c] 24)).alloc (.cells #[.int .i64 b] 3):=fun W'=>Afo Fence.wide 5 trivial rfl [.string f.name,.int .i64 f.args,.int .i64 f.regs,.slice A f.blocks.length c] b W' rfl
   have hfB2:=Ci hfB (.cells #[.int .i64 b] 3);have f0:=BK (j:=0) hfB2 rfl;have f1:=BK (j:=1) hfB2 rfl;have f2:=BK (j:=2) hfB2 rfl;have f3:=BK (j:=3) hfB2 rfl
   gi_wp2_with fail
   refine⟨trivial,(cG _).mono ?_⟩;rintro e w' ⟨rfl,rfl⟩;have hSo:∀k,((k≤w.heap.size∨k=w.heap.size+2∨k=W.heap.size)∨k=W.heap.size+1∨k=W.heap.size+1+1)→k < W.heap.size+1+1+1:=fun k hk=>by omega
   have hBW:Below W.heap.size W (((W.alloc (.cells #[.int .i64 b] 3)).alloc (.cells #[.string f.name,.int .i64 f.args,.int .i64 f.regs,.slice A f.blocks.length c] 24)).alloc (.cells #[.int .i64 b] 3)):=(((Below.refl _ _).alloc (Nat.le_refl _) _).alloc (by simp) _).alloc (by simp;omega) _;have hG2:=Afp (W:=W.alloc (.cells #[.int .i64 b] 3)) (S:=fun k=>k≤w.heap.size∨k=w.heap.size+2∨k=W.heap.size) (bi:=b)
    (CX.keepS HR.out (fun k hk=>by rw[Below.heap_alloc _ _ _ (by omega),hB.block k hk]) (fun k hk=>by omega)) (fun k hk=>by simp;omega) hl HI.out
   have hLs:((((W.alloc (.cells #[.int .i64 b] 3)).alloc (.cells #[.string f.name,.int .i64 f.args,.int .i64 f.regs,.slice A f.blocks.length c] 24)).alloc (.cells #[.int .i64 b] 3))).heap.size=W.heap.size+1+1+1:=by simp
   have hb4:(((W.alloc (.cells #[.int .i64 b] 3)).alloc (.cells #[.string f.name,.int .i64 f.args,.int .i64 f.regs,.slice A f.blocks.length c] 24)).alloc (.cells #[.int .i64 b] 3)).cell? ⟨W.heap.size,0,none⟩=some (.int .i64 b):=
    BK (cs:=[_]) (Ci (Ci (heap_alloc_new W _) _) _) rfl
   rw[World.size_alloc]at hG2;dsimp only[List.toArray]at hG2
   gi_wp2
   obtain⟨Wl,hWl⟩:∃Wl:World,Wl=(((W.alloc (.cells #[.int .i64 b] 3)).alloc (.cells #[.string f.name,.int .i64 f.args,.int .i64 f.regs,.slice A f.blocks.length c] 24)).alloc (.cells #[.int .i64 b] 3)):=⟨_,rfl⟩
   rw[←hWl]at hBW hG2 hLs hb4⊢;rw[←hLs]at hSo;clear hWl;have hRl:=(hR.avoid (S':=fun k=>(k≤w.heap.size∨k=w.heap.size+2∨k=W.heap.size)∨k=W.heap.size+1∨k=W.heap.size+1+1) (fun k hk=>by omega)).below hBW;refine wpIn_rangeFunc_ownG rfl (by decide) (gf:=189) (lb:=#[.pointer (some ⟨W.heap.size+1+1,0,none⟩),.pointer (some ⟨W.heap.size+1,0,none⟩)]) rfl trivial (enters_of Tryz.func189 (by kernel_rfl) rfl)
    (Wu Fence.wide 5 trivial rfl (by decide) f b (W.heap.size+1) (W.heap.size+1+1) (fun k=>(k≤w.heap.size∨k=w.heap.size+2∨k=W.heap.size)∨k=W.heap.size+1∨k=W.heap.size+1+1) _ hSo hG2) Aij (Aik hSo) (Below.refl _ _) (fun _=>rfl)
    (fun(pre:List (Blk f)) W'=>(∃vs,RowsAt W' w.heap.size (fun k=>(k≤w.heap.size∨k=w.heap.size+2∨k=W.heap.size)∨k=W.heap.size+1∨k=W.heap.size+1+1) (w.heap.size+1) vs (Km b pre (JB f b))∧
     KS (fun k=>(k≤w.heap.size∨k=w.heap.size+2∨k=W.heap.size)∨k=W.heap.size+1∨k=W.heap.size+1+1) Wl W'∧KeepsOthers Wl W')∧Below w.heap.size Wl W')
    (fun _ _ _=>False)
    (OwnFrom.and ?_ (ownFrom_below (by omega) (by omega)))
    (fun _ _ _ _ _ hs _ _=>hs)
    ⟨⟨vs,hRl,KS.refl,KeepsOthers.refl _⟩,Below.refl _ _⟩
    (fun x=>{tmps:=#[.agg #[.string f.name,.int .i64 f.args,.int .i64 f.regs,.slice A f.blocks.length c],.pointer (some ⟨w.heap.size,0,none⟩),.slice none 0 0,.pointer (some ⟨w.heap.size+1+1,0,none⟩),.pointer (some ⟨W.heap.size,0,none⟩),.int .i64 (PV x),.pointer (some ⟨w.heap.size,3,none⟩),.slice A f.blocks.length c,.int .i64 f.blocks.length,.slice (some ⟨w.heap.size+1,0,none⟩) f.blocks.length f.blocks.length,.pointer (some ⟨w.heap.size,3,none⟩),.slice A f.blocks.length c,.int .i64 f.blocks.length,.int .i64 b,.bool true,.int .i64 b,.agg #[.string f.name,.int .i64 f.args,.int .i64 f.regs,.slice A f.blocks.length c],.int .i64 b,.func (.func 189) #[] #[.pointer (some ⟨W.heap.size+1+1,0,none⟩),.pointer (some ⟨W.heap.size+1,0,none⟩)],.int .i64 (PV x),u20,u21,u22,u23,u24,u25,u26,u27,u28,u29,u30,undef],defers:=[]}) ?assign ?body ?done ?stop
   case assign=>
    intro l x W K hK
    gi_wp2
    exact hK
   case body=>
    rintro l pre x W' ⟨⟨vs',hR',hK',hO'⟩,hB'⟩ hlt;have hxl:x.1 < vs'.length:=by rw[hR'.len,LF,FH];exact x.2
    obtain⟨v,hv⟩:∃v,vs'[x.1]? =some v:=⟨_,List.getElem?_eq_getElem hxl⟩
    obtain⟨lk,hlk,hown⟩:=hR'.get hv;have hlen:lk.length≤2 * b+pre.length:=P2 pre (ZV f b) lk (List.mem_of_getElem? hlk);have hgd:(Km b pre (JB f b)).getD x.1 []=lk:=by rw[List.getD_eq_getElem?_getD,hlk];rfl
    have k0:(0:Int)≤PV x:=by unfold PV;omega
    have k1:PV x < (f.blocks.length:Int):=by unfold PV;have:=x.2;omega
    have k2:(PV x).toNat=x.1:=by unfold PV;omega
    have c3:=hK'.cell (a:=⟨w.heap.size+1+1,0,none⟩) (.inl (.inr (.inl rfl))) ((World.cell?_of_block (hBW.block (w.heap.size+1+1) (by omega))).trans hc3);have c4:=hK'.cell (a:=⟨W.heap.size,0,none⟩) (.inl (.inr (.inr rfl))) hb4;have cv:=hR'.cell hv
    gi_wp2
    have hO1:w.heap.size+1 < W'.heap.size:=Hl hR'.box;have hSl:∀k,((k≤w.heap.size∨k=w.heap.size+2∨k=W.heap.size)∨k=W.heap.size+1∨k=W.heap.size+1+1)→k < W'.heap.size:=fun k hk=>by have:=hSo k hk;have:=hK'.size;omega
    have hRd:RowsAt W'.drew w.heap.size (fun k=>(k≤w.heap.size∨k=w.heap.size+2∨k=W.heap.size)∨k=W.heap.size+1∨k=W.heap.size+1+1) (w.heap.size+1) vs' (Km b pre (JB f b)):=hR'.keep fun _ _=>rfl
    have hKa:KS (fun k=>(k≤w.heap.size∨k=w.heap.size+2∨k=W.heap.size)∨k=W.heap.size+1∨k=W.heap.size+1+1) W' (W'.alloc (.cells #[.int .i64 b] 3)):=⟨by simp,fun k hk=>Below.heap_alloc _ _ _ (hSl k hk)⟩
    have c3a:=hKa.cell (a:=⟨w.heap.size+1+1,0,none⟩) (.inl (.inr (.inl rfl))) c3;have c4a:=hKa.cell (a:=⟨W.heap.size,0,none⟩) (.inl (.inr (.inr rfl))) c4;have cva:=BK (Ci hR'.box (.cells #[.int .i64 b] 3)) hv;refine Gp (S:=fun X=>X.cell? ⟨w.heap.size+1+1,0,none⟩=some (.slice (some ⟨w.heap.size+1,0,none⟩) f.blocks.length f.blocks.length)∧X.cell? ⟨W.heap.size,0,none⟩=some (.int .i64 b)) (by kernel_rfl) (by kernel_rfl) (fun _ _ h=>h) ⟨c3,c4⟩ (fun hH=>?_);refine wpAnyH_take (i:=0) (v:=.slice (some ⟨w.heap.size+1,0,none⟩) f.blocks.length f.blocks.length) rfl (by kernel_rfl) (by kernel_rfl) (by kernel_rfl) (fun _ _ _ h=>h) (Or.inl ⟨by rfl,?_⟩) (by assumption) ?_
    ·rintro X ⟨h1,h3⟩
     go_simp
    simp only[Act.put,List.setIfInBounds_toArray];refine wpAnyH_take (i:=1) (v:=.int .i64 (PV x)) rfl (by kernel_rfl) (by kernel_rfl) (by kernel_rfl) (fun _ _ _ h=>h) (Or.inl ⟨by rfl,?_⟩) (by assumption) ?_
    ·rintro X ⟨h1,h3⟩
     go_simp
    simp only[Act.put];refine wpAnyH_take (i:=2) (v:=.slice (some ⟨w.heap.size+1,0,none⟩) f.blocks.length f.blocks.length) rfl (by kernel_rfl) (by kernel_rfl) (by kernel_rfl) (fun _ _ _ h=>h) (Or.inl ⟨by rfl,?_⟩) (by assumption) ?_
    ·rintro X ⟨h1,h3⟩
     go_simp
    simp only[Act.put];refine wpAnyH_take (i:=3) (v:=.int .i64 (PV x)) rfl (by kernel_rfl) (by kernel_rfl) (by kernel_rfl) (fun _ _ _ h=>h) (Or.inl ⟨by rfl,?_⟩) (by assumption) ?_
    ·rintro X ⟨h1,h3⟩
     go_simp
    simp only[Act.put];refine wpAnyH_take (i:=4) (v:=.pointer (some ⟨w.heap.size+1,x.1,none⟩)) rfl (by kernel_rfl) (by kernel_rfl) (by kernel_rfl) (fun _ _ _ h=>h) (Or.inl ⟨by rfl,?_⟩) (by assumption) ?_
    ·rintro X ⟨h1,h3⟩
     go_simp
    simp only[Act.put];refine wpAnyH_take (i:=6) (v:=.int .i64 b) rfl (by kernel_rfl) (by kernel_rfl) (by kernel_rfl) (fun _ _ _ h=>h) (Or.inl ⟨by rfl,?_⟩) (by assumption) ?_
    ·rintro X ⟨h1,h3⟩
     go_simp
    simp only[Act.put];refine wpAnyH_ready (rs:=[5,7]) (by kernel_rfl) (by simp) ?_;refine AllReadyH.cons rfl (fun K hK=>?_) (AllReadyH.cons rfl (fun K hK=>?_) AllReadyH.nil)
    ·go_simp
     refine hK.out _ _ ⟨c3,c4⟩ (fun hHeld=>?_);clear hK K;refine wpAnyH_ready (rs:=[7]) (by kernel_rfl) (by simp) ?_;refine AllReadyH.cons rfl (fun K hK=>?_) AllReadyH.nil
     go_simp
     refine hK.out _ _ ⟨c3a,c4a⟩ (fun hHeld=>?_);clear hK K;refine wpAnyH_ready (rs:=[8]) (by kernel_rfl) (by simp) ?_;refine AllReadyH.cons rfl (fun K hK=>?_) AllReadyH.nil;refine Qv rfl _ _ 25 rfl w.heap.size 3 i0 (.int .i64 0) 1 8 Tryz.underlying25 hiI hz0 hz1 hz2 rfl (by decide) (v:=v) (n:=lk.length) (xs:=lk.map (Value.int .i64)) rfl (hown.alloc (.cells #[.int .i64 b] 3)) (A:=some ⟨W'.heap.size,0,none⟩) (m:=1) (c:=1) (news:=[.int .i64 b]) rfl (Ga (w:=W'.drew) (size:=1) (m:=1) (cs:=#[.int .i64 b]) rfl) (by simp[Value.oneCell']) (by unfold maxLen;omega) (by omega) (by show w.heap.size≤(W'.alloc _).heap.size;simp;omega) ?_;intro v' w1 hown2 hgrow hat;obtain⟨g',cap',rfl⟩:=ownsRow_succ hown2;obtain⟨r1,r2,r3,r4,r5⟩:=hRd.step hSl hv hlk hown2 rfl hgrow hat;have r6:=hRd.step_below (v':=Value.slice (some ⟨g',0,none⟩) (lk.length+1) cap') hv (by show w.heap.size≤W'.heap.size;omega) hgrow;simp only[Act.put,List.setIfInBounds_toArray];have c3b:=r5.cell (a:=⟨w.heap.size+1+1,0,none⟩) (.inl (.inr (.inl rfl))) c3;have c4b:=r5.cell (a:=⟨W.heap.size,0,none⟩) (.inl (.inr (.inr rfl))) c4;refine hK.out _ _ ⟨c3b,c4b⟩ (fun hHeld=>?_);clear hK K;have hb1:=r4.trans hRd.box;have hfr:w1.frozen? ⟨w.heap.size+1,x.1,none⟩=false:=Mc hb1;have hcv1:=BK hb1 hv;refine wpAnyH_take (i:=9) (v:=.pointer (some ⟨w.heap.size+1,x.1,none⟩)) rfl (by kernel_rfl) (by kernel_rfl) (by kernel_rfl) (fun _ _ _ h=>h) (Or.inl ⟨by rfl,?_⟩) (by assumption) ?_
     ·rintro X ⟨h1,h3⟩
      go_simp
     simp only[Act.put];refine wpAnyH_ready (rs:=[10]) (by kernel_rfl) (by simp) ?_;refine AllReadyH.cons rfl (fun K hK=>?_) AllReadyH.nil
     go_simp
     refine hK.out _ _ ⟨r2.cell (W:=W'.drew) (a:=⟨w.heap.size+1+1,0,none⟩) (.inl (.inr (.inl rfl))) c3,r2.cell (W:=W'.drew) (a:=⟨W.heap.size,0,none⟩) (.inl (.inr (.inr rfl))) c4⟩ (fun hHeld=>?_);clear hK K;refine wpAnyH_done (by kernel_rfl) ?_ _;refine⟨⟨r3.size,fun k o _ hk ho=>r3.same k o hk ho⟩,⟨r2.size,r2.block⟩,⟨⟨vs'.set x.1 (.slice (some ⟨g',0,none⟩) (lk.length+1) cap'),?_,hK'.trans ⟨r2.size,r2.block⟩,hO'.trans ⟨r3.size,r3.same⟩⟩,hB'.trans ⟨r6.os,r6.tape,r6.output,r6.size,r6.block⟩⟩⟩;rw[OJ];unfold XB;rw[hgd];exact r1
    ·go_simp
     refine hK.out _ _ ⟨c3a,c4a⟩ (fun hHeld=>?_);clear hK K;refine wpAnyH_ready (rs:=[5]) (by kernel_rfl) (by simp) ?_;refine AllReadyH.cons rfl (fun K hK=>?_) AllReadyH.nil
     go_simp
     refine hK.out _ _ ⟨c3a,c4a⟩ (fun hHeld=>?_);clear hK K;refine wpAnyH_ready (rs:=[8]) (by kernel_rfl) (by simp) ?_;refine AllReadyH.cons rfl (fun K hK=>?_) AllReadyH.nil;refine Qv rfl _ _ 25 rfl w.heap.size 3 i0 (.int .i64 0) 1 8 Tryz.underlying25 hiI hz0 hz1 hz2 rfl (by decide) (v:=v) (n:=lk.length) (xs:=lk.map (Value.int .i64)) rfl (hown.alloc (.cells #[.int .i64 b] 3)) (A:=some ⟨W'.heap.size,0,none⟩) (m:=1) (c:=1) (news:=[.int .i64 b]) rfl (Ga (w:=W'.drew) (size:=1) (m:=1) (cs:=#[.int .i64 b]) rfl) (by simp[Value.oneCell']) (by unfold maxLen;omega) (by omega) (by show w.heap.size≤(W'.alloc _).heap.size;simp;omega) ?_;intro v' w1 hown2 hgrow hat;obtain⟨g',cap',rfl⟩:=ownsRow_succ hown2;obtain⟨r1,r2,r3,r4,r5⟩:=hRd.step hSl hv hlk hown2 rfl hgrow hat;have r6:=hRd.step_below (v':=Value.slice (some ⟨g',0,none⟩) (lk.length+1) cap') hv (by show w.heap.size≤W'.heap.size;omega) hgrow;simp only[Act.put,List.setIfInBounds_toArray];have c3b:=r5.cell (a:=⟨w.heap.size+1+1,0,none⟩) (.inl (.inr (.inl rfl))) c3;have c4b:=r5.cell (a:=⟨W.heap.size,0,none⟩) (.inl (.inr (.inr rfl))) c4;refine hK.out _ _ ⟨c3b,c4b⟩ (fun hHeld=>?_);clear hK K;have hb1:=r4.trans hRd.box;have hfr:w1.frozen? ⟨w.heap.size+1,x.1,none⟩=false:=Mc hb1;have hcv1:=BK hb1 hv;refine wpAnyH_take (i:=9) (v:=.pointer (some ⟨w.heap.size+1,x.1,none⟩)) rfl (by kernel_rfl) (by kernel_rfl) (by kernel_rfl) (fun _ _ _ h=>h) (Or.inl ⟨by rfl,?_⟩) (by assumption) ?_
     ·rintro X ⟨h1,h3⟩
      go_simp
     simp only[Act.put];refine wpAnyH_ready (rs:=[10]) (by kernel_rfl) (by simp) ?_;refine AllReadyH.cons rfl (fun K hK=>?_) AllReadyH.nil
     go_simp
     refine hK.out _ _ ⟨r2.cell (W:=W'.drew) (a:=⟨w.heap.size+1+1,0,none⟩) (.inl (.inr (.inl rfl))) c3,r2.cell (W:=W'.drew) (a:=⟨W.heap.size,0,none⟩) (.inl (.inr (.inr rfl))) c4⟩ (fun hHeld=>?_);clear hK K;refine wpAnyH_done (by kernel_rfl) ?_ _;refine⟨⟨r3.size,fun k o _ hk ho=>r3.same k o hk ho⟩,⟨r2.size,r2.block⟩,⟨⟨vs'.set x.1 (.slice (some ⟨g',0,none⟩) (lk.length+1) cap'),?_,hK'.trans ⟨r2.size,r2.block⟩,hO'.trans ⟨r3.size,r3.same⟩⟩,hB'.trans ⟨r6.os,r6.tape,r6.output,r6.size,r6.block⟩⟩⟩;rw[OJ];unfold XB;rw[hgd];exact r1
   case done=>
    rintro D ys W' hDl rfl ⟨⟨vs',hR',hK',hO'⟩,hB'⟩ hDo;have x1:IntKind.i64.wrap ((b:Int)+1)=((b+1:Nat):Int):=by rw[IntWalk.i64_in _ (by omega)];rfl
    gi_wp2
    have hlt':∀D'∈ds,D' < W.heap.size:=fun D' h'=>Hl (hD D' h').2
    refine⟨⟨b+1,D::ds,vs',_,_,_,_,_,_,_,_,_,_,_,_,_,_,_,_,_,_,_,by omega,rfl,hR'.avoid (fun k hk=>.inl (.inl (by omega))),hK.trans ⟨?_,fun k hk=>?_⟩,hB.trans ((hBW.mono (by omega)).trans hB'),?_,?_⟩,?_⟩
    ·have:=hBW.size;have:=hK'.size;omega
    ·exact(hK'.block k (.inl (by omega))).trans (hBW.block k (by omega))
    ·exact List.nodup_cons.2 ⟨fun h'=>by have:=hlt' D h';omega,hN⟩
    ·intro D' h';rcases List.mem_cons.1 h' with rfl|h'
     ·exact⟨by omega,hDo⟩
     ·exact⟨(hD D' h').1,hO'.same _ _ ((hBW.block D' (hlt' D' h')).trans (hD D' h').2) rfl⟩
    ·simp[RowKit.intOf];omega
   case stop=>
    rintro D c pre W _ _ h _;exact h.elim
   intro s X Y row hs hg hr;obtain⟨vs',h1,h2,h3⟩:=hs;refine⟨vs',h1.grown hg (fun r e=>(hr r e).2),⟨Nat.le_trans h2.size hg.size,fun k hk=>(hg.block k ?_ ?_).trans (h2.block k hk)⟩,⟨Nat.le_trans h3.size hg.size,fun k o hk ho=>(hg.block k ?_ ?_).trans (h3.same k o hk ho)⟩⟩
   ·have:=hSo k hk;have:=h2.size;omega
   ·intro e;have:=(hr k e.symm).1;have:=hSo k hk;omega
   ·have:=Hl (h3.same k o hk ho);omega
   ·intro e;have:=(hr k e.symm).1;have:=Hl hk;omega
attribute [local go_sem] Oper.semAt_some
def SV(ds:List Ins)(S:Int→Bool)(i:Nat):Int→Bool:=match ds[i]? with|some d=>GN d S|none=>S
def JH(R:List Int)(ds:List Ins)(p:(Int→Bool)×List (List Int))(i:Nat):(Int→Bool)×List (List Int):=(SV ds p.1 i,p.2.set i (R.filter (SV ds p.1 i)))
def CI(R:List Int)(ds:List Ins)(S:Int→Bool)(is:List Nat):(Int→Bool)×List (List Int):=is.foldl (JH R ds) (S,(List.replicate (ds.length+1) []).set ds.length (R.filter S))
theorem Q4(R:List Int)(ds:List Ins)(S:Int→Bool)(is:List Nat)(i:Nat):CI R ds S (is++[i])=JH R ds (CI R ds S is) i:=by simp[CI]
theorem Oq(R:List Int)(ds:List Ins)(S:Int→Bool){W0:World}{T:Nat→Prop}(pre:List (BkE W0 T ds))(x:BkE W0 T ds):CI R ds S (GM (pre++[x]))=JH R ds (CI R ds S (GM pre)) x.1.1:=by
 rw[show GM (pre++[x])=GM pre++[x.1.1]from by simp[GM],Q4]
theorem IP(R:List Int)(ds:List Ins)(S:Int→Bool)(is:List Nat):(CI R ds S is).2.length=ds.length+1:=by
 unfold CI;have key:∀(is:List Nat) (p:(Int→Bool)×List (List Int)),(is.foldl (JH R ds) p).2.length=p.2.length:=by
  intro is;induction is with
  |nil=>intro p;rfl
  |cons i l ih=>intro p;rw[List.foldl_cons,ih];simp[JH]
 rw[key];simp
theorem V4{R:List Int}{ds:List Ins}{S:Int→Bool}(hx:∀x∈ds,∀r∈readsC x,r∈R)(hin:InR R S)(is:List Nat):InR R (CI R ds S is).1:=by
 unfold CI;have key:∀(is:List Nat) (p:(Int→Bool)×List (List Int)),InR R p.1→InR R (is.foldl (JH R ds) p).1:=by
  intro is;induction is with
  |nil=>intro p h;exact h
  |cons i l ih=>
   intro p h;rw[List.foldl_cons];refine ih _ ?_;unfold JH SV;cases hd:ds[i]? with
   |none=>exact h
   |some d=>exact h.back (hx d (List.mem_of_getElem? hd))
 exact key is _ hin
def Fy(R:List Int)(ds:List Ins)(S:Int→Bool):List (List Int):=(CI R ds S (List.range ds.length).reverse).2
theorem V2(b:Block)(cs:List Value)(mb:Nat)(S:Int→Bool)(R:List Int)(w:World)(hR:B3.R w w.heap.size cs b)(hl:b.ins.length≤2097152)(hi:∀x∈b.ins,x.args.length≤2097152)(hs:Gk w mb S)(hRR:RegsR R)(hin:InR R S)
 (hx:∀x∈b.ins,∀r∈readsC x,r∈R):
 Calls Tryz.prog 71 #[.agg cs.toArray,.map (some mb)] w fun e W'=>∃(O:Nat) (vs:List Value),e= .returned (.slice (some ⟨O,0,none⟩) (b.ins.length+1) (b.ins.length+1))∧RowsAt W' w.heap.size (fun _=>False) O vs (Fy R b.ins S)∧Below w.heap.size w W':=by
 refine(callsIn_wide (n:=6)).1 ?_;obtain⟨A,c,rfl,-,-⟩:=Is.1 hR;have HR:=Lib.hid hR;have HI:=Lib.hid hi;have HX:=Lib.hid hx;clear hR hi hx;have hmb:=hs.lt;have hmk:∀W:World,(Instr.makeSlice 74 (.int .i64 ((b.ins.length:Int)+1)) (.int .i64 ((b.ins.length:Int)+1))).run Tryz.prog W= .ok (.slice (some ⟨W.heap.size,0,none⟩) (b.ins.length+1) (b.ins.length+1)) (W.alloc (.cells (List.replicate (b.ins.length+1) (Value.slice none 0 0)).toArray 25)):=by
  intro W;have h:=run_make_row' (P:=Tryz.prog) 74 25 (.slice none 0 0) 24 Tryz.underlying74 Uy rfl .i64 .i64 (b.ins.length+1) (by omega) (by omega) W;rw[UU]at h;exact h
 have x1:IntKind.i64.wrap ((b.ins.length:Int)+1)=(b.ins.length:Int)+1:=IntWalk.i64_in _ (by omega);have cC:∀W':World,Gk W' mb S→Calls Tryz.prog 120 #[.map (some mb)] W' fun e w'=>e= .returned (.map (some W'.heap.size))∧Gk w' W'.heap.size S∧∃es c,w'=W'.alloc (.map es c):=fun W' h=>RR W' h
 refine callsIn_of_wp_marks Tryz.func71 rfl trivial ?_ rfl;simp only[Tryz.ntmps71,List.size_toArray,List.length_cons,List.length_nil,Nat.reduceAdd,Nat.reduceSub,Array.replicate_succ,Array.replicate_zero,List.push_toArray,List.append_toArray,List.nil_append,List.cons_append]
 gi_wp2_with fail
 refine⟨trivial,callsIn_wide.2 ((cC _ ?_).mono ?_)⟩
 ·refine hs.keep ?_;rw[Below.heap_alloc _ _ _ (by simp;omega),Below.heap_alloc _ _ _ (by simp;omega),Below.heap_alloc _ _ _ hmb]
 rintro e w' ⟨rfl,hs1,es,ec,rfl⟩
 gi_wp2_with fail
 simp only[World.size_alloc]at hs1⊢;obtain⟨W2,hW2⟩:∃W2:World,W2=((((w.alloc (.cells #[.string b.name,.slice A b.ins.length c] 65)).alloc (.cells (Array.replicate (b.ins.length+1) (Value.slice none 0 0)) 25)).alloc (.cells #[.slice (some ⟨w.heap.size+1,0,none⟩) (b.ins.length+1) (b.ins.length+1)] 74)).alloc (.map es ec)).alloc (.cells #[.map (some (w.heap.size+1+1+1))] 110):=⟨_,rfl⟩
 have hWs:W2.heap.size=w.heap.size+1+1+1+1+1:=by rw[hW2];simp
 have hM:=(show Gk W2 (w.heap.size+1+1+1) S from hs1.keep (by rw[hW2];exact Below.heap_alloc _ _ _ (by simp)))
 have hBw:Below w.heap.size w W2:=by
  rw[hW2];exact(((((Below.refl _ w).alloc (Nat.le_refl _) _).alloc (by simp) _).alloc (by simp;omega) _).alloc (by simp;omega) _).alloc (by simp;omega) _
 have hbB:W2.heap[w.heap.size]? =some (.cells [.string b.name,.slice A b.ins.length c].toArray 65 (0,0)):=by
  rw[hW2];exact Ci (Ci (Ci (Ci (heap_alloc_new w _) _) _) _) _
 have hOB:W2.heap[w.heap.size+1]? =some (.cells (List.replicate (b.ins.length+1) (Value.slice none 0 0)).toArray 25 (0,0)):=by
  rw[hW2];refine Ci (Ci (Ci ?_ _) _) _;have h:=heap_alloc_new (w.alloc (.cells #[.string b.name,.slice A b.ins.length c] 65)) (.cells (Array.replicate (b.ins.length+1) (Value.slice none 0 0)) 25);rw[World.size_alloc]at h;rw[h];simp
 have c5:W2.cell? ⟨w.heap.size+1+1,0,none⟩=some (.slice (some ⟨w.heap.size+1,0,none⟩) (b.ins.length+1) (b.ins.length+1)):=by
  rw[hW2];have h:=heap_alloc_new ((w.alloc (.cells #[.string b.name,.slice A b.ins.length c] 65)).alloc (.cells (Array.replicate (b.ins.length+1) (Value.slice none 0 0)) 25)) (.cells #[.slice (some ⟨w.heap.size+1,0,none⟩) (b.ins.length+1) (b.ins.length+1)] 74);rw[World.size_alloc,World.size_alloc]at h;exact BK (cs:=[_]) (Ci (Ci h _) _) rfl
 have c6:W2.cell? ⟨w.heap.size+1+1+1+1,0,none⟩=some (.map (some (w.heap.size+1+1+1))):=by
  have h:=heap_alloc_new ((((w.alloc (.cells #[.string b.name,.slice A b.ins.length c] 65)).alloc (.cells (Array.replicate (b.ins.length+1) (Value.slice none 0 0)) 25)).alloc (.cells #[.slice (some ⟨w.heap.size+1,0,none⟩) (b.ins.length+1) (b.ins.length+1)] 74)).alloc (.map es ec)) (.cells #[.map (some (w.heap.size+1+1+1))] 110);rw[←hW2]at h;simp only[World.size_alloc]at h;exact BK (cs:=[_]) h rfl
 rw[←hW2];clear hW2 hs1 cC hmk hs;have q5:∀w',KS (fun k=>k=w.heap.size∨k=w.heap.size+2∨k=w.heap.size+4) W2 w'→w'.cell? ⟨w.heap.size+1+1,0,none⟩=some (.slice (some ⟨w.heap.size+1,0,none⟩) (b.ins.length+1) (b.ins.length+1)):=fun w' h=>h.cell (.inr (.inl rfl)) c5
 have q6:∀w',KS (fun k=>k=w.heap.size∨k=w.heap.size+2∨k=w.heap.size+4) W2 w'→w'.cell? ⟨w.heap.size+1+1+1+1,0,none⟩=some (.map (some (w.heap.size+1+1+1))):=fun w' h=>h.cell (.inr (.inr rfl)) c6
 have qb:∀w',KS (fun k=>k=w.heap.size∨k=w.heap.size+2∨k=w.heap.size+4) W2 w'→w'.cell? ⟨w.heap.size,1,none⟩=some (.slice A b.ins.length c):=fun w' h=>h.cell (.inl rfl) (BK (j:=1) hbB rfl)
 have hdr:KS (fun k=>k=w.heap.size∨k=w.heap.size+2∨k=w.heap.size+4) W2 W2.drew:=⟨Nat.le_refl _,fun _ _=>rfl⟩
 have hset:∀X v,KS (fun k=>k=w.heap.size∨k=w.heap.size+2∨k=w.heap.size+4) W2 X→KS (fun k=>k=w.heap.size∨k=w.heap.size+2∨k=w.heap.size+4) W2 (X.setCell ⟨w.heap.size+1,b.ins.length,none⟩ v):=fun X v h=>
  ⟨by have:=h.size;simpa[World.setCell]using this,fun k hk=>(Below.heap_setCell _ _ _ _ (by show k≠w.heap.size+1;omega)).trans (h.block k hk)⟩
 have hcall:∀X Y,KS (fun k=>k=w.heap.size∨k=w.heap.size+2∨k=w.heap.size+4) W2 X→Below X.heap.size X Y→KS (fun k=>k=w.heap.size∨k=w.heap.size+2∨k=w.heap.size+4) W2 Y:=fun X Y h hb=>
  ⟨Nat.le_trans h.size hb.size,fun k hk=>(hb.block k (by have:=h.size;omega)).trans (h.block k hk)⟩
 have hM0:Gk W2.drew (w.heap.size+1+1+1) S:=hM.keep rfl;have i1:(0:Int)≤(b.ins.length:Int):=by omega
 have i2:(b.ins.length:Int) < ((b.ins.length+1:Nat):Int):=by omega
 have i3:(b.ins.length:Int) < (b.ins.length:Int)+1:=by omega
 have hfr:∀w3:World,Below W2.drew.heap.size W2.drew w3→w3.frozen? ⟨w.heap.size+1,b.ins.length,none⟩=false:=fun w3 h=>Mc ((h.block _ (by show w.heap.size+1 < W2.heap.size;omega)).trans hOB)
 have hcw:∀w3:World,Below W2.drew.heap.size W2.drew w3→w3.cell? ⟨w.heap.size+1,b.ins.length,none⟩=some (.slice none 0 0):=fun w3 h=>BK ((h.block _ (by show w.heap.size+1 < W2.heap.size;omega)).trans hOB) (by simp)
 refine wpIn_wide.2 ?_
 go_region_held3 (fun w'=>KS (fun k=>k=w.heap.size∨k=w.heap.size+2∨k=w.heap.size+4) W2 w')
  (first|assumption|exact hset _ _ (by assumption))
  (first|((with_reducible refine(UA W2.drew hM0 hRR.asc hRR.wf hin.mem hRR.len).mono ?_);rintro e w3 ⟨v0,rfl,ho0,hb0⟩;have hk3:=hcall _ _ hdr hb0;have hf3:=hfr _ hb0;have hc3:=hcw _ hb0;obtain⟨A0,c0,rfl⟩:=L3 ho0))
 obtain⟨rr,rk,rb,rO⟩:=(LG (W:=W2.drew) (S:=fun k=>k≤w.heap.size∨k=w.heap.size+2∨k=w.heap.size+4) (base:=w.heap.size) (O:=w.heap.size+1) (n:=b.ins.length+1) hOB (by omega) (by omega)).put (fun k hk=>by show k < W2.heap.size;omega) hb0 (by show w.heap.size≤W2.heap.size;omega) (k:=b.ins.length) (by simp) ho0;have hM3:Gk (w3.setCell ⟨w.heap.size+1,b.ins.length,none⟩ (.slice A0 (List.filter S R).length c0)) (w.heap.size+1+1+1) S:=by
  refine hM.keep ((Below.heap_setCell _ _ _ _ (by show w.heap.size+1+1+1≠w.heap.size+1;omega)).trans (hb0.block _ (by show w.heap.size+1+1+1 < W2.heap.size;omega)))
 have hK3:=hset _ (.slice A0 (List.filter S R).length c0) hk3;have hb3:Below w.heap.size w (w3.setCell ⟨w.heap.size+1,b.ins.length,none⟩ (.slice A0 (List.filter S R).length c0)):=hBw.trans ⟨rb.os,rb.tape,rb.output,rb.size,rb.block⟩;have hrk:KS (fun k=>k≤w.heap.size∨k=w.heap.size+2∨k=w.heap.size+4) W2 (w3.setCell ⟨w.heap.size+1,b.ins.length,none⟩ (.slice A0 (List.filter S R).length c0)):=⟨rk.size,rk.block⟩
 obtain⟨W3,hW3⟩:∃W3:World,W3=w3.setCell ⟨w.heap.size+1,b.ins.length,none⟩ (.slice A0 (List.filter S R).length c0):=⟨_,rfl⟩
 rw[←hW3]at rr hM3 hK3 hb3 hrk⊢;have hcb:=qb _ hK3;have hW3s:=hrk.size;clear hW3 hset hcall hfr hcw ho0 hM0 rk rb
 gi_wp2_with fail
 refine⟨trivial,(Nq Fence.wide 5 trivial rfl A b.ins.length c W3).mono ?_⟩;rintro e w' ⟨rfl,rfl⟩
 gi_wp2_with fail
 have hSl:∀k,((k≤w.heap.size∨k=w.heap.size+2∨k=w.heap.size+4)∨k=W3.heap.size)→k < W3.heap.size+1:=fun k hk=>by omega
 have hRl:=(rr.avoid (S':=fun k=>(k≤w.heap.size∨k=w.heap.size+2∨k=w.heap.size+4)∨k=W3.heap.size) (fun k hk=>by omega)).below ((Below.refl W3.heap.size W3).alloc (Nat.le_refl _) (.cells #[.slice A b.ins.length c] 63));have hMl:Gk (W3.alloc (.cells #[.slice A b.ins.length c] 63)) (w.heap.size+1+1+1) S:=hM3.keep (Below.heap_alloc _ _ _ (by omega));have hBl:Below w.heap.size w (W3.alloc (.cells #[.slice A b.ins.length c] 63)):=hb3.alloc (by omega) _;have hLs:(W3.alloc (.cells #[.slice A b.ins.length c] 63)).heap.size=W3.heap.size+1:=by simp
 have hcB:(W3.alloc (.cells #[.slice A b.ins.length c] 63)).cell? ⟨W3.heap.size,0,none⟩=some (.slice A b.ins.length c):=BK (cs:=[_]) (heap_alloc_new W3 _) rfl;have hKl:KS (fun k=>k=w.heap.size∨k=w.heap.size+2∨k=w.heap.size+4) W2 (W3.alloc (.cells #[.slice A b.ins.length c] 63)):=hK3.alloc (fun k hk=>by omega) _;obtain⟨Wl,hWl⟩:∃Wl:World,Wl=W3.alloc (.cells #[.slice A b.ins.length c] 63):=⟨_,rfl⟩
 rw[←hWl]at hRl hMl hBl hLs hcB hKl⊢;rw[←hLs]at hSl;clear hWl;obtain⟨A',c',eA,-,hIR⟩:=Is.1 HR.out;obtain⟨rfl,rfl⟩:A=A'∧c=c':=by simp only[List.cons.injEq,Value.slice.injEq]at eA;exact⟨eA.2.1.1,eA.2.1.2.2⟩
 have hIl:Ep.slice.RS Wl (fun k=>(k≤w.heap.size∨k=w.heap.size+2∨k=w.heap.size+4)∨k=W3.heap.size) [.slice A b.ins.length c] b.ins:=Ep.slice.keepS hIR (fun k hk=>hBl.block k hk) (fun k hk=>.inl (.inl (Nat.le_of_lt hk)));refine wpIn_rangeFunc_ownH rfl (by decide) (gf:=166) (lb:=#[.pointer (some ⟨W3.heap.size,0,none⟩)]) rfl trivial (enters_of Tryz.func166 (by kernel_rfl) rfl)
  (NX Fence.wide 5 trivial rfl (by decide) b.ins A c W3.heap.size (fun k=>(k≤w.heap.size∨k=w.heap.size+2∨k=w.heap.size+4)∨k=W3.heap.size) Wl hSl (.inr rfl) hcB hIl hl) Aij (Aik hSl) (Below.refl _ _) (fun _=>rfl)
  (fun pre W'=>(∃vs,RowsAt W' w.heap.size (fun k=>(k≤w.heap.size∨k=w.heap.size+2∨k=w.heap.size+4)∨k=W3.heap.size) (w.heap.size+1) vs (CI R b.ins S (GM pre)).2∧Gk W' (w.heap.size+1+1+1) (CI R b.ins S (GM pre)).1∧KS (fun k=>(k≤w.heap.size∨k=w.heap.size+2∨k=w.heap.size+4)∨k=W3.heap.size) Wl W')∧Below w.heap.size Wl W')
  (fun _ _ _=>False)
  (OwnFrom.and ?own (ownFrom_below (by omega) (by omega)))
  (fun _ _ _ _ _ hs _ _=>hs)
  ⟨⟨_,hRl,hMl,KS.refl⟩,Below.refl _ _⟩
  (fun x a' W'=>∃B8,a'= {tmps:=#[.agg #[.string b.name,.slice A b.ins.length c],.map (some mb),.pointer (some ⟨w.heap.size,0,none⟩),undef,.slice none 0 0,.pointer (some ⟨w.heap.size+1+1,0,none⟩),.pointer (some ⟨w.heap.size+1+1+1+1,0,none⟩),.int .i64 ((x.1.1:Nat):Int),.pointer (some ⟨B8,0,none⟩),.pointer (some ⟨w.heap.size,1,none⟩),.slice A b.ins.length c,.int .i64 b.ins.length,.int .i64 ((b.ins.length:Int)+1),.slice (some ⟨w.heap.size+1,0,none⟩) (b.ins.length+1) (b.ins.length+1),.map (some mb),.map (some (w.heap.size+1+1+1)),.slice (some ⟨w.heap.size+1,0,none⟩) (b.ins.length+1) (b.ins.length+1),.pointer (some ⟨w.heap.size,1,none⟩),.slice A b.ins.length c,.int .i64 b.ins.length,.map (some (w.heap.size+1+1+1)),.slice A0 (List.filter S R).length c0,.pointer (some ⟨w.heap.size+1,b.ins.length,none⟩),.pointer (some ⟨w.heap.size,1,none⟩),.slice A b.ins.length c,.func (.func 166) #[] #[.pointer (some ⟨W3.heap.size,0,none⟩)],.int .i64 ((x.1.1:Nat):Int),.agg x.1.2.toArray,undef,undef,undef,undef,undef,undef,undef,undef,undef],defers:=[]}∧W'.heap[B8]? =some (.cells x.1.2.toArray 62 (0,0))) ?ax ?assign ?body ?done ?stop
 case own=>
  intro s X Y row hs hg hr;obtain⟨vs',h1,h2,h3⟩:=hs;refine⟨vs',h1.grown hg (fun r e=>(hr r e).2),h2.keep (hg.block _ h2.lt fun e=>by have:=(hr _ e.symm).1;omega),⟨Nat.le_trans h3.size hg.size,fun k hk=>(hg.block k ?_ ?_).trans (h3.block k hk)⟩⟩
  ·have:=hSl k hk;have:=h3.size;omega
  ·intro e;have:=(hr k e.symm).1;have:=hSl k hk;omega
 case ax=>
  rintro x a' _ X Y row ⟨B8,ha,hB8⟩ hg hr;refine⟨B8,ha,(hg.block _ (Hl hB8) fun e=>?_).trans hB8⟩;obtain⟨o,ho,hoc⟩:=(hr _ e.symm).2;rw[hB8]at ho;cases ho;cases hoc
 case assign=>
  rintro l pre ⟨⟨j,es⟩,d,hjd,hdR⟩ W K ⟨⟨vs',h1,h2,h3⟩,h4⟩ hK;obtain⟨Aa,ca,hI⟩:=Fk.1 hdR;have e:=hI.cs;dsimp only at e;subst e;dsimp only[Ac3]
  gi_wp2
  refine hK _ _ ⟨by simp,fun k o _ hk _=>(Below.heap_alloc _ _ _ (Hl hk)).trans hk⟩ ⟨by simp,fun k hk=>Below.heap_alloc _ _ _ (by have:=hSl k hk;have:=h3.size;omega)⟩ ⟨⟨vs',h1.below ((Below.refl _ _).alloc (Nat.le_refl _) _),h2.keep (Below.heap_alloc _ _ _ h2.lt),h3.alloc (fun k hk=>by have:=hSl k hk;have:=h3.size;omega) _⟩,h4.alloc (by have:=h4.size;omega) _⟩ ⟨W.heap.size,rfl,heap_alloc_new W _⟩
 case body=>
  rintro l pre ⟨⟨j,es⟩,d,hjd,hdR⟩ a' W' _ _ ⟨⟨vs',h1,h2,h3⟩,h4⟩ ⟨B8,rfl,hB8⟩ hlt;obtain⟨Aa,ca,hI⟩:=Fk.1 hdR;have e:=hI.cs;dsimp only at e;subst e;dsimp only at hjd hB8⊢;have hjl:j < b.ins.length:=(List.getElem?_eq_some_iff.1 hjd).1;have hdm:=List.mem_of_getElem? hjd;have hda:=HI.out d hdm;have hdx:=HX.out d hdm;have e0:=BK (j:=0) hB8 rfl;have e1:=BK (j:=1) hB8 rfl;have e2:=BK (j:=2) hB8 rfl;have e3:=BK (j:=3) hB8 rfl;have e4:=BK (j:=4) hB8 rfl;have e5:=BK (j:=5) hB8 rfl;have e6:=BK (j:=6) hB8 rfl;have e7:=BK (j:=7) hB8 rfl;have e8:=BK (j:=8) hB8 rfl;have c6':=h3.cell (a:=⟨w.heap.size+1+1+1+1,0,none⟩) (.inl (.inr (.inr rfl))) (q6 _ hKl);have hst:InR R (CI R b.ins S (GM pre)).1:=V4 HX.out hin _
  gi_wp2_with fail
  refine⟨trivial,La ((R6 d (w.heap.size+1+1+1) _ R W' _ (Ep.keepS hdR (fun k hk=>h3.block k hk) (fun k hk=>by have:=hSl k hk;have:=h3.size;omega)) hda h2 hRR hst hdx).mono ?_)⟩;rintro e W4 ⟨rfl,hm4,hg4⟩;obtain⟨mes,mec,hmap⟩:=h2.mapAt;have k3:KS (fun k=>(k≤w.heap.size∨k=w.heap.size+2∨k=w.heap.size+4)∨k=W3.heap.size) W' W4:=⟨hg4.size,fun k hk=>hg4.block k (by have:=hSl k hk;have:=h3.size;omega) (fun e=>by injection e;omega)⟩
  have r4:=h1.grown hg4 (fun r e=>by injection e with e;subst e;exact⟨_,hmap,rfl⟩);have hf4:KeepsFrom Wl.heap.size W' W4:=KeepsFrom.of_grownBy hg4 (fun j e=>by injection e;omega);have hb4:Below w.heap.size W' W4:=NW hg4 (by have:=h4.size;omega) (by omega);have h34:=h3.trans k3;have c54:=h34.cell (a:=⟨w.heap.size+1+1,0,none⟩) (.inl (.inr (.inl rfl))) (q5 _ hKl);have c64:=h34.cell (a:=⟨w.heap.size+1+1+1+1,0,none⟩) (.inl (.inr (.inr rfl))) (q6 _ hKl)
  gi_wp2_with fail
  have j0:(0:Int)≤(j:Int):=by omega
  have j1:(j:Int) < (b.ins.length:Int)+1:=by omega
  have hst4:InR R (GN d (CI R b.ins S (GM pre)).1):=hst.back hdx;refine Gp (S:=fun X=>X.cell? ⟨w.heap.size+1+1,0,none⟩=some (.slice (some ⟨w.heap.size+1,0,none⟩) (b.ins.length+1) (b.ins.length+1))∧X.cell? ⟨w.heap.size+1+1+1+1,0,none⟩=some (.map (some (w.heap.size+1+1+1)))) (by kernel_rfl) (by kernel_rfl) (fun _ _ h=>h) ⟨c54,c64⟩ (fun hH=>?_);refine wpAnyH_take (i:=0) (v:=.slice (some ⟨w.heap.size+1,0,none⟩) (b.ins.length+1) (b.ins.length+1)) rfl (by kernel_rfl) (by kernel_rfl) (by kernel_rfl) (fun _ _ _ h=>h) (Or.inl ⟨by rfl,?_⟩) (by assumption) ?_
  ·rintro X ⟨h1,h2⟩
   go_simp
  simp only[Act.put,List.setIfInBounds_toArray,List.set_cons_zero,List.set_cons_succ];refine wpAnyH_take (i:=1) (v:=.int .i64 (j:Int)) rfl (by kernel_rfl) (by kernel_rfl) (by kernel_rfl) (fun _ _ _ h=>h) (Or.inl ⟨by rfl,?_⟩) (by assumption) ?_
  ·rintro X ⟨h1,h2⟩
   go_simp
  simp only[Act.put,List.setIfInBounds_toArray,List.set_cons_zero,List.set_cons_succ];refine wpAnyH_take (i:=2) (v:=.map (some (w.heap.size+1+1+1))) rfl (by kernel_rfl) (by kernel_rfl) (by kernel_rfl) (fun _ _ _ h=>h) (Or.inl ⟨by rfl,?_⟩) (by assumption) ?_
  ·rintro X ⟨h1,h2⟩
   go_simp
  simp only[Act.put,List.setIfInBounds_toArray,List.set_cons_zero,List.set_cons_succ];refine wpAnyH_ready (rs:=[3]) (by kernel_rfl) (by simp) ?_;refine AllReadyH.cons rfl (fun K hK=>?_) AllReadyH.nil
  go_simp
  refine(UA W4.drew (hm4.keep rfl) hRR.asc hRR.wf hst4.mem hRR.len).mono ?_;rintro e w5 ⟨v5,rfl,ho5,hb5⟩;obtain⟨A5,c5,rfl⟩:=L3 ho5;have hW4s:Wl.heap.size≤W4.heap.size:=h34.size;have r4d:RowsAt W4.drew w.heap.size (fun k=>(k≤w.heap.size∨k=w.heap.size+2∨k=w.heap.size+4)∨k=W3.heap.size) (w.heap.size+1) vs' (CI R b.ins S (GM pre)).2:=r4.keep fun _ _=>rfl
  have hvl:j < vs'.length:=by
   have:=r4.len;rw[this,IP];omega
  obtain⟨r5,k5,b5,hO5⟩:=r4d.put (fun k hk=>by show k < W4.heap.size;have:=hSl k hk;omega) hb5 (by show w.heap.size≤W4.heap.size;omega) hvl ho5;have k45:KS (fun k=>(k≤w.heap.size∨k=w.heap.size+2∨k=w.heap.size+4)∨k=W3.heap.size) W4 w5:=⟨hb5.size,fun k hk=>hb5.block k (by show k < W4.heap.size;have:=hSl k hk;omega)⟩
  have c55:=k45.cell (a:=⟨w.heap.size+1+1,0,none⟩) (.inl (.inr (.inl rfl))) c54;have c65:=k45.cell (a:=⟨w.heap.size+1+1+1+1,0,none⟩) (.inl (.inr (.inr rfl))) c64;have hbx:=hO5.trans r4d.box;have hf5:w5.frozen? ⟨w.heap.size+1,j,none⟩=false:=Mc hbx;obtain⟨vj,hvj⟩:∃v,vs'[j]? =some v:=⟨_,List.getElem?_eq_getElem hvl⟩
  have hcj:=BK hbx hvj;refine hK.out _ _ ⟨c55,c65⟩ (fun hHeld=>?_);clear hK K;refine wpAnyH_take (i:=4) (v:=.pointer (some ⟨w.heap.size+1,j,none⟩)) rfl (by kernel_rfl) (by kernel_rfl) (by kernel_rfl) (fun _ _ _ h=>h) (Or.inl ⟨by rfl,?_⟩) (by assumption) ?_
  ·rintro X ⟨h1,h2⟩
   go_simp
  simp only[Act.put,List.setIfInBounds_toArray,List.set_cons_zero,List.set_cons_succ];refine wpAnyH_ready (rs:=[5]) (by kernel_rfl) (by simp) ?_;refine AllReadyH.cons rfl (fun K hK=>?_) AllReadyH.nil
  go_simp
  have k4f:KS (fun k=>(k≤w.heap.size∨k=w.heap.size+2∨k=w.heap.size+4)∨k=W3.heap.size) W4 (w5.setCell ⟨w.heap.size+1,j,none⟩ (.slice A5 (List.filter (GN d (CI R b.ins S (GM pre)).fst) R).length c5)):=⟨k5.size,k5.block⟩
  refine hK.out _ _ ⟨k4f.cell (a:=⟨w.heap.size+1+1,0,none⟩) (.inl (.inr (.inl rfl))) c54,k4f.cell (a:=⟨w.heap.size+1+1+1+1,0,none⟩) (.inl (.inr (.inr rfl))) c64⟩ (fun hHeld=>?_);clear hK K;refine wpAnyH_done (by kernel_rfl) ?_ _;have hstep:SV b.ins (CI R b.ins S (GM pre)).1 j=GN d (CI R b.ins S (GM pre)).1:=by unfold SV;rw[hjd]
  refine⟨⟨Nat.le_trans hf4.size k5.size,fun k o hB hk ho=>?_⟩,k3.trans k4f,⟨⟨vs'.set j (.slice A5 (List.filter (GN d (CI R b.ins S (GM pre)).fst) R).length c5),?_,?_,h34.trans k4f⟩,h4.trans (hb4.trans ⟨b5.os,b5.tape,b5.output,b5.size,b5.block⟩)⟩⟩
  ·have hk4:=hf4.same k o hB hk ho;exact(Below.heap_setCell _ _ _ _ (by show k≠w.heap.size+1;omega)).trans ((hb5.block k (Hl hk4)).trans hk4)
  ·rw[Oq];unfold JH;dsimp only;rw[hstep];exact r5
  ·rw[Oq];unfold JH;dsimp only;rw[hstep];exact hm4.keep ((Below.heap_setCell _ _ _ _ (by show w.heap.size+1+1+1≠w.heap.size+1;omega)).trans (hb5.block _ hm4.lt))
 case done=>
  rintro D ys W' hDl hys ⟨⟨vs',h1,h2,h3⟩,h4⟩ hDo;have c5':=h3.cell (a:=⟨w.heap.size+1+1,0,none⟩) (.inl (.inr (.inl rfl))) (q5 _ hKl)
  gi_wp2
  refine⟨by simp,.inl ⟨_,_,rfl,run_takeDeferred hDo,?_⟩⟩;refine⟨_,results_tmp rfl _ _ _,?_⟩;refine⟨w.heap.size+1,rfl,⟨vs',?_⟩,hBl.trans (h4.trans (belowK_b (w:=w) (Nat.le_refl _) W' D _ _ (by omega) hDo rfl rfl))⟩;unfold Fy;rw[←hys];exact(h1.grown (grownBy_putObj' W' D _) (fun r e=>by cases e;exact⟨_,hDo,rfl⟩)).avoid (fun _ h=>h.elim)
 case stop=>
  rintro D c pre W _ _ h _;exact h.elim
end Mu
end
section
namespace Mu
open Go Go.RowKit Go.Proofs
def Qr(l:List Ins)(m:Nat):Nat:=((l.take m).map fun x=>x.args.length).sum
def sumB(f:Func)(b:Nat):Nat:=((f.blocks.take b).map fun bl=>bl.ins.length+Qr bl.ins 200).sum
def H9(f:Func):Bool:=decide (40 < f.blocks.length)||decide (250 < sumB f 60)
theorem Qq{l:List Ins}{m:Nat}{x:Ins}(hx:l[m]? =some x):Qr l (m+1)=Qr l m+x.args.length:=by
 unfold Qr;rw[List.take_add_one,hx,List.map_append,List.sum_append];simp
theorem Qp{f:Func}{b:Nat}{x:Block}(hx:f.blocks[b]? =some x):sumB f (b+1)=sumB f b+(x.ins.length+Qr x.ins 200):=by
 unfold sumB;rw[List.take_add_one,hx,List.map_append,List.sum_append];simp
theorem XS{l:List Ins}(h:∀x∈l,x.args.length≤2097152)(m:Nat):Qr l m≤m * 2097152:=by
 induction m with
 |zero=>simp[Qr]
 |succ m ih=>
  cases hx:l[m]? with
  |none=>
   have:Qr l (m+1)=Qr l m:=by unfold Qr;rw[List.take_add_one,hx];simp
   omega
  |some x=>
   rw[Qq hx];have:=h x (List.mem_of_getElem? hx);omega
theorem Aeg{f:Func}(hs:smallF f)(b:Nat):sumB f b≤b * 421527552:=by
 induction b with
 |zero=>simp[sumB]
 |succ b ih=>
  cases hx:f.blocks[b]? with
  |none=>
   have:sumB f (b+1)=sumB f b:=by unfold sumB;rw[List.take_add_one,hx];simp
   omega
  |some x=>
   rw[Qp hx];have h1:=hs.all x (List.mem_of_getElem? hx);have h2:=h1.ins;have h3:=XS (l:=x.ins) (fun y hy=>by have:=h1.all y hy;omega) 200;omega
theorem Abb{l:List Ins}{i:Nat}(hi:i≤l.length)(h:¬(i < l.length∧i < 200))(h2:i≤200):Qr l i=Qr l 200:=by
 by_cases hl:i < l.length
 ·have:i=200:=by omega
  rw[this]
 ·have:i=l.length:=by omega
  unfold Qr;rw[List.take_of_length_le (by omega),List.take_of_length_le (by omega)]
theorem Aba{f:Func}{b:Nat}(hi:b≤f.blocks.length)(h:¬(b < f.blocks.length∧b < 60))(h2:b≤60):sumB f b=sumB f 60:=by
 by_cases hl:b < f.blocks.length
 ·have:b=60:=by omega
  rw[this]
 ·have:b=f.blocks.length:=by omega
  unfold sumB;rw[List.take_of_length_le (by omega),List.take_of_length_le (by omega)]
theorem Qj{p q:Bool}(h:¬(p=true∧q=true)):p=false∨(p=true∧q=false):=by cases p <;> cases q <;> simp at h⊢
theorem Wt(f:Func)(hs:smallF f):Fn Tryz.prog 27 [.agg (Aq f)] (.lit (.bool (H9 f))):=by
 have hbl:=hs.blocks;refine AE Tryz.func27 rfl (by kernel_rfl) rfl Tryz.ntmps27 fun C hC=>?_
 refine nS ?_;refine rRS ?_;refine rRS ?_;refine Ad fun K3 h3=>?_
 refine rRS ?_;refine Ak ?_;refine AS (fun b:Nat=>⟨(.any::.ptr 0 0::.any::.lit (.int .i64 (sumB f b:Int))::.lit (.int .i64 (b:Int))::A40 (A10 (A7 []))),[.box (Aq f)]⟩) (fun b=>b≤f.blocks.length∧b≤60) (fun b=>f.blocks.length - b) 0 ⟨Nat.zero_le _,Nat.zero_le _⟩ (B7) ?_;rintro b ⟨hb,hb60⟩;have hsb:=Aeg hs b;refine Ad fun K5 h5=>?_
 by_cases hgo:b < f.blocks.length∧b < 60
 ·have hd1:decide ((b:Int) < (f.blocks.length:Int))=true:=by simpa using hgo.1
  have hd2:decide ((b:Int) < 60)=true:=by simp;omega
  obtain⟨bl,hbk⟩:∃bl,f.blocks[b]? =some bl:=⟨_,List.getElem?_eq_getElem hgo.1⟩
  have hbs:=hs.all bl (List.mem_of_getElem? hbk);have hbi:=hbs.ins;have hsuc:=Qp hbk;refine rRS ?_;refine Aj rfl (fun hb7=>?_) (fun hb=>by cases hb);refine Am ?_;refine h5 _ ?_;refine nT ?_;refine Ad fun K8 h8=>?_
  refine Ak ?_;refine rRS ?_;refine rRS ?_;refine Ak ?_;refine AS (fun i:Nat=>⟨(.any::.ptr 0 0::.any::.lit (.int .i64 ((sumB f b+bl.ins.length+Qr bl.ins i:Nat):Int))::.lit (.int .i64 (b:Int))::.lit (.int .i64 (i:Int))::A40 (A10 (A6 []))),[.box (Aq f)]⟩) (fun i=>i≤bl.ins.length∧i≤200) (fun i=>bl.ins.length - i) 0 ⟨Nat.zero_le _,Nat.zero_le _⟩ (B7) ?_;rintro i ⟨hi,hi200⟩;have hsa:=XS (l:=bl.ins) (fun y hy=>by have:=hbs.all y hy;omega) i;refine Ad fun K11 h11=>?_
  by_cases hgi:i < bl.ins.length∧i < 200
  ·have hd3:decide ((i:Int) < (bl.ins.length:Int))=true:=by simpa using hgi.1
   have hd4:decide ((i:Int) < 200)=true:=by simp;omega
   obtain⟨x,hx⟩:∃x,bl.ins[i]? =some x:=⟨_,List.getElem?_eq_getElem hgi.1⟩
   have hxa:=hbs.all x (List.mem_of_getElem? hx);have hsx:=Qq hx;refine rRS ?_;refine Aj rfl (fun hb13=>?_) (fun hb=>by cases hb);refine Am ?_;refine h11 _ ?_;refine nT ?_;refine Ad fun K14 h14=>?_
   refine Ak ?_;refine rR ?_;refine h14 _ ?_;refine nT ?_;refine rR ?_;refine An ⟨i+1,⟨by omega,by omega⟩,by omega,?_⟩;rw[hsx,←Nat.add_assoc];exact B7
  ·have htt:decide ((i:Int) < (bl.ins.length:Int))=false∨(decide ((i:Int) < (bl.ins.length:Int))=true∧decide ((i:Int) < 200)=false):=Qj fun h=>hgi ⟨by simpa using h.1,by have:=of_decide_eq_true h.2;omega⟩
   refine Ad fun K12 h12=>?_
   have hse:=Abb hi hgi hi200;have hfin:∀s':St,St.le C s' ⟨(.any::.ptr 0 0::.any::.lit (.int .i64 ((sumB f b+bl.ins.length+Qr bl.ins 200:Nat):Int))::.lit (.int .i64 (b:Int))::A20 (A10 (A3 (.lit (.bool false)::A20 (A3 []))))),[.box (Aq f)]⟩→K12 s':=fun s' hle=>by
    refine h12 _ (A1 _ hle ?_);refine Aj rfl (fun hb=>by cases hb) (fun hb=>?_);refine AB ?_;refine h8 _ ?_;refine nT ?_;refine rR ?_;refine An ⟨b+1,⟨by omega,by omega⟩,by omega,?_⟩;rw[hsuc,←Nat.add_assoc];exact B7
   rw[←hse]at hfin;rcases htt with q1|⟨q1,q2⟩
   all_goals
    refine rR ?_;refine An (hfin _ ?_);exact B7
 ·have htt:decide ((b:Int) < (f.blocks.length:Int))=false∨(decide ((b:Int) < (f.blocks.length:Int))=true∧decide ((b:Int) < 60)=false):=Qj fun h=>hgo ⟨by simpa using h.1,by have:=of_decide_eq_true h.2;omega⟩
  refine Ad fun K6 h6=>?_
  have hse:=Aba hb hgo hb60;have hfin:∀s':St,St.le C s' ⟨(.any::.ptr 0 0::.any::.lit (.int .i64 (sumB f 60:Int))::A10 (.lit (.bool false)::A40 (A7 []))),[.box (Aq f)]⟩→K6 s':=fun s' hle=>by
   refine h6 _ (A1 _ hle ?_);refine Aj rfl (fun hb=>by cases hb) (fun hb=>?_);refine AB ?_;refine h3 _ ?_;refine nT ?_;refine Ad fun K20 h20=>?_
   have hg1:decide ((f.blocks.length:Int) > 40)=decide (40 < f.blocks.length):=by rw[decide_eq_decide];omega
   have hg2:decide ((sumB f 60:Int) > 250)=decide (250 < sumB f 60):=by rw[decide_eq_decide];omega
   rcases hq1:decide (40 < f.blocks.length)with _|_
   ·rw[hq1]at hg1;refine rR ?_;refine h20 _ ?_;refine nT ?_;refine Ar ?_;have:H9 f=decide (250 < sumB f 60):=by unfold H9;rw[hq1];rfl
    rw[this];exact⟨.inr rfl,Fin.cl rfl⟩
   ·rw[hq1]at hg1;refine rR ?_;refine h20 _ ?_;refine nT ?_;refine Ar ?_;have:H9 f=true:=by unfold H9;rw[hq1];rfl
    rw[this];exact⟨.inr rfl,Fin.cl rfl⟩
  rw[←hse]at hfin;rcases htt with q1|⟨q1,q2⟩
  all_goals
   refine rR ?_;refine An (hfin _ ?_);exact B7
end Mu
end
