/-
  Own texts laid together, part 5: MuStepX, MuPair, MuMet, MuDrawY, MuBackward, MuBackK, ShelfM, MuSets, MuBack, MuCopy, MuSetR, MuRes2, MuLiveP, MuMapsR, MuBefore, MuDrawM, MuReadL, MuRef17A, MuGoesA, MuPlaceA, MuRef17G, MuAllP, MuLiveC, MuNext15, MuRef17B, MuRef17C, MuRef17D, MuRef17E, MuRef17F, MuLiveQ, MuLiveR, MuAll, MuLiveF, MuSteps, ShelfK, MuKeys, MuPairM, MuPairS, MuPairG.
  Conditions: as each part says.
-/
import Derived.Test.YtlamjpneghjbgaaGreatSm4
import Derived.Shelf.SlIterI.Nil
import Derived.Shelf.SortM.Plain
import Derived.Shelf.SortM.SortNone
import Derived.Shelf.SlMaps.Clone
import Derived.Shelf.SlMaps.Copy
import Derived.Ground.GgzProg
import Derived.Ground.SlgmProg
import Derived.Ground.SlmcProg
import Derived.Ground.SlmpProg
import Derived.Test.YtlamjpneghjbgaaGreatProg
import Derived.Maps.OwnSet
import Derived.WalkKit
import Derived.TacticsInMore
import Derived.Lib.SlMapMerge
import Derived.Carry
import Derived.DeepKeys4
import Derived.Maps.Range
set_option maxRecDepth 100000
set_option maxHeartbeats 8000000
set_option linter.unusedSimpArgs false
set_option linter.unusedVariables false
section
namespace Mu
open Go Go.RowKit Go.Proofs
section
variable{p:Prog}{k:Nat}{m:MdA}
abbrev U4(p:Prog)(m:MdA):Type:={q:MdA×Bool // q.1.g=m.g∧q.1.Nrm∧((m.kind=0∧q.1.abs=PE dwF p m.abs)∨(m.kind≠0∧q.1=m))}
theorem YP(hP:PBig dwF p)(h:RunM p k m)(hk:k≤1000)(hH:p.heap≤1024)(hT:p.threads.length≤2097152):AE Tryz.prog 13 (modR p m) [.lit (ptV m.g 0)] (fun q:U4 p m=>modR p q.1.1) (fun q=>.lit (.bool q.1.2)):=by
 by_cases h0:m.kind=0
 ·exact AE.reidx (fun q:Agl m (PE dwF p m.abs)=>(⟨(q.1,true),q.2.2.1,q.2.1,.inl ⟨h0,q.2.2.2⟩⟩:U4 p m)) (fun _=>rfl) (fun _=>rfl) (YO hP h.ok h0 h.nrm (h.big hk hH hT))
 ·have hn:0 < m.ths.length:=by
   have e:m.abs.ths.length=m.ths.length:=List.length_map _;have:=h.bnd.ths;have hp:=List.length_pos_iff.2 hP.ok.threads.1;omega
  exact AE.reidx (fun _:Unit=>(⟨(m,false),rfl,h.nrm,.inr ⟨h0,rfl⟩⟩:U4 p m)) (fun _=>rfl) (fun _=>rfl) (VS h0 h.nrm hn)
theorem U4.run(hP:PBig dwF p)(h:RunM p k m)(q:U4 p m):RunM p (k+1) q.1.1:=by
 refine⟨q.2.2.1,?_,?_⟩
 ·rcases q.2.2.2 with⟨h0,e⟩|⟨_,e⟩
  ·rw[e];exact h.ok.one hP.ok h0
  ·rw[e];exact h.ok
 ·rcases q.2.2.2 with⟨h0,e⟩|⟨_,e⟩
  ·rw[e];exact h.bnd.one
  ·rw[e];exact h.bnd.up
theorem UV{s:Mdl}(h:0 < s.ths.length):(Fa s).at_ < s.ths.length:=by
 show(DN s).getD _ 0 < _;rw[List.getD_eq_getElem?_getD];cases e:(DN s)[(s.ch.headD 0).toNat % (DN s).length]? with
 |none=>exact h
 |some t=>exact(GG.1 (List.mem_of_getElem? e)).1
theorem JL{c:Prop}[Decidable c]{a b:Mdl}{n:Nat}(h1:a.at_ < n)(h2:b.at_ < n):(if c then a else b).at_ < n:=by split <;> assumption
theorem Akw{s:Mdl}{dw:Int→Int→Int→Option Int}(h:s.at_ < s.ths.length):(PE dw p s).at_ < s.ths.length:=by
 have hpos:0 < s.ths.length:=by omega
 have hp:∀l,(IA s l).ths.length=s.ths.length:=fun l=>by unfold IA;exact List.length_set
 have hc:∀l,(Fa (IA s l)).at_ < s.ths.length:=fun l=>by
  have:=UV (s:=IA s l) (by rw[hp];exact hpos);rwa [hp]at this
 unfold PE Q7;refine JL h (JL ?_ (JL h (JL (JL h h) (JL (JL h h) (JL h (JL h (JL (hc _) (JL h (JL h ?_)))))))))
 ·cases dw (Cu p (QT s)).n (regA (QT s) (Cu p (QT s)).a) (regA (QT s) (Cu p (QT s)).b) <;> exact h
 ·cases(thA s).dropLast.getLast? with
  |some up=>exact h
  |none=>exact JL h (hc _)
theorem U4.at_(q:U4 p m)(h:RunM p k m)(ha:m.at_ < m.ths.length):q.1.1.at_ < q.1.1.ths.length:=by
 rcases q.2.2.2 with⟨h0,e⟩|⟨_,e⟩
 ·have h1:=Akw (s:=m.abs) (dw:=dwF) (p:=p) (by have:m.abs.ths.length=m.ths.length:=List.length_map _;rw[this];exact ha);rw[←e]at h1;have h2:=(h.bnd.one (p:=p) (dw:=dwF)).ths;rw[←e]at h2;have h3:=h.bnd.ths;have h4:q.1.1.abs.ths.length=q.1.1.ths.length:=List.length_map _;have h1:q.1.1.at_ < m.abs.ths.length:=h1;omega
 ·rw[e];exact ha
theorem U4.keep{G:Fr→Prop}(hP:PBig dwF p)(h:RunM p k m)(hn:∀k args,k < p.funcs.length→G (newFr p k args))(hm:∀r q,FrOk p r→FrMv p r q→G r→G q)(q:U4 p m)(hG:∀t∈m.ths,∀r∈t.l,G r.fr):∀t∈q.1.1.ths,∀r∈t.l,G r.fr:=by
 rcases q.2.2.2 with⟨h0,e⟩|⟨_,e⟩
 ·intro t ht r hr;obtain⟨j,hj⟩:=List.getElem?_of_mem ht;have h1:=Zg (dw:=dwF) hP.ok hn hm h.ok h0 (fun t l hl r hr=>by
   have hl:(m.ths.map fun t=>t.l.map FrA.fr)[t]? =some l:=hl;rw[List.getElem?_map]at hl;obtain⟨t0,ht0,rfl⟩:=Option.map_eq_some_iff.1 hl;obtain⟨r0,hr0,rfl⟩:=List.mem_map.1 hr;exact hG t0 (List.mem_of_getElem? ht0) r0 hr0) j (t.l.map FrA.fr) (by
   rw[←e];show(q.1.1.ths.map fun t=>t.l.map FrA.fr)[j]? =_;rw[List.getElem?_map,hj];rfl)
  exact h1 r.fr (List.mem_map.2 ⟨r,hr,rfl⟩)
 ·rw[e];exact hG
end
structure Pair where
 a:Int
 b:Int
def CF:Ty Pair:=(tInt.cons (tInt.cons CV)).via (fun x=>⟨x.1,x.2.1⟩) (fun d=>(d.a,d.b,()))
theorem HV{w:World}{S:Nat→Prop}{cs:List Value}{x:Pair}:CF.RS w S cs x↔cs= [.int .i64 x.a,.int .i64 x.b]∧wfI .i64 x.a∧wfI .i64 x.b:=by
 constructor
 ·rintro⟨⟨_,_,rfl,⟨rfl,h0⟩,_,_,rfl,⟨rfl,h1⟩,rfl⟩,_⟩;exact⟨rfl,h0,h1⟩
 ·rintro⟨rfl,h0,h1⟩;exact⟨⟨[_],_,rfl,⟨rfl,h0⟩,[_],_,rfl,⟨rfl,h1⟩,rfl⟩,rfl⟩
@[reducible] def Ca(x:Pair):List AV:=[.lit (.int .i64 x.a),.lit (.int .i64 x.b)]
theorem Tk:Enc CF Ca:=by
 intro w S h ψ cs d H;obtain⟨rfl,h0,h1⟩:=HV.1 H;simp only[Ca,Ad,AV.rel];exact⟨_,_,rfl,rfl,_,_,rfl,rfl,rfl⟩
theorem PF:QW CF:=Ct Tk fun d x hx=>by
 simp only[Ca,List.mem_cons,List.not_mem_nil,or_false]at hx;rcases hx with rfl|rfl <;> first|exact .inl ⟨_,rfl,rfl⟩|exact .inr ⟨_,_,_,rfl⟩
instance Aoh:EncOf CF Ca:=⟨Tk,PF,by decide⟩
structure okPair(x:Pair):Prop where
 a:wfI .i64 x.a
 b:wfI .i64 x.b
theorem NW{w:World}{S:Nat→Prop}{cs:List Value}{h:List ABlk}{ψ:Nat→Value}{x:Pair}(ho:okPair x)(H:Ad w S h ψ (Ca x) cs):CF.RS w S cs x:=by
 simp only[Ca,Ad,AV.rel]at H;obtain⟨_,_,rfl,rfl,_,_,rfl,rfl,rfl⟩:=H;exact HV.2 ⟨rfl,ho.a,ho.b⟩
instance Aog:Inhabited Pair:=⟨⟨0,0⟩⟩
def Ju(x:Pair):Bool:=wfB .i64 x.a&&wfB .i64 x.b
theorem MY{x:Pair}(h:Ju x=true):okPair x:=by
 unfold Ju at h;simp only[Bool.and_eq_true]at h;exact⟨h.1,h.2⟩
theorem ZO{h:List ABlk}{x:Pair}(hk:Ju x=true):Fit h CF (.agg (Ca x)) x:=OE (enc:=Ca) fun _ _ _ _ H=>NW (MY hk) H
theorem IE:Cf Tryz.prog 127=some [(0,1),(1,1)]:=by kernel_rfl
instance Aof:AG Tryz.prog 127 true 2:=⟨by kernel_rfl⟩
instance Aoe:SZ Tryz.prog 127 2:=⟨by kernel_rfl⟩
instance Aod:FO Tryz.prog 127 0 0:=⟨by kernel_rfl⟩
instance Aoc:FO Tryz.prog 127 1 1:=⟨by kernel_rfl⟩
instance Aob:ZC Tryz.prog 127 [.int .i64 0,.int .i64 0]:=⟨by kernel_rfl⟩
instance Aoa:TyOf Tryz.prog 127 _ CF:=⟨trivial⟩
instance An9:AG Tryz.prog 69 false 1:=⟨by kernel_rfl⟩
instance Ai2:SZ Tryz.prog 69 1:=⟨by kernel_rfl⟩
instance Ai1:ES Tryz.prog 69 2:=⟨by kernel_rfl⟩
instance Ai0:SL Tryz.prog 69:=⟨by kernel_rfl⟩
instance Aiz:RT Tryz.prog 69 127 2 16:=⟨by kernel_rfl⟩
structure Met where
 e:List Pair
 all:List (List (List Int))
def Q3:Ty Met:=(CF.slice.cons (tInt.slice.slice.slice.cons CV)).via (fun x=>⟨x.1,x.2.1⟩) (fun d=>(d.e,d.all,()))
theorem Aa7{w:World}{S:Nat→Prop}{cs:List Value}{x:Met}:Q3.RS w S cs x↔∃s0 s1:Value,cs= [s0,s1]∧CF.slice.RS w S [s0] x.e∧tInt.slice.slice.slice.RS w S [s1] x.all:=by
 constructor
 ·rintro⟨⟨_,_,rfl,h0,_,_,rfl,h1,rfl⟩,_⟩;have k0:=h0;obtain⟨A0,c0,rfl,_⟩:=h0;have k1:=h1;obtain⟨A1,c1,rfl,_⟩:=h1;exact⟨_,_,rfl,k0,k1⟩
 ·rintro⟨s0,s1,rfl,h0,h1⟩;exact⟨⟨[_],_,rfl,h0,[_],_,rfl,h1,rfl⟩,rfl⟩
@[reducible] def IX(x:Met):List AV:=[.bs CF x.e,.bs tInt.slice.slice x.all]
theorem Xy:Enc Q3 IX:=by
 intro w S h ψ cs d H;obtain⟨s0,s1,rfl,h0,h1⟩:=Aa7.1 H;simp only[IX,Ad,AV.rel];exact⟨_,_,rfl,h0,_,_,rfl,h1,rfl⟩
theorem Zj:QW Q3:=Ct Xy fun d x hx=>by
 simp only[IX,List.mem_cons,List.not_mem_nil,or_false]at hx;rcases hx with rfl|rfl <;> first|exact .inl ⟨_,rfl,rfl⟩|exact .inr ⟨_,_,_,rfl⟩
instance Ap6:EncOf Q3 IX:=⟨Xy,Zj,by decide⟩
structure okMet(x:Met):Prop where
theorem Ac7{w:World}{S:Nat→Prop}{cs:List Value}{h:List ABlk}{ψ:Nat→Value}{x:Met}(ho:okMet x)(H:Ad w S h ψ (IX x) cs):Q3.RS w S cs x:=by
 simp only[IX,Ad,AV.rel]at H;obtain⟨_,_,rfl,h0,_,_,rfl,h1,rfl⟩:=H;exact Aa7.2 ⟨_,_,rfl,h0,h1⟩
instance Ap5:Inhabited Met:=⟨⟨[],[]⟩⟩
def Abg(x:Met):Bool:=true
theorem Wv{x:Met}(h:Abg x=true):okMet x:=by
 exact⟨⟩
theorem Afz{h:List ABlk}{x:Met}(hk:Abg x=true):Fit h Q3 (.agg (IX x)) x:=OE (enc:=IX) fun _ _ _ _ H=>Ac7 (Wv hk) H
theorem Aqj:Cf Tryz.prog 74=some [(0,1),(1,1)]:=by kernel_rfl
instance Ap4:FO Tryz.prog 74 0 0:=⟨by kernel_rfl⟩
instance Ap3:FO Tryz.prog 74 1 1:=⟨by kernel_rfl⟩
instance Ap2:ZC Tryz.prog 74 [.slice none 0 0,.slice none 0 0]:=⟨by kernel_rfl⟩
instance Ap1:TyOf Tryz.prog 74 _ Q3:=⟨trivial⟩
instance Aoj:ES Tryz.prog 67 2:=⟨by kernel_rfl⟩
instance Aoi:RT Tryz.prog 67 74 2 48:=⟨by kernel_rfl⟩
end Mu
end
section
namespace Mu
open Go Go.RowKit
section
variable{P:Program}{C:Ctx}{ops:Array Oper}{md:Region.Mode}{h:List ABlk}
theorem NE{i:Nat}{t:List AV}{a:Act}{w:World}{K:List AV→Prop}{K':Act→World→Prop}{Q':Exit→Act→World→Prop}(hlo:¬LetsOut Q')(H:St.rel C ⟨t,h⟩ a w)(hK:∀t a w,K t→St.rel C ⟨t,h⟩ a w→K' a w)
 (hh:aOp P C ops h i K t):wpOpIn (fnc C.rd) 4 P ops Q' i K' a w:=by
 unfold aOp at hh;unfold wpOpIn;split
 ·rename_i ho;simp only[ho]at hh;exact hK _ _ _ hh H
 ·rename_i o ho;simp only[ho]at hh;obtain⟨r,hy,hk⟩:=hh;obtain⟨hd,S,ψ,hh',hl⟩:=id H;rcases hy with⟨hg,hq⟩|⟨hg,rfl⟩
  ·have hw:=CZ hg hl;rw[hw,if_pos rfl];exact Oj (Iz (hq S ψ w a.eval hh' fun x _=>Ba hl x)) hlo (Ir (s:=⟨t,h⟩) hd hh' hl (hq S ψ w a.eval hh' fun x _=>Ba hl x) fun a' w' h=>hK _ _ _ hk h)
  ·have hw:=CZ hg hl;rw[hw,if_neg (by simp)];exact⟨fun _ _=>P1 _ _,hK _ _ _ hk (Ej H o.dst)⟩
theorem JU{n g:Nat}{L:Array Bool→List AV→Prop}{Q':Exit→Act→World→Prop}(hlo:¬LetsOut Q')(hL:∀listed t a w,L listed t→St.rel C ⟨t,h⟩ a w→wpAnyIn (fnc C.rd) 4 P md ops Q' g listed a w):
 ∀(f:Nat) (listed:Array Bool) (t:List AV) (a:Act) (w:World),YF P C md ops h n L f listed t→St.rel C ⟨t,h⟩ a w→wpAnyIn (fnc C.rd) 4 P md ops Q' (f+g) listed a w
 |0,listed,t,a,w,hh,H=>by rw[Nat.zero_add];exact hL _ _ _ _ hh H
 |f+1,listed,t,a,w,hh,H=>by
  rw[show f+1+g=(f+g)+1 by omega];exact⟨fun h0=>absurd h0 hh.1,fun i hi=>NE hlo H (fun t' a' w' h' H'=>JU hlo hL f _ t' a' w' h' H') (hh.2 i hi).2⟩
theorem Hp{F:Fence}{m:Nat}{Q':Exit→Act→World→Prop}:∀(l:List Oper) (k:Nat) (listed:Array Bool) (a:Act) (w:World),(∀j,l[j]? =ops[k+j]?)→
 Region.seqB md ops l.length k listed=true→wpListIn F m P ops Q' l a w→wpAnyIn F m P md ops Q' l.length listed a w
 | [],_,_,_,_,_,hB,h=>⟨by simpa[Region.seqB]using hB,h⟩
 |o::l,k,listed,a,w,hl,hB,h=>by
  have h0:ops[k]? =some o:=by simpa using(hl 0).symm
  simp only[List.length_cons,Region.seqB,Bool.and_eq_true,decide_eq_true_eq]at hB;refine⟨fun h1=>(by rw[hB.1]at h1;cases h1),fun i hi=>?_⟩;rw[hB.1]at hi;have hik:i=k:=by simpa using hi
  subst hik;have hw:wpOpIn F m P ops Q' i (wpListIn F m P ops Q' l) a w:=by unfold wpOpIn;simp only[h0];exact h
  exact wpOpIn_mono (fun a' w' h'=>Hp l (i+1) _ a' w' (fun j=>by have:=hl (j+1);simpa[Nat.add_assoc,Nat.add_comm 1 j]using this) hB.2 h') hw
theorem Ym{id:Nat}{l:List Oper}{Q:Exit→St→Prop}{s:St}(n:Nat)(hm:P.follows .mixedOrders=true)(hB:Yy l.toArray n=true)
 (hh:aQ P C l.toArray s.h (fun t=>GO P C l.toArray (Q .normal) (l.drop n) ⟨t,s.h⟩) (l.take n) s.t):Awp P C (.region id l.toArray true) Q s:=fun a w H=>by
 simp only[Yy,Bool.and_eq_true,decide_eq_true_eq,Bool.or_eq_true,beq_iff_eq]at hB;obtain⟨⟨⟨⟨hsel,hnd⟩,hn⟩,hs⟩,hlex⟩:=hB;have hn':n≤l.length:=by simpa using hn
 have htl:(l.take n).length=n:=by simp;omega
 have hdl:(l.drop n).length=l.toArray.size - n:=by simp
 have inv0:HeadInv .any l.toArray n (Array.replicate l.toArray.size false):=
  ⟨by simp,fun j oj _ hl=>(by rw[getD_replicate_false]at hl;cases hl),fun t _ ht=>getD_in (by simpa using ht) (getD_replicate_false _ _)⟩
 have htail:∀(listed:Array Bool) (i:Nat),HeadInv .any l.toArray n listed→i < n→listed.getD i true=false→∀t,n≤t→t∉Region.ready .any l.toArray listed:=by
  intro listed i inv hi hun t ht;rcases hs with hs|⟨hs,hc⟩
  ·intro hr;obtain⟨_,o,ho,_⟩:=mem_ready.1 hr;have:=(Array.getElem?_eq_some_iff.1 ho).1;omega
  ·by_cases hlt:n < l.toArray.size
   ·exact tail_waits hs hc hlt inv _ i rfl hi hun t ht
   ·intro hr;obtain⟨_,o,ho,_⟩:=mem_ready.1 hr;have:=(Array.getElem?_eq_some_iff.1 ho).1;omega
 have HH:=Ow (md:=.any) (g:=l.toArray.size - n) htail (l.take n) 0 _ s.t (fun j hj=>by
  have hj':j < n:=by rw[htl]at hj;exact hj
  simp[hj']) (by simpa using htl) inv0 (by rw[htl];exact hlex) hh
 have hlo:¬LetsOut (fun e a' w'=>e=Exit.normal∧∃s',Q e s'∧s'.rel C a' w'):=fun⟨_,_,h⟩=>by cases h.1
 refine wpIn_mono (wpIn_region_any (Q:=fun e a' w'=>e= .normal∧∃s',Q e s'∧s'.rel C a' w') hm ?_) fun _ _ _ h=>h.2
 have H':St.rel C ⟨s.t,s.h⟩ a {w with drawn:=w.drawn+1}:=by
  obtain⟨hd,S,ψ,hh',hl⟩:=H;have hb:Below w.heap.size w {w with drawn:=w.drawn+1}:=⟨rfl,rfl,rfl,Nat.le_refl _,fun _ _=>rfl⟩
  exact⟨hd,S,ψ,hh'.grow hb (fun _ h=>h) (fun _ h=>.inl h) hh'.lt,Al (show Ext w S s.h ψ {w with drawn:=w.drawn+1} S s.h ψ from Ext.grow s.h ψ (fun k hk=>rfl) fun _ h=>h) _ _ hl⟩
 have:=JU (Q':=fun e a' w'=>e= .normal∧∃s',Q e s'∧s'.rel C a' w') hlo (g:=l.toArray.size - n) (fun listed t a' w' hL H'=>by
  have:=Hp (md:=.any) (l.drop n) n listed a' w' (fun j=>by simp[List.getElem?_drop]) (by rw[hdl];exact hL.1) (CS rfl (Q':=fun e a' w'=>e= .normal∧∃s',Q e s'∧s'.rel C a' w') hlo (fun s a w h H=>⟨rfl,s,h,H⟩) _ _ _ _ hL.2 H');rwa [hdl]at this) _ _ _ _ _ HH H'
 rw[htl,show n+(l.toArray.size - n)=l.toArray.size by omega]at this;exact this
end
end Mu
end
section
namespace Mu
open Go Go.RowKit Go.Proofs Go.Shelf
attribute [local go_sem] Oper.semAt_some
theorem RZ(F:Fence)(n:Nat)(h78:F.fn 203)(hro:F.round=none)(A:Option Addr)(m c:Nat)(w:World):
 CallsIn F n Tryz.prog 203 #[.slice A m c] w fun e w'=>e= .returned (.func (.func 238) #[] #[.pointer (some ⟨w.heap.size,0,none⟩)])∧w'=w.alloc (.cells #[.slice A m c] 46):=by
 refine callsIn_of_wp Tryz.func203 rfl h78 ?_ hro;simp only[Tryz.ntmps203,List.size_toArray,List.length_cons,List.length_nil,Nat.reduceAdd,Nat.reduceSub,Array.replicate_succ,Array.replicate_zero,List.push_toArray,List.append_toArray,List.nil_append,List.cons_append]
 gi_wp2
 go_ret
 exact⟨rfl,rfl⟩
attribute [local go_sem] Oper.semAt_some
theorem R0(F:Fence)(n:Nat)(h105:F.fn 238)(hro:F.round=none)(hn:1≤n)(l:Nat)(ds:List Ins)(A:Option Addr)(c Bb:Nat)(S0 S:Nat→Prop)(hS0:∀k,S0 k→S k)(W0 W:World)(J:Nat→World→Prop)
 (hW:KS S W0 W)
 (hY:∀(k j:Nat) (es:List Value) (d:Ins) (W:World),k+j+1=ds.length→ds[j]? =some d→Dj.RS W0 S0 es d→J k W→YieldAt F (n - 1) Tryz.prog l #[.int .i64 (j:Int),.agg es.toArray] W fun e W'=>e= .returned (.bool true)∧J (k+1) W'∧KS S W W')
 (hB:S Bb) (hB0:W0.cell? ⟨Bb,0,none⟩=some (.slice A ds.length c)) (hR:Dj.slice.RS W0 S0 [.slice A ds.length c] ds) (hl:ds.length≤2097152) (h0:J 0 W):
 CallsIn F n Tryz.prog 238 #[.func (.yield l) #[] #[],.pointer (some ⟨Bb,0,none⟩)] W fun e W'=>(∃v,e= .returned v)∧J ds.length W':=by
 have HR:=Lib.hid hR;have HY:=Lib.hid hY;have H0:=Lib.hid h0;have x1:IntKind.i64.wrap ((ds.length:Int) - 1)=(ds.length:Int) - 1:=IntWalk.i64_in _ (by omega);have hb0:=hW.cell hB hB0;clear hR hY h0;refine callsIn_of_wp Tryz.func238 rfl h105 ?_ hro;simp only[Tryz.ntmps238,List.size_toArray,List.length_cons,List.length_nil,Nat.reduceAdd,Nat.reduceSub,Array.replicate_succ,Array.replicate_zero,List.push_toArray,List.append_toArray,List.nil_append,List.cons_append]
 gi_wp2
 gi_loopw [3] (fun i wr=>∃m:Nat,m≤ds.length∧i= .int .i64 ((m:Int) - 1)∧J (ds.length - m) wr∧KS S W wr) (fun i _=>(RowKit.intOf i+1).toNat)
 case atStart=>exact⟨ds.length,Nat.le_refl _,rfl,by rw[Nat.sub_self];exact H0.out,KS.refl⟩
 case round=>
  obtain⟨m,hm,rfl,hJ,hK⟩:=hrel;rcases m with _|j
  ·have d0:decide ((0:Int)≤((0:Nat):Int) - 1)=false:=decide_eq_false (by omega)
   gi_wp2
   go_end0
   exact⟨⟨_,rfl⟩,hJ⟩
  ·have ej:((j+1:Nat):Int) - 1=(j:Int):=by omega
   rw[ej];have d0:decide ((0:Int)≤(j:Int))=true:=decide_eq_true (by omega);have x2:IntKind.i64.wrap ((j:Int) - 1)=(j:Int) - 1:=IntWalk.i64_in _ (by omega);obtain⟨x,hxk⟩:∃x,ds[j]? =some x:=⟨_,List.getElem?_eq_getElem (by omega)⟩
   obtain⟨ib,io,Aa,ca,rfl,hib,hat⟩:=Abq HR.out hxk;replace hib:=hS0 _ hib;have hK0:=hW.trans hK;have e0:=hK0.cell (a:=⟨ib,_,none⟩) hib hat.c0;have e1:=hK0.cell (a:=⟨ib,_,none⟩) hib hat.c1;have e2:=hK0.cell (a:=⟨ib,_,none⟩) hib hat.c2;have e3:=hK0.cell (a:=⟨ib,_,none⟩) hib hat.c3;have e4:=hK0.cell (a:=⟨ib,_,none⟩) hib hat.c4;have e5:=hK0.cell (a:=⟨ib,_,none⟩) hib hat.c5;have e6:=hK0.cell (a:=⟨ib,_,none⟩) hib hat.c6;have e7:=hK0.cell (a:=⟨ib,_,none⟩) hib hat.c7;have e8:=hK0.cell (a:=⟨ib,_,none⟩) hib hat.c8;have eb:=hK0.cell hB hB0;have hjl:(j:Int) < (ds.length:Int):=by omega
   obtain⟨fn,tmps,assign,body,hy,hR⟩:=HY.out (ds.length - (j+1)) j [.int .u8 x.op,.int .i64 x.d,.int .i64 x.a,.int .i64 x.b,.int .u32 x.n,.int .i64 x.f,.slice Aa x.args.length ca,.int .i64 x.l1,.int .i64 x.l2] x wr (by omega) hxk (It.2 ⟨Aa,ca,hat.raw⟩) hJ;clear hat hxk
   gi_wp2
   refine hR.mono ?_;rintro e W3 ⟨rfl,hJ3,hk3⟩
   gi_wp2
   go_roundw
   case rel=>
    refine⟨j,by omega,rfl,?_,hK.trans hk3⟩;rw[show ds.length - (j+1)+1=ds.length - j by omega]at hJ3;exact hJ3
   case measure=>simp[RowKit.intOf]
def bkR(ds:List Ins)(p:Nat×Option Addr×Nat):Res:=⟨[],fun g=>g=p.1,fun w S=>w.heap[p.1]? =some (.cells #[.slice p.2.1 ds.length p.2.2] 46 (0,0))∧Dj.slice.RS w S [.slice p.2.1 ds.length p.2.2] ds,
 fun h hk hb hs=>⟨(hk _ rfl).trans h.1,Dj.slice.keepS h.2 hb hs⟩⟩
def bkF(p:Nat×Option Addr×Nat):Value:=.func (.func 238) #[] #[.pointer (some ⟨p.1,0,none⟩)]
theorem Kb(ds:List Ins):QE Tryz.prog 203 [.bs Dj ds] (bkR ds) bkF:=by
 refine⟨by kernel_rfl,fun w S vs hS hr=>?_⟩;unfold Ad AV.rel Ad at hr;obtain⟨v,_,rfl,hv,rfl⟩:=hr;obtain⟨A,c,e,hx⟩:=id hv;simp only[List.cons.injEq,and_true]at e;subst e;refine((callsIn_wide (n:=4)).1 (RZ Fence.wide 4 trivial rfl A ds.length c w)).mono ?_;rintro e w' ⟨rfl,rfl⟩;have hb:Below w.heap.size w (w.alloc (.cells #[.slice A ds.length c] 46)):=(Below.refl _ _).alloc (Nat.le_refl _) _;exact⟨_,rfl,⟨hb.os,hb.tape,hb.output,hb.size,fun k hk _=>hb.block k hk⟩,(w.heap.size,A,c),rfl,⟨heap_alloc_new w _,Dj.slice.keepS hv (fun k hk=>hb.block k (hS k hk)) fun _ h=>h⟩,fun k hk=>by
  have hk:k=w.heap.size:=hk;subst hk;exact⟨.inr (Nat.le_refl _),by simp⟩⟩
def bkE(ds:List Ins)(k:Nat):List AV:=match ds[ds.length - 1 - k]? with
 |some d=>[.lit (.int .i64 ((ds.length - 1 - k:Nat):Int)),.agg (AL d)]
 |none=>(A2 [])
theorem I3(ds:List Ins)(hl:ds.length≤2097152)(p:Nat×Option Addr×Nat)(w:World)(S:Nat→Prop)(hS:∀k,S k→k < w.heap.size)(hF:∀k,(bkR ds p).F k→k < w.heap.size)(hR:(bkR ds p).R w S):
 Apg Tryz.prog 238 #[.pointer (some ⟨p.1,0,none⟩)] (fun k=>S k∨(bkR ds p).F k) w (fun k vs=>Ad w S [] ψ0 (bkE ds k) vs) ds.length:=fun l J W hW hY h0=>by
 refine R0 Fence.wide 3 trivial rfl (by decide) l ds p.2.1 p.2.2 p.1 S (fun k=>S k∨(bkR ds p).F k) (fun _ h=>.inl h) w W J hW ?_ (.inr rfl) (Om (cs:=[_]) hR.1 rfl) hR.2 hl h0;intro k j es d W1 hkj hd hes hJ;refine hY k [.int .i64 (j:Int),.agg es.toArray] W1 (by omega) ?_ hJ;have hj:ds.length - 1 - k=j:=by omega
 show Ad w S [] ψ0 (bkE ds k) _;unfold bkE;rw[hj,hd];unfold Ad;refine⟨_,_,rfl,by unfold AV.rel;rfl,?_⟩;unfold Ad;refine⟨_,_,rfl,?_,by unfold Ad;rfl⟩;unfold AV.rel;exact⟨es,rfl,EncOf.ok (T:=Dj) w S [] ψ0 es d hes⟩
theorem Acd(ds:List Ins)(k:Nat):AZ (bkE ds k)=true:=by
 unfold bkE;split <;> rfl
theorem XX(ds:List Ins)(k:Nat):(bkE ds k).length=2:=by
 unfold bkE;split <;> rfl
end Mu
end
section
namespace Go.Proofs
open Go.Shelf
def Tryz.keysM_ren:Go.Shelf.Ren:=⟨fun|7=>237|10=>250|n=>n,fun|23=>218|26=>3|3=>3|28=>185|0=>0|27=>184|33=>158|4=>4|n=>n,fun|n=>n⟩
theorem Tryz.keysM:Go.Proofs.SlLaysZI.n7 Tryz.prog Tryz.keysM_ren:={
 mixed:=by kernel_rfl
 f7:=⟨Tryz.f237.name,by decide,Tryz.func237.trans (congrArg some (by kernel_rfl))⟩
 f10:=⟨Tryz.f250.name,by decide,Tryz.func250.trans (congrArg some (by kernel_rfl))⟩
 t0:=Tryz.underlying0
 a0:=Tryz.isAgg0
 z0:=Tryz.sizeOf0
 v0:=Tryz.zeroValue0
 t4:=Tryz.underlying4
 a4:=Tryz.isAgg4
 z4:=Tryz.sizeOf4
 v4:=Tryz.zeroValue4
 t23:=Tryz.underlying218
 a23:=Tryz.isAgg218
 z23:=Tryz.sizeOf218
 v23:=Tryz.zeroValue218
 t26:=Tryz.underlying3
 a26:=Tryz.isAgg3
 z26:=Tryz.sizeOf3
 v26:=Tryz.zeroValue3
 t27:=Tryz.underlying184
 a27:=Tryz.isAgg184
 z27:=Tryz.sizeOf184
 v27:=Tryz.zeroValue184
 t28:=Tryz.underlying185
 a28:=Tryz.isAgg185
 z28:=Tryz.sizeOf185
 v28:=Tryz.zeroValue185
 t33:=Tryz.underlying158
 a33:=Tryz.isAgg158
 z33:=Tryz.sizeOf158
 v33:=Tryz.zeroValue158}
def Tryz.sortedM_ren:Go.Shelf.Ren:=⟨fun|6=>133|8=>177|9=>88|11=>208|13=>148|12=>147|23=>194|24=>195|14=>185|15=>186|16=>187|17=>188|18=>189|19=>190|20=>191|21=>192|22=>193|25=>211|26=>212|27=>213|28=>214|29=>215|30=>183|31=>248|n=>n,fun|26=>3|28=>185|24=>22|0=>0|3=>3|37=>202|48=>38|50=>237|4=>4|40=>230|39=>229|45=>160|5=>5|9=>9|51=>259|55=>263|57=>278|58=>279|33=>158|n=>n,fun|n=>n⟩
theorem Tryz.sortedM:Go.Proofs.SlLaysZI.n6 Tryz.prog Tryz.sortedM_ren:={
 mixed:=by kernel_rfl
 f6:=⟨Tryz.f133.name,by decide,Tryz.func133.trans (congrArg some (by kernel_rfl))⟩
 f8:=⟨Tryz.f177.name,by decide,Tryz.func177.trans (congrArg some (by kernel_rfl))⟩
 f11:=⟨Tryz.f208.name,by decide,Tryz.func208.trans (congrArg some (by kernel_rfl))⟩
 t0:=Tryz.underlying0
 a0:=Tryz.isAgg0
 z0:=Tryz.sizeOf0
 v0:=Tryz.zeroValue0
 t24:=Tryz.underlying22
 a24:=Tryz.isAgg22
 z24:=Tryz.sizeOf22
 v24:=Tryz.zeroValue22
 t26:=Tryz.underlying3
 a26:=Tryz.isAgg3
 z26:=Tryz.sizeOf3
 v26:=Tryz.zeroValue3
 t28:=Tryz.underlying185
 a28:=Tryz.isAgg185
 z28:=Tryz.sizeOf185
 v28:=Tryz.zeroValue185
 i26:=by kernel_rfl}
def Tryz.sortM_ren:Go.Shelf.Ren:=⟨fun|5=>88|8=>148|7=>147|19=>194|20=>195|10=>185|11=>186|12=>187|13=>188|14=>189|15=>190|16=>191|17=>192|18=>193|30=>211|31=>212|32=>213|33=>214|34=>215|35=>183|40=>248|n=>n,fun|23=>22|25=>3|3=>3|32=>202|22=>22|0=>0|44=>38|46=>237|4=>4|36=>230|35=>229|41=>160|5=>5|9=>9|53=>259|57=>263|63=>278|64=>279|n=>n,fun|n=>n⟩
theorem Tryz.sortM:Go.Proofs.SlLaysM.n5 Tryz.prog Tryz.sortM_ren:={
 mixed:=by kernel_rfl
 f5:=⟨Tryz.f88.name,by decide,Tryz.func88.trans (congrArg some (by kernel_rfl))⟩
 f7:=⟨Tryz.f147.name,by decide,Tryz.func147.trans (congrArg some (by kernel_rfl))⟩
 f8:=Tryz.func148.trans (congrArg some (by kernel_rfl))
 f10:=⟨Tryz.f185.name,by decide,Tryz.func185.trans (congrArg some (by kernel_rfl))⟩
 f11:=⟨Tryz.f186.name,by decide,Tryz.func186.trans (congrArg some (by kernel_rfl))⟩
 f12:=⟨Tryz.f187.name,by decide,Tryz.func187.trans (congrArg some (by kernel_rfl))⟩
 f13:=⟨Tryz.f188.name,by decide,Tryz.func188.trans (congrArg some (by kernel_rfl))⟩
 f14:=⟨Tryz.f189.name,by decide,Tryz.func189.trans (congrArg some (by kernel_rfl))⟩
 f15:=⟨Tryz.f190.name,by decide,Tryz.func190.trans (congrArg some (by kernel_rfl))⟩
 f16:=⟨Tryz.f191.name,by decide,Tryz.func191.trans (congrArg some (by kernel_rfl))⟩
 f17:=⟨Tryz.f192.name,by decide,Tryz.func192.trans (congrArg some (by kernel_rfl))⟩
 f18:=⟨Tryz.f193.name,by decide,Tryz.func193.trans (congrArg some (by kernel_rfl))⟩
 f19:=Tryz.func194.trans (congrArg some (by kernel_rfl))
 f20:=Tryz.func195.trans (congrArg some (by kernel_rfl))
 f30:=⟨Tryz.f211.name,by decide,Tryz.func211.trans (congrArg some (by kernel_rfl))⟩
 f31:=Tryz.func212.trans (congrArg some (by kernel_rfl))
 f32:=Tryz.func213.trans (congrArg some (by kernel_rfl))
 f33:=⟨Tryz.f214.name,by decide,Tryz.func214.trans (congrArg some (by kernel_rfl))⟩
 f34:=⟨Tryz.f215.name,by decide,Tryz.func215.trans (congrArg some (by kernel_rfl))⟩
 f35:=⟨Tryz.f183.name,by decide,Tryz.func183.trans (congrArg some (by kernel_rfl))⟩
 f40:=⟨Tryz.f248.name,by decide,Tryz.func248.trans (congrArg some (by kernel_rfl))⟩
 t0:=Tryz.underlying0
 a0:=Tryz.isAgg0
 z0:=Tryz.sizeOf0
 v0:=Tryz.zeroValue0
 t3:=Tryz.underlying3
 a3:=Tryz.isAgg3
 z3:=Tryz.sizeOf3
 v3:=Tryz.zeroValue3
 t4:=Tryz.underlying4
 a4:=Tryz.isAgg4
 z4:=Tryz.sizeOf4
 v4:=Tryz.zeroValue4
 t5:=Tryz.underlying5
 a5:=Tryz.isAgg5
 z5:=Tryz.sizeOf5
 v5:=Tryz.zeroValue5
 t9:=Tryz.underlying9
 a9:=Tryz.isAgg9
 z9:=Tryz.sizeOf9
 v9:=Tryz.zeroValue9
 t22:=Tryz.underlying22
 a22:=Tryz.isAgg22
 z22:=Tryz.sizeOf22
 v22:=Tryz.zeroValue22
 t23:=Tryz.underlying22
 a23:=Tryz.isAgg22
 z23:=Tryz.sizeOf22
 v23:=Tryz.zeroValue22
 t25:=Tryz.underlying3
 a25:=Tryz.isAgg3
 z25:=Tryz.sizeOf3
 v25:=Tryz.zeroValue3
 t32:=Tryz.underlying202
 a32:=Tryz.isAgg202
 z32:=Tryz.sizeOf202
 v32:=Tryz.zeroValue202
 t35:=Tryz.underlying229
 a35:=Tryz.isAgg229
 z35:=Tryz.sizeOf229
 v35:=Tryz.zeroValue229
 t36:=Tryz.underlying230
 a36:=Tryz.isAgg230
 z36:=Tryz.sizeOf230
 v36:=Tryz.zeroValue230
 t41:=Tryz.underlying160
 a41:=Tryz.isAgg160
 z41:=Tryz.sizeOf160
 v41:=Tryz.zeroValue160
 t44:=Tryz.underlying38
 a44:=Tryz.isAgg38
 z44:=Tryz.sizeOf38
 v44:=Tryz.zeroValue38
 t46:=Tryz.underlying237
 a46:=Tryz.isAgg237
 z46:=Tryz.sizeOf237
 v46:=Tryz.zeroValue237
 t53:=Tryz.underlying259
 a53:=Tryz.isAgg259
 z53:=Tryz.sizeOf259
 v53:=Tryz.zeroValue259
 t57:=Tryz.underlying263
 a57:=Tryz.isAgg263
 z57:=Tryz.sizeOf263
 v57:=Tryz.zeroValue263
 t63:=Tryz.underlying278
 a63:=Tryz.isAgg278
 z63:=Tryz.sizeOf278
 v63:=Tryz.zeroValue278
 t64:=Tryz.underlying279
 a64:=Tryz.isAgg279
 z64:=Tryz.sizeOf279
 v64:=Tryz.zeroValue279}
def Tryz.cloneM_ren:Go.Shelf.Ren:=⟨fun|5=>201|7=>236|n=>n,fun|23=>218|25=>3|3=>3|4=>4|20=>20|n=>n,fun|n=>n⟩
theorem Tryz.cloneM:Go.Proofs.SlLaysW.n5 Tryz.prog Tryz.cloneM_ren:={
 mixed:=by kernel_rfl
 f5:=⟨Tryz.f201.name,by decide,Tryz.func201.trans (congrArg some (by kernel_rfl))⟩
 f7:=Tryz.func236.trans (congrArg some (by kernel_rfl))
 t4:=Tryz.underlying4
 a4:=Tryz.isAgg4
 z4:=Tryz.sizeOf4
 v4:=Tryz.zeroValue4
 t20:=Tryz.underlying20
 a20:=Tryz.isAgg20
 z20:=Tryz.sizeOf20
 v20:=Tryz.zeroValue20
 t23:=Tryz.underlying218
 a23:=Tryz.isAgg218
 z23:=Tryz.sizeOf218
 v23:=Tryz.zeroValue218}
def Tryz.copyM_ren:Go.Shelf.Ren:=⟨fun|5=>206|n=>n,fun|23=>218|24=>218|26=>3|27=>3|0=>0|4=>4|n=>n,fun|n=>n⟩
theorem Tryz.copyM:Go.Proofs.SlLaysX.n5 Tryz.prog Tryz.copyM_ren:={
 mixed:=by kernel_rfl
 f5:=⟨Tryz.f206.name,by decide,Tryz.func206.trans (congrArg some (by kernel_rfl))⟩
 t0:=Tryz.underlying0
 a0:=Tryz.isAgg0
 z0:=Tryz.sizeOf0
 v0:=Tryz.zeroValue0
 t4:=Tryz.underlying4
 a4:=Tryz.isAgg4
 z4:=Tryz.sizeOf4
 v4:=Tryz.zeroValue4
 t23:=Tryz.underlying218
 a23:=Tryz.isAgg218
 z23:=Tryz.sizeOf218
 v23:=Tryz.zeroValue218
 t24:=Tryz.underlying218
 a24:=Tryz.isAgg218
 z24:=Tryz.sizeOf218
 v24:=Tryz.zeroValue218
 a26:=Tryz.isAgg3
 z26:=Tryz.sizeOf3
 a27:=Tryz.isAgg3
 z27:=Tryz.sizeOf3}
end Go.Proofs
end
section
namespace Mu
open Go Go.RowKit Go.Proofs Go.Maps Go.Sort Go.Shelf
def Jj(x:Int):Prop:=(Lit.int .i64 x).wf=true
def Gl(w:World)(b:Nat)(S:Int→Bool):Prop:=∃(D:DataW Unit),w.ownsMap Tryz.prog 3 (plainElem Tryz.prog 3) b (Maps.size D) D∧∀x,Jj x→has D (.int .i64 x)=S x
theorem Abm:Keyed Tryz.prog 3:=int_keyed Tryz.underlying3
theorem IF{w:World}{b n:Nat}{D:DataW Unit}(h:w.ownsMap Tryz.prog 3 (plainElem Tryz.prog 3) b n D):w.ownsMap Tryz.prog 3 (plainElem Tryz.prog 3) b (Maps.size D) D:=by
 obtain⟨es,clock,h1,h2,h3,rfl⟩:=h;refine⟨es,clock,h1,h2,?_,rfl⟩;rw[size_eq,length_read];exact Nat.le_refl _
theorem Gl.lt{w:World}{b:Nat}{S:Int→Bool}(h:Gl w b S):b < w.heap.size:=by
 obtain⟨D,h1,_⟩:=h;exact h1.lt
theorem Gl.keep{w w':World}{b:Nat}{S:Int→Bool}(h:Gl w b S)(hk:w'.heap[b]? =w.heap[b]?):Gl w' b S:=by
 obtain⟨D,⟨es,clock,h1,h2⟩,h3⟩:=h;exact⟨D,⟨es,clock,hk.trans h1,h2⟩,h3⟩
def Asc(l:List Int):Prop:=l.Pairwise (· < ·)
theorem Asc.nodup{l:List Int}(h:Asc l):l.Nodup:=h.imp (fun{a b} hab=>by omega)
theorem Asc.filter{l:List Int}(h:Asc l)(S:Int→Bool):Asc (l.filter S):=List.Pairwise.filter _ h
theorem R4{l m:List Int}(hl:Asc l)(hm:Asc m)(h:∀x,x∈l↔x∈m):l=m:=by
 have hp:l.Perm m:=(List.perm_ext_iff_of_nodup hl.nodup hm.nodup).2 h;exact List.Perm.eq_of_pairwise (le:=fun a b=>a < b) (fun a b _ _ h1 h2=>by omega) hl hm hp
theorem Oq{l:List Int}(h:l.Nodup):Asc (l.mergeSort fun x y=>decide (x≤y)):=by
 have tr:∀a b c:Int,leI a b=true→leI b c=true→leI a c=true:=fun a b c h1 h2=>by simp only[leI,decide_eq_true_eq]at *;exact Int.le_trans h1 h2
 have to:∀a b:Int,(leI a b||leI b a)=true:=fun a b=>by simp only[leI,Bool.or_eq_true,decide_eq_true_eq];exact Int.le_total a b
 have h1:=List.pairwise_mergeSort tr to l;have h2:(l.mergeSort leI).Nodup:=(List.mergeSort_perm l leI).nodup_iff.2 h;refine(List.Pairwise.and h1 h2).imp fun{a b} hab=>?_
 obtain⟨h3,h4⟩:=hab;simp only[leI,decide_eq_true_eq]at h3;omega
theorem Ads{w:World}{b:Nat}{D:DataW Unit}{n:Nat}(h:w.ownsMap Tryz.prog 3 (plainElem Tryz.prog 3) b n D):(intKeys D).Nodup∧(∀x,x∈intKeys D↔Jj x∧has D (.int .i64 x)=true)∧(intKeys D).length=Maps.size D:=by
 obtain⟨es,rfl,hpw,_⟩:=h.entries Abm;obtain⟨es',hD',hko⟩:=h.keysOf;obtain rfl:es=es':=by simpa using hD'
 have hk:∀p∈es,∃x,p.1= .int .i64 x∧Jj x:=fun p hp=>by
  obtain⟨v,hv⟩:=hko p hp;obtain⟨x,_,hx,hw⟩:=Maps.keyOf_i64 Tryz.underlying3 hv;exact⟨x,hx,hw⟩
 refine⟨?_,fun x=>?_,by simp[intKeys,size_eq]⟩
 ·show(es.map fun p=>Go.intOf p.1).Nodup;refine List.pairwise_map.2 (hpw.imp_of_mem fun{p q} hp' hq' hne e=>hne ?_);obtain⟨a,ha,_⟩:=hk p hp';obtain⟨b,hb,_⟩:=hk q hq';rw[ha,hb]at e⊢;exact congrArg _ e
 ·rw[has_eq,List.any_eq_true];show x∈es.map (fun p=>Go.intOf p.1)↔_;rw[List.mem_map];constructor
  ·rintro⟨p,hp',rfl⟩;obtain⟨a,ha,hw⟩:=hk p hp';rw[ha];exact⟨hw,p,hp',by rw[ha];simp[Lit.sameKey,Go.intOf]⟩
  ·rintro⟨_,p,hp',hs⟩;obtain⟨a,ha,_⟩:=hk p hp';rw[ha]at hs;exact⟨p,hp',by rw[ha];simpa[Lit.sameKey,Go.intOf]using hs⟩
theorem Rc{w:World}{b:Nat}{D:DataW Unit}{n:Nat}{S:Int→Bool}{R:List Int}(h:w.ownsMap Tryz.prog 3 (plainElem Tryz.prog 3) b n D)(hS:∀x,Jj x→has D (.int .i64 x)=S x)(hR:Asc R)(hw:∀x∈R,Jj x)
 (hin:∀x,Jj x→S x=true→x∈R):(intKeys D).Perm (R.filter S)∧Maps.size D=(R.filter S).length:=by
 obtain⟨h1,h2,h3⟩:=Ads h;have hp:(intKeys D).Perm (R.filter S):=(List.perm_ext_iff_of_nodup h1 (hR.filter S).nodup).2 fun x=>by
  rw[h2,List.mem_filter];constructor
  ·rintro⟨hx,hh⟩;rw[hS x hx]at hh;exact⟨hin x hx hh,hh⟩
  ·rintro⟨hx,hs⟩;exact⟨hw x hx,by rw[hS x (hw x hx)];exact hs⟩
 exact⟨hp,by rw[←h3];exact hp.length_eq⟩
theorem Aa9(m:Nat):AnyZI.SortsIn Tryz.prog Tryz.sortedM_ren Fence.wide m:=
 ⟨fun blk off cap ss W hH hblk hsz=>callsIn_wide.2 (AnyM.slices_Sort_int Tryz.sortM blk off cap ss W hH hblk hsz),
  fun p cap W=>callsIn_wide.2 (AnyM.slices_Sort_int_none Tryz.sortM p cap W)⟩
theorem YS{b:Nat}{S:Int→Bool}{R:List Int}(w:World)(h:Gl w b S)(hR:Asc R)(hw:∀x∈R,Jj x)(hin:∀x,Jj x→S x=true→x∈R)(hl:R.length≤2147483648):
 Calls Tryz.prog 202 #[.map (some b)] w fun e w'=>∃v,e= .returned v∧Ks w' w.heap.size v (R.filter S)∧Below w.heap.size w w':=by
 obtain⟨D,hown,hS⟩:=h;obtain⟨hperm,hsz⟩:=Rc hown hS hR hw hin;have hfl:=List.length_filter_le S R;have hmax:Maps.size D≤maxLen:=by rw[hsz];unfold maxLen;omega
 have hbytes:Maps.size D * 8≤140737488355328:=by rw[hsz];omega
 refine(callsIn_wide (n:=6)).1 ?_;have hbl:=hown.lt;have hseq:SeqGives Fence.wide 2 Tryz.prog 250 #[.pointer (some ⟨w.heap.size,0,none⟩)] encZ (fun ss=>ss.Perm (intKeys D)) (Maps.size D) (w.alloc (.cells #[.map (some b)] 218)):=
  AnyZI.keys_gives (ρ:=Tryz.keysM_ren) {Tryz.keysM with} Fence.wide _ trivial rfl (by omega) w.heap.size b (Maps.size D) D _ (by simp) (by simp) (by
   obtain⟨es,clock,hb,Ft,hs,hD⟩:=hown;exact⟨es,clock,(Below.heap_alloc _ _ b hbl).trans hb,Ft,hs,hD⟩)
 have cK:∀mb W,CallsIn Fence.wide 5 Tryz.prog 237 #[.map mb] W fun e w'=>e= .returned (.func (.func 250) #[] #[.pointer (some ⟨W.heap.size,0,none⟩)])∧w'=W.alloc (.cells #[.map mb] 218):=fun mb W=>AnyZI.keys_in Tryz.keysM Fence.wide 5 trivial rfl mb W
 have cS:=AnyZI.sorted_in Tryz.sortedM Fence.wide 5 trivial trivial trivial trivial rfl (by omega) (Aa9 _) (enters_of Tryz.func88 (by kernel_rfl) rfl) 250 #[.pointer (some ⟨w.heap.size,0,none⟩)] trivial (enters_of Tryz.func250 (by kernel_rfl) rfl) _ _ hmax hbytes _ hseq;change CallsIn _ _ Tryz.prog 133 _ _ _ at cS;have hfK:Fence.wide.fn 237:=trivial;have hfS:Fence.wide.fn 133:=trivial;have HP:=Lib.hid hperm;clear hS hsz hperm hin hw;refine callsIn_of_wp Tryz.func202 rfl trivial ?_ rfl;simp only[Tryz.ntmps202,List.size_toArray,List.length_cons,List.length_nil,Nat.reduceAdd,Nat.reduceSub,Array.replicate_succ,Array.replicate_zero,List.push_toArray,List.append_toArray,List.nil_append,List.cons_append]
 gi_wp2_with (first
  |(gi_at_call 237;refine(cK _ _).mono ?_;rintro e w' ⟨rfl,rfl⟩)
  |(gi_at_call 133;refine cS.mono ?_;rintro e w' ⟨v,ss,rfl,hS,hrow,hnil,hb⟩))
 go_ret
 have hp2:ss.Perm (R.filter S):=hS.trans HP.out;have he:(ss.mergeSort fun x y=>decide (x≤y))=R.filter S:=
  R4 (Oq (hp2.nodup_iff.2 (hR.filter S).nodup)) (hR.filter S) (fun x=>((List.mergeSort_perm ss _).mem_iff).trans hp2.mem_iff)
 refine⟨v,rfl,?_,((Below.refl _ w).alloc (Nat.le_refl _) _).trans (hb.mono (by simp))⟩;have hrow2:w'.ownsRow w.heap.size 3 1 v ss.length ((ss.mergeSort (fun x y=>decide (x≤y))).map encZ):=ownsRow_base_a hrow (by simp);rw[he]at hrow2;exact .of hrow2 hp2.length_eq rfl
end Mu
end
section
namespace Mu
open Go Go.RowKit Go.Proofs Go.Maps
theorem E7{w w1:World}{r:Option Nat}(h:Below w.heap.size w w1):w.grownBy w1 r:=⟨h.os,h.tape,h.output,h.size,fun k hk _=>h.block k hk⟩
def Gi{α:Type}(T:Ty α):Prop:=∀(w:World) (S:Nat→Prop) (cs:List Value) (d:α) (b:Nat) (es:Array MapEntry) (c:Nat),T.RS w S cs d→w.heap[b]? =some (.map es c)→T.RS w (fun k=>S k∧k≠b) cs d
theorem CU(k:IntKind):Gi (Ty.int k):=fun _ _ _ _ _ _ _ h _=>h
theorem R3:Gi CV:=fun _ _ _ _ _ _ _ h _=>h
theorem Cv{α β:Type}{T:Ty α}{U:Ty β}(h1:Gi T)(h2:Gi U):Gi (T.cons U):=by
 rintro w S cs d b es c ⟨c1,c2,rfl,k1,k2⟩ hm;exact⟨c1,c2,rfl,h1 w S c1 d.1 b es c k1 hm,h2 w S c2 d.2 b es c k2 hm⟩
theorem U0{α β:Type}{U:Ty β}{f:β→α}{g:α→β}(h:Gi U):Gi (U.via f g):=by
 rintro w S cs d b es c ⟨k1,k2⟩ hm;exact⟨h w S cs (g d) b es c k1 hm,k2⟩
theorem Ql{α:Type}{T:Ty α}(h:Gi T)(hp:0 < T.size):Gi T.slice:=by
 rintro w S cs ds b es c ⟨A,cp,rfl,hl,hc,hi⟩ hm;refine⟨A,cp,rfl,hl,hc,fun i d hd=>?_⟩;obtain⟨b',o,rfl,hS,cs,hR,hC⟩:=hi i d hd;refine⟨b',o,rfl,⟨hS,fun e=>?_⟩,cs,h w S cs d b es c hR hm,hC⟩;subst e;have hlen:=T.len hR;have h0:=hC 0 _ (List.getElem?_eq_getElem (by omega));simp[World.cell?,hm]at h0
theorem Ie:Gi Dj:=
 U0 (Cv (CU _) (Cv (CU _) (Cv (CU _) (Cv (CU _) (Cv (CU _) (Cv (CU _) (Cv (Ql (CU _) (by decide)) (Cv (CU _) (Cv (CU _) R3)))))))))
theorem Aan{α:Type}{T:Ty α}(h:Gi T){w w':World}{B b c:Nat}{cs:List Value}{d:α}{es:Array MapEntry}(hR:T.R w B cs d)(hB:B≤w.heap.size)(hm:w.heap[b]? =some (.map es c))(hg:w.grownBy w' (some b)):T.R w' w'.heap.size cs d:=
 T.keepS (h w _ cs d b es c hR hm) (fun k hk=>hg.block k (by have:=hk.1;omega) (by simp;exact hk.2)) (fun k hk=>by have:=hk.1;have:=hg.size;omega)
theorem Gl.mapAt{w:World}{b:Nat}{S:Int→Bool}(h:Gl w b S):∃es c,w.heap[b]? =some (.map es c):=by
 obtain⟨D,⟨es,c,h1,_⟩,_⟩:=h;exact⟨es,c,h1⟩
def Bm(w0:World)(cs:List Value)(T:TypeId)(b:Nat)(w':World):Prop:=(w0.alloc (.cells cs.toArray T)).grownBy w' (some b)
section
variable{w0 w' w'':World}{cs:List Value}{T:TypeId}{b:Nat}
theorem Bm.refl:Bm w0 cs T b (w0.alloc (.cells cs.toArray T)):=World.grownBy.refl _ _
theorem Bm.cell(h:Bm w0 cs T b w')(hb:b < w0.heap.size){j:Nat}{v:Value}(hv:cs[j]? =some v):w'.cell? ⟨w0.heap.size,j,none⟩=some v:=by
 have h1:=h.block w0.heap.size (by simp) (by simp;omega);exact Om (h1.trans (heap_alloc_new w0 _)) hv
theorem Bm.lt(h:Bm w0 cs T b w'):w0.heap.size < w'.heap.size:=by have:=h.size;simp at this;omega
theorem Bm.grown(h:Bm w0 cs T b w'):w0.grownBy w' (some b):=CL (World.grownBy_alloc _ _ _) h
theorem Bm.call(h:Bm w0 cs T b w')(hb:Below w'.heap.size w' w''):Bm w0 cs T b w'':=CL h (E7 hb)
theorem Bm.turn(h:Bm w0 cs T b w')(hg:w'.grownBy w'' (some b)):Bm w0 cs T b w'':=CL h hg
theorem Bm.R{α:Type}{U:Ty α}{us:List Value}{d:α}{es:Array MapEntry}{c:Nat}(h:Bm w0 cs T b w')(ha:Gi U)(hm:w0.heap[b]? =some (.map es c))(hR:U.R w0 w0.heap.size us d):U.R w' w'.heap.size us d:=
 Aan ha hR (Nat.le_refl _) hm h.grown
end
structure InR(R:List Int)(S:Int→Bool):Prop where
 mem:∀x,Jj x→S x=true→x∈R
structure RegsR(R:List Int):Prop where
 asc:Asc R
 wf:∀x∈R,Jj x
 len:R.length≤2147483648
theorem App{r:Int}(hw:Jj r):keyOf Tryz.prog 3 (.int .i64 r)=some (.int .i64 r):=Maps.keyOf_int_mk Tryz.underlying3 hw
theorem SR:(Lit.int .i64 1).wf=true:=by decide
theorem Fw{w:World}{b:Nat}{S:Int→Bool}{R:List Int}{D:DataW Unit}{n:Nat}(hown:w.ownsMap Tryz.prog 3 (plainElem Tryz.prog 3) b n D)(hS:∀x,Jj x→has D (.int .i64 x)=S x)(hR:RegsR R)(hi:InR R S):Maps.size D=(R.filter S).length∧Maps.size D≤2147483648:=by
 have h:=(Rc hown hS hR.asc hR.wf hi.mem).2;have h2:=List.length_filter_le S R;have:=hR.len;exact⟨h,by omega⟩
def Aag(S:Int→Bool)(r:Int):Int→Bool:=fun x=>S x||x ==r
def XK(S:Int→Bool)(r:Int):Int→Bool:=fun x=>S x&&x !=r
def addL(S:Int→Bool)(l:List Int):Int→Bool:=fun x=>S x||l.contains x
theorem KQ(S:Int→Bool):addL S []=S:=by funext x;simp[addL]
theorem L6(S:Int→Bool)(l:List Int)(r:Int):addL S (l++[r])=Aag (addL S l) r:=by
 funext x;simp only[addL,Aag,List.contains_eq_mem,List.mem_append,List.mem_singleton,Bool.decide_or,Bool.or_assoc];congr 2
theorem Gl.put{w w1:World}{b n:Nat}{S:Int→Bool}{D:DataW Unit}{d:DataW Unit}{r:Int}(hown:w.ownsMap Tryz.prog 3 (plainElem Tryz.prog 3) b n D)(hS:∀x,Jj x→has D (.int .i64 x)=S x)
 (h1:w1.ownsMap Tryz.prog 3 (plainElem Tryz.prog 3) b (n+1) (D.put (.int .i64 r) d)):Gl w1 b (Aag S r):=by
 refine⟨_,IF h1,fun x hx=>?_⟩;by_cases e:x=r
 ·subst e;rw[has_put_same hown.isMap (by trivial)];simp[Aag]
 ·rw[has_put_other (by simpa using e),hS x hx];simp[Aag,e]
theorem Gl.del{w1:World}{b n:Nat}{S:Int→Bool}{D:DataW Unit}{r:Int}(hS:∀x,Jj x→has D (.int .i64 x)=S x)
 (h1:w1.ownsMap Tryz.prog 3 (plainElem Tryz.prog 3) b n (D.del (.int .i64 r))):Gl w1 b (XK S r):=by
 refine⟨_,IF h1,fun x hx=>?_⟩;by_cases e:x=r
 ·subst e;rw[has_del_same];simp[XK]
 ·rw[has_del_other (by simpa using e),hS x hx];simp[XK,e]
def Id(x:Ins)(S:Int→Bool):Int→Bool:=addL (if Az x then XK S x.d else S) (readsC x)
theorem InR.del{R:List Int}{S:Int→Bool}(h:InR R S)(r:Int):InR R (XK S r):=⟨fun x hx hs=>h.mem x hx (by simp only[XK,Bool.and_eq_true]at hs;exact hs.1)⟩
theorem InR.addL{R:List Int}{S:Int→Bool}{l:List Int}(h:InR R S)(hl:∀r∈l,r∈R):InR R (addL S l):=⟨fun x hx hs=>by
 simp only[Mu.addL,Bool.or_eq_true,List.contains_iff_mem]at hs;rcases hs with hs|hs
 ·exact h.mem x hx hs
 ·exact hl x hs⟩
theorem InR.take{R:List Int}{S:Int→Bool}{l:List Int}(h:InR R S)(hl:∀r∈l,r∈R)(k:Nat):InR R (Mu.addL S (l.take k)):=h.addL fun r hr=>hl r (List.mem_of_mem_take hr)
theorem Ua{x:Ins}(h:x.args.length≤2097152):(readsC x).length≤2097154:=by
 unfold readsC;simp only[List.length_append];have a1:(if(E6 x.op).contains 97 then [x.a]else []).length≤1:=by split <;> simp
 have a2:(if(E6 x.op).contains 98 then [x.b]else []).length≤1:=by split <;> simp
 have a3:(if(E6 x.op).contains 120 then x.args else []).length≤x.args.length:=by split <;> simp
 omega
theorem X0(x:Ins)(b:Nat)(S:Int→Bool)(R:List Int)(w:World)(cs:List Value)(hRI:Dj.R w w.heap.size cs x)(hl:x.args.length≤2097152)(hs:Gl w b S)(hR:RegsR R)(hi:InR R S)(hx:∀r∈readsC x,r∈R):
 Calls Tryz.prog 204 #[.map (some b),.agg cs.toArray] w fun e w'=>e= .returned (.tuple #[])∧Gl w' b (Id x S)∧w.grownBy w' (some b):=by
 have hRI2:=hRI;obtain⟨A,c,hI⟩:=It.1 hRI;have hb:=hs.lt;obtain⟨rfl,hop,hd,_,_,_,_,_,_,_⟩:=hI;have hrl:=Ua hl;obtain⟨cs,hcs⟩:∃cs:List Value,cs= [.int .u8 x.op,.int .i64 x.d,.int .i64 x.a,.int .i64 x.b,.int .u32 x.n,.int .i64 x.f,.slice A x.args.length c,.int .i64 x.l1,.int .i64 x.l2]:=⟨_,rfl⟩
 have q0:∀w',Bm w cs 40 b w'→w'.cell? ⟨w.heap.size,0,none⟩=some (.int .u8 x.op):=fun w' h=>h.cell hb (by rw[hcs];rfl)
 have q1:∀w',Bm w cs 40 b w'→w'.cell? ⟨w.heap.size,1,none⟩=some (.int .i64 x.d):=fun w' h=>h.cell hb (by rw[hcs];rfl)
 have q2:∀w',Bm w cs 40 b w'→w'.cell? ⟨w.heap.size,2,none⟩=some (.int .i64 x.a):=fun w' h=>h.cell hb (by rw[hcs];rfl)
 have q3:∀w',Bm w cs 40 b w'→w'.cell? ⟨w.heap.size,3,none⟩=some (.int .i64 x.b):=fun w' h=>h.cell hb (by rw[hcs];rfl)
 have q4:∀w',Bm w cs 40 b w'→w'.cell? ⟨w.heap.size,4,none⟩=some (.int .u32 x.n):=fun w' h=>h.cell hb (by rw[hcs];rfl)
 have q5:∀w',Bm w cs 40 b w'→w'.cell? ⟨w.heap.size,5,none⟩=some (.int .i64 x.f):=fun w' h=>h.cell hb (by rw[hcs];rfl)
 have q6:∀w',Bm w cs 40 b w'→w'.cell? ⟨w.heap.size,6,none⟩=some (.slice A x.args.length c):=fun w' h=>h.cell hb (by rw[hcs];rfl)
 have q7:∀w',Bm w cs 40 b w'→w'.cell? ⟨w.heap.size,7,none⟩=some (.int .i64 x.l1):=fun w' h=>h.cell hb (by rw[hcs];rfl)
 have q8:∀w',Bm w cs 40 b w'→w'.cell? ⟨w.heap.size,8,none⟩=some (.int .i64 x.l2):=fun w' h=>h.cell hb (by rw[hcs];rfl)
 have hstart:Hid (Bm w cs 40 b (w.alloc (.cells #[.int .u8 x.op,.int .i64 x.d,.int .i64 x.a,.int .i64 x.b,.int .u32 x.n,.int .i64 x.f,.slice A x.args.length c,.int .i64 x.l1,.int .i64 x.l2] 40))):=by
  have h:=Bm.refl (w0:=w) (cs:=cs) (T:=40) (b:=b);rw[hcs]at h;rw[hcs];exact h
 have HRI:=Lib.hid hRI2;have HX:=Lib.hid hx;have HS:=Lib.hid hs;clear hcs hRI hRI2 hx hs;have hst:=hstart.out
 go_enter Tryz.func204,Tryz.ntmps204
 obtain⟨mes,mc,hmap⟩:=HS.out.mapAt;have HM:=Lib.hid hmap;clear hmap
 go_wp2_with fail
 refine(Gs x _ _ (hst.R Ie HM.out HRI.out)).mono ?_;rintro e w1 ⟨rfl,hb1⟩;have hx1:Bm w cs 40 b w1:=hst.call hb1;have hs1:Hid (Gl w1 b S):=HS.out.keep ((hb1.block b (by simp;omega)).trans (Below.heap_alloc _ _ _ hb));have hlt1:=hx1.lt;clear hb1 hst hstart HS;have hg1:Hid (w.grownBy w1 (some b)):=hx1.grown;have hi1:=hi;rcases hq:Az x with _|_
 ·have HQ:=Lib.hid hq;rw[Jk HQ.out];clear hq
  go_wp2_with fail
  refine(FT x _ _ (hx1.R Ie HM.out HRI.out) hl).mono ?_;rintro e w4 ⟨v4,rfl,ho4,hb4⟩;have hx4:Bm w cs 40 b w4:=hx1.call hb4;have hs4:Hid (Gl w4 b S):=hs1.out.keep (hb4.block b (by have:=hx1.lt;omega));have hg4:Hid (w.grownBy w4 (some b)):=CL hg1.out (E7 hb4);obtain⟨A4,c4,rfl⟩:=SP ho4;have HO4:=Lib.hid ho4;have hlow4:∀g,(Value.slice A4 (readsC x).length c4).ownBlock=some g→b < g:=fun g hg=>by have:=(ho4.lt g hg).1;have:=hx1.lt;omega
  have HLOW:=Lib.hid hlow4;have hlt4:=hx4.lt;clear ho4 hb4 hlow4
  go_wp2_with fail
  go_loopw [19] (fun i wr=>∃k:Nat,k≤(readsC x).length∧i= .int .i64 k∧Hid (Gl wr b (addL S ((readsC x).take k)))∧Hid (w.grownBy wr (some b))∧Hid (Ks wr w1.heap.size (.slice A4 (readsC x).length c4) (readsC x))) (fun i _=>(readsC x).length - (RowKit.intOf i).toNat)
  case atStart=>exact⟨0,Nat.zero_le _,rfl,by rw[List.take_zero,KQ];exact hs4,hg4,HO4⟩
  case round=>
   obtain⟨k,hk,rfl,hsr,hgr,hor⟩:=hrel;clear hs4 hg4 HO4;by_cases hlt:k < (readsC x).length
   ·obtain⟨z,hz⟩:∃z,(readsC x)[k]? =some z:=⟨_,List.getElem?_eq_getElem hlt⟩
    have hzR:=HX.out z (List.mem_of_getElem? hz);have hzw:=hR.wf z hzR;obtain⟨g,cap,e,_⟩:=PB hor.out (by omega);cases e;have hcz:=SQ hor.out hz;obtain⟨D,hown,hD⟩:=hsr.out;have hsz:=Fw hown hD hR (hi1.take HX.out k);have hm:Maps.size D < maxLen:=by have:=hsz.2;unfold maxLen;omega
    have HD:=Lib.hid hD;have HZ:=Lib.hid hz;have HK:=Lib.hid (App hzw);clear hsz hD hz hsr
    go_wp2_with (at_mapUpdate;refine wpList_mapUpdate_own _ rfl _ _ _ 218 rfl 3 3 Abm Tryz.underlying218 _ b _ D rfl hown hm _ _ (.int .i64 z) rfl rfl HK.out _ [] (plainElem_int Tryz.underlying3 SR) ?_;intro w5 hown5 hgrow5)
    have hs5:Hid (Gl w5 b (addL S ((readsC x).take (k+1)))):=by
     rw[List.take_add_one,HZ.out,Option.toList_some,L6];exact Gl.put hown HD.out hown5
    have hg5:Hid (w.grownBy w5 (some b)):=CL hgr.out hgrow5;have ho5:Hid (Ks w5 w1.heap.size (.slice (some ⟨g,0,none⟩) (readsC x).length c4) (readsC x)):=J3 hor.out (fun q hq=>hgrow5.block q (World.ownsRow.lt hor.out q hq).2 (by have:=HLOW.out q hq;simp;omega));clear hown5 hgrow5 hgr hor hown hcz
    go_wp2_with fail
    go_roundw
    case rel=>exact⟨k+1,by omega,by go_num,hs5,hg5,ho5⟩
    case measure=>simp[RowKit.intOf];omega
   ·obtain rfl:k=(readsC x).length:=by omega
    have hfin:Hid (Gl wr b (Id x S)):=by
     have h:=hsr.out;rw[List.take_length]at h;unfold Id;rw[HQ.out,if_neg (by simp)];exact h
    go_wp2_with fail
    go_end0
    exact⟨rfl,hfin.out,hgr.out⟩
 ·have HQ:=Lib.hid hq;rw[Hx HQ.out];clear hq;have HKD:=Lib.hid (App (r:=x.d) hd);obtain⟨D0,hown0,hD0⟩:=hs1.out;have HD0:=Lib.hid hD0;clear hD0;have hi2:=hi.del x.d
  go_wp2_with (at_delete;refine wpList_delete_own _ rfl _ _ 218 3 rfl 3 Abm Tryz.underlying218 _ b _ D0 rfl hown0 _ _ rfl HKD.out ?_)
  intro w2 hown2 hturn2;have hs2:Hid (Gl w2 b (XK S x.d)):=Gl.del HD0.out hown2;have hg2:Hid (w.grownBy w2 (some b)):=CL hg1.out hturn2.grown;have hx2:Bm w cs 40 b w2:=hx1.turn hturn2.grown;have hlt2:=hx2.lt;clear hown2 hturn2 hown0 hs1 hg1
  go_wp2_with fail
  refine(FT x _ _ (hx2.R Ie HM.out HRI.out) hl).mono ?_;rintro e w4 ⟨v4,rfl,ho4,hb4⟩;have hx4:Bm w cs 40 b w4:=hx2.call hb4;have hs4:Hid (Gl w4 b (XK S x.d)):=hs2.out.keep (hb4.block b (by have:=hx2.lt;omega));have hg4:Hid (w.grownBy w4 (some b)):=CL hg2.out (E7 hb4);obtain⟨A4,c4,rfl⟩:=SP ho4;have HO4:=Lib.hid ho4;have hlow4:∀g,(Value.slice A4 (readsC x).length c4).ownBlock=some g→b < g:=fun g hg=>by have:=(ho4.lt g hg).1;have:=hx2.lt;omega
  have HLOW:=Lib.hid hlow4;have hlt4:=hx4.lt;clear ho4 hb4 hlow4
  go_wp2_with fail
  go_loopw [19] (fun i wr=>∃k:Nat,k≤(readsC x).length∧i= .int .i64 k∧Hid (Gl wr b (addL (XK S x.d) ((readsC x).take k)))∧Hid (w.grownBy wr (some b))∧Hid (Ks wr w2.heap.size (.slice A4 (readsC x).length c4) (readsC x))) (fun i _=>(readsC x).length - (RowKit.intOf i).toNat)
  case atStart=>exact⟨0,Nat.zero_le _,rfl,by rw[List.take_zero,KQ];exact hs4,hg4,HO4⟩
  case round=>
   obtain⟨k,hk,rfl,hsr,hgr,hor⟩:=hrel;clear hs4 hg4 HO4;by_cases hlt:k < (readsC x).length
   ·obtain⟨z,hz⟩:∃z,(readsC x)[k]? =some z:=⟨_,List.getElem?_eq_getElem hlt⟩
    have hzR:=HX.out z (List.mem_of_getElem? hz);have hzw:=hR.wf z hzR;obtain⟨g,cap,e,_⟩:=PB hor.out (by omega);cases e;have hcz:=SQ hor.out hz;obtain⟨D,hown,hD⟩:=hsr.out;have hsz:=Fw hown hD hR (hi2.take HX.out k);have hm:Maps.size D < maxLen:=by have:=hsz.2;unfold maxLen;omega
    have HD:=Lib.hid hD;have HZ:=Lib.hid hz;have HK:=Lib.hid (App hzw);clear hsz hD hz hsr
    go_wp2_with (at_mapUpdate;refine wpList_mapUpdate_own _ rfl _ _ _ 218 rfl 3 3 Abm Tryz.underlying218 _ b _ D rfl hown hm _ _ (.int .i64 z) rfl rfl HK.out _ [] (plainElem_int Tryz.underlying3 SR) ?_;intro w5 hown5 hgrow5)
    have hs5:Hid (Gl w5 b (addL (XK S x.d) ((readsC x).take (k+1)))):=by
     rw[List.take_add_one,HZ.out,Option.toList_some,L6];exact Gl.put hown HD.out hown5
    have hg5:Hid (w.grownBy w5 (some b)):=CL hgr.out hgrow5;have ho5:Hid (Ks w5 w2.heap.size (.slice (some ⟨g,0,none⟩) (readsC x).length c4) (readsC x)):=J3 hor.out (fun q hq=>hgrow5.block q (World.ownsRow.lt hor.out q hq).2 (by have:=HLOW.out q hq;simp;omega));clear hown5 hgrow5 hgr hor hown hcz
    go_wp2_with fail
    go_roundw
    case rel=>exact⟨k+1,by omega,by go_num,hs5,hg5,ho5⟩
    case measure=>simp[RowKit.intOf];omega
   ·obtain rfl:k=(readsC x).length:=by omega
    have hfin:Hid (Gl wr b (Id x S)):=by
     have h:=hsr.out;rw[List.take_length]at h;unfold Id;rw[HQ.out,if_pos rfl];exact h
    go_wp2_with fail
    go_end0
    exact⟨rfl,hfin.out,hgr.out⟩
end Mu
end
section
namespace Mu
open Go Go.RowKit Go.Proofs Go.Shelf Go.Maps
theorem Qc{b:Nat}{S:Int→Bool}(w:World)(h:Gl w b S):
 Calls Tryz.prog 201 #[.map (some b)] w fun e w'=>e= .returned (.map (some w.heap.size))∧Gl w' w.heap.size S∧∃es c,w'=w.alloc (.map es c):=by
 obtain⟨D,hown,hS⟩:=h;have hlt:=hown.lt;obtain⟨es,clock,hb,Ft,hs,hD⟩:=hown;refine(AnyW.maps_Clone Tryz.cloneM b es clock w hb).mono fun e w' ⟨he,hw⟩=>?_
 subst hw;exact⟨he,⟨D,⟨es,clock,(MapKept.heap_alloc w _).1,Ft,hs,hD⟩,hS⟩,es,clock,rfl⟩
theorem Xe{w:World}{bd bs nd ns:Nat}{Dd Ds:DataW Unit}(hd:w.ownsMap Tryz.prog 3 (plainElem Tryz.prog 3) bd nd Dd)(hs:w.ownsMap Tryz.prog 3 (plainElem Tryz.prog 3) bs ns Ds)(k:Lit):
 has (Lib.mergeD Dd Ds) k=(has Dd k||has Ds k):=by
 obtain⟨ed,rfl,_,_⟩:=hd.entries Abm;obtain⟨es,rfl,_,_⟩:=hs.entries Abm;obtain⟨es',hD',hko⟩:=hs.keysOf;obtain rfl:es=es':=by simpa using hD'
 have hk:∀p∈es,WideAt.IsKeyLit p.1:=fun p hp=>by
  obtain⟨v,hv⟩:=hko p hp;obtain⟨x,_,hx,hw⟩:=Maps.keyOf_i64 Tryz.underlying3 hv;rw[hx];exact trivial
 exact has_foldPut k es _ ⟨_,rfl⟩ hk
theorem Z0{bd bs:Nat}{S T:Int→Bool}{R:List Int}(w:World)(hd:Gl w bd S)(hs:Gl w bs T)(hne:bd≠bs)(hR:RegsR R)(hi:InR R S)(hj:InR R T):
 Calls Tryz.prog 206 #[.map (some bd),.map (some bs)] w fun e w'=>e= .returned (.tuple #[])∧Gl w' bd (fun x=>S x||T x)∧Gl w' bs T∧w.grownBy w' (some bd):=by
 obtain⟨Dd,hod,hS⟩:=hd;obtain⟨Ds,hos,hT⟩:=hs;have h1:=Fw hod hS hR hi;have h2:=Fw hos hT hR hj;refine(AnyX.maps_Copy Tryz.copyM Abm (plainElem Tryz.prog 3) bd bs _ _ Dd Ds w hod hos hne ?_).mono ?_
 ·have:=h1.2;have:=h2.2;unfold maxLen;omega
 ·rintro e w' ⟨rfl,g1,g2,g3⟩;refine⟨rfl,⟨_,IF g1,fun x hx=>?_⟩,⟨Ds,g2,hT⟩,g3⟩;rw[Xe hod hos,hS x hx,hT x hx]
end Mu
end
section
namespace Mu
open Go Go.RowKit Go.Proofs Go.Maps
def G3(S:Int→Bool)(m:Nat):Res:=⟨[],fun g=>g=m,fun w _=>Gl w m S,fun h hk _ _=>h.keep (hk m rfl)⟩
theorem D5{w:World}{S:Nat→Prop}{h:List ABlk}{ψ:Nat→Value}{u:Value}{l:List AV}{vs:List Value}(H:Ad w S h ψ (.lit u::l) vs):∃us,vs=u::us∧Ad w S h ψ l us:=by
 unfold Ad AV.rel at H;obtain⟨v,us,e,rfl,h2⟩:=H;exact⟨us,e,h2⟩
theorem Qk(x:Ins)(S:Int→Bool)(R:List Int)(m:Nat)(ho:okIns x)(hl:x.args.length≤2097152)(hR:RegsR R)(hi:InR R S)(hx:∀r∈readsC x,r∈R):
 Gh Tryz.prog 204 (G3 S m) [.lit (.map (some m)),.agg (AL x)] (fun _:Unit=>G3 (Id x S) m) (fun _=>.tuple #[]):=by
 refine⟨by kernel_rfl,fun w T vs hT hF hs hr=>?_⟩;obtain⟨us,rfl,h1⟩:=D5 hr;obtain⟨v,rfl,h2⟩:=Aaa h1;unfold AV.rel at h2;obtain⟨cs,rfl,hcs⟩:=h2;refine(X0 x m S R w cs (Dj.keepS (F1 ho hcs) (fun _ _=>rfl) fun k hk=>(hT k hk).1) hl hs hR hi hx).mono ?_;rintro e w' ⟨rfl,h1,h2⟩;exact⟨_,rfl,⟨h2.os,h2.tape,h2.output,h2.size,fun k hk hn=>h2.block k hk fun e=>hn (by injection e)⟩,(),rfl,h1,fun k hk=>by
  have hk:k=m:=hk;subst hk;exact⟨.inl rfl,h1.lt⟩⟩
theorem XQ(Rr:Res)(S:Int→Bool)(m:Nat)(hRS:∀w T,Rr.R w T→Gl w m S):
 Yj Tryz.prog 201 Rr [.lit (.map (some m))] (G3 S) (fun p=>.map (some p)):=by
 refine⟨by kernel_rfl,fun w T vs hT hF hs hr=>?_⟩;obtain⟨us,rfl,h0⟩:=D5 hr;unfold Ad at h0;subst h0;refine(Qc w (hRS w T hs)).mono ?_;rintro e w' ⟨rfl,h1,es,c,rfl⟩;have hb:Below w.heap.size w (w.alloc (.map es c)):=(Below.refl _ _).alloc (Nat.le_refl _) _;exact⟨_,rfl,⟨hb.os,hb.tape,hb.output,hb.size,fun k hk _=>hb.block k hk⟩,w.heap.size,rfl,h1,fun k hk=>by
  have hk:k=w.heap.size:=hk;subst hk;exact⟨.inr (Nat.le_refl _),h1.lt⟩⟩
theorem Ut(Rr:Res)(S:Int→Bool)(R:List Int)(m:Nat)(hR:RegsR R)(hi:InR R S)(hRS:∀w T,Rr.R w T→Gl w m S):
 FnR Tryz.prog 202 Rr [.lit (.map (some m))] (.bs tInt (R.filter S)):=by
 refine⟨by kernel_rfl,fun w T vs hT hF hs hr=>?_⟩;obtain⟨us,rfl,h0⟩:=D5 hr;unfold Ad at h0;subst h0;refine(YS w (hRS w T hs) hR.asc hR.wf hi.mem hR.len).mono ?_;rintro e w' ⟨v,rfl,h1,h2⟩;refine⟨v,rfl,h2,fun k=>T k∨v.ownBlock=some k,fun _ h=>.inl h,fun k hk=>?_,fun k hk=>?_,?_⟩
 ·rcases hk with hk|hk
  ·exact .inl hk
  ·exact .inr (h1.lt k hk).1
 ·rcases hk with hk|hk
  ·exact Nat.lt_of_lt_of_le (hT k hk) h2.size
  ·exact(h1.lt k hk).2
 ·unfold AV.rel;exact tInt.slice.keepS (Lr h1 fun x hx=>hR.wf x (List.mem_filter.1 hx).1) (fun _ _=>rfl) fun k hk=>.inr hk
section
variable{P:Program}{C:Ctx}{t:List AV}{h:List ABlk}{o:Oper}{ι:Type}{Rs:ι→Res}{val:ι→Value}
def Yi(P:Program)(f:FuncId)(R R2:Res)(args:List AV)(Rs:ι→Res)(val:ι→Value):Prop:=
 Bw P f=true∧∀(w:World) (S:Nat→Prop) (vs:List Value),(∀k,S k→k < w.heap.size∧¬R.F k)→(∀g,R.F g→g < w.heap.size)→R.R w S→R2.R w S→(∀g,R.F g→¬R2.F g)→Ad w S [] ψ0 args vs→
  Calls P f vs.toArray w fun e w'=>∃v,e= .returned v∧Turns w S R.F Rs val v w'
theorem OI{i j:Nat}{R R2:Res}{f:FuncId}{args:Array Operand}{tys:Array TypeId}{xs:List AV}{K:St→Prop}(hij:i≠j)(hi:h[i]? =some (.res R))(hj:h[j]? =some (.res R2))
 (ho:o.op= .call {callee:=.value (.func f),args:=args,argTypes:=tys}) (hF:Yi P f R R2 xs Rs val) (hm:∀p,(Rs p).mrk=R.mrk) (hx:args.toList.map (evA t)=xs) (hc:AZ xs=true)
 (hK:∀p,K ⟨AJ t o.dst (.lit (val p)),h.set i (.res (Rs p))⟩):AOp P C o ⟨t,h⟩ K:=by
 refine AOp.turn hi hm (fun S ψ w ρ H hR hlt hρ=>?_) hK;have h1:ρ (.func f)= .func (.func f) #[] #[]:=by
  have:=hρ (.func f) (by rw[ho];exact Array.mem_append.2 (.inl (by simp)));simpa[evA,AV.rel]using this
 rw[CJ ho hF.1 ρ w h1];refine⟨rfl,?_⟩;have h2:Ad w S h ψ xs (args.toList.map ρ):=by
  rw[←hx];exact BY fun x hx'=>hρ x (by rw[ho];exact Array.mem_append.2 (.inr (Array.mem_toList_iff.1 hx')))
 rw[show(args.map ρ)=(args.toList.map ρ).toArray from(by rw[←Array.toList_map])];exact hF.2 w S (args.toList.map ρ) (fun k hk=>⟨H.lt k hk,fun hf=>((H.blk i _ hi).1 k hf).2.1 hk⟩) hlt hR (H.blk j _ hj).2 (fun g k1 k2=>H.dis i j hij (by rw[hi];rfl) (by rw[hj];rfl) g (by rw[hi];exact k1) (by rw[hj];exact k2)) (AQ _ _ hc h2)
end
end Mu
end
section
namespace Mu
open Go
def rdB(r:Int):List Ins→Bool
 | []=>false
 |x::ds=>(readsC x).contains r||(!(Az x&&x.d ==r)&&rdB r ds)
def Yx(r:Int):List Ins→Bool
 | []=>true
 |x::ds=>!(Az x&&x.d ==r)&&Yx r ds
def inS(ds:List Ins)(S:Int→Bool):Int→Bool:=ds.foldr Id S
theorem KP(x:Ins)(S:Int→Bool)(r:Int):Id x S r=((readsC x).contains r||(!(Az x&&x.d ==r)&&S r)):=by
 unfold Id addL XK;cases hw:Az x
 ·simp[Bool.or_comm]
 ·have e:(r ==x.d)=(x.d ==r):=by
   by_cases h:r=x.d
   ·subst h;simp
   ·rw[beq_eq_false_iff_ne.2 h,beq_eq_false_iff_ne.2 (Ne.symm h)]
  simp[bne,e,Bool.or_comm,Bool.and_comm]
theorem M2(ds:List Ins)(S:Int→Bool)(r:Int):inS ds S r=(rdB r ds||(Yx r ds&&S r)):=by
 induction ds with
 |nil=>simp[inS,rdB,Yx]
 |cons x ds ih=>
  have h:inS (x::ds) S r=Id x (inS ds S) r:=rfl;rw[h,KP,ih,rdB,Yx];cases(readsC x).contains r <;> cases(Az x&&x.d ==r) <;> simp
def BW(f:Func)(b:Nat):List Ins:=match f.blocks[b]? with|some bl=>bl.ins|none=>[]
def Edge(f:Func)(k b:Nat):Prop:=∃x∈F4 f (k:Int),x.1=b
inductive LOut (f:Func):Nat→Int→Prop
 |read {k b:Nat} {r:Int} (he:Edge f k b) (h:rdB r (BW f b)=true):LOut f k r
 |pass {k b:Nat} {r:Int} (he:Edge f k b) (h:Yx r (BW f b)=true) (hl:LOut f b r):LOut f k r
theorem Vl{f:Func}{k b:Nat}{r:Int}{S:Int→Bool}(he:Edge f k b)(hS:S r=true→LOut f b r)(h:inS (BW f b) S r=true):LOut f k r:=by
 rw[M2]at h;simp only[Bool.or_eq_true,Bool.and_eq_true]at h;rcases h with h|⟨h1,h2⟩
 ·exact .read he h
 ·exact .pass he h1 (hS h2)
def Sub(R:List Int)(S:Int→Bool):Prop:=∀x,S x=true→x∈R
theorem Sub.inR{R:List Int}{S:Int→Bool}(h:Sub R S):InR R S:=⟨fun x _ hs=>h x hs⟩
theorem Sub.back{R:List Int}{S:Int→Bool}{x:Ins}(h:Sub R S)(hx:∀r∈readsC x,r∈R):Sub R (Id x S):=fun r hr=>by
 rw[KP]at hr;simp only[Bool.or_eq_true,Bool.and_eq_true,List.contains_iff_mem]at hr;rcases hr with hr|⟨_,hr⟩
 ·exact hx r hr
 ·exact h r hr
theorem Sub.inS{R:List Int}{S:Int→Bool}{ds:List Ins}(h:Sub R S)(hx:∀x∈ds,∀r∈readsC x,r∈R):Sub R (Mu.inS ds S):=by
 induction ds with
 |nil=>exact h
 |cons x ds ih=>exact(ih fun y hy=>hx y (by simp[hy])).back (hx x (by simp))
def uni(S N:Int→Bool):Int→Bool:=fun x=>S x||N x
theorem ZZ{R:List Int}{S N:Int→Bool}:(R.filter S).length≤(R.filter (uni S N)).length:=by
 induction R with
 |nil=>simp
 |cons x l ih=>
  have e:(uni S N) x=(S x||N x):=rfl;simp only[List.filter_cons,e];cases hS:S x <;> cases hN:N x <;> simp <;> omega
theorem UM{R:List Int}{S N:Int→Bool}(h:(R.filter (uni S N)).length≤(R.filter S).length):∀x∈R,N x=true→S x=true:=by
 induction R with
 |nil=>simp
 |cons y l ih=>
  have hc:(l.filter S).length≤(l.filter (uni S N)).length:=ZZ;have e:(uni S N) y=(S y||N y):=rfl;simp only[List.filter_cons,e]at h;intro x hx hn;cases hS:S y
  ·cases hN:N y
   ·simp only[hS,hN,Bool.or_false,Bool.false_eq_true,if_false]at h;rcases List.mem_cons.1 hx with rfl|hx
    ·rw[hN]at hn;cases hn
    ·exact ih h x hx hn
   ·simp only[hS,hN,Bool.or_true,Bool.false_eq_true,if_true,if_false,List.length_cons]at h;omega
  ·simp only[hS,Bool.true_or,if_true,List.length_cons]at h;rcases List.mem_cons.1 hx with rfl|hx
   ·exact hS
   ·exact ih (by omega) x hx hn
theorem SA{R:List Int}{S N:Int→Bool}(hN:Sub R N)(h:(R.filter (uni S N)).length≤(R.filter S).length):uni S N=S:=by
 funext x;unfold uni;cases hS:S x
 ·cases hn:N x
  ·rfl
  ·have:=UM h x (hN x hn) hn;rw[hS]at this;cases this
 ·rfl
end Mu
end
section
namespace Mu
open Go Go.RowKit Go.Proofs Go.Maps
def mapsR(ms:List Nat)(Ss:List (Int→Bool)):Res:=⟨[],fun g=>g∈ms,fun w _=>ms.length=Ss.length∧ms.Nodup∧∀(i m:Nat) (S:Int→Bool),ms[i]? =some m→Ss[i]? =some S→Gl w m S,
 fun h hk _ _=>⟨h.1,h.2.1,fun i m S hm hS=>(h.2.2 i m S hm hS).keep (hk m (List.mem_of_getElem? hm))⟩⟩
theorem Xz(w:World):Gl (w.alloc (.map #[] 0)) w.heap.size (fun _=>false):=
 ⟨.map [],IF (World.ownsMap_made w Tryz.prog 3 (plainElem Tryz.prog 3)),fun x _=>by simp[has_eq]⟩
theorem GF{ms:List Nat}{Ss:List (Int→Bool)}{k m:Nat}{S:Int→Bool}(hm:ms[k]? =some m)(hS:Ss[k]? =some S):∀w T,(mapsR ms Ss).R w T→Gl w m S:=fun _ _ h=>h.2.2 k m S hm hS
section
variable{C:Ctx}{t:List AV}{h:List ABlk}{o:Oper}{K:St→Prop}
theorem QO{ty:TypeId}(ho:o.op= .makeMap ty none)(hK:∀m,K ⟨AJ t o.dst (.lit (.map (some m))),h++[.res (G3 (fun _=>false) m)]⟩):AOp Tryz.prog C o ⟨t,h⟩ K:=by
 refine Cj (ι:=Nat) (Rs:=G3 fun _=>false) (val:=fun m=>.map (some m)) (fun _=>rfl) (fun S ψ w ρ H hρ=>?_) hK;have he:(execOp ρ o).run Tryz.prog w= .ok (.value (.map (some w.heap.size))) (w.alloc (.map #[] 0)):=by simp[execOp,ho,run_makeMap]
 rw[he];have hbl:=(Below.refl w.heap.size w).alloc (Nat.le_refl _) (.map #[] 0);refine⟨⟨hbl.os,hbl.tape,hbl.output,hbl.size,fun k hk _=>hbl.block k hk⟩,w.heap.size,rfl,Xz w,fun k hk=>?_⟩;have hk:k=w.heap.size:=hk;subst hk;exact⟨.inr (Nat.le_refl _),by simp⟩
theorem U9{i j m:Nat}{ms:List Nat}{Ss:List (Int→Bool)}{S:Int→Bool}(hij:i≠j)(hi:h[i]? =some (.res (mapsR ms Ss)))(hj:h[j]? =some (.res (G3 S m))):
 St.le C ⟨t,h⟩ ⟨t,(h.set j .dead).set i (.res (mapsR (ms++[m]) (Ss++[S])))⟩:=
 C8 hij hi hj rfl rfl rfl (fun g hg=>by
  have hg:g∈ms++[m]:=hg;rcases List.mem_append.1 hg with h1|h1
  ·exact .inl h1
  ·exact .inr (show g=m by simpa using h1)) fun w T h1 h2 hd=>by
   obtain⟨k1,k2,k3⟩:=h1;refine⟨by simp[k1],?_,fun i m' S' hm hS=>?_⟩
   ·rw[List.nodup_append];refine⟨k2,by simp,fun a ha b hb e=>?_⟩;have hb:b=m:=by simpa using hb
    subst hb;subst e;exact hd a ha rfl
   ·by_cases hi:i < ms.length
    ·rw[List.getElem?_append_left hi]at hm;rw[List.getElem?_append_left (by omega)]at hS;exact k3 i m' S' hm hS
    ·rw[List.getElem?_append_right (by omega)]at hm hS;have e0:i - ms.length=0:=by
      have:=(List.getElem?_eq_some_iff.1 hm).1;simp at this;omega
     rw[e0]at hm;rw[←k1,e0]at hS;cases hm;cases hS;exact h2
theorem JO{ty:TypeId}{x:Operand}{i m:Nat}{R:Res}{S:Int→Bool}{L:List Int}(ho:o.op= .call {callee:=.builtin .len,args:=#[x],argTypes:=#[ty]})(hty:Tryz.prog.underlying ty=some (.map 3 3))(hx:evA t x= .lit (.map (some m)))(hi:h[i]? =some (.res R))(hRS:∀w T,R.R w T→Gl w m S)
 (hR:RegsR L) (hin:InR L S):Av Tryz.prog C t h o (.lit (.int .i64 (((L.filter S).length:Nat):Int))):=
 Ap fun T ψ w ρ H hρ=>by
  have h1:=hρ x (by simp[ho,Op.operands,Call.operands]);rw[hx]at h1;unfold AV.rel at h1;obtain⟨D,hown,hS⟩:=hRS w T (H.blk i _ hi).2;have hsz:=(Fw hown hS hR hin).1;have hl:=hown.len (e:=3) hty o.type;rw[hsz]at hl;refine⟨_,by simp[execOp,ho,resolve,invoke,builtin,h1,hl];rfl,?_⟩;unfold AV.rel;rfl
end
theorem UP{ms:List Nat}{Ss:List (Int→Bool)}{k m:Nat}{S:Int→Bool}(hm:ms[k]? =some m)(hS:Ss[k]? =some S):
 Yj Tryz.prog 201 (mapsR ms Ss) [.lit (.map (some m))] (G3 S) (fun p=>.map (some p)):=XQ _ S m (GF hm hS)
theorem UN{ms:List Nat}{Ss:List (Int→Bool)}{k m mn:Nat}{S N:Int→Bool}{L:List Int}(hm:ms[k]? =some m)(hS:Ss[k]? =some S)(hR:RegsR L)(hi:InR L S)(hj:InR L N):
 Yi Tryz.prog 206 (mapsR ms Ss) (G3 N mn) [.lit (.map (some m)),.lit (.map (some mn))] (fun _:Unit=>mapsR ms (Ss.set k (uni S N))) (fun _=>.tuple #[]):=by
 refine⟨by kernel_rfl,fun w T vs hT hF hs hs2 hd hr=>?_⟩;obtain⟨us,rfl,h1⟩:=D5 hr;obtain⟨us,rfl,h2⟩:=D5 h1;unfold Ad at h2;subst h2;have hmem:=List.mem_of_getElem? hm;have hkl:k < ms.length:=(List.getElem?_eq_some_iff.1 hm).1;refine(Z0 w (GF hm hS w T hs) hs2 (fun e=>hd m hmem e) hR hi hj).mono ?_;rintro e w' ⟨rfl,h1,h2,h3⟩;refine⟨_,rfl,⟨h3.os,h3.tape,h3.output,h3.size,fun q hq hn=>h3.block q hq fun e=>hn (by cases e;exact hmem)⟩,(),rfl,⟨by simp[hs.1],hs.2.1,fun i m' S' hm' hS'=>?_⟩,fun q hq=>?_⟩
 ·by_cases hik:i=k
  ·subst hik;rw[hm]at hm';cases hm';rw[List.getElem?_set_self (by rw[←hs.1];exact hkl)]at hS';cases hS';exact h1
  ·rw[List.getElem?_set_ne (Ne.symm hik)]at hS';have hne:m'≠m:=fun e=>hik (by
    subst e;exact(List.getElem?_inj (List.getElem?_eq_some_iff.1 hm').1 hs.2.1).1 (hm'.trans hm.symm))
   have hk:=hs.2.2 i m' S' hm' hS';exact hk.keep (h3.block m' hk.lt fun e=>hne (by cases e;rfl))
 ·have:=hF q hq;exact⟨.inl hq,Nat.lt_of_lt_of_le this h3.size⟩
end Mu
end
section
namespace Mu
open Go
def VA{f:Func}(b:Nat)(ls:List (List Int))(x:Blk f):List (List Int):=ls.set x.1 (ls.getD x.1 []++[(b:Int)])
def If{f:Func}(b:Nat)(pre:List (Blk f))(ls:List (List Int)):List (List Int):=pre.foldl (VA b) ls
def I2(f:Func):Nat→List (List Int)
 |0=>List.replicate f.blocks.length []
 |b+1=>If b (F4 f b) (I2 f b)
theorem U2{f:Func}(b:Nat)(pre:List (Blk f))(x:Blk f)(ls:List (List Int)):If b (pre++[x]) ls=VA b (If b pre ls) x:=by simp[If]
theorem Kc{f:Func}(b:Nat)(pre:List (Blk f))(ls:List (List Int)):(If b pre ls).length=ls.length:=by
 induction pre generalizing ls with
 |nil=>rfl
 |cons x l ih=>
  show(If b l (VA b ls x)).length=_;rw[ih];simp[VA]
theorem Ic(f:Func)(b:Nat):(I2 f b).length=f.blocks.length:=by
 induction b with
 |zero=>simp[I2]
 |succ b ih=>rw[I2,Kc,ih]
theorem Age{f:Func}{b:Nat}{ls:List (List Int)}{x:Blk f}{n:Nat}(h:∀l∈ls,l.length≤n):∀l∈VA b ls x,l.length≤n+1:=fun l hl=>by
 rcases List.mem_or_eq_of_mem_set hl with hl|rfl
 ·have:=h l hl;omega
 ·rw[List.length_append];have:(ls.getD x.1 []).length≤n:=by
   rw[List.getD_eq_getElem?_getD];cases hx:ls[x.1]? with
   |none=>simp
   |some l=>exact h l (List.mem_of_getElem? hx)
  simp;exact this
theorem Ot{f:Func}{b:Nat}{n:Nat}:∀(pre:List (Blk f)) {ls:List (List Int)} (_:∀l∈ls,l.length≤n),∀l∈If b pre ls,l.length≤n+pre.length
 | [],ls,h=>by simpa[If]using h
 |x::pre,ls,h=>fun l hl=>by
  have:=Ot (n:=n+1) pre (Age (x:=x) (b:=b) h) l hl;simp;omega
theorem XZ(f:Func)(b:Nat):∀l∈I2 f b,l.length≤2 * b:=by
 induction b with
 |zero=>intro l hl;obtain rfl:=List.eq_of_mem_replicate hl;simp
 |succ b ih=>
  intro l hl;have:=Ot (F4 f b) ih l hl;have:=Lv f b;omega
end Mu
end
section
namespace Mu
open Go Go.RowKit
section
variable{P:Program}{C:Ctx}
def gM(P:Program)(C:Ctx){ι:Type}(F:ι→(Nat→Bool)→St)(ops:Array Oper):Nat→List Oper→Prop
 |_,[]=>True
 |k,o::rest=>(∀i b,b k=false→U1 b o→XP ops b→AOp P C o (F i b) fun s=>∃i',St.le C s (F i' (upd b k)))∧gM P C F ops (k+1) rest
theorem Ab8{ι:Type}{F:ι→(Nat→Bool)→St}{ops:Array Oper}:∀{l:List Oper} {k j:Nat} {o:Oper},gM P C F ops k l→l[j]? =some o→∀i b,b (k+j)=false→U1 b o→XP ops b→AOp P C o (F i b) fun s=>∃i',St.le C s (F i' (upd b (k+j)))
 | [],_,_,_,_,hj=>by simp at hj
 |o'::l,k,0,o,h,hj=>by
  simp at hj;subst hj;exact h.1
 |o'::l,k,j+1,o,h,hj=>by
  have:=Ab8 (l:=l) (k:=k+1) (j:=j) h.2 (by simpa using hj);rwa [show k+1+j=k+(j+1)by omega]at this
theorem Ey{ι:Type}{F:ι→(Nat→Bool)→St}{ops:Array Oper}{k:Nat}{o:Oper}{rest:List Oper}(h1:∀i b,b k=false→U1 b o→XP ops b→AOp P C o (F i b) fun s=>∃i',St.le C s (F i' (upd b k)))(h2:gM P C F ops (k+1) rest):gM P C F ops k (o::rest):=⟨h1,h2⟩
theorem Aor{ι:Type}{F:ι→(Nat→Bool)→St}{ops:Array Oper}{k:Nat}:gM P C F ops k []:=trivial
theorem TN{ops:Array Oper}{ι:Type}{F:ι→(Nat→Bool)→St}{Q':Exit→Act→World→Prop}(hf:Aot ops=true)
 (hs:∀(j:Nat) (o:Oper),ops[j]? =some o→∀(i:ι) b,b j=false→U1 b o→XP ops b→AOp P C o (F i b) fun s=>∃i',St.le C s (F i' (upd b j)))
 (hQ:∀i a w,(F i fun _=>true).rel C a w→Q' .normal a w):
 ∀(f:Nat) (listed:Array Bool) (a:Act) (w:World),listed.size=ops.size→listed.toList.count false=f→XP ops (fun j=>listed.getD j true)→∀i,(F i fun j=>listed.getD j true).rel C a w→wpAny P .any ops Q' f listed a w:=by
 intro f;induction f with
 |zero=>
  intro listed a w hsz hc hcl ix H;have hall:∀j,listed.getD j true=true:=fun j=>by
   rcases Nat.lt_or_ge j listed.size with h'|h'
   ·have hm:=List.count_eq_zero.1 hc;simp only[Array.getD_eq_getD_getElem?,Array.getElem?_eq_getElem h',Option.getD_some];rcases hx:listed[j]with _|_
    ·exact absurd (by rw[←hx];simp) hm
    ·rfl
   ·simp[Array.getD_eq_getD_getElem?,Array.getElem?_eq_none h']
  refine⟨List.eq_nil_iff_forall_not_mem.2 fun i hi=>?_,hQ ix a w ?_⟩
  ·have:=(mem_ready.1 hi).1;rw[hall i]at this;cases this
  ·have e:(fun j=>listed.getD j true)=fun _=>true:=funext hall
   rwa [e]at H
 |succ f ih=>
  intro listed a w hsz hc hcl ix H;refine⟨fun h0=>?_,fun i hi=>?_⟩
  ·exfalso;have hex:∃j,listed.getD j true=false:=by
    have hm:false∈listed.toList:=List.count_pos_iff.1 (by omega);obtain⟨j,hj,he⟩:=List.getElem_of_mem hm;exact⟨j,by simp only[Array.length_toList]at hj;simp only[Array.getElem_toList]at he;simp[Array.getD_eq_getD_getElem?,hj,he]⟩
   obtain⟨j,hj,hmin⟩:=F7 hex;have hjs:j < ops.size:=by
    rcases Nat.lt_or_ge j listed.size with h'|h'
    ·omega
    ·simp[Array.getElem?_eq_none h']at hj
   have hmem:j∈Region.ready .any ops listed:=mem_ready.2 ⟨hj,_,Array.getElem?_eq_getElem hjs,fun e he hb=>by
    have hlt:=(Oi hf (Array.getElem?_eq_getElem hjs)).2 e he hb;cases hx:listed.getD e.on false with
    |true=>rfl
    |false=>
     have hin:e.on < listed.size:=by omega
     have:=hmin e.on (getD_in hin hx);omega⟩
   rw[h0]at hmem;cases hmem
  ·obtain⟨hun,o,ho,hall⟩:=mem_ready.1 hi;have his:i < listed.size:=by rw[hsz];exact(Array.getElem?_eq_some_iff.1 ho).1
   obtain⟨hg,hfw⟩:=Oi hf ho;have haft:U1 (fun j=>listed.getD j true) o:=fun k e he hb=>Ab5 (hall e (Array.mem_of_getElem? he) hb)
   have hcnt:(listed.setIfInBounds i true).toList.count false=f:=by
    have hfalse:listed.toList[i]'(by simpa using his)=false:=by
     have:=hun;simp[Array.getD_eq_getD_getElem?,his]at this;simpa using this
    rw[Array.toList_setIfInBounds,List.count_set (by simpa using his),hfalse,hc];simp
   unfold wpOp;simp only[ho];have hw:Region.wanted o (yielded ops a.tmps)=true:=by unfold Region.wanted;rw[hg]
   rw[hw,if_pos rfl];refine .inl (Oper.wp_mono (fun a' w' ⟨s',⟨iy,hle⟩,hr⟩=>?_) (hs i o ho ix _ hun haft hcl Q' a w H).2);refine ih _ a' w' (by simpa using hsz) hcnt ?_ iy ?_
   ·rw[NF his];intro j o' hj hbj;by_cases hji:j=i
    ·subst hji;rw[ho]at hj;cases hj;exact I4 haft
    ·exact I4 (hcl j o' hj (by unfold upd at hbj;rwa [if_neg hji]at hbj))
   ·rw[NF his];exact hle a' w' hr
theorem Yo{id n:Nat}{l:List Oper}{Q:Exit→St→Prop}{ι:Type}(i0:ι)(F:ι→(Nat→Bool)→St)(hn:l.length=n)(hm:P.follows .mixedOrders=true)(hB:(Region.noSelect l.toArray&&GC l.toArray&&Aot l.toArray)=true)
 (hs:gM P C F l.toArray 0 l) (hQ:∀i,Q .normal (F i fun _=>true)):Awp P C (.region id l.toArray true) Q (F i0 fun j=>decide (n≤j)):=fun a w H=>by
 simp only[Bool.and_eq_true]at hB;obtain⟨⟨hsel,hnd⟩,hf⟩:=hB;refine Dw hm hnd ?_;have e0:(fun j=>(Array.replicate l.toArray.size false).getD j true)=fun j=>decide (n≤j):=by
  funext j;simp only[Array.getD_eq_getD_getElem?,Array.getElem?_replicate,List.size_toArray,hn];by_cases h:j < n
  ·rw[if_pos h,decide_eq_false (by omega)];rfl
  ·rw[if_neg h,decide_eq_true (by omega)];rfl
 refine TN (Q':=fun e a' w'=>e= .normal∧∃s',Q e s'∧s'.rel C a' w') hf (fun j o ho i b h1 h2 h3=>?_) (fun i a' w' h=>⟨rfl,_,hQ i,h⟩) _ _ a _ (by simp) (by simp) ?_ i0 ?_
 ·have:=Ab8 (l:=l) (k:=0) (j:=j) hs (by simpa using ho) i b (by rwa [Nat.zero_add]) h2 h3;rwa [Nat.zero_add]at this
 ·intro j o ho hb;have hj:j < l.toArray.size:=(Array.getElem?_eq_some_iff.1 ho).1;have:(Array.replicate l.toArray.size false).getD j true=true:=hb;rw[Array.getD_eq_getD_getElem?,Array.getElem?_replicate,if_pos hj]at this;cases this
 ·rw[e0];obtain⟨hd,S,ψ,hh',hl⟩:=H;have hb:Below w.heap.size w {w with drawn:=w.drawn+1}:=⟨rfl,rfl,rfl,Nat.le_refl _,fun _ _=>rfl⟩
  exact⟨hd,S,ψ,hh'.grow hb (fun _ h=>h) (fun _ h=>.inl h) hh'.lt,Al (show Ext w S _ ψ {w with drawn:=w.drawn+1} S _ ψ from Ext.grow _ ψ (fun k hk=>rfl) fun _ h=>h) _ _ hl⟩
end
end Mu
end
section
namespace Mu
open Go Go.RowKit Go.Proofs
def Wl(op:Int):M ByteArray:=M.chk (decide (0≤op∧op≤255)) (M.ok ⟨(E6 op).toArray⟩)
theorem Wk{op:Int}{r:ByteArray}(H:(Wl op).to r):Fn Tryz.prog 174 [.lit (.int .u8 op)] (.lit (.string r)):=by
 obtain⟨c,H⟩:=AM.1 H;obtain rfl:=Am.1 H;have c:=of_decide_eq_true c;exact Jg (by kernel_rfl) fun w vs hr=>by
  obtain⟨v,rfl,hv⟩:=Aaa hr;obtain rfl:=Lh hv;exact Wh op w c.1 c.2
def Pq(s:ByteArray)(c:Int):M Bool:=M.chk (decide (s.size≤65536)&&decide (((UInt8.ofNat c.toNat).toNat:Int)=c)) (M.ok (Aop s (UInt8.ofNat c.toNat)))
theorem NT{s:ByteArray}{c:Int}{r:Bool}(H:(Pq s c).to r):Fn Tryz.prog 175 [.lit (.string s),.lit (.int .u8 c)] (.lit (.bool r)):=by
 obtain⟨k,H⟩:=AM.1 H;obtain rfl:=Am.1 H;rw[Bool.and_eq_true,decide_eq_true_eq,decide_eq_true_eq]at k;have:=k.2;generalize UInt8.ofNat c.toNat=d at this⊢;subst this;exact Jg (by kernel_rfl) fun w vs hr=>by
  obtain⟨v,u,rfl,hv,hu⟩:=Apa hr;obtain rfl:=Lh hv;obtain rfl:=Lh hu;exact(SN s d w k.1).mono fun e w' ⟨h1,h2⟩=>⟨h1,by rw[←h2];exact Below.refl _ _⟩
def GY(x:Ins):M (List Int):=M.bnd (Wl x.op) fun r1=>M.bnd (M.bnd (Pq r1 97) fun r5=>M.cnd r5 (M.chk (wfB .i64 x.a) (M.chk (H5 (([]:List Int).length+ [x.a].length) 8) (M.ok (([]:List Int)++[x.a])))) (M.ok ([]:List Int))) fun l3=>M.bnd (M.bnd (Pq r1 98) fun r12=>M.cnd r12 (M.chk (wfB .i64 x.b) (M.chk (H5 (l3.length+ [x.b].length) 8) (M.ok (l3++[x.b])))) (M.ok l3)) fun l10=>M.bnd (M.bnd (Pq r1 120) fun r19=>M.cnd r19 (M.chk (H5 (l10.length+x.args.length) 8) (M.ok (l10++x.args))) (M.ok l10)) fun l17=>M.ok l17
theorem Pr{x:Ins}{r:List Int}(H:(GY x).to r):Fn Tryz.prog 130 [.agg (AL x)] (.bs tInt r):=by
 delta GY at H;try dsimp only at H
 refine Ax Tryz.func130 rfl (by kernel_rfl) rfl Tryz.ntmps130 fun C hC=>?_
 simp only[List.length_cons,List.length_nil,Nat.reduceAdd,Nat.reduceSub,List.replicate_succ,List.replicate_zero,List.cons_append,List.nil_append];refine wS (sB (sT (wN ?_)));refine wS (sT (wN ?_));obtain⟨r1,k1,H⟩:=AX.1 H;have k1:=Wk k1;refine wS (sT (sT (sC k1 (sT (wN ?_)))));refine As _ (Yd 3 3 tInt rfl (by decide)) ?_;obtain⟨z4,HX4,Hl4⟩:=AX.1 H;refine D8 (β:=((List Int))×(Nat)) (fun q4=>z4=q4.1) (fun q4=>⟨.any::.ptr 0 0::.any::.own 1 q4.2::.lit (.string r1)::A20 (A4 []),[.box (AL x),.row q4.2 3 tInt q4.1]⟩) ?_ ?_
 ·have H:=HX4;obtain⟨r5,k5,H⟩:=AX.1 H;have k5:=NT k5;refine wS (sT (sC k5 (wN ?_)));refine Ae rfl (fun hb6=>?_) (fun hb6=>?_)
  ·have H:=BN hb6 H;obtain⟨c7,H⟩:=AM.1 H;obtain⟨c8,H⟩:=AM.1 H;refine wSE (sT (sT (sT ?_)));refine sA ?_ (Av.lt (xs:=[.tmp 12]) (T:=tInt) (ds:=[x.a]) rfl rfl rfl (by rfl) (by decide) (.cons (Fit.int c7) .nil)) (Bf Agz);refine sP c8 (sT (wN ?_));have e4:=Am.1 H;repeat(first|refine abN ?_|refine asN ?_)
   refine athen_n ⟨(_,0+1),e4.symm,?_⟩;try dsimp only
   exact Ew
  ·have H:=BO hb6 H;refine Ag ?_;have e4:=Am.1 H;repeat(first|refine abN ?_|refine asN ?_)
   refine athen_n ⟨(_,0),e4.symm,?_⟩;try dsimp only
   exact Ew
 ·rintro⟨l3,v2⟩ hz4;try dsimp only at hz4
  have H:=Hl4;rw[hz4]at H;try dsimp only
  obtain⟨z11,HX11,Hl11⟩:=AX.1 H;refine D8 (β:=((List Int))×(Nat)) (fun q11=>z11=q11.1) (fun q11=>⟨.any::.ptr 0 0::.any::.own 1 q11.2::.lit (.string r1)::A20 (A4 []),[.box (AL x),.row q11.2 3 tInt q11.1]⟩) ?_ ?_
  ·have H:=HX11;obtain⟨r12,k12,H⟩:=AX.1 H;have k12:=NT k12;refine wS (sT (sC k12 (wN ?_)));refine Ae rfl (fun hb13=>?_) (fun hb13=>?_)
   ·have H:=BN hb13 H;obtain⟨c14,H⟩:=AM.1 H;obtain⟨c15,H⟩:=AM.1 H;refine wSE (sT (sT (sT ?_)));refine sA ?_ (Av.lt (xs:=[.tmp 19]) (T:=tInt) (ds:=[x.b]) rfl rfl rfl (by rfl) (by decide) (.cons (Fit.int c14) .nil)) (Bf (Bf Ac0));refine sP c15 (sT (wN ?_));have e11:=Am.1 H;repeat(first|refine abN ?_|refine asN ?_)
    refine athen_n ⟨(_,v2+1),e11.symm,?_⟩;try dsimp only
    exact Ew
   ·have H:=BO hb13 H;refine Ag ?_;have e11:=Am.1 H;repeat(first|refine abN ?_|refine asN ?_)
    refine athen_n ⟨(_,v2),e11.symm,?_⟩;try dsimp only
    exact Ew
  ·rintro⟨l10,v9⟩ hz11;try dsimp only at hz11
   have H:=Hl11;rw[hz11]at H;try dsimp only
   obtain⟨z18,HX18,Hl18⟩:=AX.1 H;refine D8 (β:=((List Int))×(Nat)) (fun q18=>z18=q18.1) (fun q18=>⟨A3 (.own 1 q18.2::A20 (A5 [])),[.dead,.row q18.2 3 tInt q18.1]⟩) ?_ ?_
   ·have H:=HX18;obtain⟨r19,k19,H⟩:=AX.1 H;have k19:=NT k19;refine wS (sT (sC k19 (wN ?_)));refine Ae rfl (fun hb20=>?_) (fun hb20=>?_)
    ·have H:=BN hb20 H;obtain⟨c21,H⟩:=AM.1 H;refine wSE (sT (sT (sT (sP c21 (sT (wN ?_))))));have e18:=Am.1 H;repeat(first|refine abN ?_|refine asN ?_)
     refine athen_n ⟨(_,v9+1),e18.symm,?_⟩;try dsimp only
     exact leC (Cut.dead (Cut.cons (Cut.nil _)))
    ·have H:=BO hb20 H;refine Ag ?_;have e18:=Am.1 H;repeat(first|refine abN ?_|refine asN ?_)
     refine athen_n ⟨(_,v9),e18.symm,?_⟩;try dsimp only
     exact leC (Cut.dead (Cut.cons (Cut.nil _)))
   ·rintro⟨l17,v16⟩ hz18;try dsimp only at hz18
    have H:=Hl18;rw[hz18]at H;try dsimp only
    refine wS (sT (sT (wN ?_)));obtain rfl:=Am.1 H;exact Aj ⟨.inr rfl,Fin.own rfl⟩
theorem RI(op:Int)(c:Nat)(hc:c < 256):(Pq ⟨(E6 op).toArray⟩ (c:Int)).to ((E6 op).contains (UInt8.ofNat c)):=by
 have h:=PX op;refine AA ?_ (Am.2 ?_)
 ·rw[Bool.and_eq_true,decide_eq_true_eq,decide_eq_true_eq];refine⟨h,?_⟩;rw[Int.toNat_natCast,UInt8.toNat_ofNat',Nat.mod_eq_of_lt (by omega)]
 ·rw[Int.toNat_natCast];rfl
theorem Y7{x:Ins}(ho:okIns x)(hl:x.args.length≤2097152):(GY x).to (readsC x):=by
 have hop:=ho.op;have h0:0≤x.op∧x.op≤255:=by simpa[wfI,Lit.wf,IntKind.min,IntKind.max,IntKind.signed,IntKind.bits]using hop
 have hrow:∀n,n≤2097200→H5 n 8=true:=fun n hn=>by
  unfold H5 maxLen;rw[Bool.and_eq_true,decide_eq_true_eq,decide_eq_true_eq];omega
 obtain⟨l1,e1⟩:∃l,l=(if(E6 x.op).contains 97 then [x.a]else []):=⟨_,rfl⟩
 obtain⟨l2,e2⟩:∃l,l=l1++(if(E6 x.op).contains 98 then [x.b]else []):=⟨_,rfl⟩
 have n1:l1.length≤1:=by rw[e1];split <;> simp
 have n2:l2.length≤2:=by rw[e2,List.length_append];split <;> simp <;> omega
 have e3:readsC x=l2++(if(E6 x.op).contains 120 then x.args else []):=by rw[e2,e1];rfl
 unfold GY;refine AF (AA (decide_eq_true h0) (An _)) (AF (a:=l1) (AF (RI x.op 97 (by decide)) ?_) (AF (a:=l2) (AF (RI x.op 98 (by decide)) ?_) (AF (a:=readsC x) (AF (RI x.op 120 (by decide)) ?_) (An _))))
 ·rw[e1];cases hb:(E6 x.op).contains (UInt8.ofNat 97)with
  |true=>
   rw[if_pos rfl];exact BT rfl (AA ho.a (AA rfl (An _)))
  |false=>
   rw[if_neg (by simp)];exact Bc rfl (An _)
 ·rw[e2];cases hb:(E6 x.op).contains (UInt8.ofNat 98)with
  |true=>
   rw[if_pos rfl];exact BT rfl (AA ho.b (AA (hrow _ (by simp;omega)) (An _)))
  |false=>
   rw[if_neg (by simp),List.append_nil];exact Bc rfl (An _)
 ·rw[e3];cases hb:(E6 x.op).contains (UInt8.ofNat 120)with
  |true=>
   rw[if_pos rfl];exact BT rfl (AA (hrow _ (by omega)) (An _))
  |false=>
   rw[if_neg (by simp),List.append_nil];exact Bc rfl (An _)
theorem EV(x:Ins)(ho:okIns x)(hl:x.args.length≤2097152):Fn Tryz.prog 130 [.agg (AL x)] (.bs tInt (readsC x)):=Pr (Y7 ho hl)
def Cp(r:Int):List Ins→Bool×Bool
 | []=>(false,false)
 |x::ds=>if(readsC x).contains r then(true,false)else if Az x&&x.d ==r then(false,true)else Cp r ds
theorem Rk(r:Int)(x:Ins)(ds:List Ins):Cp r (x::ds)=if(readsC x).contains r then(true,false)else if Az x&&x.d ==r then(false,true)else Cp r ds:=rfl
theorem Wj(r:Int)(ds:List Ins):(Cp r ds).1=rdB r ds∧((Cp r ds).1=false→(!(Cp r ds).2)=Yx r ds):=by
 induction ds with
 |nil=>simp[Cp,rdB,Yx]
 |cons x ds ih=>
  unfold Cp rdB Yx;cases h1:(readsC x).contains r
  ·cases h2:(Az x&&x.d ==r)
   ·simpa using ih
   ·simp
  ·simp
theorem Pp(r:Int)(ds:List Ins)(S:Int→Bool):((Cp r ds).1||(!(Cp r ds).2&&S r))=inS ds S r:=by
 rw[M2];obtain⟨h1,h2⟩:=Wj r ds;rw[←h1];cases h:(Cp r ds).1
 ·rw[←h2 h]
 ·simp
structure smallB(b:Block):Prop where
 ins:b.ins.length≤2097152
 all:∀x∈b.ins,x.args.length+8≤2097152
structure smallF(f:Func):Prop where
 blocks:f.blocks.length≤2097152
 all:∀b∈f.blocks,smallB b
theorem H9(x:Ins):(readsC x).length≤x.args.length+2:=by
 unfold readsC;simp only[List.length_append];split <;> split <;> split <;> simp <;> omega
theorem Js(b:Block)(i:Nat)(r:Int)(ho:okBlock b)(hs:smallB b)(hi:i≤b.ins.length):Fn Tryz.prog 144 [.agg (BZ b),.lit (.int .i64 (i:Int)),.lit (.int .i64 r)]
 (.tup [.lit (.bool (Cp r (b.ins.drop i)).1),.lit (.bool (Cp r (b.ins.drop i)).2)]):=by
 have hsl:=hs.ins;refine AP Tryz.func144 rfl (by kernel_rfl) rfl Tryz.ntmps144 fun C hC=>?_
 refine nS ?_;refine rRS ?_;refine Ac fun K2 h2=>?_
 refine rRS ?_;refine Af ?_;refine Au (fun k:Nat=>⟨(A2 (.lit (.int .i64 r)::.ptr 0 0::A4 (.lit (.int .i64 (k:Int))::A20 (A10 (A3 []))))),[.box (BZ b)]⟩) (fun k=>k≤b.ins.length∧Cp r (b.ins.drop k)=Cp r (b.ins.drop i)) (fun k=>b.ins.length - k) i ⟨hi,rfl⟩ (Ce) ?_;rintro k ⟨hk,he⟩;refine Ac fun K5 h5=>?_
 refine rRS ?_;refine Ae rfl (fun hb7=>?_) (fun hb7=>?_)
 ·refine Ag ?_;refine h5 _ ?_;refine nT ?_;have hlt:k < b.ins.length:=by simpa using hb7
  obtain⟨x,hx⟩:∃x,b.ins[k]? =some x:=⟨_,List.getElem?_eq_getElem hlt⟩
  have hxo:=ho.ins x (List.mem_of_getElem? hx);have hxa:=hs.all x (List.mem_of_getElem? hx);have hdr:b.ins.drop k=x::b.ins.drop (k+1):=by
   rw[List.drop_eq_getElem_cons hlt];congr 1;rw[List.getElem?_eq_getElem hlt]at hx;injection hx
  rw[hdr,Rk]at he;refine Ac fun K8 h8=>?_
  refine Af ?_;refine Ac fun K9 h9=>?_
  refine Ac fun K10 h10=>?_
  (refine Awp.region ?_;(repeat(first|refine sQ ?_ (Av.call rfl (EV x hxo (by omega)) rfl rfl rfl)|refine sQ ?_ (Av.call rfl (RH (readsC x) r (by have:=H9 x;omega)) rfl rfl rfl)|refine sQ ?_|refine AO ?_|refine B6 ?_));refine Ar ?_)
  refine h10 _ ?_;refine nT ?_;refine Ae rfl (fun hb11=>?_) (fun hb11=>?_)
  ·refine rRS ?_;refine Aj ?_;rw[hb11,if_pos rfl]at he;exact⟨.inr rfl,_,_,Fin.cl rfl,by rw[←he];rfl,by rw[←he];rfl⟩
  ·refine Ag ?_;refine h9 _ ?_;refine nT ?_;rw[hb11,if_neg (by simp)]at he;refine Ac fun K13 h13=>?_
   (refine Awp.region ?_;(repeat(first|refine sQ ?_ (Av.call rfl (FZ x hxo) rfl rfl rfl)|refine sQ ?_|refine AO ?_|refine B6 ?_));refine Ar ?_)
   refine h13 _ ?_;refine nT ?_;refine Ac fun K14 h14=>?_
   rcases hw:Az x with _|_
   ·rw[hw]at he;refine rR ?_;refine h14 _ ?_;refine nT ?_;refine Ae rfl (fun hb15=>by cases hb15) (fun hb15=>?_);refine Ag ?_;refine h8 _ ?_;refine nT ?_;refine rR ?_;refine athen_n ⟨k+1,⟨by omega,by simpa using he⟩,by omega,Ce⟩
   ·rw[hw]at he;refine rR ?_;refine h14 _ ?_;refine nT ?_;refine Ae rfl (fun hb15=>?_) (fun hb15=>?_)
    ·refine rRS ?_;refine Aj ?_;rw[Bool.true_and,if_pos (by simpa using hb15)]at he;exact⟨.inr rfl,_,_,Fin.cl rfl,by rw[←he];rfl,by rw[←he];rfl⟩
    ·refine Ag ?_;refine h8 _ ?_;refine nT ?_;refine rR ?_;refine athen_n ⟨k+1,⟨by omega,by rw[Bool.true_and,if_neg (by simpa using hb15)]at he;exact he⟩,by omega,Ce⟩
 ·refine Aq ?_;refine h2 _ ?_;refine nT ?_;have:k=b.ins.length:=by
   have:¬k < b.ins.length:=by simpa using hb7
   omega
  subst this;rw[List.drop_length]at he;refine rRS ?_;refine Aj ?_;exact⟨.inr rfl,_,_,Fin.cl rfl,by rw[←he];rfl,by rw[←he];rfl⟩
end Mu
end
section
namespace Mu
open Go Go.RowKit Go.Proofs Go.Shelf
attribute [local go_sem] Oper.semAt_some
instance Aja:AG Tryz.prog 281 true 2:=⟨by kernel_rfl⟩
instance Ai9:SZ Tryz.prog 281 2:=⟨by kernel_rfl⟩
instance Ai8:AG Tryz.prog 78 false 1:=⟨by kernel_rfl⟩
instance Ai7:SZ Tryz.prog 78 1:=⟨by kernel_rfl⟩
instance Ai6:ES Tryz.prog 78 1:=⟨by kernel_rfl⟩
instance Ai5:AG Tryz.prog 22 false 1:=⟨by kernel_rfl⟩
instance Ai4:SZ Tryz.prog 22 1:=⟨by kernel_rfl⟩
instance Aef:RT Tryz.prog 22 3 1 8:=⟨by kernel_rfl⟩
instance Aee:AG Tryz.prog 3 false 1:=⟨by kernel_rfl⟩
instance Aed:SZ Tryz.prog 3 1:=⟨by kernel_rfl⟩
instance Aec:ZC Tryz.prog 281 [.int .i64 0,.int .i64 0]:=⟨by kernel_rfl⟩
instance Aeb:ZC Tryz.prog 78 [.slice none 0 0]:=⟨by kernel_rfl⟩
instance Aea:ZC Tryz.prog 3 [.int .i64 0]:=⟨by kernel_rfl⟩
def goF(p:Nat×Nat):Value:=.func (.func 251) #[] #[.pointer (some ⟨p.2,0,none⟩),.pointer (some ⟨p.1,0,none⟩)]
def goR(f:Func)(b:Int)(p:Nat×Nat):Res:=(Bn p.1 (Ak f)).and (Bn p.2 [.lit (.int .i64 b)])
def goE(f:Func)(b:Int)(k:Nat):List AV:=[.lit (.int .i64 ((Dk f b).getD k 0))]
theorem ZH(f:Func)(b:Int):QE Tryz.prog 239 [.agg (Ak f),.lit (.int .i64 b)] (goR f b) goF:=by
 refine⟨by kernel_rfl,fun w S vs hS hr=>?_⟩;obtain⟨v,u,rfl,hv,hu⟩:=Apa hr;obtain rfl:=Lh hu;obtain⟨cs,rfl,hc⟩:=H7 hv;refine(callsIn_wide (n:=4)).1 (callsIn_of_wp Tryz.func239 rfl trivial ?_ rfl);match cs,AW hc with
 | [a0,a1,a2,a3],_=>
 simp only[Tryz.ntmps239,List.size_toArray,List.length_cons,List.length_nil,Nat.reduceAdd,Nat.reduceSub,Array.replicate_succ,Array.replicate_zero,List.push_toArray,List.append_toArray,List.nil_append,List.cons_append]
 gi_wp2
 go_ret
 have hb:Below w.heap.size w ((w.alloc (.cells #[a0,a1,a2,a3] 45)).alloc (.cells #[.int .i64 b] 3)):=((Below.refl _ w).alloc (Nat.le_refl _) _).alloc (by simp) _;have h2:=heap_alloc_new (w.alloc (.cells #[a0,a1,a2,a3] 45)) (.cells #[.int .i64 b] 3);rw[World.size_alloc]at h2;refine⟨_,rfl,⟨hb.os,hb.tape,hb.output,hb.size,fun k hk _=>hb.block k hk⟩,(w.heap.size,w.heap.size+1),rfl,⟨⟨[a0,a1,a2,a3],45,(Below.heap_alloc _ _ _ (by simp)).trans (heap_alloc_new w _),Al (Ext.grow [] ψ0 (fun k hk=>hb.block k (hS k hk)) fun _ h=>h) _ _ hc⟩,⟨[.int .i64 b],3,h2,by unfold Ad Ad AV.rel;exact⟨_,_,rfl,rfl,rfl⟩⟩,fun g e1 e2=>?_⟩,fun k hk=>?_⟩
 ·have e1:g=w.heap.size:=e1;have e2:g=w.heap.size+1:=e2;omega
 ·have hk:k=w.heap.size∨k=w.heap.size+1:=hk;simp only[World.size_alloc];exact⟨.inr (by omega),by omega⟩
theorem Uk{f:Func}{b:Int}(h:((decide (b < 0)||decide (b≥(f.blocks.length:Int)))||(((ixD f.blocks b).ins.length:Int) ==0))=true):Dk f b= []:=by
 by_cases hb:0≤b∧b < f.blocks.length
 ·obtain⟨k,rfl⟩:=Int.eq_ofNat_of_zero_le hb.1;have hk:=BJ (B8.2 ⟨hb.1,(by omega:((k:Int)).toNat < f.blocks.length)⟩);rw[Int.toNat_natCast]at hk;rw[N8 hk];refine PI (List.eq_nil_of_length_eq_zero ?_);simp only[Bool.or_eq_true,decide_eq_true_eq,beq_iff_eq]at h;omega
 ·exact PH hb
theorem Uj{f:Func}{b:Int}(hb:EJ f.blocks b=true)(hi:EJ (ixD f.blocks b).ins (((ixD f.blocks b).ins.length:Int) - 1)=true):Dk f b=(Eq (ixD (ixD f.blocks b).ins (((ixD f.blocks b).ins.length:Int) - 1))).filter (inB f):=by
 obtain⟨h0,h1⟩:=B8.1 hb;obtain⟨k,rfl⟩:=Int.eq_ofNat_of_zero_le h0;have hk:=BJ hb;rw[Int.toNat_natCast]at hk;rw[N8 hk];unfold Kn;have:=BJ hi;rw[List.getLast?_eq_getElem?,show(ixD f.blocks (k:Int)).ins.length - 1=(((ixD f.blocks (k:Int)).ins.length:Int) - 1).toNat by omega,this];exact P4 f _
def UO(f:Func)(W:List Int)(k:Nat):Nat:=((W.take k).filter (inB f)).length
theorem XN{f:Func}{W:List Int}{k:Nat}{v:Int}(h:W[k]? =some v):UO f W (k+1)=UO f W k+(if inB f v then 1 else 0)∧(inB f v=true→(W.filter (inB f))[UO f W k]? =some v):=by
 have e:W=W.take k++v::W.drop (k+1):=by
  obtain⟨h2,h3⟩:=List.getElem?_eq_some_iff.1 h;rw[←h3,List.getElem_cons_drop,List.take_append_drop]
 refine⟨?_,fun hv=>?_⟩
 ·unfold UO;rw[List.take_add_one,h,List.filter_append,List.length_append,Option.toList_some,List.filter_cons];split <;> rfl
 ·unfold UO
  conv=>lhs;rw[e]
  rw[List.filter_append,List.filter_cons,if_pos hv,List.getElem?_append_right (by rw[←e];exact Nat.le_refl _),←e,Nat.sub_self];rfl
theorem Xj(f:Func)(b:Int)(hl:f.blocks.length≤2097152)(hi:∀b∈f.blocks,b.ins.length≤2097152)(p:Nat×Nat):
 Yh Tryz.prog 251 [.pointer (some ⟨p.2,0,none⟩),.pointer (some ⟨p.1,0,none⟩)] (goR f b p) (goE f b) (Dk f b).length:=by
 refine Ki Tryz.func251 rfl (by kernel_rfl) rfl Tryz.ntmps251 rfl fun C hrd ι l Jr hm hY q0=>?_
 simp only[List.map_cons,List.map_nil,List.length_cons,List.length_nil,Nat.reduceAdd,Nat.reduceSub,List.replicate_succ,List.replicate_zero,List.cons_append,List.nil_append];refine As _ (U7 1 rfl) ?_;refine nT ?_;have hmk:∀(k:Nat) (q:ι) (l:List ABlk),mkD l= []→mkD (.res (Jr k q)::l)= []:=fun k q l h=>by
  unfold mkD;rw[h];show(Jr k q).mrk.map Hs= [];rw[hm];rfl
 have hend:Dk f b= []→∀(q:ι) (t:List AV) (l:List ABlk),mkD l= []→Apc (Jr (Dk f b).length) .ret ⟨t,.res (Jr 0 q)::l⟩:=fun h q t l hl=>by
  rw[h];exact⟨.inr rfl,q,rfl,hmk _ _ _ hl⟩
 have c2:(!(!(decide (b < 0)||decide (b≥(f.blocks.length:Int))))||EJ f.blocks b)=true:=by
  unfold EJ;simp;omega
 refine Ac fun K1 h1=>?_
 refine wS (sT (sT (sT ?_)));refine sGf rfl ?_;refine sGf rfl ?_;refine sGf rfl ?_;refine sGf rfl ?_;refine sGf rfl (sT (sT ?_));refine sGf rfl ?_;refine sGf rfl ?_;refine sGf rfl ?_;refine Arm rfl (by rw[Bool.not_not];simpa using c2) ?_;refine sGf rfl ?_;refine sGf rfl ?_;refine sGf rfl ?_;refine sGf rfl (sT (wN ?_));refine Ae rfl (fun hb3=>?_) (fun hb3=>?_)
 ·exact Aj (hend (Uk hb3) q0 _ _ rfl)
 refine Ag (h1 _ ?_);have hb4:EJ f.blocks b=true:=by
  unfold EJ;simp only[Bool.or_eq_false_iff,decide_eq_false_iff_not]at hb3;simp only[Bool.and_eq_true,decide_eq_true_eq];omega
 have hln:=hi _ (List.mem_of_getElem? (BJ hb4));have hl1:1≤(ixD f.blocks b).ins.length:=by
  simp only[Bool.or_eq_false_iff,beq_eq_false_iff_ne]at hb3;omega
 have hwr:IntKind.i64.wrap (((ixD f.blocks b).ins.length:Int) - 1)=((ixD f.blocks b).ins.length:Int) - 1:=IntWalk.i64_in _ (by omega);have c5:EJ (ixD f.blocks b).ins (((ixD f.blocks b).ins.length:Int) - 1)=true:=B8.2 ⟨by omega,by omega⟩;have hnx:=Uj hb4 c5;refine wS (sT (sT (sT (sX hb4 (sT (sT (sT (wN ?_))))))));refine wS (sT (sT (sT (sT ?_))));rw[hwr];refine sX c5 (sT (sA0 (sW (wN ?_))));obtain⟨x,hx⟩:∃x,x=ixD (ixD f.blocks b).ins (((ixD f.blocks b).ins.length:Int) - 1):=⟨_,rfl⟩
 rw[←hx]at hnx⊢;refine wS (sT (sT ?_));refine sA ?_ (Nw (rs:=[.lit (.int .i64 x.l1),.lit (.int .i64 (-1))]) rfl rfl rfl rfl rfl);refine sA0 (sW (wN ?_));refine D8 (β:=Int) (fun w2=>Eq x= [x.l1,w2]) (fun w2=>⟨(.lit (.func (.yield l) #[] #[])::.any::.lit (.pointer (some ⟨p.1,0,none⟩))::A3 (.ptr 4 0::A40 (A20 (A10 (A9 []))))),[.res (Jr 0 q0),.res (Bn p.1 (Ak f)),.res (Bn p.2 [.lit (.int .i64 b)]),.box (AL x),.box [.lit (.int .i64 x.l1),.lit (.int .i64 w2)]]⟩) ?_ ?_
 ·refine Af ?_;refine wS (sT (sT (sT (sT ?_))));refine sGt rfl ?_;refine sGt rfl ?_;refine sGt rfl ?_;refine sGt rfl ?_;refine sGt rfl (sT (sT (wN ?_)));refine Ae rfl (fun hb10=>?_) (fun hb10=>?_)
  ·refine wSE (sT (sT ?_));refine sA ?_ (BE (k:=1) rfl rfl rfl rfl rfl (by decide));refine sW (wN ?_);repeat(first|refine abN ?_|refine asN ?_)
   refine athen_n ⟨x.l2,?_,Ew⟩;simp only[Bool.and_eq_true,beq_iff_eq,bne_iff_ne]at hb10;unfold Eq;rw[if_pos hb10.1,if_neg hb10.2]
  ·refine wS (sT (sT (sT (sT ?_))));refine sGt rfl ?_;refine sGt rfl ?_;refine sGt rfl (sT (sT (wN ?_)));have hw:x.op=9∧x.l2=x.l1∨x.op≠9:=by
    simp only[Bool.and_eq_false_iff,beq_eq_false_iff_ne,bne_eq_false_iff_eq]at hb10;omega
   refine Ae rfl (fun hb13=>?_) (fun hb13=>?_)
   ·refine Aj (hend ?_ q0 _ _ rfl);simp only[Bool.and_eq_true,bne_iff_ne]at hb13;rw[hnx];unfold Eq;rw[if_neg hb13.1,if_neg hb13.2];rfl
   ·refine Ag ?_;repeat(first|refine abN ?_|refine asN ?_)
    refine athen_n ⟨-1,?_,Ew⟩;simp only[Bool.and_eq_false_iff,bne_eq_false_iff_eq]at hb13;unfold Eq;rcases hw with hw|hw
    ·rw[if_pos hw.1,if_pos hw.2]
    ·rw[if_neg hw,if_pos (hb13.resolve_left hw)]
 intro w2 hw;try dsimp only
 rw[hw]at hnx;refine wS (sT (sT (wN ?_)));refine Af ?_;refine Au (fun r:Nat×ι=>⟨(.lit (.func (.yield l) #[] #[])::.any::.lit (.pointer (some ⟨p.1,0,none⟩))::A40 (A20 (A3 (.agg [.lit (.int .i64 x.l1),.lit (.int .i64 w2)]::.lit (.int .i64 (r.1:Int))::A10 (A8 []))))),[.res (Jr (UO f [x.l1,w2] r.1) r.2),.res (Bn p.1 (Ak f)),.res (Bn p.2 [.lit (.int .i64 b)])]⟩) (fun r=>r.1≤2) (fun r=>2 - r.1) (0,q0) (Nat.zero_le _) (Fb (.cons (.cons (.cons (Cut.nil _))))) ?_;rintro⟨k,q⟩ hk;have hk:k≤2:=hk;try dsimp only
 refine wS (sT (wN ?_));refine Ac fun K18 h18=>?_
 refine Ae rfl (fun hb19=>?_) (fun hb19=>?_)
 ·have hk2:k < 2:=by have:=of_decide_eq_true hb19;omega
  obtain⟨v,hv⟩:∃v,[x.l1,w2][k]? =some v:=⟨_,List.getElem?_eq_getElem hk2⟩
  obtain⟨hc1,hc2⟩:=XN (f:=f) hv;have hz:EJ [x.l1,w2] (k:Int)=true:=B8.2 ⟨by omega,by rw[Int.toNat_natCast];exact hk2⟩;have hvx:ixD [x.l1,w2] (k:Int)=v:=by
   have:=BJ hz;rw[Int.toNat_natCast,hv]at this;exact(Option.some.inj this).symm
  have hw1:IntKind.i64.wrap ((k:Int)+1)=((k+1:Nat):Int):=by rw[IntWalk.i64_in _ (by omega)];rfl
  refine Ag (h18 _ ?_);refine Ac fun K20 h20=>?_
  refine Af ?_;refine wS ?_;refine sA ?_ (Vj (ds:=[x.l1,w2]) (k:=.i64) rfl rfl rfl rfl rfl rfl hz);rw[hvx];refine sT (wN ?_);refine wY 10 fun K22 h22=>?_
  refine sT (sT (sT ?_));refine sGt rfl ?_;refine sGt rfl ?_;refine sGt rfl ?_;refine sGt rfl ?_;refine sGt rfl (sT (sT (wN ?_)));rw[show(decide (v≥0)&&decide (v < (f.blocks.length:Int)))=inB f v from rfl];cases hin:inB f v with
  |false=>
   have hc:UO f [x.l1,w2] (k+1)=UO f [x.l1,w2] k:=by rw[hc1,hin];rfl
   refine yS (AO (hk:=wN ?_));refine yS (AO (hk:=wN ?_));refine yS (AO (hk:=wN ?_));refine yS (AO (hk:=wN ?_));refine yS (sA (hq:=Av.pick rfl rfl rfl) (hk:=wN ?_));refine I7 (h22 _ ?_);refine Ae rfl (fun hb=>by cases hb) (fun _=>?_);refine Ag (h20 _ ?_);refine wSE (sT ?_);rw[hw1];refine sT (wN ?_);refine athen_n ⟨(k+1,q),hk2,by show 2 - (k+1) < 2 - k;omega,?_⟩;dsimp only;rw[hc];exact Ew
  |true=>
   have hc:UO f [x.l1,w2] (k+1)=UO f [x.l1,w2] k+1:=by rw[hc1,hin];rfl
   have hYk:=hY (UO f [x.l1,w2] k) q (by rw[hnx];exact(List.getElem?_eq_some_iff.1 (hc2 hin)).1);have hen:goE f b (UO f [x.l1,w2] k)= [.lit (.int .i64 v)]:=by
    unfold goE;rw[hnx,List.getD_eq_getElem?_getD,hc2 hin];rfl
   rw[hen]at hYk;refine yS (sA (hq:=Av.move rfl rfl) (hk:=wN ?_));refine yS (sA (hq:=Av.move rfl rfl) (hk:=wN ?_));refine R7 rfl (Api.yield (i:=0) hrd rfl (fun p=>by rw[hm,hm]) rfl rfl rfl rfl hYk fun q'=>?_);refine I6 (by(try simp only[AJ,List.set_cons_zero,List.set_cons_succ]);exact rfl) (by(try simp only[List.nil_append,List.cons_append,List.set_cons_zero,List.set_cons_succ,List.length_nil,List.length_cons,Nat.reduceAdd]);exact rfl) ?_;refine yS (sA (hq:=CE rfl rfl) (hk:=wN ?_));refine yS (sA (hq:=Av.pick rfl rfl rfl) (hk:=wN ?_));refine I7 (h22 _ ?_);refine Ae rfl (fun hb=>by cases hb) (fun _=>?_);refine Ag (h20 _ ?_);refine wSE (sT ?_);rw[hw1];refine sT (wN ?_);refine athen_n ⟨(k+1,q'),hk2,by show 2 - (k+1) < 2 - k;omega,?_⟩;dsimp only;rw[hc];exact Ew
 ·obtain rfl:k=2:=by have:=of_decide_eq_false hb19;omega
  refine Aq ?_;rw[show(Dk f b).length=UO f [x.l1,w2] 2 by rw[hnx];rfl];exact⟨.inl rfl,q,rfl,hmk _ _ _ rfl⟩
theorem Cb(f:Func)(ho:okFunc f)(hs:smallF f):Fn Tryz.prog 205 [.agg (Ak f)] (.bs tInt.slice (I2 f f.blocks.length)):=by
 have hl:=hs.blocks;have hi:∀b∈f.blocks,b.ins.length≤2097152:=fun b hb=>(hs.all b hb).ins
 refine FK Tryz.func205 rfl (by kernel_rfl) rfl Tryz.ntmps205 fun C hC hrd=>?_
 refine nS ?_;refine wS (sB (sT (wN ?_)));refine Bv 1 rfl rfl rfl (fun g1=>(.any::.lit (.pointer (some ⟨g1,0,none⟩))::.lit (.slice none 0 0)::A20 (A9 []))) (fun g=>(by(repeat(first|exact OpnB.nil|refine OpnB.ptr ?_|refine OpnB.any ?_|refine OpnB.keep rfl ?_)))) fun g1=>?_
 refine nT ?_;refine wRK fun K2 h2=>sT (sT (sT ?_))
 refine Ao rfl (Su (e:=22) (bytes:=24) rfl (by kernel_rfl) rfl rfl (by unfold Aqo maxLen;simp;omega) fun O=>?_);refine sNt ?_;refine sA0 (sW (wN (h2 _ ?_)));refine Bv 3 rfl rfl rfl (fun g3=>(.any::.lit (.pointer (some ⟨g1,0,none⟩))::.any::.lit (.pointer (some ⟨g3,0,none⟩))::A20 (A8 []))) (fun g=>(by(repeat(first|exact OpnB.nil|refine OpnB.ptr ?_|refine OpnB.any ?_|refine OpnB.keep rfl ?_)))) fun g3=>?_
 refine nT ?_;refine Ac fun K3 h3=>?_
 refine wS (sT (sT (sT (sT (wN ?_)))));refine Af ?_;refine Au (fun r:Nat×List Nat×List Value=>⟨(.any::.lit (.pointer (some ⟨g1,0,none⟩))::.any::.lit (.pointer (some ⟨g3,0,none⟩))::A8 (.lit (.int .i64 (f.blocks.length:Int))::.lit (.int .i64 (r.1:Int))::A10 (A8 []))),[.res (Bq r.2.1),.res (Bn g1 (Ak f)),.res (EK 22 O f.blocks.length r.2.2 r.2.2 (I2 f r.1)),.res (Bn g3 [.lit (.slice (some ⟨O,0,none⟩) f.blocks.length f.blocks.length)])]⟩) (fun r=>r.1≤f.blocks.length) (fun r=>f.blocks.length - r.1) (0,[],List.replicate f.blocks.length (.slice none 0 0)) (Nat.zero_le _) Ew ?_;rintro⟨n,ds,vs⟩ hb;have hb:n≤f.blocks.length:=hb;try dsimp only
 refine wS (sT (wN ?_));refine Ac fun K7 h7=>?_
 refine Ae rfl (fun hb8=>?_) (fun hb8=>?_)
 ·have hlt:n < f.blocks.length:=by have:=of_decide_eq_true hb8;omega
  have hbw:wfI .i64 (n:Int):=by
   simp[wfI,Lit.wf,IntKind.min,IntKind.max,IntKind.signed,IntKind.bits];omega
  have hw1:IntKind.i64.wrap ((n:Int)+1)=((n+1:Nat):Int):=by rw[IntWalk.i64_in _ (by omega)];rfl
  refine Ag (h7 _ ?_);refine Ac fun K9 h9=>?_
  refine Af ?_;refine wS (sT (sA0 (sW (wN ?_))));refine Bv 4 rfl rfl rfl (fun g4=>(.any::.lit (.pointer (some ⟨g1,0,none⟩))::.any::.lit (.pointer (some ⟨g3,0,none⟩))::.lit (.pointer (some ⟨g4,0,none⟩))::A7 (.lit (.int .i64 (f.blocks.length:Int))::.lit (.int .i64 (n:Int))::A10 (A8 [])))) (fun g=>(by(repeat(first|exact OpnB.nil|refine OpnB.ptr ?_|refine OpnB.any ?_|refine OpnB.keep rfl ?_)))) fun g4=>?_
  refine nT ?_;refine wRK fun K11 h11=>?_
  refine sA (hq:=BF (i:=1) rfl rfl rfl rfl rfl) (hk:=sT ?_);refine Ao rfl (Co rfl (ZH f n) (fun _=>rfl) rfl rfl fun p=>?_);refine sNt (hk:=Ar (h11 _ ?_));refine Af ?_;refine As ⟨(.any::.lit (.pointer (some ⟨g1,0,none⟩))::.any::.lit (.pointer (some ⟨g3,0,none⟩))::.lit (.pointer (some ⟨g4,0,none⟩))::A7 (.lit (.int .i64 (f.blocks.length:Int))::.lit (.int .i64 (n:Int))::A4 (.lit (goF p)::A10 (A3 [])))),[.res (Bq ds),.res (Bn g1 (Ak f)),.res (EK 22 O f.blocks.length vs vs (I2 f n)),.res (Bn g3 [.lit (.slice (some ⟨O,0,none⟩) f.blocks.length f.blocks.length)]),.res (Bn g4 [.lit (.int .i64 (n:Int))]),.res (goR f n p)]⟩ Ew ?_;refine JS (J:=List Value) 5 0 (fun k vs=>[.dead,.res (Bn g1 (Ak f)),.res (EK 22 O f.blocks.length vs vs (If n ((F4 f n).take k) (I2 f n))),.res (Bn g3 [.lit (.slice (some ⟨O,0,none⟩) f.blocks.length f.blocks.length)]),.res (Bn g4 [.lit (.int .i64 (n:Int))]),.dead]) vs hrd rfl (by decide) rfl rfl rfl ?_ rfl (fun _ _=>rfl) (fun _ _=>rfl) rfl (fun k _ _ ⟨_,h,_⟩=>h▸⟨rfl,rfl⟩) (Xj f n hl hi p) ?_ ?_
  ·exact⟨.dead (.cons (.cons (.cons (.cons (.dead (.nil _)))))),fun b' hb'=>List.all_eq_true.1 (show bdH [.dead,.res (Bn g1 (Ak f)),.res (EK 22 O f.blocks.length vs vs (I2 f n)),.res (Bn g3 [.lit (.slice (some ⟨O,0,none⟩) f.blocks.length f.blocks.length)]),.res (Bn g4 [.lit (.int .i64 (n:Int))]),.dead]=true from rfl) b' hb'⟩
  ·rintro k vs _ _ ⟨hk,rfl,rfl⟩ C' hin;obtain⟨x,hx⟩:∃x,(F4 f n)[k]? =some x:=⟨_,List.getElem?_eq_getElem (by unfold Dk at hk;rwa [List.length_map]at hk)⟩
   have hen:goE f n k= [.lit (.int .i64 (D3 x))]:=by
    unfold goE Dk;rw[List.getD_eq_getElem?_getD,List.getElem?_map,hx];rfl
   have htk:If n ((F4 f n).take (k+1)) (I2 f n)=VA n (If n ((F4 f n).take k) (I2 f n)) x:=by rw[List.take_add_one,hx];exact U2 _ _ _ _
   rw[hen,htk];obtain⟨ls,hls⟩:∃ls,ls=If n ((F4 f n).take k) (I2 f n):=⟨_,rfl⟩
   have hll:ls.length=f.blocks.length:=by rw[hls,Kc,Ic]
   have hxl:=x.2;have hz:inZ f.blocks.length (D3 x)=true:=by
    unfold inZ D3;simp;exact x.2
   have hzb:EJ ls (D3 x)=true:=B8.2 ⟨by unfold D3;omega,by rw[hll];unfold D3;omega⟩;have hap:H5 ((ixD ls (D3 x)).length+ [(n:Int)].length) 8=true:=by
    have h1:=Ot ((F4 f n).take k) (XZ f n) _ (by rw[←hls];exact List.mem_of_getElem? (BJ hzb));have h2:((F4 f n).take k).length≤2:=Nat.le_trans (by rw[List.length_take];omega) (Lv f n);unfold H5 maxLen;simp only[Bool.and_eq_true,decide_eq_true_eq,List.length_cons,List.length_nil];omega
   rw[←hls];refine Dr (t':=(.any::.lit (.pointer (some ⟨g1,0,none⟩))::.any::.lit (.pointer (some ⟨g3,0,none⟩))::.lit (.pointer (some ⟨g4,0,none⟩))::A7 (.lit (.int .i64 (f.blocks.length:Int))::.lit (.int .i64 (n:Int))::A4 (.lit (goF p)::.lit (.int .i64 (D3 x))::A10 (A2 []))))) (h':=[.dead,.res (Bn g1 (Ak f)),.res (EK 22 O f.blocks.length vs vs ls),.res (Bn g3 [.lit (.slice (some ⟨O,0,none⟩) f.blocks.length f.blocks.length)]),.res (Bn g4 [.lit (.int .i64 (n:Int))]),.dead]) rfl rfl ?_;refine wSE (sT (wN ?_));refine athen_n fun C2 hC2=>?_
   refine Af ?_;have hzs:EJ (ls.set (D3 x).toNat (ixD ls (D3 x)++[(n:Int)])) (D3 x)=true:=B8.2 ⟨(B8.1 hzb).1,by rw[List.length_set];exact(B8.1 hzb).2⟩;refine As ⟨[.any,.lit (.pointer (some ⟨g1,0,none⟩)),.any,.lit (.pointer (some ⟨g3,0,none⟩)),.lit (.pointer (some ⟨g4,0,none⟩)),.lit (.int .i64 (D3 x)),.any,.any,.any,.any,.any,.any,.lit (.int .i64 (f.blocks.length:Int)),.lit (.int .i64 (n:Int)),.any,.any,.any,.any,.lit (goF p),.lit (.int .i64 (D3 x)),.any,.any,.any,.any,.any,.any,.any,.any,.any,.any,.any,.any],[.dead,.res (Bn g1 (Ak f)),.res (EK 22 O f.blocks.length vs vs ls),.res (Bn g3 [.lit (.slice (some ⟨O,0,none⟩) f.blocks.length f.blocks.length)]),.res (Bn g4 [.lit (.int .i64 (n:Int))]),.dead]⟩ Ew ?_;refine Yo (n:=11) undef (fun(i:Value) (b:Nat→Bool)=>⟨[.any,.lit (.pointer (some ⟨g1,0,none⟩)),.any,.lit (.pointer (some ⟨g3,0,none⟩)),.lit (.pointer (some ⟨g4,0,none⟩)),.lit (.int .i64 (D3 x)),.any,.any,.any,.any,.any,.any,.lit (.int .i64 (f.blocks.length:Int)),.lit (.int .i64 (n:Int)),.any,.any,.any,.any,.lit (goF p),.lit (.int .i64 (D3 x)),(bif b 0 then .lit (.slice (some ⟨O,0,none⟩) f.blocks.length f.blocks.length)else .any),(bif b 1 then .lit (.int .i64 (D3 x))else .any),(bif b 2 then .lit (.slice (some ⟨O,0,none⟩) f.blocks.length f.blocks.length)else .any),(bif b 3 then .lit (.int .i64 (D3 x))else .any),(bif b 4 then .lit (.pointer (some ⟨O,(D3 x).toNat,none⟩))else .any),(bif b 5 then .lit (vs.getD (D3 x).toNat undef)else .any),(bif b 6 then .lit (.int .i64 (n:Int))else .any),(bif b 7 then .bs tInt [(n:Int)]else .any),(bif b 8 then .lit i else .any),(bif b 9 then .lit (.pointer (some ⟨O,(D3 x).toNat,none⟩))else .any),.any,.any],[.dead,.res (Bn g1 (Ak f)),(bif b 10 then(ABlk.res (EK 22 O f.blocks.length (vs.set (D3 x).toNat i) (vs.set (D3 x).toNat i) (ls.set (D3 x).toNat (ixD ls (D3 x)++[(n:Int)]))))else(bif b 8 then(ABlk.res (EK 22 O f.blocks.length vs (vs.set (D3 x).toNat i) (ls.set (D3 x).toNat (ixD ls (D3 x)++[(n:Int)]))))else .res (EK 22 O f.blocks.length vs vs ls))),.res (Bn g3 [.lit (.slice (some ⟨O,0,none⟩) f.blocks.length f.blocks.length)]),.res (Bn g4 [.lit (.int .i64 (n:Int))]),.dead]⟩) ?_ ?_ ?_ ?_ ?_
   ·rfl
   ·kernel_rfl
   ·kernel_rfl
   ·refine Ey (fun i b hb ha hc=>?_) ?_
    ·try dsimp only
     refine BG (By (i:=3) (g:=g3) rfl Ab6 rfl rfl rfl) ?_;exact⟨i,St.le.refl⟩
    refine Ey (fun i b hb ha hc=>?_) ?_
    ·try dsimp only
     refine BG (Av.move rfl Oh) ?_;exact⟨i,St.le.refl⟩
    refine Ey (fun i b hb ha hc=>?_) ?_
    ·try dsimp only
     refine BG (By (i:=3) (g:=g3) rfl Ab6 rfl rfl rfl) ?_;exact⟨i,St.le.refl⟩
    refine Ey (fun i b hb ha hc=>?_) ?_
    ·try dsimp only
     refine BG (Av.move rfl Oh) ?_;exact⟨i,St.le.refl⟩
    refine Ey (fun i b hb ha hc=>?_) ?_
    ·have h2:b 2=true:=ha 0 _ rfl rfl;have h3:b 3=true:=ha 1 _ rfl rfl;try dsimp only
     refine BG (Cs rfl ((AT (AT OM)).trans (Fc h2 _ _)) ((AT (AT QU)).trans (Fc h3 _ _)) hz) ?_;exact⟨i,St.le.refl⟩
    refine Ey (fun i b hb ha hc=>?_) ?_
    ·have h4:b 4=true:=ha 0 _ rfl rfl;have h10:b 10=false:=G2 hc (i:=5) (j:=10) (k:=8) rfl rfl rfl rfl hb;have h8:b 8=false:=G2 hc (i:=5) (j:=8) (k:=0) rfl rfl rfl rfl hb;try dsimp only
     refine BG (OB (i:=2) rfl ((AT (AT (AT Tb))).trans (Fc h4 _ _)) (congrArg some ((Ol h10 _ _).trans (Ol h8 _ _))) hzb) ?_;exact⟨i,St.le.refl⟩
    refine Ey (fun i b hb ha hc=>?_) ?_
    ·try dsimp only
     refine BG (By (i:=4) (g:=g4) rfl ZI rfl rfl rfl) ?_;exact⟨i,St.le.refl⟩
    refine Ey (fun i b hb ha hc=>?_) ?_
    ·have h6:b 6=true:=ha 0 _ rfl rfl;try dsimp only
     refine BG (CB (T:=tInt) rfl rfl rfl (by rfl) (by decide) (Yk ((AT (AT (AT Aft))).trans (Fc h6 _ _)) (Fit.int hbw))) ?_;exact⟨i,St.le.refl⟩
    refine Ey (fun i b hb ha hc=>?_) ?_
    ·have h5:b 5=true:=ha 0 _ rfl rfl;have h7:b 7=true:=ha 1 _ rfl rfl;have h10:b 10=false:=G2 hc (i:=8) (j:=10) (k:=1) rfl rfl rfl rfl hb;have u10:upd b 8 10=false:=h10;try dsimp only
     refine QS (i:=2) rfl RT.eq ((AT (AT (AT Afu))).trans (Fc h5 _ _)) (congrArg some ((Ol h10 _ _).trans (Ol hb _ _))) ((AT (AT (AT Ab6))).trans (Fc h7 _ _)) hzb hap fun v=>?_
     refine⟨v,?_⟩;simp only[h10,u10,cond_false];exact St.le.refl
    refine Ey (fun i b hb ha hc=>?_) ?_
    ·have h0:b 0=true:=ha 0 _ rfl rfl;have h1:b 1=true:=ha 1 _ rfl rfl;try dsimp only
     refine BG (Cs rfl ((AT (AT ZI)).trans (Fc h0 _ _)) ((AT (AT Oh)).trans (Fc h1 _ _)) hz) ?_;exact⟨i,St.le.refl⟩
    refine Ey (fun i b hb ha hc=>?_) ?_
    ·have h8:b 8=true:=ha 1 _ rfl rfl;have h9:b 9=true:=ha 0 _ rfl rfl;try dsimp only
     refine Sq (i:=2) rfl ((AT (AT (AT Oh))).trans (Fc h9 _ _)) ((AT (AT (AT ZI))).trans (Fc h8 _ _)) (congrArg some ((Ol hb _ _).trans (Ao4 h8 _ _))) hzs ?_;refine⟨i,?_⟩;exact St.le.refl
    exact Aor
   intro i;refine qVia ⟨[.any,.lit (.pointer (some ⟨g1,0,none⟩)),.any,.lit (.pointer (some ⟨g3,0,none⟩)),.lit (.pointer (some ⟨g4,0,none⟩)),.lit (.int .i64 (D3 x)),.any,.any,.any,.any,.any,.any,.lit (.int .i64 (f.blocks.length:Int)),.lit (.int .i64 (n:Int)),.any,.any,.any,.any,.lit (goF p),.lit (.int .i64 (D3 x)),.lit (.slice (some ⟨O,0,none⟩) f.blocks.length f.blocks.length),.lit (.int .i64 (D3 x)),.lit (.slice (some ⟨O,0,none⟩) f.blocks.length f.blocks.length),.lit (.int .i64 (D3 x)),.lit (.pointer (some ⟨O,(D3 x).toNat,none⟩)),.lit (vs.getD (D3 x).toNat undef),.lit (.int .i64 (n:Int)),.bs tInt [(n:Int)],.lit i,.lit (.pointer (some ⟨O,(D3 x).toNat,none⟩)),.any,.any],[.dead,.res (Bn g1 (Ak f)),.res (EK 22 O f.blocks.length (vs.set (D3 x).toNat i) (vs.set (D3 x).toNat i) (ls.set (D3 x).toNat (ixD ls (D3 x)++[(n:Int)]))),.res (Bn g3 [.lit (.slice (some ⟨O,0,none⟩) f.blocks.length f.blocks.length)]),.res (Bn g4 [.lit (.int .i64 (n:Int))]),.dead]⟩ rfl ?_;exact⟨rfl,vs.set (D3 x).toNat i,⟨.cons (.cons (.cons (.cons (.cons (.cons (.nil _)))))),fun b' hb'=>List.all_eq_true.1 (show bdH [.dead,.res (Bn g1 (Ak f)),.res (EK 22 O f.blocks.length (vs.set (D3 x).toNat i) (vs.set (D3 x).toNat i) (VA n ls x)),.res (Bn g3 [.lit (.slice (some ⟨O,0,none⟩) f.blocks.length f.blocks.length)]),.res (Bn g4 [.lit (.int .i64 (n:Int))]),.dead]=true from rfl) b' hb'⟩⟩
  ·rintro kN rfl vs D;rw[show(F4 f n).take (Dk f n).length=F4 f n by unfold Dk;rw[List.length_map,List.take_length]];refine h9 _ ?_;refine Dr (t':=(.any::.lit (.pointer (some ⟨g1,0,none⟩))::.any::.lit (.pointer (some ⟨g3,0,none⟩))::.lit (.pointer (some ⟨g4,0,none⟩))::A7 (.lit (.int .i64 (f.blocks.length:Int))::.lit (.int .i64 (n:Int))::A4 (.lit (goF p)::A10 (A3 []))))) (h':=[.res (Bq (D::ds)),.res (Bn g1 (Ak f)),.res (EK 22 O f.blocks.length vs vs (I2 f (n+1))),.res (Bn g3 [.lit (.slice (some ⟨O,0,none⟩) f.blocks.length f.blocks.length)]),.res (Bn g4 [.lit (.int .i64 (n:Int))]),.dead]) rfl rfl ?_;refine wSE (sT ?_);rw[hw1];refine sT (wN ?_);exact athen_n ⟨(n+1,D::ds,vs),hlt,by show f.blocks.length - (n+1) < f.blocks.length - n;omega,Fb (.cons (.cons (.cons (.cons (Cut.nil _)))))⟩
 ·obtain rfl:n=f.blocks.length:=by have:=of_decide_eq_false hb8;omega
  refine Aq (h3 _ ?_);refine wS (sT (sT (wN ?_)));refine As _ (Sb hC 2 2 rfl rfl) ?_;exact Aj ⟨.inr rfl,ds,rfl,rfl,Fin.cl rfl⟩
end Mu
end
section
namespace Mu
open Go Go.RowKit Go.Proofs Go.Maps
instance Ad9:AG Tryz.prog 218 false 1:=⟨by kernel_rfl⟩
instance Ad8:SZ Tryz.prog 218 1:=⟨by kernel_rfl⟩
instance Ad7:AG Tryz.prog 22 false 1:=⟨by kernel_rfl⟩
instance Ad6:SZ Tryz.prog 22 1:=⟨by kernel_rfl⟩
instance Ad5:ES Tryz.prog 22 1:=⟨by kernel_rfl⟩
instance Ad4:SL Tryz.prog 22:=⟨by kernel_rfl⟩
instance Ad3:RT Tryz.prog 22 3 1 8:=⟨by kernel_rfl⟩
instance Ad2:AG Tryz.prog 78 false 1:=⟨by kernel_rfl⟩
instance Ad1:SZ Tryz.prog 78 1:=⟨by kernel_rfl⟩
instance Ab2:ES Tryz.prog 78 1:=⟨by kernel_rfl⟩
instance Ab1:AG Tryz.prog 40 true 9:=⟨by kernel_rfl⟩
instance Ab0:SZ Tryz.prog 40 9:=⟨by kernel_rfl⟩
instance Abz:AG Tryz.prog 46 false 1:=⟨by kernel_rfl⟩
instance Aby:ES Tryz.prog 46 9:=⟨by kernel_rfl⟩
instance Abx:SL Tryz.prog 46:=⟨by kernel_rfl⟩
instance Abw:RT Tryz.prog 46 40 9 88:=⟨by kernel_rfl⟩
instance Abv:AG Tryz.prog 3 false 1:=⟨by kernel_rfl⟩
instance Abu:ZC Tryz.prog 218 [.map none]:=⟨by kernel_rfl⟩
instance Abt:ZC Tryz.prog 40 [.int .u8 0,.int .i64 0,.int .i64 0,.int .i64 0,.int .u32 0,.int .i64 0,.slice none 0 0,.int .i64 0,.int .i64 0]:=⟨by kernel_rfl⟩
instance Abs:ZC Tryz.prog 78 [.slice none 0 0]:=⟨by kernel_rfl⟩
def bkS(ds:List Ins)(S:Int→Bool)(k:Nat):Int→Bool:=inS (ds.drop (ds.length - k)) S
theorem Oo(ds:List Ins)(S:Int→Bool):bkS ds S 0=S:=by
 unfold bkS;rw[Nat.sub_zero,List.drop_eq_nil_of_le (Nat.le_refl _)];rfl
theorem Af6(ds:List Ins)(S:Int→Bool):bkS ds S ds.length=inS ds S:=by
 unfold bkS;rw[Nat.sub_self];rfl
theorem Tq{ds:List Ins}{S:Int→Bool}{k:Nat}{d:Ins}(hd:ds[ds.length - 1 - k]? =some d)(hk:k < ds.length):bkS ds S (k+1)=Id d (bkS ds S k):=by
 unfold bkS;have h1:ds.length - (k+1)=ds.length - 1 - k:=by omega
 have h2:ds.length - k=ds.length - 1 - k+1:=by omega
 rw[h1,h2,List.drop_eq_getElem_cons (by omega)];have:ds[ds.length - 1 - k]=d:=by
  rw[List.getElem?_eq_getElem (by omega)]at hd;exact Option.some.inj hd
 rw[this];rfl
theorem RY{ds:List Ins}{L:List Int}{S:Int→Bool}(h:Sub L S)(hx:∀x∈ds,∀r∈readsC x,r∈L)(k:Nat):Sub L (bkS ds S k):=
 h.inS fun x hm=>hx x (List.mem_of_mem_drop hm)
def F2(R:List Int)(ds:List Ins)(S:Int→Bool):List (List Int):=(List.range (ds.length+1)).map fun i=>R.filter (inS (ds.drop i) S)
theorem Ro(R:List Int)(ds:List Ins)(S:Int→Bool):(F2 R ds S).length=ds.length+1:=by simp[F2]
def Et(R:List Int)(ds:List Ins)(S:Int→Bool)(k:Nat):List AV:=(List.range (ds.length+1)).map fun i=>if ds.length - k≤i then .bs tInt (R.filter (inS (ds.drop i) S))else .lit (.slice none 0 0)
theorem MU(R:List Int)(ds:List Ins)(S:Int→Bool)(k:Nat):(Et R ds S k).length=ds.length+1:=by simp[Et]
theorem Rp(R:List Int)(ds:List Ins)(S:Int→Bool):(List.replicate (ds.length+1) (AV.lit (.slice none 0 0))).set ds.length (.bs tInt (R.filter S))=Et R ds S 0:=by
 refine List.ext_getElem (by simp[Et]) fun i h1 h2=>?_
 simp only[Et,List.getElem_map,List.getElem_range,List.getElem_set,List.getElem_replicate,Nat.sub_zero];simp only[List.length_set,List.length_replicate]at h1;by_cases e:ds.length=i
 ·subst e;rw[if_pos rfl,if_pos (Nat.le_refl _),List.drop_eq_nil_of_le (Nat.le_refl _)];rfl
 ·rw[if_neg e,if_neg (by omega)]
theorem Rq(R:List Int)(ds:List Ins)(S:Int→Bool){k:Nat}(hk:k < ds.length):(Et R ds S k).set (ds.length - 1 - k) (.bs tInt (R.filter (bkS ds S (k+1))))=Et R ds S (k+1):=by
 refine List.ext_getElem (by simp[Et]) fun i h1 h2=>?_
 simp only[Et,List.getElem_map,List.getElem_range,List.getElem_set];by_cases e:ds.length - 1 - k=i
 ·subst e;rw[if_pos rfl,if_pos (by omega),show ds.length - 1 - k=ds.length - (k+1)by omega];rfl
 ·rw[if_neg e];by_cases e2:ds.length - k≤i
  ·rw[if_pos e2,if_pos (by omega)]
  ·rw[if_neg e2,if_neg (by omega)]
theorem Abc(l:List AV)(i:Nat)(y:AV)(h:i < l.length):l.take i++[y]++l.drop (i+ [y].length)=l.set i y:=by
 rw[List.set_eq_take_append_cons_drop,if_pos h,List.append_assoc];rfl
theorem Ub(R:List Int)(ds:List Ins)(S:Int→Bool):Et R ds S ds.length=(F2 R ds S).map fun l=>AV.bs tInt l:=by
 unfold Et F2;rw[List.map_map];refine List.map_congr_left fun i _=>?_
 rw[if_pos (by omega)];rfl
theorem Qs{C:Ctx}(hC:C.std){t:List AV}{h:List ABlk}(i j:Nat){O n:Nat}{ls:List (List Int)}(hn:ls.length=n)(hm:n≤maxLen)(hi:h[i]? =some (.res (Bn O (ls.map fun l=>AV.bs tInt l))))(hj:t[j]? =some (.lit (.slice (some ⟨O,0,none⟩) n n))):
 St.le C ⟨t,h⟩ ⟨t.set j (.bs tInt.slice ls),h.set i .dead⟩:=
 EB i j hi rfl rfl hj (PY hC hi rfl) fun S ψ w v H hr=>by
  unfold AV.rel at hr⊢;subst hr;obtain⟨cs,e,hO,hcs⟩:=(H.blk i _ hi).2;subst hn;refine⟨some ⟨O,0,none⟩,ls.length,rfl,Nat.le_refl _,⟨hm,fun e=>by cases e⟩,fun k l hl=>⟨O,0,rfl,.inr rfl,?_⟩⟩;obtain⟨u,hu,hr⟩:=Bl hcs (i:=k) (x:=AV.bs tInt l) (by rw[List.getElem?_map,hl];rfl);unfold AV.rel at hr;refine⟨[u],tInt.slice.keepS hr (fun _ _=>rfl) fun _ hk=>.inl hk,fun j u' hj=>?_⟩;cases j with
  |zero=>
   cases hj;show w.cell? ⟨O,0+k * 1+0,none⟩=some u;rw[Nat.mul_one,Nat.zero_add,Nat.add_zero];simp[World.cell?,hO,hu]
  |succ j=>cases hj
def Aa6:Ty (Int→Bool) where
 size:=1
 bulk:=fun _=>1
 RS:=fun w S cs d=>∃m,cs= [.map (some m)]∧S m∧Gl w m d
 len:=by rintro _ _ _ _ ⟨m,rfl,_⟩;rfl
 keepS:=by
  rintro w w' S S' cs d ⟨m,rfl,h1,h2⟩ hb hS;exact⟨m,rfl,hS m h1,h2.keep (hb m h1)⟩
theorem Af2:Enc Aa6 fun d=>[.tv Aa6 d]:=by
 intro w S h ψ cs d H;obtain⟨m,rfl,_⟩:=id H;unfold Ad;refine⟨_,_,rfl,?_,?_⟩
 ·unfold AV.rel;exact H
 ·unfold Ad;rfl
instance Abr:EncOf Aa6 fun d=>[.tv Aa6 d]:=⟨Af2,by
 rintro w S cs d ⟨m,rfl,_⟩ u hu;simp only[List.mem_singleton]at hu;subst hu;rfl,by decide⟩
theorem Z2(S:Int→Bool):QE Tryz.prog 201 [.tv Aa6 S] (G3 S) (fun p=>.map (some p)):=by
 refine⟨by kernel_rfl,fun w T vs hT hr=>?_⟩;obtain⟨u,rfl,h3⟩:=Aaa hr;unfold AV.rel at h3;obtain⟨m,e,_,hS⟩:=h3;obtain rfl:u= .map (some m):=by simpa using e
 refine(Qc w hS).mono ?_;rintro e w' ⟨rfl,h1,es,c,rfl⟩;have hb:Below w.heap.size w (w.alloc (.map es c)):=(Below.refl _ _).alloc (Nat.le_refl _) _;exact⟨_,rfl,⟨hb.os,hb.tape,hb.output,hb.size,fun k hk _=>hb.block k hk⟩,w.heap.size,rfl,h1,fun k hk=>by
  have hk:k=w.heap.size:=hk;subst hk;exact⟨.inr (Nat.le_refl _),h1.lt⟩⟩
theorem Px(b:Block)(S:Int→Bool)(R:List Int)(ho:okBlock b)(hs:smallB b)(hRR:RegsR R)(hsub:Sub R S)(hx:∀x∈b.ins,∀r∈readsC x,r∈R):
 Fn Tryz.prog 167 [.agg (BZ b),.tv Aa6 S] (.bs tInt.slice (F2 R b.ins S)):=by
 have hil:=hs.ins;obtain⟨ds,hds⟩:∃ds,ds=b.ins:=⟨_,rfl⟩
 have hmx:ds.length+1≤maxLen:=by
  rw[hds];unfold maxLen;omega
 have hw1:IntKind.i64.wrap ((b.ins.length:Int)+1)=((ds.length+1:Nat):Int):=by rw[hds,IntWalk.i64_in _ (by omega)];rfl
 refine FK Tryz.func167 rfl (by kernel_rfl) rfl Tryz.ntmps167 fun C hC hrd=>?_
 refine nS ?_;refine wS (sB (sT (wN ?_)));refine wRK fun K2 h2=>sT (sT (sT (sT ?_)))
 rw[hw1];refine Ao rfl (Yw (e:=22) (z:=.slice none 0 0) (bytes:=24) rfl (by kernel_rfl) rfl rfl (by rw[hds];omega) hmx fun O=>?_);refine sNt ?_;refine sA0 (sW (wN (h2 _ ?_)));refine wRK fun K3 h3=>sT ?_
 refine Ao rfl (Co rfl (Z2 S) (fun _=>rfl) rfl rfl fun m=>?_);refine sNt ?_;refine sA0 (sW (wN (h3 _ ?_)));refine Bv 3 rfl rfl rfl (fun g=>(A2 (.ptr 1 0::A2 (.lit (.pointer (some ⟨g,0,none⟩))::.ptr 5 0::A20 (A10 []))))) (fun g=>(by(repeat(first|exact OpnB.nil|refine OpnB.ptr ?_|refine OpnB.any ?_|refine OpnB.keep rfl ?_)))) fun g5=>?_
 refine Bv 5 rfl rfl rfl (fun g=>(A2 (.ptr 1 0::A2 (.lit (.pointer (some ⟨g5,0,none⟩))::.lit (.pointer (some ⟨g,0,none⟩))::A20 (A10 []))))) (fun g=>(by(repeat(first|exact OpnB.nil|refine OpnB.ptr ?_|refine OpnB.any ?_|refine OpnB.keep rfl ?_)))) fun g6=>?_
 refine nT ?_;have hlist:∀k,FnR Tryz.prog 202 (G3 (bkS ds S k) m) [.lit (.map (some m))] (.bs tInt (R.filter (bkS ds S k))):=fun k=>Ut _ _ R m hRR (RY hsub (by rw[hds];exact hx) k).inR fun _ _ h=>h
 have h0:=hlist 0;rw[Oo]at h0;refine dS 7 (hq:=qT (qT (qT (qT (qT ?_)))));rw[←hds];refine qA ?_ (Mi (i:=4) rfl rfl h0 rfl rfl rfl);refine qA (hq:=AY rfl rfl rfl (Nat.lt_succ_self _)) (hk:=qN ?_);refine Ao rfl (Mr (i:=2) (new:=[.bs tInt (R.filter S)]) rfl rfl rfl (OC.one One.bs) rfl rfl (by rw[List.length_replicate];exact Nat.le_refl _) ?_);rw[Abc _ _ _ (by simp),Rp];refine sNt (hk:=wN ?_);refine Ac fun K5 h5=>?_
 refine wRK fun K6 h6=>sT (sT ?_)
 rw[←hds];refine Ao rfl (Co rfl (Kb ds) (fun _=>rfl) rfl rfl fun p=>?_);refine sNt (hk:=Ar (h6 _ ?_));refine As ⟨(A5 (.lit (.pointer (some ⟨g5,0,none⟩))::.lit (.pointer (some ⟨g6,0,none⟩))::A10 (A8 (.lit (bkF p)::A10 [.any])))),[.res (Bq []),.box (BZ b),.res (Bn O (Et R ds S 0)),.res (Bn g5 [.lit (.slice (some ⟨O,0,none⟩) (ds.length+1) (ds.length+1))]),.res (G3 (bkS ds S 0) m),.res (Bn g6 [.lit (.map (some m))]),.res (bkR ds p)]⟩ ?_ ?_
 ·rw[Oo];exact Ew
 refine Af ?_;refine FN 6 0 (fun k=>[.dead,.dead,.res (Bn O (Et R ds S k)),.res (Bn g5 [.lit (.slice (some ⟨O,0,none⟩) (ds.length+1) (ds.length+1))]),.res (G3 (bkS ds S k) m),.res (Bn g6 [.lit (.map (some m))]),.dead]) hrd rfl (by decide) rfl rfl rfl ?_ rfl (fun _=>rfl) (fun _=>rfl) rfl (Acd _) (XX _) (QB (by kernel_rfl) fun w T h1 h2 h3=>I3 ds (by rw[hds];exact hil) p w T h1 h2 h3) ?_ ?_
 ·exact⟨.dead (.dead (.cons (.cons (.cons (.cons (.dead (.nil _))))))),fun c hc=>List.all_eq_true.1 (show bdH [.dead,.dead,.res (Bn O (Et R ds S 0)),.res (Bn g5 [.lit (.slice (some ⟨O,0,none⟩) (ds.length+1) (ds.length+1))]),.res (G3 (bkS ds S 0) m),.res (Bn g6 [.lit (.map (some m))]),.dead]=true from rfl) c hc⟩
 ·intro k hk C' hin;obtain⟨d,hd⟩:∃d,ds[ds.length - 1 - k]? =some d:=⟨_,List.getElem?_eq_getElem (by omega)⟩
  have hmd:d∈b.ins:=by rw[←hds];exact List.mem_of_getElem? hd
  have hbk:bkE ds k= [.lit (.int .i64 ((ds.length - 1 - k:Nat):Int)),.agg (AL d)]:=by unfold bkE;rw[hd]
  have hal:d.args.length≤2097152:=by have:=hs.all d hmd;omega
  rw[hbk];refine Dr (t':=(A5 (.lit (.pointer (some ⟨g5,0,none⟩))::.lit (.pointer (some ⟨g6,0,none⟩))::A10 (A8 (.lit (bkF p)::.lit (.int .i64 ((ds.length - 1 - k:Nat):Int))::.agg (AL d)::A9 []))))) rfl rfl ?_;refine wS (sT (wN ?_));refine wSE (sA0 (sW (wN ?_)));refine athen_n ?_;intro C2 hC2;refine Af ?_;refine wRK fun K10 h10=>sT (sT ?_)
  refine Ao rfl (BR (i:=4) rfl rfl (Qk d _ R m (ho.ins d hmd) hal hRR (RY hsub (by rw[hds];exact hx) k).inR (hx d hmd)) (fun _=>rfl) rfl rfl fun _=>?_);refine sNt (hk:=Ar (h10 _ ?_));rw[←Tq hd hk];refine dSE 5 (hq:=qT (qT (qT ?_)));refine qA ?_ (Mi (i:=4) rfl rfl (hlist (k+1)) rfl rfl rfl);refine qA (hq:=AY rfl rfl rfl (by omega)) (hk:=qN ?_);refine Ao rfl (Mr (i:=2) (new:=[.bs tInt (R.filter (bkS ds S (k+1)))]) rfl rfl rfl (OC.one One.bs) rfl rfl (by rw[MU];show _+1≤_;omega) ?_);rw[Abc _ _ _ (by rw[MU];omega),Rq R ds S hk];refine sNt (hk:=Ar ?_);exact⟨rfl,.cons (.cons (.cons (.cons (.cons (.cons (.cons (.nil _))))))),fun c hc=>List.all_eq_true.1 (show bdH [.dead,.dead,.res (Bn O (Et R ds S (k+1))),.res (Bn g5 [.lit (.slice (some ⟨O,0,none⟩) (ds.length+1) (ds.length+1))]),.res (G3 (bkS ds S (k+1)) m),.res (Bn g6 [.lit (.map (some m))]),.dead]=true from rfl) c hc⟩
 ·intro D;rw[Ub];refine h5 _ ?_;refine Dr (t':=(A5 (.lit (.pointer (some ⟨g5,0,none⟩))::.lit (.pointer (some ⟨g6,0,none⟩))::A10 (A8 (.lit (bkF p)::A10 [.any]))))) (h':=[.res (Bq [D]),.dead,.res (Bn O ((F2 R ds S).map fun l=>AV.bs tInt l)),.res (Bn g5 [.lit (.slice (some ⟨O,0,none⟩) (ds.length+1) (ds.length+1))]),.res (G3 (bkS ds S ds.length) m),.res (Bn g6 [.lit (.map (some m))]),.dead]) rfl rfl ?_;refine wS (sT (sT (wN ?_)));refine As _ (Qs hC 2 4 (Ro R ds S) hmx rfl rfl) ?_;subst hds;exact Aj ⟨.inr rfl,[D],rfl,rfl,Fin.cl rfl⟩
end Mu
end
section
namespace Mu
open Go Go.RowKit Go.Proofs
def Q5(l:List Ins)(m:Nat):Nat:=((l.take m).map fun x=>x.args.length).sum
def sumB(f:Func)(b:Nat):Nat:=((f.blocks.take b).map fun bl=>bl.ins.length+Q5 bl.ins 200).sum
def JE(f:Func):Bool:=decide (40 < f.blocks.length)||decide (250 < sumB f 60)
theorem OV{l:List Ins}{m:Nat}{x:Ins}(hx:l[m]? =some x):Q5 l (m+1)=Q5 l m+x.args.length:=by
 unfold Q5;rw[List.take_add_one,hx,List.map_append,List.sum_append];simp
theorem OU{f:Func}{b:Nat}{x:Block}(hx:f.blocks[b]? =some x):sumB f (b+1)=sumB f b+(x.ins.length+Q5 x.ins 200):=by
 unfold sumB;rw[List.take_add_one,hx,List.map_append,List.sum_append];simp
theorem VP{l:List Ins}(h:∀x∈l,x.args.length≤2097152)(m:Nat):Q5 l m≤m * 2097152:=by
 induction m with
 |zero=>simp[Q5]
 |succ m ih=>
  cases hx:l[m]? with
  |none=>
   have:Q5 l (m+1)=Q5 l m:=by unfold Q5;rw[List.take_add_one,hx];simp
   omega
  |some x=>
   rw[OV hx];have:=h x (List.mem_of_getElem? hx);omega
theorem Acw{f:Func}(hs:smallF f)(b:Nat):sumB f b≤b * 421527552:=by
 induction b with
 |zero=>simp[sumB]
 |succ b ih=>
  cases hx:f.blocks[b]? with
  |none=>
   have:sumB f (b+1)=sumB f b:=by unfold sumB;rw[List.take_add_one,hx];simp
   omega
  |some x=>
   rw[OU hx];have h1:=hs.all x (List.mem_of_getElem? hx);have h2:=h1.ins;have h3:=VP (l:=x.ins) (fun y hy=>by have:=h1.all y hy;omega) 200;omega
theorem YM{l:List Ins}{i:Nat}(hi:i≤l.length)(h:¬(i < l.length∧i < 200))(h2:i≤200):Q5 l i=Q5 l 200:=by
 by_cases hl:i < l.length
 ·have:i=200:=by omega
  rw[this]
 ·have:i=l.length:=by omega
  unfold Q5;rw[List.take_of_length_le (by omega),List.take_of_length_le (by omega)]
theorem YL{f:Func}{b:Nat}(hi:b≤f.blocks.length)(h:¬(b < f.blocks.length∧b < 60))(h2:b≤60):sumB f b=sumB f 60:=by
 by_cases hl:b < f.blocks.length
 ·have:b=60:=by omega
  rw[this]
 ·have:b=f.blocks.length:=by omega
  unfold sumB;rw[List.take_of_length_le (by omega),List.take_of_length_le (by omega)]
theorem OR{p q:Bool}(h:¬(p=true∧q=true)):p=false∨(p=true∧q=false):=by cases p <;> cases q <;> simp at h⊢
theorem UC(f:Func)(hs:smallF f):Fn Tryz.prog 77 [.agg (Ak f)] (.lit (.bool (JE f))):=by
 have hbl:=hs.blocks;refine Ax Tryz.func77 rfl (by kernel_rfl) rfl Tryz.ntmps77 fun C hC=>?_
 refine nS ?_;refine rRS ?_;refine rRS ?_;refine Ac fun K3 h3=>?_
 refine rRS ?_;refine Af ?_;refine Au (fun b:Nat=>⟨(.any::.ptr 0 0::.any::.lit (.int .i64 (sumB f b:Int))::.lit (.int .i64 (b:Int))::A40 (A10 (A7 []))),[.box (Ak f)]⟩) (fun b=>b≤f.blocks.length∧b≤60) (fun b=>f.blocks.length - b) 0 ⟨Nat.zero_le _,Nat.zero_le _⟩ (Ce) ?_;rintro b ⟨hb,hb60⟩;have hsb:=Acw hs b;refine Ac fun K5 h5=>?_
 by_cases hgo:b < f.blocks.length∧b < 60
 ·have hd1:decide ((b:Int) < (f.blocks.length:Int))=true:=by simpa using hgo.1
  have hd2:decide ((b:Int) < 60)=true:=by simp;omega
  obtain⟨bl,hbk⟩:∃bl,f.blocks[b]? =some bl:=⟨_,List.getElem?_eq_getElem hgo.1⟩
  have hbs:=hs.all bl (List.mem_of_getElem? hbk);have hbi:=hbs.ins;have hsuc:=OU hbk;refine rRS ?_;refine Ae rfl (fun hb7=>?_) (fun hb=>by cases hb);refine Ag ?_;refine h5 _ ?_;refine nT ?_;refine Ac fun K8 h8=>?_
  refine Af ?_;refine rRS ?_;refine rRS ?_;refine Af ?_;refine Au (fun i:Nat=>⟨(.any::.ptr 0 0::.any::.lit (.int .i64 ((sumB f b+bl.ins.length+Q5 bl.ins i:Nat):Int))::.lit (.int .i64 (b:Int))::.lit (.int .i64 (i:Int))::A40 (A10 (A6 []))),[.box (Ak f)]⟩) (fun i=>i≤bl.ins.length∧i≤200) (fun i=>bl.ins.length - i) 0 ⟨Nat.zero_le _,Nat.zero_le _⟩ (Ce) ?_;rintro i ⟨hi,hi200⟩;have hsa:=VP (l:=bl.ins) (fun y hy=>by have:=hbs.all y hy;omega) i;refine Ac fun K11 h11=>?_
  by_cases hgi:i < bl.ins.length∧i < 200
  ·have hd3:decide ((i:Int) < (bl.ins.length:Int))=true:=by simpa using hgi.1
   have hd4:decide ((i:Int) < 200)=true:=by simp;omega
   obtain⟨x,hx⟩:∃x,bl.ins[i]? =some x:=⟨_,List.getElem?_eq_getElem hgi.1⟩
   have hxa:=hbs.all x (List.mem_of_getElem? hx);have hsx:=OV hx;refine rRS ?_;refine Ae rfl (fun hb13=>?_) (fun hb=>by cases hb);refine Ag ?_;refine h11 _ ?_;refine nT ?_;refine Ac fun K14 h14=>?_
   refine Af ?_;refine rR ?_;refine h14 _ ?_;refine nT ?_;refine rR ?_;refine athen_n ⟨i+1,⟨by omega,by omega⟩,by omega,?_⟩;rw[hsx,←Nat.add_assoc];exact Ce
  ·have htt:decide ((i:Int) < (bl.ins.length:Int))=false∨(decide ((i:Int) < (bl.ins.length:Int))=true∧decide ((i:Int) < 200)=false):=OR fun h=>hgi ⟨by simpa using h.1,by have:=of_decide_eq_true h.2;omega⟩
   refine Ac fun K12 h12=>?_
   have hse:=YM hi hgi hi200;have hfin:∀s':St,St.le C s' ⟨(.any::.ptr 0 0::.any::.lit (.int .i64 ((sumB f b+bl.ins.length+Q5 bl.ins 200:Nat):Int))::.lit (.int .i64 (b:Int))::A20 (A10 (A3 (.lit (.bool false)::A20 (A3 []))))),[.box (Ak f)]⟩→K12 s':=fun s' hle=>by
    refine h12 _ (As _ hle ?_);refine Ae rfl (fun hb=>by cases hb) (fun hb=>?_);refine Aq ?_;refine h8 _ ?_;refine nT ?_;refine rR ?_;refine athen_n ⟨b+1,⟨by omega,by omega⟩,by omega,?_⟩;rw[hsuc,←Nat.add_assoc];exact Ce
   rw[←hse]at hfin;rcases htt with q1|⟨q1,q2⟩
   all_goals
    refine rR ?_;refine athen_n (hfin _ ?_);exact Ce
 ·have htt:decide ((b:Int) < (f.blocks.length:Int))=false∨(decide ((b:Int) < (f.blocks.length:Int))=true∧decide ((b:Int) < 60)=false):=OR fun h=>hgo ⟨by simpa using h.1,by have:=of_decide_eq_true h.2;omega⟩
  refine Ac fun K6 h6=>?_
  have hse:=YL hb hgo hb60;have hfin:∀s':St,St.le C s' ⟨(.any::.ptr 0 0::.any::.lit (.int .i64 (sumB f 60:Int))::A10 (.lit (.bool false)::A40 (A7 []))),[.box (Ak f)]⟩→K6 s':=fun s' hle=>by
   refine h6 _ (As _ hle ?_);refine Ae rfl (fun hb=>by cases hb) (fun hb=>?_);refine Aq ?_;refine h3 _ ?_;refine nT ?_;refine Ac fun K20 h20=>?_
   have hg1:decide ((f.blocks.length:Int) > 40)=decide (40 < f.blocks.length):=by rw[decide_eq_decide];omega
   have hg2:decide ((sumB f 60:Int) > 250)=decide (250 < sumB f 60):=by rw[decide_eq_decide];omega
   rcases hq1:decide (40 < f.blocks.length)with _|_
   ·rw[hq1]at hg1;refine rR ?_;refine h20 _ ?_;refine nT ?_;refine Aj ?_;have:JE f=decide (250 < sumB f 60):=by unfold JE;rw[hq1];rfl
    rw[this];exact⟨.inr rfl,Fin.cl rfl⟩
   ·rw[hq1]at hg1;refine rR ?_;refine h20 _ ?_;refine nT ?_;refine Aj ?_;have:JE f=true:=by unfold JE;rw[hq1];rfl
    rw[this];exact⟨.inr rfl,Fin.cl rfl⟩
  rw[←hse]at hfin;rcases htt with q1|⟨q1,q2⟩
  all_goals
   refine rR ?_;refine athen_n (hfin _ ?_);exact Ce
end Mu
end
section
namespace Mu
open Go
def QV(f:Func)(b:Nat):List Int:=(I2 f f.blocks.length).getD b []
theorem Qo{f:Func}(m b:Nat)(hb:b < f.blocks.length):∀(pre:List (Blk f)) (ls:List (List Int)),ls.length=f.blocks.length→∀x,x∈(If m pre ls).getD b []↔x∈ls.getD b []∨(x=(m:Int)∧∃y∈pre,y.1=b)
 | [],ls,_,x=>by simp[If]
 |y::pre,ls,hl,x=>by
  show x∈(If m pre (VA m ls y)).getD b []↔_;rw[Qo m b hb pre (VA m ls y) (by simp[VA,hl]) x];have key:x∈(VA m ls y).getD b []↔x∈ls.getD b []∨(x=(m:Int)∧y.1=b):=by
   unfold VA;by_cases hy:y.1=b
   ·rw[←hy,List.getD_eq_getElem?_getD,List.getElem?_set_self (by rw[hl];exact y.2)];simp
   ·rw[List.getD_eq_getElem?_getD,List.getElem?_set_ne hy,←List.getD_eq_getElem?_getD];simp[hy]
  rw[key];constructor
  ·rintro((h|h)|⟨h1,z,h2,h3⟩)
   ·exact .inl h
   ·exact .inr ⟨h.1,y,by simp,h.2⟩
   ·exact .inr ⟨h1,z,by simp[h2],h3⟩
  ·rintro(h|⟨h1,z,h2,h3⟩)
   ·exact .inl (.inl h)
   ·rcases List.mem_cons.1 h2 with rfl|h2
    ·exact .inl (.inr ⟨h1,h3⟩)
    ·exact .inr ⟨h1,z,h2,h3⟩
theorem Tt{f:Func}(b:Nat)(hb:b < f.blocks.length):∀(m:Nat) (x:Int),x∈(I2 f m).getD b []↔∃k:Nat,k < m∧Edge f k b∧x=(k:Int)
 |0,x=>by
  rw[I2,List.getD_eq_getElem?_getD,List.getElem?_replicate];split <;> simp
 |m+1,x=>by
  rw[I2,Qo m b hb _ _ (Ic f m),Tt b hb m];constructor
  ·rintro(⟨k,h1,h2,h3⟩|⟨h1,y,h2,h3⟩)
   ·exact⟨k,by omega,h2,h3⟩
   ·exact⟨m,by omega,⟨y,h2,h3⟩,h1⟩
  ·rintro⟨k,h1,h2,h3⟩;by_cases hk:k=m
   ·subst hk;obtain⟨y,h4,h5⟩:=h2;exact .inr ⟨h3,y,h4,h5⟩
   ·exact .inl ⟨k,by omega,h2,h3⟩
theorem IY{f:Func}{k b:Nat}(h:Edge f k b):k < f.blocks.length∧b < f.blocks.length:=by
 obtain⟨y,h1,rfl⟩:=h;refine⟨?_,y.2⟩;unfold F4 at h1;rw[if_pos (by omega)]at h1;simp only[Int.toNat_natCast]at h1;cases hk:f.blocks[k]? with
 |none=>rw[hk]at h1;cases h1
 |some bl=>exact(List.getElem?_eq_some_iff.1 hk).1
theorem Tu{f:Func}{b:Nat}(hb:b < f.blocks.length)(x:Int):x∈QV f b↔∃k:Nat,Edge f k b∧x=(k:Int):=by
 unfold QV;rw[Tt b hb];constructor
 ·rintro⟨k,_,h2,h3⟩;exact⟨k,h2,h3⟩
 ·rintro⟨k,h2,h3⟩;exact⟨k,(IY h2).1,h2,h3⟩
def at_(Ss:List (Int→Bool))(k:Nat):Int→Bool:=Ss.getD k fun _=>false
theorem X5{Ss:List (Int→Bool)}{k j:Nat}{S:Int→Bool}(hk:k < Ss.length):at_ (Ss.set k S) j=if j=k then S else at_ Ss j:=by
 unfold at_;by_cases hj:j=k
 ·subst hj;rw[if_pos rfl,List.getD_eq_getElem?_getD,List.getElem?_set_self hk];rfl
 ·rw[if_neg hj,List.getD_eq_getElem?_getD,List.getElem?_set_ne (Ne.symm hj),←List.getD_eq_getElem?_getD]
def LC(L:List Int)(Ss:List (Int→Bool)):Nat:=(Ss.map fun S=>L.length - (L.filter S).length).sum
theorem S4{L:List Int}:∀{Ss:List (Int→Bool)} {k:Nat} {S N:Int→Bool},Ss[k]? =some S→(L.filter S).length < (L.filter N).length→LC L (Ss.set k N) < LC L Ss
 | [],k,S,N,h,_=>by simp at h
 |T::Ss,0,S,N,h,hlt=>by
  have h:T=S:=by simpa using h
  subst h;have:=List.length_filter_le N L;simp only[LC,List.set_cons_zero,List.map_cons,List.sum_cons];omega
 |T::Ss,k+1,S,N,h,hlt=>by
  have:=S4 (L:=L) (Ss:=Ss) (k:=k) (by simpa using h) hlt;simp only[LC,List.set_cons_succ,List.map_cons,List.sum_cons]at this⊢;omega
theorem Adr(L:List Int)(Ss:List (Int→Bool)):LC L Ss≤Ss.length * L.length:=by
 induction Ss with
 |nil=>simp[LC]
 |cons S Ss ih=>
  simp only[LC,List.map_cons,List.sum_cons,List.length_cons]at ih⊢;rw[Nat.add_mul,Nat.one_mul];omega
structure AllI(f:Func)(L:List Int)(wait:List Nat)(Ss:List (Int→Bool)):Prop where
 len:Ss.length=f.blocks.length
 lt:∀b∈wait,b < f.blocks.length
 sound:∀k r,at_ Ss k r=true→LOut f k r
 sub:∀k,Sub L (at_ Ss k)
 closed:∀k b,Edge f k b→b∉wait→∀r,inS (BW f b) (at_ Ss b) r=true→at_ Ss k r=true
structure AllJ(f:Func)(L:List Int)(b:Nat)(wait0:List Nat)(Ss0:List (Int→Bool))(pre:List Int)(wait:List Nat)(Ss:List (Int→Bool)):Prop where
 len:Ss.length=f.blocks.length
 lt:∀b∈wait,b < f.blocks.length
 sound:∀k r,at_ Ss k r=true→LOut f k r
 sub:∀k,Sub L (at_ Ss k)
 mono:∀k r,at_ Ss0 k r=true→at_ Ss k r=true
 kept:∀k,k∉wait→at_ Ss k=at_ Ss0 k∧k∉wait0
 done:∀k:Nat,(k:Int)∈pre→∀r,inS (BW f b) (at_ Ss0 b) r=true→at_ Ss k r=true
 less:2 * LC L Ss+wait.length≤2 * LC L Ss0+wait0.length
theorem Vq{f:Func}{L:List Int}{wait:List Nat}(hw:∀b,b∈wait↔b < f.blocks.length):AllI f L wait (List.replicate f.blocks.length fun _=>false):=by
 have h0:∀k,at_ (List.replicate f.blocks.length fun _=>false) k=fun _=>false:=fun k=>by
  unfold at_;rw[List.getD_eq_getElem?_getD,List.getElem?_replicate];split <;> rfl
 refine⟨by simp,fun b hb=>(hw b).1 hb,fun k r hr=>(by rw[h0]at hr;cases hr),fun k x hx=>(by rw[h0]at hx;cases hx),fun k b he hb=>?_⟩;exact absurd ((hw b).2 (IY he).2) hb
theorem AllI.split{f:Func}{L:List Int}{b:Nat}{wait0:List Nat}{Ss:List (Int→Bool)}(h:AllI f L (wait0++[b]) Ss):AllJ f L b wait0 Ss [] wait0 Ss:=
 ⟨h.len,fun c hc=>h.lt c (by simp[hc]),h.sound,h.sub,fun _ _ h=>h,fun k hk=>⟨rfl,hk⟩,fun k hk=>by simp at hk,Nat.le_refl _⟩
theorem AllJ.done_all{f:Func}{L:List Int}{b:Nat}{wait0 wait:List Nat}{Ss0 Ss:List (Int→Bool)}(h0:AllI f L (wait0++[b]) Ss0)(h:AllJ f L b wait0 Ss0 (QV f b) wait Ss):AllI f L wait Ss:=by
 refine⟨h.len,h.lt,h.sound,h.sub,fun k c he hc r hr=>?_⟩;obtain⟨k1,k2⟩:=h.kept c hc;rw[k1]at hr;by_cases hcb:c=b
 ·subst hcb;exact h.done k ((Tu (IY he).2 _).2 ⟨k,he,rfl⟩) r hr
 ·exact h.mono k r (h0.closed k c he (by simp[k2,hcb]) r hr)
theorem AllJ.step{f:Func}{L:List Int}{b k:Nat}{wait0 wait:List Nat}{Ss0 Ss:List (Int→Bool)}{pre:List Int}{S:Int→Bool}(h0:AllI f L (wait0++[b]) Ss0)(h:AllJ f L b wait0 Ss0 pre wait Ss)(he:Edge f k b)(hS:Ss[k]? =some S)
 (hL:∀x∈BW f b,∀r∈readsC x,r∈L):
 let N:=inS (BW f b) (at_ Ss0 b)
 AllJ f L b wait0 Ss0 (pre++[(k:Int)]) (if(L.filter S).length < (L.filter (uni S N)).length then wait++[k]else wait) (Ss.set k (uni S N)):=by
 intro N;have hkl:k < Ss.length:=(List.getElem?_eq_some_iff.1 hS).1;have hat:at_ Ss k=S:=by unfold at_;rw[List.getD_eq_getElem?_getD,hS];rfl
 have hN:Sub L N:=(h0.sub b).inS hL;have hNl:∀r,N r=true→LOut f k r:=fun r hr=>Vl he (fun h=>h0.sound b r h) hr
 have hu:∀j r,at_ (Ss.set k (uni S N)) j r=true↔at_ Ss j r=true∨(j=k∧N r=true):=fun j r=>by
  rw[X5 hkl];by_cases hj:j=k
  ·subst hj;rw[if_pos rfl,hat];simp[uni]
  ·rw[if_neg hj];simp[hj]
 have hlen:(Ss.set k (uni S N)).length=f.blocks.length:=by simp[h.len]
 refine⟨hlen,fun c hc=>?_,fun j r hr=>?_,fun j r hr=>?_,fun j r hr=>(hu j r).2 (.inl (h.mono j r hr)),fun j hj=>?_,fun j hj r hr=>?_,?_⟩
 ·split at hc
  ·rcases List.mem_append.1 hc with h1|h1
   ·exact h.lt c h1
   ·have:c=k:=by simpa using h1
    subst this;exact(IY he).1
  ·exact h.lt c hc
 ·rcases(hu j r).1 hr with h1|⟨rfl,h1⟩
  ·exact h.sound j r h1
  ·exact hNl r h1
 ·rcases(hu j r).1 hr with h1|⟨rfl,h1⟩
  ·exact h.sub j r h1
  ·exact hN r h1
 ·split at hj
  ·rename_i hlt;have hj':j∉wait∧j≠k:=by simpa using hj
   rw[X5 hkl,if_neg hj'.2];exact h.kept j hj'.1
  ·rename_i hlt;have e:uni S N=S:=SA hN (by omega);rw[e,X5 hkl];split
   ·rename_i hjk;subst hjk;rw[←hat];exact h.kept j hj
   ·exact h.kept j hj
 ·rw[List.mem_append]at hj;rcases hj with hj|hj
  ·exact(hu j r).2 (.inl (h.done j hj r hr))
  ·have:j=k:=by
    have:(j:Int)=(k:Int):=by simpa using hj
    omega
   exact(hu j r).2 (.inr ⟨this,hr⟩)
 ·have h1:=h.less;split
  ·rename_i hlt;have:=S4 (L:=L) hS hlt;simp only[List.length_append,List.length_singleton];omega
  ·rename_i hlt;have e:uni S N=S:=SA hN (by omega);rw[e];have:Ss.set k S=Ss:=by
    apply List.ext_getElem?;intro j;by_cases hj:k=j
    ·subst hj;rw[List.getElem?_set_self hkl,hS]
    ·rw[List.getElem?_set_ne hj]
   rw[this];exact h1
noncomputable def MW(f:Func)(k:Nat):Int→Bool:=fun r=>@decide (LOut f k r) (Classical.propDecidable _)
theorem F3{f:Func}{k:Nat}{r:Int}:MW f k r=true↔LOut f k r:=by simp[MW]
theorem AllI.end_{f:Func}{L:List Int}{Ss:List (Int→Bool)}(h:AllI f L [] Ss):Ss=(List.range f.blocks.length).map (MW f):=by
 have key:∀k r,LOut f k r→at_ Ss k r=true:=fun k r hl=>by
  induction hl with
  |read he h1=>exact h.closed _ _ he (by simp) _ (by rw[M2,h1];rfl)
  |pass he h1 _ ih=>exact h.closed _ _ he (by simp) _ (by rw[M2,h1,ih];simp)
 apply List.ext_getElem?;intro k;by_cases hk:k < f.blocks.length
 ·rw[List.getElem?_map,List.getElem?_range hk,List.getElem?_eq_getElem (by rw[h.len];exact hk)];congr 1;funext r;have e:at_ Ss k=Ss[k]'(by rw[h.len];exact hk):=by unfold at_;rw[List.getD_eq_getElem?_getD,List.getElem?_eq_getElem (by rw[h.len];exact hk)];rfl
  rw[←e];cases ho:MW f k r
  ·cases ha:at_ Ss k r
   ·rfl
   ·have:=F3.2 (h.sound k r ha);rw[ho]at this;cases this
  ·exact key k r (F3.1 ho)
 ·rw[List.getElem?_eq_none (by rw[h.len];omega),List.getElem?_eq_none (by simp;omega)]
theorem Abb{L:List Int}{r:Int}:∀{ds:List Ins},(∀x∈ds,∀r∈readsC x,r∈L)→rdB r ds=true→r∈L
 | [],_,h=>by simp[rdB]at h
 |x::ds,hm,h=>by
  simp only[rdB,Bool.or_eq_true,Bool.and_eq_true,List.contains_iff_mem]at h;rcases h with h|⟨_,h⟩
  ·exact hm x (by simp) r h
  ·exact Abb (fun y hy=>hm y (by simp[hy])) h
theorem S6{f:Func}{L:List Int}(hL:∀b∈f.blocks,∀x∈b.ins,∀r∈readsC x,r∈L)(b:Nat):∀x∈BW f b,∀r∈readsC x,r∈L:=fun x hx=>by
 unfold BW at hx;split at hx
 ·rename_i bl hbl;exact hL bl (List.mem_of_getElem? hbl) x hx
 ·cases hx
theorem NZ{f:Func}{L:List Int}(hL:∀b∈f.blocks,∀x∈b.ins,∀r∈readsC x,r∈L)(k:Nat):Sub L (MW f k):=fun r hr=>by
 have key:∀k r,LOut f k r→r∈L:=fun k r hl=>by
  induction hl with
  |read he h1=>exact Abb (S6 hL _) h1
  |pass he h1 hl ih=>exact ih
 exact key k r (F3.1 hr)
end Mu
end
section
namespace Mu
open Go Go.RowKit Go.Proofs Go.Maps
theorem Abi{k:Nat}(h:k≤9223372036854775807):wfI .i64 (k:Int):=by
 simp[wfI,Lit.wf,IntKind.min,IntKind.max,IntKind.signed,IntKind.bits];omega
def setsA(p:Nat×List Nat)(Ss:List (Int→Bool)):Res:=⟨[],fun g=>g=p.1∨g∈p.2,fun w _=>(∃e,w.heap[p.1]? =some (.cells (p.2.map fun m=>Value.map (some m)).toArray e (0,0)))∧p.2.length=Ss.length∧p.2.Nodup∧∀(i m:Nat) (S:Int→Bool),p.2[i]? =some m→Ss[i]? =some S→Gl w m S,
 fun h hk _ _=>⟨let ⟨e,h1⟩:=h.1;⟨e,(hk p.1 (.inl rfl)).trans h1⟩,h.2.1,h.2.2.1,fun i m S hm hS=>(h.2.2.2 i m S hm hS).keep (hk m (.inr (List.mem_of_getElem? hm)))⟩⟩
def DQ(m:Nat):AV:=.lit (.map (some m))
theorem MO{w:World}{S:Nat→Prop}:∀{ms:List Nat} {cs:List Value},Ad w S [] ψ0 (ms.map DQ) cs→cs=ms.map fun m=>Value.map (some m)
 | [],cs,h=>by unfold Ad at h;exact h
 |m::ms,cs,h=>by
  simp only[List.map_cons]at h;unfold Ad at h;obtain⟨v,vs,rfl,h1,h2⟩:=h;unfold DQ AV.rel at h1;rw[h1,MO h2];rfl
section
variable{C:Ctx}{t:List AV}{h:List ABlk}{o:Oper}
theorem R9{i j O:Nat}{ms:List Nat}{Ss:List (Int→Bool)}(hij:i≠j)(hi:h[i]? =some (.res (Bn O (ms.map DQ))))(hj:h[j]? =some (.res (mapsR ms Ss))):St.le C ⟨t,h⟩ ⟨t,(h.set j .dead).set i (.res (setsA (O,ms) Ss))⟩:=
 C8 hij hi hj rfl rfl rfl (fun g hg=>hg) fun w S ⟨cs,e,h1,h2⟩ h3 _=>by
  rw[MO h2]at h1;exact⟨⟨e,h1⟩,h3⟩
theorem Aar{i n:Nat}{p:Nat×List Nat}{Ss:List (Int→Bool)}(hi:h[i]? =some (.res (setsA p Ss)))(hn:Ss.length=n)(hb:n≤maxLen)(hm:mkD h= []:=by rfl):Fin h (.lit (.slice (some ⟨p.1,0,none⟩) n n)) (.bs Aa6 Ss):=⟨hm,fun C S ψ w v hC H hv=>by
 unfold AV.rel at hv;subst hv;obtain⟨hF,⟨e,hO⟩,hl,hnd,hS⟩:=H.blk i _ hi;refine⟨fun k=>S k∨(setsA p Ss).F k,fun _ h=>.inl h,fun k hk=>?_,fun k hk=>?_,?_⟩
 ·rcases hk with hk|hk
  ·exact .inl hk
  ·exact .inr (Nat.le_of_not_lt fun hlt=>(hF k hk).1 (hC k hlt))
 ·rcases hk with hk|hk
  ·exact H.lt k hk
  ·exact(hF k hk).2.2
 ·unfold AV.rel;subst hn;refine⟨_,_,rfl,Nat.le_refl _,⟨hb,fun e=>by cases e⟩,fun j d hd=>⟨p.1,0,rfl,.inr (.inl rfl),?_⟩⟩;have hj:j < p.2.length:=by rw[hl];exact(List.getElem?_eq_some_iff.1 hd).1
  obtain⟨m,hm⟩:∃m,p.2[j]? =some m:=⟨_,List.getElem?_eq_getElem hj⟩
  refine⟨[.map (some m)],⟨m,rfl,.inr (.inr (List.mem_of_getElem? hm)),hS j m d hm hd⟩,fun q u hu=>?_⟩;cases q with
  |zero=>
   cases hu;show w.cell? ⟨p.1,0+j * 1+0,none⟩=_;rw[Nat.mul_one,Nat.zero_add,Nat.add_zero];exact Om hO (by rw[List.getElem?_map,hm];rfl)
  |succ q=>cases hu⟩
end
end Mu
end
section
namespace Mu
open Go Go.RowKit Go.Proofs
theorem Um(f:Func)(b:Int)(hout:¬(0≤b∧b < f.blocks.length)):Fn Tryz.prog 184 [.agg (Ak f),.lit (.int .i64 b)] (.bs tInt []):=by
 refine QF (Ax Tryz.func184 rfl (by kernel_rfl) rfl Tryz.ntmps184 fun C hC=>?_);refine nS ?_;refine rRS ?_;refine Ac fun K2 h2=>?_
 refine Ac fun K3 h3=>?_
 rcases hb:decide (b < 0)with _|_
 ·have hb2:decide (b≥(f.blocks.length:Int))=true:=by simp at hb⊢;omega
  refine rR ?_;refine h3 _ ?_;refine nT ?_;refine Ae rfl (fun hb4=>?_) (fun hb4=>by cases hb4);refine rRS ?_;refine Aj ?_;exact⟨.inr rfl,Fin.cl rfl⟩
 ·refine rR ?_;refine h3 _ ?_;refine nT ?_;refine Ae rfl (fun hb4=>?_) (fun hb4=>by cases hb4);refine rRS ?_;refine Aj ?_;exact⟨.inr rfl,Fin.cl rfl⟩
theorem Un(f:Func)(k:Nat)(bl:Block)(hk:f.blocks[k]? =some bl)(hl:f.blocks.length≤2097152)(hn:bl.ins= []):Fn Tryz.prog 184 [.agg (Ak f),.lit (.int .i64 (k:Int))] (.bs tInt []):=by
 have hkl:k < f.blocks.length:=(List.getElem?_eq_some_iff.1 hk).1;have hb:decide ((k:Int) < 0)=false:=by simp
 have hb2:decide ((k:Int)≥(f.blocks.length:Int))=false:=by simp;omega
 have hb3:((bl.ins.length:Int) ==0)=true:=by simp[hn]
 refine QF (Ax Tryz.func184 rfl (by kernel_rfl) rfl Tryz.ntmps184 fun C hC=>?_);refine nS ?_;refine rRS ?_;refine Ac fun K2 h2=>?_
 refine rRS ?_;refine Ae rfl (fun hb4=>?_) (fun hb4=>by cases hb4);refine rRS ?_;refine Aj ?_;exact⟨.inr rfl,Fin.cl rfl⟩
theorem WC(f:Func)(k:Nat)(bl:Block)(x:Ins)(hk:f.blocks[k]? =some bl)(hl:f.blocks.length≤2097152)(hi:bl.ins.length≤2097152)(hx:bl.ins.getLast? =some x)(hox:okIns x):
 Fn Tryz.prog 184 [.agg (Ak f),.lit (.int .i64 (k:Int))] (.bs tInt ((if ME f x then [x.l1]else [])++if YI f x then [x.l2]else [])):=by
 have hkl:k < f.blocks.length:=(List.getElem?_eq_some_iff.1 hk).1;have hpos:0 < bl.ins.length:=by
  cases hz:bl.ins with
  |nil=>rw[hz]at hx;cases hx
  |cons y l=>simp
 have hxa:bl.ins[((bl.ins.length:Int) - 1).toNat]? =some x:=by
  rw[List.getLast?_eq_getElem?]at hx;rw[←hx];congr 1;omega
 have hb:decide ((k:Int) < 0)=false:=by simp
 have hb2:decide ((k:Int)≥(f.blocks.length:Int))=false:=by simp;omega
 have hb3:((bl.ins.length:Int) ==0)=false:=beq_eq_false_iff_ne.2 (by omega);have ho1:=hox.l1;have ho2:=hox.l2;have hm1:(1:Nat)≤maxLen:=by decide
 refine Ax Tryz.func184 rfl (by kernel_rfl) rfl Tryz.ntmps184 fun C hC=>?_
 refine nS ?_;refine rRS ?_;refine Ac fun K2 h2=>?_
 refine rRS ?_;refine Ae rfl (fun hb4=>by cases hb4) (fun hb4=>?_);refine Ag ?_;refine h2 _ ?_;refine nT ?_;refine Ac fun K6 h6=>?_
 (refine Ys 40 17 16 (by kernel_rfl) (by kernel_rfl) (by decide) rfl rfl ?_;simp only[List.take_succ_cons,List.take_zero,List.drop_succ_cons,List.drop_zero,List.take_nil,List.drop_nil];(repeat((first|(refine Ary rfl rfl rfl ?_;(first|refine DB (Av.move rfl (by(conv=>lhs;whnf);try rfl)) ⟨rfl,?_⟩|refine DB (Av.assign rfl (by(conv=>lhs;whnf);try rfl)) ⟨rfl,?_⟩|refine DB (Bz rfl rfl rfl) ⟨rfl,?_⟩|refine DB (Da rfl rfl) ⟨rfl,?_⟩|refine DB (Av.fa_rp rfl rfl rfl) ⟨rfl,?_⟩|refine DB (Bh rfl rfl rfl rfl) ⟨rfl,?_⟩|refine DB (Dq rfl rfl rfl) ⟨rfl,?_⟩|refine DB (Cw rfl rfl rfl (by assumption) rfl) ⟨rfl,?_⟩|refine DB (Bt rfl rfl rfl rfl) ⟨rfl,?_⟩|refine DB (CD rfl rfl rfl) ⟨rfl,?_⟩|refine DB (Jc rfl rfl rfl rfl (by assumption)) ⟨rfl,?_⟩|refine DB (FH rfl rfl rfl rfl (by first|decide|omega) (by assumption)) ⟨rfl,?_⟩|refine DB (FG rfl rfl rfl rfl rfl (by first|assumption|omega)) ⟨rfl,?_⟩|refine DB (Eg rfl rfl rfl rfl rfl (by first|decide|omega) (by first|assumption|omega)) ⟨rfl,?_⟩|refine DB (Av.ln rfl rfl) ⟨rfl,?_⟩|refine DB (FF rfl rfl rfl) ⟨rfl,?_⟩|refine DB (C5 rfl rfl) ⟨rfl,?_⟩|refine DB (EF rfl rfl rfl (by omega)) ⟨rfl,?_⟩|refine DB (EC rfl rfl rfl (by omega)) ⟨rfl,?_⟩|refine DB (FJ rfl rfl rfl rfl (by assumption)) ⟨rfl,?_⟩|refine DB (B7 rfl rfl rfl rfl) ⟨rfl,?_⟩|refine DB (CE rfl rfl) ⟨rfl,?_⟩|refine DB (Av.pick rfl rfl (by(conv=>lhs;whnf);try rfl)) ⟨rfl,?_⟩|refine DB (Av.extract rfl rfl rfl) ⟨rfl,?_⟩|refine DB (CB rfl rfl rfl (by rfl) (by decide) (by first|exact Fit.bool|exact Fit.bs|exact Fit.int (by assumption))) ⟨rfl,?_⟩|refine DB (Av.max2 rfl rfl rfl) ⟨rfl,?_⟩|refine DB (Av.min2 rfl rfl rfl) ⟨rfl,?_⟩))|refine bQ_skip rfl rfl rfl ?_|refine Aqx rfl rfl rfl rfl ?_);refine Aqw (by(try simp only[AJ,List.set_cons_zero,List.set_cons_succ]);exact rfl) ?_));refine Ao8 ?_;(repeat((first|(refine Ao rfl ?_;(first|refine BG (Av.move rfl (by(conv=>lhs;whnf);try rfl)) ?_|refine BG (Av.assign rfl (by(conv=>lhs;whnf);try rfl)) ?_|refine BG (Bz rfl rfl rfl) ?_|refine BG (Da rfl rfl) ?_|refine BG (Av.fa_rp rfl rfl rfl) ?_|refine BG (Bh rfl rfl rfl rfl) ?_|refine BG (Dq rfl rfl rfl) ?_|refine BG (Cw rfl rfl rfl (by assumption) rfl) ?_|refine BG (Bt rfl rfl rfl rfl) ?_|refine BG (CD rfl rfl rfl) ?_|refine BG (Jc rfl rfl rfl rfl (by assumption)) ?_|refine BG (FH rfl rfl rfl rfl (by first|decide|omega) (by assumption)) ?_|refine BG (FG rfl rfl rfl rfl rfl (by first|assumption|omega)) ?_|refine BG (Eg rfl rfl rfl rfl rfl (by first|decide|omega) (by first|assumption|omega)) ?_|refine BG (Av.ln rfl rfl) ?_|refine BG (FF rfl rfl rfl) ?_|refine BG (C5 rfl rfl) ?_|refine BG (EF rfl rfl rfl (by omega)) ?_|refine BG (EC rfl rfl rfl (by omega)) ?_|refine BG (FJ rfl rfl rfl rfl (by assumption)) ?_|refine BG (B7 rfl rfl rfl rfl) ?_|refine BG (CE rfl rfl) ?_|refine BG (Av.pick rfl rfl (by(conv=>lhs;whnf);try rfl)) ?_|refine BG (Av.extract rfl rfl rfl) ?_|refine BG (CB rfl rfl rfl (by rfl) (by decide) (by first|exact Fit.bool|exact Fit.bs|exact Fit.int (by assumption))) ?_|refine BG (Av.max2 rfl rfl rfl) ?_|refine BG (Av.min2 rfl rfl rfl) ?_|refine AOp.box rfl Qz.agg ?_|refine AOp.al rfl ?_|refine Dt rfl rfl rfl (Eh rfl) rfl (Nat.le_of_ble_eq_true rfl) ?_|refine OK rfl rfl rfl rfl rfl (by first|assumption|(simp[maxLen];done)|(simp[maxLen];omega)) (by first|assumption|(simp;done)|(simp;omega)) ?_|refine Mq rfl rfl rfl (by assumption) (by first|exact Fit.bool|exact Fit.bs|exact Fit.int (by assumption)) rfl ?_))|refine L8 rfl ?_);refine Agf (by(try simp only[AJ,List.set_cons_zero,List.set_cons_succ]);exact rfl) (by(try simp only[List.nil_append,List.cons_append,List.set_cons_zero,List.set_cons_succ,List.length_nil,List.length_cons,Nat.reduceAdd]);exact rfl) ?_));refine Ar ?_)
 refine h6 _ ?_;refine nT ?_;refine rRS ?_;refine As ⟨(A2 (.ptr 0 0::A2 (.ptr 1 0::.own 2 0::A80 (A10 [])))),[.box (Ak f),.box (AL x),.row 0 3 tInt []]⟩ ((Cz 6 3 tInt rfl Nat.zero_lt_one).trans (Ce)) ?_;refine OF ⟨(A2 (.ptr 0 0::A2 (.ptr 1 0::.own 2 (if ME f x then 1 else 0)::A80 (A10 [])))),[.box (Ak f),.box (AL x),.row (if ME f x then 1 else 0) 3 tInt (if ME f x then [x.l1]else [])]⟩ ?_ ?_
 ·rcases hc1:ME f x with _|_
  all_goals refine Ac fun K9 h9=>?_
  ·have hcond:((x.op ==8)=false∧(x.op ==9)=false)∨(((x.op ==8)=true∨((x.op ==8)=false∧(x.op ==9)=true))∧(decide (x.l1≥0)=false∨(decide (x.l1≥0)=true∧decide (x.l1 < (f.blocks.length:Int))=false))):=by
    unfold ME inB at hc1;cases h8:(x.op ==8) <;> cases h9':(x.op ==9) <;> cases ha:decide (x.l1≥0) <;> cases hb':decide (x.l1 < (f.blocks.length:Int)) <;> simp[h8,h9',ha,hb']at hc1⊢
   have hfin:∀s':St,St.le C s' ⟨(A2 (.ptr 0 0::A2 (.ptr 1 0::.own 2 0::A40 (A10 (A5 (.lit (.bool false)::A20 (A10 (A4 [])))))))),[.box (Ak f),.box (AL x),.row 0 3 tInt []]⟩→K9 s':=fun s' hle=>by
    refine h9 _ (As _ hle ?_);refine Ae rfl (fun hb=>by cases hb) (fun hb=>?_);refine Ag ?_;refine athen_n ?_;exact Ce
   rcases hcond with⟨q1,q2⟩|⟨q1|⟨q1,q2⟩,q3|⟨q3,q4⟩⟩
   all_goals
    refine rR ?_;exact athen_n (hfin _ (Ce))
  ·have hcond:((x.op ==8)=true∨((x.op ==8)=false∧(x.op ==9)=true))∧decide (x.l1≥0)=true∧decide (x.l1 < (f.blocks.length:Int))=true:=by
    unfold ME inB at hc1;cases h8:(x.op ==8) <;> cases h9':(x.op ==9) <;> cases ha:decide (x.l1≥0) <;> cases hb':decide (x.l1 < (f.blocks.length:Int)) <;> simp[h8,h9',ha,hb']at hc1⊢
   have hfin:∀s':St,St.le C s' ⟨(A2 (.ptr 0 0::A2 (.ptr 1 0::.own 2 0::A40 (A10 (A5 (.lit (.bool true)::A20 (A10 (A4 [])))))))),[.box (Ak f),.box (AL x),.row 0 3 tInt []]⟩→K9 s':=fun s' hle=>by
    refine h9 _ (As _ hle ?_);refine Ae rfl (fun hb=>?_) (fun hb=>by cases hb);refine rR ?_;refine athen_n ?_;exact Ce
   obtain⟨q1|⟨q1,q2⟩,q3,q4⟩:=hcond;all_goals
    refine rR ?_;exact athen_n (hfin _ (Ce))
 ·refine OF ⟨(A6 (.own 2 ((if ME f x then 1 else 0)+if YI f x then 1 else 0)::A80 (A10 []))),[.dead,.dead,.row ((if ME f x then 1 else 0)+if YI f x then 1 else 0) 3 tInt ((if ME f x then [x.l1]else [])++if YI f x then [x.l2]else [])]⟩ ?_ ?_
  ·rcases hc2:YI f x with _|_
   all_goals refine Ac fun K9 h9=>?_
   ·have hcond:(x.op ==9)=false∨((x.op ==9)=true∧((x.l2 !=x.l1)=false∨((x.l2 !=x.l1)=true∧(decide (x.l2≥0)=false∨(decide (x.l2≥0)=true∧decide (x.l2 < (f.blocks.length:Int))=false))))):=by
     unfold YI inB at hc2;cases h8:(x.l2 !=x.l1) <;> cases h9':(x.op ==9) <;> cases ha:decide (x.l2≥0) <;> cases hb':decide (x.l2 < (f.blocks.length:Int)) <;> simp only[h8,h9',ha,hb',Bool.and_true,Bool.and_false,Bool.true_eq_false,Bool.false_eq_true,true_and,or_true,true_or,and_true,false_and,or_false]at hc2⊢
    have hfin:∀s':St,St.le C s' ⟨(A2 (.ptr 0 0::A2 (.ptr 1 0::.own 2 (if ME f x then 1 else 0)::A80 (A3 (.lit (.bool false)::A6 []))))),[.box (Ak f),.box (AL x),.row (if ME f x then 1 else 0) 3 tInt (if ME f x then [x.l1]else [])]⟩→K9 s':=fun s' hle=>by
     refine h9 _ (As _ hle ?_);refine Ae rfl (fun hb=>by cases hb) (fun hb=>?_);refine Ag ?_;refine athen_n ?_;simp only[Bool.false_eq_true,if_false,Nat.add_zero,List.append_nil];exact Fb (Cut.dead (Cut.dead (Cut.refl _)))
    rcases hcond with q1|⟨q1,q2|⟨q2,q3|⟨q3,q4⟩⟩⟩
    all_goals
     refine rR ?_;exact athen_n (hfin _ (Ce))
   ·have hcond:(x.op ==9)=true∧(x.l2 !=x.l1)=true∧decide (x.l2≥0)=true∧decide (x.l2 < (f.blocks.length:Int))=true:=by
     unfold YI inB at hc2;simpa[Bool.and_eq_true,and_assoc]using hc2
    have hfin:∀s':St,St.le C s' ⟨(A2 (.ptr 0 0::A2 (.ptr 1 0::.own 2 (if ME f x then 1 else 0)::A80 (A3 (.lit (.bool true)::A6 []))))),[.box (Ak f),.box (AL x),.row (if ME f x then 1 else 0) 3 tInt (if ME f x then [x.l1]else [])]⟩→K9 s':=fun s' hle=>by
     refine h9 _ (As _ hle ?_);refine Ae rfl (fun hb=>?_) (fun hb=>by cases hb);have hln:(if ME f x then [x.l1]else []:List Int).length+ [x.l2].length≤maxLen:=by split <;> simp[maxLen]
     have hlb:((if ME f x then [x.l1]else []:List Int).length+ [x.l2].length) * 8≤140737488355328:=by split <;> simp
     refine rR ?_;refine athen_n ?_;simp only[if_true];exact Fb (Cut.dead (Cut.dead (Cut.refl _)))
    obtain⟨q1,q2,q3,q4⟩:=hcond;refine rR ?_;exact athen_n (hfin _ (Ce))
  ·refine rRS ?_;refine Aj ?_;exact⟨.inr rfl,Fin.own rfl⟩
def CG(f:Func)(ins:List Bool)(b:Int):Bool:=(Dk f b).any fun k=>ins.getD k.toNat false
theorem Zn{f:Func}{b x:Int}(h:x∈Dk f b):0≤x∧x.toNat < f.blocks.length:=by
 unfold Dk at h;obtain⟨y,_,rfl⟩:=List.mem_map.1 h;have:=y.2;simp[D3];exact this
theorem WB(f:Func)(b:Int)(ho:okFunc f)(hs:smallF f):Fn Tryz.prog 184 [.agg (Ak f),.lit (.int .i64 b)] (.bs tInt (Dk f b)):=by
 by_cases hin:0≤b∧b < f.blocks.length
 ·obtain⟨k,rfl⟩:=Int.eq_ofNat_of_zero_le hin.1;have hk:k < f.blocks.length:=by omega
  have hkk:f.blocks[k]? =some f.blocks[k]:=List.getElem?_eq_getElem hk;rw[N8 hkk];cases hz:(f.blocks[k]).ins.getLast? with
  |none=>
   have hn:(f.blocks[k]).ins= []:=List.getLast?_eq_none_iff.1 hz;rw[PI hn];exact Un f k _ hkk hs.blocks hn
  |some x=>
   rw[Ul hz];have hm:=List.getElem_mem hk;exact WC f k _ x hkk hs.blocks (hs.all _ hm).ins hz ((ho.blocks _ hm).ins x (List.mem_of_getLast? hz))
 ·rw[PH hin];exact Um f b hin
theorem Aab{l:List Int}{p:Int→Bool}{k:Nat}{x:Int}(hx:l[k]? =some x)(hn:(l.take k).any p=false)(hp:p x=false):(l.take (k+1)).any p=false:=by
 rw[List.take_add_one,hx,List.any_append,hn];simp[hp]
theorem Dx(f:Func)(ins:List Bool)(b:Int)(ho:okFunc f)(hs:smallF f)(hl:ins.length=f.blocks.length):Fn Tryz.prog 145 [.agg (Ak f),.bs Ty.bool ins,.lit (.int .i64 b)] (.lit (.bool (CG f ins b))):=by
 have hnl:(Dk f b).length≤2:=by unfold Dk;rw[List.length_map];exact Lv f b
 refine Ax Tryz.func145 rfl (by kernel_rfl) rfl Tryz.ntmps145 fun C hC=>?_
 refine nS ?_;refine rRS ?_;refine Ac fun K2 h2=>?_
 (refine Awp.region ?_;(repeat(first|refine sQ ?_ (Av.call rfl (WB f b ho hs) rfl rfl rfl)|refine sQ ?_|refine AO ?_|refine B6 ?_));refine Ar ?_)
 refine h2 _ ?_;refine nT ?_;refine Ac fun K3 h3=>?_
 refine rRS ?_;refine Af ?_;refine Au (fun k:Nat=>⟨(.any::.bs Ty.bool ins::A5 (.bs tInt (Dk f b)::.lit (.int .i64 (k:Int))::A10 (A6 []))),[]⟩) (fun k=>k≤(Dk f b).length∧((Dk f b).take k).any (fun k=>ins.getD k.toNat false)=false) (fun k=>(Dk f b).length - k) 0 ⟨Nat.zero_le _,by simp⟩ (Fb (Cut.nil _)) ?_;rintro k ⟨hk,hno⟩;refine Ac fun K6 h6=>?_
 refine rRS ?_;refine Ae rfl (fun hb8=>?_) (fun hb8=>?_)
 ·have hlt:k < (Dk f b).length:=by simpa using hb8
  obtain⟨x,hx⟩:∃x,(Dk f b)[k]? =some x:=⟨_,List.getElem?_eq_getElem hlt⟩
  have hxi:=Zn (List.mem_of_getElem? hx);have hx0:=hxi.1;obtain⟨q,hq⟩:∃q,ins[x.toNat]? =some q:=⟨_,List.getElem?_eq_getElem (by omega)⟩
  have hqd:ins.getD x.toNat false=q:=by rw[List.getD_eq_getElem?_getD,hq];rfl
  refine Ag ?_;refine h6 _ ?_;refine nT ?_;refine Ac fun K9 h9=>?_
  refine Af ?_;refine rRS ?_;refine Ae rfl (fun hb11=>?_) (fun hb11=>?_)
  ·refine rRS ?_;refine Aj ?_;have hc:CG f ins b=true:=List.any_eq_true.2 ⟨x,List.mem_of_getElem? hx,by rw[hqd];exact hb11⟩;rw[hc];exact⟨.inr rfl,Fin.cl rfl⟩
  ·refine Ag ?_;refine h9 _ ?_;refine nT ?_;refine rR ?_;refine athen_n ⟨k+1,⟨by omega,Aab hx hno (by rw[hqd];exact hb11)⟩,by omega,?_⟩;exact Ce
 ·refine Aq ?_;refine h3 _ ?_;refine nT ?_;have:k=(Dk f b).length:=by
   have:¬k < (Dk f b).length:=by simpa using hb8
   omega
  have hc:CG f ins b=false:=by
   rw[this,List.take_length]at hno;exact hno
  refine rRS ?_;refine Aj ?_;rw[hc];exact⟨.inr rfl,Fin.cl rfl⟩
def goB(f:Func)(r:Int)(out:List Bool)(b:Nat):Bool:=(Cp r (BW f b)).1||(!(Cp r (BW f b)).2&&CG f out b)
def Jm(f:Func)(r:Int)(out:List Bool)(b:Nat):List Bool:=if goB f r out b then out.set b true else out
def foldI(f:Func)(r:Int)(out:List Bool)(m:Nat):List Bool:=(List.range m).foldl (Jm f r) out
def roundsI(f:Func)(r:Int):Nat→List Bool
 |0=>List.replicate f.blocks.length false
 |m+1=>foldI f r (roundsI f r m) f.blocks.length
def Il(f:Func)(r:Int):List Bool:=roundsI f r (f.blocks.length+1)
theorem Dv(f:Func)(r:Int)(out:List Bool)(m:Nat):foldI f r out (m+1)=Jm f r (foldI f r out m) m:=by unfold foldI;rw[List.range_succ,List.foldl_append];rfl
theorem VT(f:Func)(r:Int)(out:List Bool)(b:Nat):(Jm f r out b).length=out.length:=by unfold Jm;split <;> simp
theorem P0(f:Func)(r:Int)(out:List Bool)(m:Nat):(foldI f r out m).length=out.length:=by
 induction m with
 |zero=>rfl
 |succ m ih=>rw[Dv,VT,ih]
theorem H6(f:Func)(r:Int)(m:Nat):(roundsI f r m).length=f.blocks.length:=by
 induction m with
 |zero=>simp[roundsI]
 |succ m ih=>unfold roundsI;rw[P0,ih]
theorem S7(f:Func)(r:Int)(ho:okFunc f)(hs:smallF f):Fn Tryz.prog 82 [.agg (Ak f),.lit (.int .i64 r)] (.bs Ty.bool (Il f r)):=by
 have hbl:=hs.blocks;refine Ax Tryz.func82 rfl (by kernel_rfl) rfl Tryz.ntmps82 fun C hC=>?_
 refine nS ?_;refine rRS ?_;refine Ac fun K2 h2=>?_
 refine Awp.region ?_
 iterate 3 (first|refine sQ ?_|refine AO ?_|refine B6 ?_)
 refine Ao rfl ?_;refine Agu (e:=4) (z:=.bool false) (bytes:=1) (T:=Ty.bool) false rfl (by kernel_rfl) rfl (fun _ _=>rfl) rfl rfl (by omega) (by unfold maxLen;omega) ?_;refine sNt ?_
 iterate 1 (first|refine sQ ?_|refine AO ?_|refine B6 ?_)
 refine Ar ?_;refine h2 _ ?_;refine nT ?_;refine Ac fun K3 h3=>?_
 refine rRS ?_;refine Af ?_;refine Au (fun m:Nat=>⟨(.any::.lit (.int .i64 r)::.ptr 0 0::A2 (.own 1 0::.lit (.int .i64 (m:Int))::A40 (A6 []))),[.box (Ak f),.row 0 4 Ty.bool (roundsI f r m)]⟩) (fun m=>m≤f.blocks.length+1) (fun m=>f.blocks.length+1 - m) 0 (Nat.zero_le _) (Ce) ?_;rintro m hm;refine Ac fun K6 h6=>?_
 refine rRS ?_;refine Ae rfl (fun hb8=>?_) (fun hb8=>?_)
 ·have hmlt:m≤f.blocks.length:=by simpa using hb8
  refine Ag ?_;refine h6 _ ?_;refine nT ?_;refine Ac fun K9 h9=>?_
  refine Af ?_;refine rRS ?_;refine Af ?_;refine Au (fun k:Nat=>⟨(.any::.lit (.int .i64 r)::.ptr 0 0::A2 (.own 1 0::.lit (.int .i64 (m:Int))::.lit (.int .i64 (k:Int))::A40 (A5 []))),[.box (Ak f),.row 0 4 Ty.bool (foldI f r (roundsI f r m) k)]⟩) (fun k=>k≤f.blocks.length) (fun k=>f.blocks.length - k) 0 (Nat.zero_le _) (Ce) ?_;rintro k hk;refine Ac fun K12 h12=>?_
  refine rRS ?_;have hol:(foldI f r (roundsI f r m) k).length=f.blocks.length:=by rw[P0,H6]
  refine Ae rfl (fun hb14=>?_) (fun hb14=>?_)
  ·have hlt:k < f.blocks.length:=by simpa using hb14
   obtain⟨bl,hbk⟩:∃bl,f.blocks[k]? =some bl:=⟨_,List.getElem?_eq_getElem hlt⟩
   have hmem:=List.mem_of_getElem? hbk;have hins:BW f k=bl.ins:=by unfold BW;rw[hbk]
   have hgo:goB f r (foldI f r (roundsI f r m) k) k=((Cp r bl.ins).1||(!(Cp r bl.ins).2&&CG f (foldI f r (roundsI f r m) k) k)):=by unfold goB;rw[hins]
   obtain⟨q0,hq0⟩:∃q,(foldI f r (roundsI f r m) k)[k]? =some q:=⟨_,List.getElem?_eq_getElem (by omega)⟩
   have hkl:k < (foldI f r (roundsI f r m) k).length:=by omega
   have hyes:goB f r (foldI f r (roundsI f r m) k) k=true→foldI f r (roundsI f r m) (k+1)=(foldI f r (roundsI f r m) k).set k true:=fun h=>by rw[Dv,Jm,if_pos h]
   have hno:goB f r (foldI f r (roundsI f r m) k) k=false→foldI f r (roundsI f r m) (k+1)=foldI f r (roundsI f r m) k:=fun h=>by rw[Dv,Jm,if_neg (by simp[h])]
   refine Ag ?_;refine h12 _ ?_;refine nT ?_;refine Ac fun K15 h15=>?_
   refine Af ?_;refine Ac fun K16 h16=>?_
   (refine Awp.region ?_;(repeat(first|refine sQ ?_ (Av.call rfl (Js bl 0 r (ho.blocks bl hmem) (hs.all bl hmem) (Nat.zero_le _)) rfl rfl rfl)|refine sQ ?_|refine AO ?_|refine B6 ?_));refine Ar ?_)
   rw[List.drop_zero];refine h16 _ ?_;refine nT ?_;rcases hr1:(Cp r bl.ins).1 with _|_
   ·rcases hr2:(Cp r bl.ins).2 with _|_
    ·rw[hr1,hr2]at hgo;refine Ac fun K17 h17=>?_
     rcases hbb:CG f (foldI f r (roundsI f r m) k) k with _|_
     ·rw[hbb]at hgo
      (refine Awp.region ?_;(repeat(first|refine sQ ?_ (Hd rfl (by have:=Dx f (foldI f r (roundsI f r m) k) k ho hs hol;rw[hbb]at this;exact this) (.cl rfl (.own rfl (.cl rfl .nil))))|refine sQ ?_|refine AO ?_|refine B6 ?_));refine Ar ?_)
      refine h17 _ ?_;refine nT ?_;refine Ae rfl (fun hb=>by cases hb) (fun hb18=>?_);refine Ag ?_;refine h15 _ ?_;refine nT ?_;refine rR ?_;refine athen_n ⟨k+1,by omega,by omega,?_⟩;rw[hno hgo];exact Ce
     ·rw[hbb]at hgo
      (refine Awp.region ?_;(repeat(first|refine sQ ?_ (Hd rfl (by have:=Dx f (foldI f r (roundsI f r m) k) k ho hs hol;rw[hbb]at this;exact this) (.cl rfl (.own rfl (.cl rfl .nil))))|refine sQ ?_|refine AO ?_|refine B6 ?_));refine Ar ?_)
      refine h17 _ ?_;refine nT ?_;refine Ae rfl (fun hb18=>?_) (fun hb=>by cases hb);refine rR ?_;refine h15 _ ?_;refine nT ?_;refine rR ?_;refine athen_n ⟨k+1,by omega,by omega,?_⟩;rw[hyes hgo];exact Ce
    ·rw[hr1,hr2]at hgo;refine rRS ?_;refine Ae rfl (fun hb=>by cases hb) (fun hb18=>?_);refine Ag ?_;refine h15 _ ?_;refine nT ?_;refine rR ?_;refine athen_n ⟨k+1,by omega,by omega,?_⟩;rw[hno hgo];exact Ce
   ·rw[hr1]at hgo;refine rRS ?_;refine Ae rfl (fun hb18=>?_) (fun hb=>by cases hb);refine rR ?_;refine h15 _ ?_;refine nT ?_;refine rR ?_;refine athen_n ⟨k+1,by omega,by omega,?_⟩;rw[hyes hgo];exact Ce
  ·refine Aq ?_;refine h9 _ ?_;refine nT ?_;have hkk:k=f.blocks.length:=by
    have:¬k < f.blocks.length:=by simpa using hb14
    omega
   refine rR ?_;refine athen_n ⟨m+1,by omega,by omega,?_⟩;rw[hkk];exact Ce
 ·refine Aq ?_;refine h3 _ ?_;refine nT ?_;have hmm:m=f.blocks.length+1:=by
   have:¬m≤f.blocks.length:=by simpa using hb8
   omega
  refine rRS ?_;refine Aj ?_;rw[hmm];exact⟨.inr rfl,Fin.own rfl⟩
def swapL(l:List Int)(q:Nat):List Int:=(l.set q (l.getD (q+1) 0)).set (q+1) (l.getD q 0)
def K0:Nat→List Int→List Int
 |0,l=>l
 |q+1,l=>if l.getD q 0 > l.getD (q+1) 0 then K0 q (swapL l q)else l
def Gn(l:List Int):List Int:=K0 (l.length - 1) l
theorem KX(l:List Int)(q:Nat):(swapL l q).length=l.length:=by simp[swapL]
theorem Pa:∀(k:Nat) (l:List Int),(K0 k l).length=l.length
 |0,l=>rfl
 |q+1,l=>by
  unfold K0;split
  ·rw[Pa q,KX]
  ·rfl
theorem SE{l:List Int}(h:Bo l){q:Nat}(hq:q+1 < l.length):Bo (swapL l q):=by
 intro x hx;unfold swapL at hx;have hq':q < l.length:=by omega
 have h1:l.getD q 0∈l:=by rw[List.getD_eq_getElem?_getD,List.getElem?_eq_getElem hq'];exact List.getElem_mem _
 have h2:l.getD (q+1) 0∈l:=by rw[List.getD_eq_getElem?_getD,List.getElem?_eq_getElem hq];exact List.getElem_mem _
 rcases List.mem_or_eq_of_mem_set hx with h3|h3
 ·rcases List.mem_or_eq_of_mem_set h3 with h4|h4
  ·exact h x h4
  ·rw[h4];exact h _ h2
 ·rw[h3];exact h _ h1
theorem Q9(l:List Int)(ho:Bo l)(h0:0 < l.length)(hl:l.length≤4194304):Ago Tryz.prog 143 3 tInt l (Gn l):=by
 refine QD Tryz.func143 rfl (by kernel_rfl) rfl Tryz.ntmps143 (fun _ _ _ _ _ h=>h) fun C=>?_
 refine nS ?_;refine rRS ?_;refine Ac fun K2 h2=>?_
 refine rRS ?_;refine Af ?_;have he0:((l.length:Int) - 1)=((l.length - 1:Nat):Int):=by omega
 rw[he0];refine Au (fun p:Nat×List Int=>⟨(.own 0 0::A2 (.lit (.int .i64 (p.1:Int))::A20 (A10 (A6 [])))),[.row 0 3 tInt p.2]⟩) (fun p=>p.2.length=l.length∧p.1 < l.length∧Bo p.2∧K0 p.1 p.2=Gn l) (fun p=>p.1) (l.length - 1,l) ⟨rfl,by omega,ho,rfl⟩ (Ce) ?_;rintro⟨k,m⟩ ⟨hml,hkl,hmo,hsf⟩;dsimp only at hml hkl hmo hsf⊢;refine Ac fun K5 h5=>?_
 refine Ac fun K6 h6=>?_
 cases k with
 |zero=>
  have hb:decide (((0:Nat):Int) > 0)=false:=by decide
  (refine LU 14 (hh:=?_);(repeat(first|refine qQ ?_|refine Km ?_));refine FD ?_;(repeat(first|refine sQ ?_|refine AO ?_|refine B6 ?_));refine Ar ?_)
  refine h6 _ ?_;refine nT ?_;refine Ae rfl (fun hb7=>by cases hb7) (fun hb7=>?_);refine Aq ?_;refine h2 _ ?_;refine nT ?_;refine rRS ?_;refine Aj ?_;exact⟨.inr rfl,0,0,rfl,by rw[←hsf];rfl,rfl⟩
 |succ q=>
  have hb:decide (((q+1:Nat):Int) > 0)=true:=by simp
  have hx0:m[(((q+1:Nat):Int) - 1).toNat]? =some (m.getD q 0):=by
   have:(((q+1:Nat):Int) - 1).toNat=q:=by omega
   rw[this,List.getD_eq_getElem?_getD,List.getElem?_eq_getElem (by omega)];rfl
  have hx1:m[q+1]? =some (m.getD (q+1) 0):=by
   rw[List.getD_eq_getElem?_getD,List.getElem?_eq_getElem (by omega)];rfl
  have hw0:=hmo _ (List.mem_of_getElem? hx0);have hw1:=hmo _ (List.mem_of_getElem? hx1);have hql:q+1 < m.length:=by omega
  have hx2:(m.set (((q+1:Nat):Int) - 1).toNat (m.getD (q+1) 0))[q+1]? =some (m.getD (q+1) 0):=by
   rw[List.getElem?_set_ne (by omega)];exact hx1
  have hql2:q+1 < (m.set (((q+1:Nat):Int) - 1).toNat (m.getD (q+1) 0)).length:=by simpa using hql
  rw[K0]at hsf;rcases hc:decide (m.getD q 0 > m.getD (q+1) 0)with _|_
  ·rw[if_neg (by simpa using hc)]at hsf
   (refine LU 14 (hh:=?_);(repeat(first|refine qQ ?_|refine Km ?_));refine FD ?_;(repeat(first|refine sQ ?_|refine AO ?_|refine B6 ?_));refine Ar ?_)
   refine h6 _ ?_;refine nT ?_;refine Ae rfl (fun hb7=>by cases hb7) (fun hb7=>?_);refine Aq ?_;refine h2 _ ?_;refine nT ?_;refine rRS ?_;refine Aj ?_;exact⟨.inr rfl,0,0,rfl,by rw[←hsf];rfl,rfl⟩
  ·rw[if_pos (by simpa using hc)]at hsf
   (refine LU 14 (hh:=?_);(repeat(first|refine qQ ?_|refine Km ?_));refine FD ?_;(repeat(first|refine sQ ?_|refine AO ?_|refine B6 ?_));refine Ar ?_)
   refine h6 _ ?_;refine nT ?_;refine Ae rfl (fun hb7=>?_) (fun hb7=>by cases hb7);refine Ag ?_;refine h5 _ ?_;refine nT ?_;refine Ac fun K8 h8=>?_
   refine Af ?_
   (refine Yr 15 [3,4] [0,1,2,5,6,7,8,9,10,11,12,13,14] (by kernel_rfl) (by kernel_rfl) (by decide) rfl ?_;refine Aci (by(try simp only[AJ,evA,List.getElem?_cons_zero,List.getElem?_cons_succ,Option.getD_some,List.set_cons_zero,List.set_cons_succ]);exact rfl) ?_;(repeat(refine Aqy (by simp only[List.getElem?_toArray,List.getElem?_cons_succ,List.getElem?_cons_zero];exact rfl) rfl ?_;(first|refine DA (Av.move rfl (by(conv=>lhs;whnf);try rfl)) ?_|refine DA (Av.assign rfl (by(conv=>lhs;whnf);try rfl)) ?_|refine DA (Bz rfl rfl rfl) ?_|refine DA (Da rfl rfl) ?_|refine DA (Av.fa_rp rfl rfl rfl) ?_|refine DA (Bh rfl rfl rfl rfl) ?_|refine DA (Dq rfl rfl rfl) ?_|refine DA (Cw rfl rfl rfl (by assumption) rfl) ?_|refine DA (Bt rfl rfl rfl rfl) ?_|refine DA (CD rfl rfl rfl) ?_|refine DA (Jc rfl rfl rfl rfl (by assumption)) ?_|refine DA (FH rfl rfl rfl rfl (by first|decide|omega) (by assumption)) ?_|refine DA (FG rfl rfl rfl rfl rfl (by first|assumption|omega)) ?_|refine DA (Eg rfl rfl rfl rfl rfl (by first|decide|omega) (by first|assumption|omega)) ?_|refine DA (Av.ln rfl rfl) ?_|refine DA (FF rfl rfl rfl) ?_|refine DA (C5 rfl rfl) ?_|refine DA (EF rfl rfl rfl (by omega)) ?_|refine DA (EC rfl rfl rfl (by omega)) ?_|refine DA (FJ rfl rfl rfl rfl (by assumption)) ?_|refine DA (B7 rfl rfl rfl rfl) ?_|refine DA (CE rfl rfl) ?_|refine DA (Av.pick rfl rfl (by(conv=>lhs;whnf);try rfl)) ?_|refine DA (Av.extract rfl rfl rfl) ?_|refine DA (CB rfl rfl rfl (by rfl) (by decide) (by first|exact Fit.bool|exact Fit.bs|exact Fit.int (by assumption))) ?_|refine DA (Av.max2 rfl rfl rfl) ?_|refine DA (Av.min2 rfl rfl rfl) ?_);refine Aci (by(try simp only[AJ,List.set_cons_zero,List.set_cons_succ]);exact rfl) ?_));refine Agg ?_)
   have hfin:∀s':St,St.le C s' ⟨(.own 0 0::A2 (.lit (.int .i64 ((q+1:Nat):Int))::A20 (A10 (A6 [])))),[.row 0 3 tInt (swapL m q)]⟩→K8 s':=fun s' hle=>by
    refine h8 _ (As _ hle ?_);refine rR ?_;refine athen_n ⟨(q,swapL m q),⟨by rw[KX];exact hml,by omega,SE hmo hql,hsf⟩,by simp,?_⟩;have e2:(((q+1:Nat):Int) - 1)=(q:Int):=by omega
    rw[e2];exact Ce
   have hgo:∀t:List AV,Fgt 1 t (.own 0 0::A2 (.lit (.int .i64 ((q+1:Nat):Int))::A20 (A10 (A6 []))))→K8 ⟨t,[.row 0 3 tInt ((m.set (((q+1:Nat):Int) - 1).toNat (m.getD (q+1) 0)).set (q+1) (m.getD q 0))]⟩:=fun t ht=>by
    have e1:(((q+1:Nat):Int) - 1).toNat=q:=by omega
    rw[e1];exact hfin _ (BD rfl ht)
   refine Ek [15] (by kernel_rfl) (by simp) (El (by simp only[List.getElem?_toArray,List.getElem?_cons_succ,List.getElem?_cons_zero];exact rfl) rfl ?_ Ah)
   (first|refine oQ ?_|refine Aql ?_)
   refine Ek [16] (by kernel_rfl) (by simp) (El (by simp only[List.getElem?_toArray,List.getElem?_cons_succ,List.getElem?_cons_zero];exact rfl) rfl ?_ Ah)
   (first|refine oQ ?_|refine Aql ?_)
   refine Ek [17] (by kernel_rfl) (by simp) (El (by simp only[List.getElem?_toArray,List.getElem?_cons_succ,List.getElem?_cons_zero];exact rfl) rfl ?_ Ah)
   (first|refine oQ ?_|refine Aql ?_)
   exact OT (by kernel_rfl) (hgo _ (by(try simp only[AJ,List.set_cons_zero,List.set_cons_succ]);repeat(first|exact Fgt.nil|refine Fgt.keep rfl ?_|refine Fgt.any ?_)))
def B3(f:Func):List Int:=f.blocks.flatMap fun b=>b.ins.flatMap readsC
def LG(out:List Int)(x:Int):List Int:=if out.contains x then out else Gn (out++[x])
def Dn(l:List Int):List Int:=l.foldl LG []
def Bg(f:Func):List Int:=Dn (B3 f)
theorem Rj(l:List Int)(x:Int):Dn (l++[x])=LG (Dn l) x:=by simp[Dn]
theorem KZ(l:List Int):(Gn l).length=l.length:=Pa _ _
theorem SG:∀(k:Nat) (l:List Int),k < l.length→Bo l→Bo (K0 k l)
 |0,l,_,h=>h
 |q+1,l,hq,h=>by
  unfold K0;split
  ·exact SG q _ (by rw[KX];omega) (SE h hq)
  ·exact h
theorem Zz(out:List Int)(x:Int):(LG out x).length≤out.length+1:=by
 unfold LG;split
 ·omega
 ·rw[KZ];simp
theorem Adt{out:List Int}{x:Int}(h:Bo out)(hx:wfI .i64 x):Bo (LG out x):=by
 unfold LG;split
 ·exact h
 ·unfold Gn;refine SG _ _ (by simp) fun y hy=>?_
  rcases List.mem_append.1 hy with h1|h1
  ·exact h y h1
  ·simp at h1;rw[h1];exact hx
theorem MP(l:List Int):(Dn l).length≤l.length∧(Bo l→Bo (Dn l)):=by
 have key:∀(l out:List Int),(l.foldl LG out).length≤out.length+l.length∧(Bo l→Bo out→Bo (l.foldl LG out)):=by
  intro l;induction l with
  |nil=>intro out;exact⟨by simp,fun _ h=>h⟩
  |cons x l ih=>
   intro out;obtain⟨h1,h2⟩:=ih (LG out x);have:=Zz out x;refine⟨by simp only[List.foldl_cons,List.length_cons];omega,fun hl ho=>h2 (fun y hy=>hl y (by simp[hy])) (Adt ho (hl x (by simp)))⟩
 obtain⟨h1,h2⟩:=key l [];unfold Dn;exact⟨by simpa using h1,fun h=>h2 h fun y hy=>by cases hy⟩
theorem Xn{l:List Ins}(h:∀x∈l,okIns x):Bo (l.flatMap readsC):=fun r hr=>by
 obtain⟨x,hx,h1⟩:=List.mem_flatMap.1 hr;exact Ep (h x hx) r h1
theorem L3{f:Func}(h:okFunc f):Bo (B3 f):=fun r hr=>by
 obtain⟨b,hb,h1⟩:=List.mem_flatMap.1 hr;exact Xn (h.blocks b hb).ins r h1
theorem IU{α:Type}(g:α→List Int)(l:List α)(k:Nat):((l.take k).flatMap g).length≤(l.flatMap g).length:=by
 have:l.flatMap g=(l.take k).flatMap g++(l.drop k).flatMap g:=by rw[←List.flatMap_append,List.take_append_drop]
 rw[this,List.length_append];omega
theorem Ht{α:Type}(g:α→List Int){l:List α}{k:Nat}{x:α}(hx:l[k]? =some x):(l.take (k+1)).flatMap g=(l.take k).flatMap g++g x:=by
 rw[List.take_add_one,hx,List.flatMap_append];simp
theorem Wg(f:Func)(ho:okFunc f)(hs:smallF f)(hT:(B3 f).length≤2097152):Fn Tryz.prog 81 [.agg (Ak f)] (.bs tInt (Bg f)):=by
 have hbl:=hs.blocks;refine Ax Tryz.func81 rfl (by kernel_rfl) rfl Tryz.ntmps81 fun C hC=>?_
 refine nS ?_;refine rRS ?_;refine rRS ?_;refine Ac fun K3 h3=>?_
 refine rRS ?_;refine Af ?_;refine Au (fun p:Nat×Nat=>⟨(.any::.ptr 0 0::.any::.own 1 p.2::.lit (.int .i64 (p.1:Int))::A40 (A10 (A3 []))),[.box (Ak f),.row p.2 3 tInt (Dn ((f.blocks.take p.1).flatMap fun b=>b.ins.flatMap readsC))]⟩) (fun p=>p.1≤f.blocks.length) (fun p=>f.blocks.length - p.1) (0,0) (Nat.zero_le _) ((Cz 3 3 tInt rfl Nat.zero_lt_one).trans (Ce)) ?_;rintro⟨b,ver⟩ hb;dsimp only at hb⊢;refine Ac fun K6 h6=>?_
 refine rRS ?_;refine Ae rfl (fun hb8=>?_) (fun hb8=>?_)
 ·have hlt:b < f.blocks.length:=by simpa using hb8
  obtain⟨bl,hbk⟩:∃bl,f.blocks[b]? =some bl:=⟨_,List.getElem?_eq_getElem hlt⟩
  have hmem:=List.mem_of_getElem? hbk;have hsb:=(hs.all bl hmem).ins;have hsuc:=Ht (fun b:Block=>b.ins.flatMap readsC) hbk;have hcnt:=IU (fun b:Block=>b.ins.flatMap readsC) f.blocks (b+1);have hokA:Bo ((f.blocks.take b).flatMap fun b=>b.ins.flatMap readsC):=fun r hr=>L3 ho r (by
   obtain⟨c,hc,h1⟩:=List.mem_flatMap.1 hr;exact List.mem_flatMap.2 ⟨c,List.mem_of_mem_take hc,h1⟩)
  generalize ((f.blocks.take b).flatMap fun b=>b.ins.flatMap readsC)=A at hsuc hokA⊢;rw[hsuc]at hcnt;have hcnt2:(A++bl.ins.flatMap readsC).length≤2097152:=Nat.le_trans hcnt hT;refine Ag ?_;refine h6 _ ?_;refine nT ?_;refine Ac fun K9 h9=>?_
  refine Af ?_;refine rRS ?_;refine Af ?_;refine Au (fun p:Nat×Nat=>⟨(.any::.ptr 0 0::.any::.own 1 p.2::.lit (.int .i64 (b:Int))::.lit (.int .i64 (p.1:Int))::A40 (A10 (A2 []))),[.box (Ak f),.row p.2 3 tInt (Dn (A++(bl.ins.take p.1).flatMap readsC))]⟩) (fun p=>p.1≤bl.ins.length) (fun p=>bl.ins.length - p.1) (0,ver) (Nat.zero_le _) (by simp only[List.take_zero,List.flatMap_nil,List.append_nil];exact Ce) ?_;rintro⟨i,ver1⟩ hi;dsimp only at hi⊢;refine Ac fun K12 h12=>?_
  refine rRS ?_;refine Ae rfl (fun hb14=>?_) (fun hb14=>?_)
  ·have hlti:i < bl.ins.length:=by simpa using hb14
   obtain⟨x,hx⟩:∃x,bl.ins[i]? =some x:=⟨_,List.getElem?_eq_getElem hlti⟩
   have hxm:=List.mem_of_getElem? hx;have hxo:=(ho.blocks bl hmem).ins x hxm;have hxa:=(hs.all bl hmem).all x hxm;have hsuc2:=Ht readsC hx;have hcnt3:=IU readsC bl.ins (i+1);have hokB:Bo (A++(bl.ins.take i).flatMap readsC):=fun r hr=>by
    rcases List.mem_append.1 hr with h1|h1
    ·exact hokA r h1
    ·exact Xn (fun y hy=>(ho.blocks bl hmem).ins y (List.mem_of_mem_take hy)) r h1
   rw[hsuc2]at hcnt3;have hcnt4:(A++(bl.ins.take i).flatMap readsC).length+(readsC x).length≤2097152:=by
    simp only[List.length_append]at hcnt2 hcnt3⊢;omega
   generalize hB:A++(bl.ins.take i).flatMap readsC=B at hokB hcnt4⊢;have hrx:=Ep hxo;have hrl:(readsC x).length≤2097152:=by omega
   refine Ag ?_;refine h12 _ ?_;refine nT ?_;refine Ac fun K15 h15=>?_
   refine Af ?_;refine Ac fun K16 h16=>?_
   (refine Awp.region ?_;(repeat(first|refine sQ ?_ (Av.call rfl (EV x hxo (by omega)) rfl rfl rfl)|refine sQ ?_|refine AO ?_|refine B6 ?_));refine Ar ?_)
   refine h16 _ ?_;refine nT ?_;refine rRS ?_;refine Af ?_;refine Au (fun p:Nat×Nat=>⟨(.any::.ptr 0 0::.any::.own 1 p.2::.lit (.int .i64 (b:Int))::.lit (.int .i64 (i:Int))::.bs tInt (readsC x)::.lit (.int .i64 (p.1:Int))::A40 (A10 [])),[.box (Ak f),.row p.2 3 tInt (Dn (B++(readsC x).take p.1))]⟩) (fun p=>p.1≤(readsC x).length) (fun p=>(readsC x).length - p.1) (0,ver1) (Nat.zero_le _) (by simp only[List.take_zero,List.append_nil];exact Ce) ?_;rintro⟨k,ver2⟩ hk;dsimp only at hk⊢;refine Ac fun K18 h18=>?_
   refine rRS ?_;refine Ae rfl (fun hb20=>?_) (fun hb20=>?_)
   ·have hltk:k < (readsC x).length:=by simpa using hb20
    obtain⟨r,hr⟩:∃r,(readsC x)[k]? =some r:=⟨_,List.getElem?_eq_getElem hltk⟩
    have hrw:=hrx r (List.mem_of_getElem? hr);have hst:Dn (B++(readsC x).take (k+1))=LG (Dn (B++(readsC x).take k)) r:=by
     rw[List.take_add_one,hr,←List.append_assoc];exact Rj _ _
    obtain⟨hol,hoo⟩:=MP (B++(readsC x).take k);have hoo':=hoo fun y hy=>by
     rcases List.mem_append.1 hy with h1|h1
     ·exact hokB y h1
     ·exact hrx y (List.mem_of_mem_take h1)
    have hol':(Dn (B++(readsC x).take k)).length≤2097152:=by
     simp only[List.length_append,List.length_take]at hol hcnt4;omega
    generalize Dn (B++(readsC x).take k)=out at hst hol' hoo'⊢;refine Ag ?_;refine h18 _ ?_;refine nT ?_;refine Ac fun K21 h21=>?_
    refine Af ?_;refine Ac fun K22 h22=>?_
    rcases hc:out.contains r with _|_
    ·have hins:LG out r=Gn (out++[r]):=by unfold LG;rw[if_neg (by rw[hc];simp)]
     have hn1:out.length+ [r].length≤maxLen:=by simp[maxLen];omega
     have hn2:(out.length+ [r].length) * 8≤140737488355328:=by simp;omega
     (refine Awp.region ?_;(repeat(first|refine sQ ?_ (Hd rfl (by have:=RH out r hol';rw[hc]at this;exact this) (.own rfl (.cl rfl .nil)))|refine sQ ?_|refine AO ?_|refine B6 ?_));refine Ar ?_)
     refine h22 _ ?_;refine nT ?_;refine Ae rfl (fun hb23=>?_) (fun hb=>by cases hb)
     (refine Awp.region ?_;(repeat(first|(refine Ao rfl (Sw rfl (Q9 (out++[r]) (fun y hy=>(List.mem_append.1 hy).elim (hoo' y) fun h=>by simp at h;rw[h];exact hrw) (by simp) (by simp;omega)) rfl rfl ?_);refine sNt ?_)|refine sQ ?_|refine AO ?_|refine B6 ?_));refine Ar ?_)
     refine h21 _ ?_;refine nT ?_;refine rR ?_;refine athen_n ⟨(k+1,ver2+1+1),by omega,by dsimp only;omega,?_⟩;dsimp only;rw[hst,hins];exact Ce
    ·have hins:LG out r=out:=by unfold LG;rw[if_pos hc]
     (refine Awp.region ?_;(repeat(first|refine sQ ?_ (Hd rfl (by have:=RH out r hol';rw[hc]at this;exact this) (.own rfl (.cl rfl .nil)))|refine sQ ?_|refine AO ?_|refine B6 ?_));refine Ar ?_)
     refine h22 _ ?_;refine nT ?_;refine Ae rfl (fun hb=>by cases hb) (fun hb23=>?_);refine Ag ?_;refine h21 _ ?_;refine nT ?_;refine rR ?_;refine athen_n ⟨(k+1,ver2),by omega,by dsimp only;omega,?_⟩;dsimp only;rw[hst,hins];exact Ce
   ·refine Aq ?_;refine h15 _ ?_;refine nT ?_;have hkk:k=(readsC x).length:=by
     have:¬k < (readsC x).length:=by simpa using hb20
     omega
    refine rR ?_;refine athen_n ⟨(i+1,ver2),by omega,by dsimp only;omega,?_⟩;dsimp only;rw[hsuc2,hkk,List.take_length,←List.append_assoc,hB];exact Ce
  ·refine Aq ?_;refine h9 _ ?_;refine nT ?_;have hii:i=bl.ins.length:=by
    have:¬i < bl.ins.length:=by simpa using hb14
    omega
   refine rR ?_;refine athen_n ⟨(b+1,ver1),by omega,by dsimp only;omega,?_⟩;dsimp only;rw[hsuc,hii,List.take_length];exact Ce
 ·refine Aq ?_;refine h3 _ ?_;refine nT ?_;have hbb:b=f.blocks.length:=by
   have:¬b < f.blocks.length:=by simpa using hb8
   omega
  refine rRS ?_;refine Aj ?_;rw[hbb,List.take_length];exact⟨.inr rfl,Fin.own rfl⟩
def D2(f:Func)(b i:Nat)(r:Int):Bool:=(Cp r ((BW f b).drop i)).1||(!(Cp r ((BW f b).drop i)).2&&CG f (Il f r) b)
def Cg(f:Func)(regs:List Int)(b i:Nat):List Int:=regs.filter (D2 f b i)
def BU(f:Func)(b:Nat):List (List Int):=(List.range ((BW f b).length+1)).map (Cg f (Bg f) b)
def Agd(f:Func):List (List (List Int)):=(List.range f.blocks.length).map (BU f)
theorem Kr{p:Int→Bool}{l:List Int}{k:Nat}{x:Int}(hx:l[k]? =some x):(l.take (k+1)).filter p=(l.take k).filter p++if p x then [x]else []:=by
 rw[List.take_add_one,hx,List.filter_append];cases h:p x <;> simp[h]
theorem IR(f:Func)(r:Int):(Il f r).length=f.blocks.length:=H6 f r _
theorem Uc(f:Func)(regs:List Int)(b i:Nat)(bl:Block)(ho:okFunc f)(hs:smallF f)(hr:Bo regs)(hrl:regs.length≤2097152)(hb:f.blocks[b]? =some bl)(hi:i≤bl.ins.length):
 Fn Tryz.prog 83 [.agg (Ak f),.bs tInt regs,.bs Ty.bool.slice (regs.map (Il f)),.lit (.int .i64 (b:Int)),.lit (.int .i64 (i:Int))] (.bs tInt (Cg f regs b i)):=by
 have hbl:=hs.blocks;have hmem:=List.mem_of_getElem? hb;have hins:BW f b=bl.ins:=by unfold BW;rw[hb]
 refine Ax Tryz.func83 rfl (by kernel_rfl) rfl Tryz.ntmps83 fun C hC=>?_
 refine nS ?_;refine rRS ?_;refine rRS ?_;refine Ac fun K3 h3=>?_
 refine rRS ?_;refine Af ?_;refine Au (fun p:Nat×Nat=>⟨(.any::.bs tInt regs::.bs Ty.bool.slice (regs.map (Il f))::.lit (.int .i64 (b:Int))::.lit (.int .i64 (i:Int))::.ptr 0 0::A5 (.own 1 p.2::.lit (.int .i64 (p.1:Int))::A40 (A4 []))),[.box (Ak f),.row p.2 3 tInt ((regs.take p.1).filter (D2 f b i))]⟩) (fun p=>p.1≤regs.length) (fun p=>regs.length - p.1) (0,0) (Nat.zero_le _) ((Cz 11 3 tInt rfl Nat.zero_lt_one).trans (Ce)) ?_;rintro⟨k,ver⟩ hk;dsimp only at hk⊢;refine Ac fun K6 h6=>?_
 refine rRS ?_;refine Ae rfl (fun hb8=>?_) (fun hb8=>?_)
 ·have hlt:k < regs.length:=by simpa using hb8
  obtain⟨r,hrk⟩:∃r,regs[k]? =some r:=⟨_,List.getElem?_eq_getElem hlt⟩
  have hrw:=hr r (List.mem_of_getElem? hrk);have hik:(regs.map (Il f))[k]? =some (Il f r):=by rw[List.getElem?_map,hrk];rfl
  have hst:=Kr (p:=D2 f b i) hrk;have hol:=List.length_filter_le (D2 f b i) (regs.take k);have hol2:((regs.take k).filter (D2 f b i)).length≤2097152:=by simp only[List.length_take]at hol;omega
  have hlv:D2 f b i r=((Cp r (bl.ins.drop i)).1||(!(Cp r (bl.ins.drop i)).2&&CG f (Il f r) b)):=by unfold D2;rw[hins]
  have hyes:D2 f b i r=true→(regs.take (k+1)).filter (D2 f b i)=(regs.take k).filter (D2 f b i)++[r]:=fun h=>by rw[hst,if_pos h]
  have hno:D2 f b i r=false→(regs.take (k+1)).filter (D2 f b i)=(regs.take k).filter (D2 f b i):=fun h=>by rw[hst,if_neg (by simp[h]),List.append_nil]
  generalize hout:(regs.take k).filter (D2 f b i)=out at hyes hno hol2⊢;have hn1:out.length+ [r].length≤maxLen:=by simp[maxLen];omega
  have hn2:(out.length+ [r].length) * 8≤140737488355328:=by simp;omega
  refine Ag ?_;refine h6 _ ?_;refine nT ?_;refine Ac fun K9 h9=>?_
  refine Af ?_;refine Ac fun K10 h10=>?_
  (refine LU 16 (hh:=?_);(repeat(first|refine qQ ?_ (Av.call rfl (Js bl i r (ho.blocks bl hmem) (hs.all bl hmem) hi) rfl rfl rfl)|refine qQ ?_|refine Km ?_));refine FD ?_;(repeat(first|refine sQ ?_ (Av.call rfl (Js bl i r (ho.blocks bl hmem) (hs.all bl hmem) hi) rfl rfl rfl)|refine sQ ?_|refine AO ?_|refine B6 ?_));refine Ar ?_)
  refine h10 _ ?_;refine nT ?_;rcases hr1:(Cp r (bl.ins.drop i)).1 with _|_
  ·rcases hr2:(Cp r (bl.ins.drop i)).2 with _|_
   ·rw[hr1,hr2]at hlv;refine Ac fun K11 h11=>?_
    rcases hbb:CG f (Il f r) b with _|_
    ·rw[hbb]at hlv
     (refine LU 14 (hh:=?_);(repeat(first|refine qQ ?_ (Av.call rfl (by have:=Dx f (Il f r) b ho hs (IR f r);rw[hbb]at this;exact this) rfl rfl rfl)|refine qQ ?_|refine Km ?_));refine FD ?_;(repeat(first|refine sQ ?_ (Av.call rfl (by have:=Dx f (Il f r) b ho hs (IR f r);rw[hbb]at this;exact this) rfl rfl rfl)|refine sQ ?_|refine AO ?_|refine B6 ?_));refine Ar ?_)
     refine h11 _ ?_;refine nT ?_;refine Ae rfl (fun hb=>by cases hb) (fun hb12=>?_);refine Ag ?_;refine h9 _ ?_;refine nT ?_;refine rR ?_;refine athen_n ⟨(k+1,ver),by omega,by dsimp only;omega,?_⟩;dsimp only;rw[hno hlv];exact Ce
    ·rw[hbb]at hlv
     (refine LU 14 (hh:=?_);(repeat(first|refine qQ ?_ (Av.call rfl (by have:=Dx f (Il f r) b ho hs (IR f r);rw[hbb]at this;exact this) rfl rfl rfl)|refine qQ ?_|refine Km ?_));refine FD ?_;(repeat(first|refine sQ ?_ (Av.call rfl (by have:=Dx f (Il f r) b ho hs (IR f r);rw[hbb]at this;exact this) rfl rfl rfl)|refine sQ ?_|refine AO ?_|refine B6 ?_));refine Ar ?_)
     refine h11 _ ?_;refine nT ?_;refine Ae rfl (fun hb12=>?_) (fun hb=>by cases hb);refine rR ?_;refine h9 _ ?_;refine nT ?_;refine rR ?_;refine athen_n ⟨(k+1,ver+1),by omega,by dsimp only;omega,?_⟩;dsimp only;rw[hyes hlv];exact Ce
   ·rw[hr1,hr2]at hlv;refine Ac fun K11 h11=>?_
    (refine LU 14 (hh:=?_);(repeat(first|refine qQ ?_|refine Km ?_));refine FD ?_;(repeat(first|refine sQ ?_|refine AO ?_|refine B6 ?_));refine Ar ?_)
    refine h11 _ ?_;refine nT ?_;refine Ae rfl (fun hb=>by cases hb) (fun hb12=>?_);refine Ag ?_;refine h9 _ ?_;refine nT ?_;refine rR ?_;refine athen_n ⟨(k+1,ver),by omega,by dsimp only;omega,?_⟩;dsimp only;rw[hno hlv];exact Ce
  ·rw[hr1]at hlv;refine Ac fun K11 h11=>?_
   (refine LU 14 (hh:=?_);(repeat(first|refine qQ ?_|refine Km ?_));refine FD ?_;(repeat(first|refine sQ ?_|refine AO ?_|refine B6 ?_));refine Ar ?_)
   refine h11 _ ?_;refine nT ?_;refine Ae rfl (fun hb12=>?_) (fun hb=>by cases hb);refine rR ?_;refine h9 _ ?_;refine nT ?_;refine rR ?_;refine athen_n ⟨(k+1,ver+1),by omega,by dsimp only;omega,?_⟩;dsimp only;rw[hyes hlv];exact Ce
 ·refine Aq ?_;refine h3 _ ?_;refine nT ?_;have hkk:k=regs.length:=by
   have:¬k < regs.length:=by simpa using hb8
   omega
  refine rRS ?_;refine Aj ?_;rw[hkk,List.take_length];exact⟨.inr rfl,Fin.own rfl⟩
theorem Ob{α β:Type}(g:α→β){l:List α}{k:Nat}{x:α}(hx:l[k]? =some x):(l.take (k+1)).map g=(l.take k).map g++[g x]:=by
 rw[List.take_add_one,hx,List.map_append];simp
theorem Hq{β:Type}(g:Nat→β)(k:Nat):(List.range (k+1)).map g=(List.range k).map g++[g k]:=by rw[List.range_succ,List.map_append];rfl
theorem Aaf(f:Func)(ho:okFunc f)(hs:smallF f)(hT:(B3 f).length≤2097152):Fn Tryz.prog 30 [.agg (Ak f)] (.bs tInt.slice.slice (Agd f)):=by
 have hbl:=hs.blocks;obtain⟨hrl0,hrk0⟩:=MP (B3 f);have hrl:(Bg f).length≤2097152:=Nat.le_trans hrl0 hT;have hro:Bo (Bg f):=hrk0 (L3 ho);refine Ax Tryz.func30 rfl (by kernel_rfl) rfl Tryz.ntmps30 fun C hC=>?_
 refine nS ?_;refine rRS ?_;refine Ac fun K2 h2=>?_
 (refine Awp.region ?_;(repeat(first|refine sQ ?_ (Av.call rfl (Wg f ho hs hT) rfl rfl rfl)|refine sQ ?_|refine AO ?_|refine B6 ?_));refine Ar ?_)
 refine h2 _ ?_;refine nT ?_;refine rRS ?_;refine Ac fun K4 h4=>?_
 refine rRS ?_;refine Af ?_;refine Au (fun p:Nat×Nat=>⟨(.any::.ptr 0 0::.any::.bs tInt (Bg f)::.own 1 p.2::.lit (.int .i64 (p.1:Int))::A40 (A10 (A3 []))),[.box (Ak f),.row p.2 116 Ty.bool.slice (((Bg f).take p.1).map (Il f))]⟩) (fun p=>p.1≤(Bg f).length) (fun p=>(Bg f).length - p.1) (0,0) (Nat.zero_le _) ((Cz 4 116 Ty.bool.slice rfl Nat.zero_lt_one).trans (Ce)) ?_;rintro⟨k,ver⟩ hk;dsimp only at hk⊢;refine Ac fun K7 h7=>?_
 refine rRS ?_;refine Ae rfl (fun hb9=>?_) (fun hb9=>?_)
 ·have hlt:k < (Bg f).length:=by simpa using hb9
  obtain⟨r,hrk⟩:∃r,(Bg f)[k]? =some r:=⟨_,List.getElem?_eq_getElem hlt⟩
  have hst:=Ob (Il f) hrk;have hol:(((Bg f).take k).map (Il f)).length≤2097152:=by simp only[List.length_map,List.length_take];omega
  generalize ((Bg f).take k).map (Il f)=out at hst hol⊢;have hn1:out.length+ [Il f r].length≤maxLen:=by simp[maxLen];omega
  have hn2:(out.length+ [Il f r].length) * 24≤140737488355328:=by simp;omega
  refine Ag ?_;refine h7 _ ?_;refine nT ?_;refine Ac fun K10 h10=>?_
  refine Af ?_
  (refine LU 8 (hh:=?_);(repeat(first|refine qQ ?_ (Av.call rfl (S7 f r ho hs) rfl rfl rfl)|refine qQ ?_|refine Km ?_));refine FD ?_;(repeat(first|refine sQ ?_ (Av.call rfl (S7 f r ho hs) rfl rfl rfl)|refine sQ ?_|refine AO ?_|refine B6 ?_));refine Ar ?_)
  refine h10 _ ?_;refine nT ?_;refine rR ?_;refine athen_n ⟨(k+1,ver+1),by omega,by dsimp only;omega,?_⟩;dsimp only;rw[hst];exact Ce
 ·refine Aq ?_;refine h4 _ ?_;refine nT ?_;have hkk:k=(Bg f).length:=by
   have:¬k < (Bg f).length:=by simpa using hb9
   omega
  rw[hkk,List.take_length];refine As ⟨(.any::.ptr 0 0::.any::.bs tInt (Bg f)::.bs Ty.bool.slice ((Bg f).map (Il f))::A40 (A10 (A4 []))),[.box (Ak f),.dead]⟩ ((Oy hC 1 rfl).trans (by simp only[fzH,Gj,AV.fz,ABlk.fz,List.map_cons,List.map_nil,List.set_cons_zero,List.set_cons_succ,and_self,if_true,Ak];exact Ce)) ?_;refine rRS ?_;refine Ac fun K12 h12=>?_
  refine rRS ?_;refine Af ?_;refine Au (fun p:Nat×Nat=>⟨(.any::.ptr 0 0::.any::.bs tInt (Bg f)::.bs Ty.bool.slice ((Bg f).map (Il f))::.any::.own 2 p.2::.lit (.int .i64 (p.1:Int))::A40 (A10 [.any])),[.box (Ak f),.dead,.row p.2 78 tInt.slice.slice ((List.range p.1).map (BU f))]⟩) (fun p=>p.1≤f.blocks.length) (fun p=>f.blocks.length - p.1) (0,0) (Nat.zero_le _) ((Cz 6 78 tInt.slice.slice rfl Nat.zero_lt_one).trans (Ce)) ?_;rintro⟨b,ver⟩ hb;dsimp only at hb⊢;refine Ac fun K15 h15=>?_
  refine rRS ?_;refine Ae rfl (fun hb17=>?_) (fun hb17=>?_)
  ·have hltb:b < f.blocks.length:=by simpa using hb17
   obtain⟨bl,hbk⟩:∃bl,f.blocks[b]? =some bl:=⟨_,List.getElem?_eq_getElem hltb⟩
   have hmem:=List.mem_of_getElem? hbk;have hsi:=(hs.all bl hmem).ins;have hins:BW f b=bl.ins:=by unfold BW;rw[hbk]
   have hstb:=Hq (BU f) b;have hblk:BU f b=(List.range (bl.ins.length+1)).map (Cg f (Bg f) b):=by unfold BU;rw[hins]
   have holb:((List.range b).map (BU f)).length≤2097152:=by simp;omega
   generalize (List.range b).map (BU f)=out at hstb holb⊢;have hn1:out.length+ [BU f b].length≤maxLen:=by simp[maxLen];omega
   have hn2:(out.length+ [BU f b].length) * 24≤140737488355328:=by simp;omega
   refine Ag ?_;refine h15 _ ?_;refine nT ?_;refine Ac fun K18 h18=>?_
   refine Af ?_;refine rRS ?_;refine Ac fun K20 h20=>?_
   refine rRS ?_;refine Af ?_;refine Au (fun p:Nat×Nat=>⟨(.any::.ptr 0 0::.any::.bs tInt (Bg f)::.bs Ty.bool.slice ((Bg f).map (Il f))::.any::.own 2 ver::.lit (.int .i64 (b:Int))::.own 3 p.2::.lit (.int .i64 (p.1:Int))::A40 (A9 [])),[.box (Ak f),.dead,.row ver 78 tInt.slice.slice out,.row p.2 22 tInt.slice ((List.range p.1).map (Cg f (Bg f) b))]⟩) (fun p=>p.1≤bl.ins.length+1) (fun p=>bl.ins.length+1 - p.1) (0,0) (Nat.zero_le _) ((Cz 8 22 tInt.slice rfl Nat.zero_lt_one).trans (Ce)) ?_;rintro⟨i,ver2⟩ hi;dsimp only at hi⊢;refine Ac fun K22 h22=>?_
   refine rRS ?_;refine Ae rfl (fun hb24=>?_) (fun hb24=>?_)
   ·have hlti:i≤bl.ins.length:=by simpa using hb24
    have hsti:=Hq (Cg f (Bg f) b) i;have holi:((List.range i).map (Cg f (Bg f) b)).length≤2097152:=by simp;omega
    generalize (List.range i).map (Cg f (Bg f) b)=l at hsti holi⊢;have hn3:l.length+ [Cg f (Bg f) b i].length≤maxLen:=by simp[maxLen];omega
    have hn4:(l.length+ [Cg f (Bg f) b i].length) * 24≤140737488355328:=by simp;omega
    refine Ag ?_;refine h22 _ ?_;refine nT ?_;refine Ac fun K25 h25=>?_
    refine Af ?_
    (refine Awp.region ?_;(repeat(first|refine sQ ?_ (Av.call rfl (Uc f (Bg f) b i bl ho hs hro hrl hbk hlti) rfl rfl rfl)|refine sQ ?_|refine AO ?_|refine B6 ?_));refine Ar ?_)
    refine h25 _ ?_;refine nT ?_;refine rR ?_;refine athen_n ⟨(i+1,ver2+1),by omega,by dsimp only;omega,?_⟩;dsimp only;rw[hsti];exact Ce
   ·refine Aq ?_;refine h20 _ ?_;refine nT ?_;have hii:i=bl.ins.length+1:=by
     have:¬i≤bl.ins.length:=by simpa using hb24
     omega
    rw[hii,←hblk];refine As ⟨(.any::.ptr 0 0::.any::.bs tInt (Bg f)::.bs Ty.bool.slice ((Bg f).map (Il f))::.any::.own 2 ver::.lit (.int .i64 (b:Int))::.bs tInt.slice (BU f b)::A40 (A10 [])),[.box (Ak f),.dead,.row ver 78 tInt.slice.slice out,.dead]⟩ ((Oy hC 3 rfl).trans (by simp only[fzH,Gj,AV.fz,ABlk.fz,List.map_cons,List.map_nil,List.set_cons_zero,List.set_cons_succ,and_self,if_true,Ak,Nat.reduceEqDiff,false_and,if_false];exact Ce)) ?_;refine rR ?_;refine h18 _ ?_;refine nT ?_;refine rR ?_;refine athen_n ⟨(b+1,ver+1),by omega,by dsimp only;omega,?_⟩;dsimp only;rw[hstb];exact Fb (Cut.cons (Cut.cons (Cut.cons (Cut.nil _))))
  ·refine Aq ?_;refine h12 _ ?_;refine nT ?_;have hbb:b=f.blocks.length:=by
    have:¬b < f.blocks.length:=by simpa using hb17
    omega
   refine rRS ?_;refine Aj ?_;rw[hbb];exact⟨.inr rfl,Fin.own rfl⟩
end Mu
end
section
namespace Mu
open Go
def LIn(f:Func)(b:Nat)(r:Int):Prop:=rdB r (BW f b)=true∨(Yx r (BW f b)=true∧LOut f b r)
theorem SX{f:Func}{k:Nat}{r:Int}:LOut f k r↔∃b,Edge f k b∧LIn f b r:=by
 constructor
 ·intro h;cases h with
  |read he h=>exact⟨_,he,.inl h⟩
  |pass he h hl=>exact⟨_,he,.inr ⟨h,hl⟩⟩
 ·rintro⟨b,he,h|⟨h,hl⟩⟩
  ·exact .read he h
  ·exact .pass he h hl
theorem JJ{f:Func}{out:List Bool}{k:Nat}:CG f out (k:Int)=true↔∃b,Edge f k b∧out.getD b false=true:=by
 unfold CG Dk Edge;rw[List.any_eq_true];constructor
 ·rintro⟨x,hx,h⟩;obtain⟨y,hy,rfl⟩:=List.mem_map.1 hx;exact⟨y.1,⟨y,hy,rfl⟩,by simpa[D3]using h⟩
 ·rintro⟨b,⟨y,hy,rfl⟩,h⟩;exact⟨D3 y,List.mem_map.2 ⟨y,hy,rfl⟩,by simpa[D3]using h⟩
theorem Afs(f:Func)(r:Int)(out:List Bool)(b:Nat):goB f r out b=(rdB r (BW f b)||(Yx r (BW f b)&&CG f out b)):=by
 have h:=Pp r (BW f b) (fun _=>CG f out b);rw[M2]at h;exact h
theorem XB{f:Func}{k b:Nat}(h:Edge f k b):b < f.blocks.length:=by
 obtain⟨x,_,rfl⟩:=h;exact x.2
def Nm(f:Func)(r:Int)(out:List Bool):Prop:=∀b,out.getD b false=true→LIn f b r
theorem J0{f:Func}{r:Int}{out:List Bool}(h:Nm f r out){k:Nat}(hb:CG f out (k:Int)=true):LOut f k r:=by
 obtain⟨b,he,ho⟩:=JJ.1 hb;exact SX.2 ⟨b,he,h b ho⟩
theorem TT{f:Func}{r:Int}{out:List Bool}(h:Nm f r out)(b:Nat):Nm f r (Jm f r out b):=by
 unfold Jm;split
 ·rename_i hg;intro c hc;by_cases hbc:b=c
  ·subst hbc;rw[Afs]at hg;simp only[Bool.or_eq_true,Bool.and_eq_true]at hg;rcases hg with hg|⟨h1,h2⟩
   ·exact .inl hg
   ·exact .inr ⟨h1,J0 h h2⟩
  ·rw[List.getD_eq_getElem?_getD,List.getElem?_set_ne hbc,←List.getD_eq_getElem?_getD]at hc;exact h c hc
 ·exact h
theorem TU{f:Func}{r:Int}{out:List Bool}(h:Nm f r out)(m:Nat):Nm f r (foldI f r out m):=by
 induction m with
 |zero=>exact h
 |succ m ih=>rw[Dv];exact TT ih m
theorem O0(f:Func)(r:Int)(m:Nat):Nm f r (roundsI f r m):=by
 induction m with
 |zero=>
  intro b hb;unfold roundsI at hb;rw[List.getD_eq_getElem?_getD,List.getElem?_replicate]at hb;split at hb <;> simp at hb
 |succ m ih=>exact TU ih _
theorem MK(f:Func)(r:Int)(out:List Bool)(b:Nat):out.count true≤(Jm f r out b).count true∧(Jm f r out b≠out→out.count true < (Jm f r out b).count true):=by
 unfold Jm;split
 ·by_cases hb:b < out.length
  ·have hs:out.set b true=out.take b++true::out.drop (b+1):=List.set_eq_take_append_cons_drop .. |>.trans (by rw[if_pos hb])
   have ho:out=out.take b++out[b]::out.drop (b+1):=by rw[←List.drop_eq_getElem_cons hb,List.take_append_drop]
   have h1:(out.set b true).count true=(out.take b).count true+1+(out.drop (b+1)).count true:=by rw[hs,List.count_append,List.count_cons_self];omega
   cases hv:out[b]with
   |true=>
    have h2:out.count true=(out.take b).count true+1+(out.drop (b+1)).count true:=by
     conv=>lhs;rw[ho,hv]
     rw[List.count_append,List.count_cons_self];omega
    refine⟨by omega,fun hne=>absurd ?_ hne⟩;rw[hs]
    conv=>rhs;rw[ho,hv]
   |false=>
    have h2:out.count true=(out.take b).count true+(out.drop (b+1)).count true:=by
     conv=>lhs;rw[ho,hv]
     rw[List.count_append,List.count_cons_of_ne (by simp)]
    exact⟨by omega,fun _=>by omega⟩
  ·rw[List.set_eq_of_length_le (by omega)];exact⟨Nat.le_refl _,fun h=>absurd rfl h⟩
 ·exact⟨Nat.le_refl _,fun h=>absurd rfl h⟩
theorem M5(f:Func)(r:Int)(out:List Bool)(m:Nat):out.count true≤(foldI f r out m).count true∧(foldI f r out m≠out→out.count true < (foldI f r out m).count true):=by
 induction m with
 |zero=>exact⟨Nat.le_refl _,fun h=>absurd rfl h⟩
 |succ m ih=>
  rw[Dv];obtain⟨h1,h2⟩:=MK f r (foldI f r out m) m;refine⟨by omega,fun hne=>?_⟩;by_cases he:foldI f r out m=out
  ·rw[he]at h1 h2 hne⊢;exact h2 hne
  ·have:=ih.2 he;omega
theorem M4{f:Func}{r:Int}{out:List Bool}{n:Nat}(h:foldI f r out n=out):∀m,m≤n→foldI f r out m=out:=by
 intro m hm;by_cases he:foldI f r out m=out
 ·exact he
 ·exfalso;have h1:=(M5 f r out m).2 he;have key:∀k,(foldI f r out m).count true≤(foldI f r out (m+k)).count true:=by
   intro k;induction k with
   |zero=>exact Nat.le_refl _
   |succ k ih=>rw[←Nat.add_assoc,Dv];exact Nat.le_trans ih (MK f r _ _).1
  have h2:=key (n - m);rw[show m+(n - m)=n by omega,h]at h2;omega
theorem Tc{f:Func}{r:Int}{out:List Bool}(hl:out.length=f.blocks.length)(h:foldI f r out f.blocks.length=out){b:Nat}(hb:b < f.blocks.length)(hg:goB f r out b=true):out.getD b false=true:=by
 have h1:=M4 h (b+1) (by omega);rw[Dv,M4 h b (by omega),Jm,if_pos hg]at h1;rw[←h1,List.getD_eq_getElem?_getD,List.getElem?_set_self (by omega)];rfl
theorem Xq{f:Func}{r:Int}{out:List Bool}(hl:out.length=f.blocks.length)(h:foldI f r out f.blocks.length=out){k:Nat}(hlo:LOut f k r):CG f out (k:Int)=true:=by
 induction hlo with
 |read he h1=>exact JJ.2 ⟨_,he,Tc hl h (XB he) (by rw[Afs,h1];rfl)⟩
 |pass he h1 _ ih=>exact JJ.2 ⟨_,he,Tc hl h (XB he) (by rw[Afs,h1,ih h];simp)⟩
theorem Pj(f:Func)(r:Int):foldI f r (Il f r) f.blocks.length=Il f r:=by
 have key:∀m,(∃j,j < m∧roundsI f r (j+1)=roundsI f r j)∨m≤(roundsI f r m).count true:=by
  intro m;induction m with
  |zero=>exact .inr (Nat.zero_le _)
  |succ m ih=>
   rcases ih with⟨j,hj,he⟩|h
   ·exact .inl ⟨j,by omega,he⟩
   ·by_cases he:roundsI f r (m+1)=roundsI f r m
    ·exact .inl ⟨m,by omega,he⟩
    ·have:=(M5 f r (roundsI f r m) f.blocks.length).2 he;exact .inr (Nat.lt_of_le_of_lt h this)
 rcases key (f.blocks.length+1)with⟨j,hj,he⟩|h
 ·have hst:∀k,roundsI f r (j+k)=roundsI f r j:=by
   intro k;induction k with
   |zero=>rfl
   |succ k ih=>
    show foldI f r (roundsI f r (j+k)) f.blocks.length=_;rw[ih];exact he
  have h1:Il f r=roundsI f r j:=by
   unfold Il;rw[show f.blocks.length+1=j+(f.blocks.length+1 - j)by omega];exact hst _
  rw[h1];exact he
 ·have:=List.count_le_length (a:=true) (l:=roundsI f r (f.blocks.length+1));rw[H6]at this;omega
theorem L1(f:Func)(r:Int)(k:Nat):CG f (Il f r) (k:Int)=true↔LOut f k r:=
 ⟨fun h=>J0 (O0 f r _) h,fun h=>Xq (IR f r) (Pj f r) h⟩
theorem PP(f:Func)(S:Int→Bool)(b i:Nat)(hS:∀r,S r=true↔LOut f b r)(r:Int):D2 f b i r=inS ((BW f b).drop i) S r:=by
 unfold D2;have e:CG f (Il f r) (b:Int)=S r:=by
  cases h1:CG f (Il f r) (b:Int) <;> cases h2:S r
  ·rfl
  ·have:=(L1 f r b).2 ((hS r).1 h2);rw[h1]at this;cases this
  ·have:=(hS r).2 ((L1 f r b).1 h1);rw[h2]at this;cases this
  ·rfl
 rw[e];exact Pp r _ S
def GI(x:Int):List Int→List Int
 | []=>[x]
 |a::l=>if a > x then a::GI x l else x::a::l
theorem Og{A B:List Int}{x:Int}{q:Nat}(h:A.length=q):(A++x::B).getD q 0=x:=by
 rw[List.getD_eq_getElem?_getD,List.getElem?_append_right (by omega)];simp[h]
theorem YK{A B:List Int}{a x:Int}{q:Nat}(h:A.length=q):swapL (A++a::x::B) q=A++x::a::B:=by
 unfold swapL;have h1:(A++a::x::B).getD q 0=a:=Og h;have h2:(A++a::x::B).getD (q+1) 0=x:=by
  rw[show A++a::x::B=(A++[a])++x::B by simp];exact Og (by simp[h])
 rw[h1,h2];subst h;simp[List.set_append]
theorem V0(x:Int):∀(R B:List Int),K0 R.length (R.reverse++x::B)=(GI x R).reverse++B
 | [],B=>by simp[K0,GI]
 |a::R,B=>by
  have hl:R.reverse.length=R.length:=List.length_reverse;have e:(a::R).reverse++x::B=R.reverse++a::x::B:=by simp
  rw[e,List.length_cons,K0];have h1:(R.reverse++a::x::B).getD R.length 0=a:=Og hl;have h2:(R.reverse++a::x::B).getD (R.length+1) 0=x:=by
   rw[show R.reverse++a::x::B=(R.reverse++[a])++x::B by simp];exact Og (by simp)
  rw[h1,h2,YK hl];unfold GI;by_cases hax:a > x
  ·rw[if_pos hax,if_pos hax,V0 x R (a::B)];simp
  ·rw[if_neg hax,if_neg hax];simp
theorem O5(l:List Int)(x:Int):Gn (l++[x])=(GI x l.reverse).reverse:=by
 have h:=V0 x l.reverse [];rw[List.reverse_reverse,List.length_reverse,List.append_nil]at h;unfold Gn;simpa using h
theorem JC{x y:Int}:∀{l:List Int},y∈GI x l↔y=x∨y∈l
 | []=>by simp[GI]
 |a::l=>by
  unfold GI;split
  ·rw[List.mem_cons,JC (l:=l),List.mem_cons];constructor
   ·rintro(h|h|h) <;> simp[h]
   ·rintro(h|h|h) <;> simp[h]
  ·rw[List.mem_cons]
theorem LF{x:Int}:∀{l:List Int},l.Pairwise (fun a b=>b < a)→x∉l→(GI x l).Pairwise fun a b=>b < a
 | [],_,_=>by simp[GI]
 |a::l,h,hx=>by
  rw[List.pairwise_cons]at h;simp only[List.mem_cons,not_or]at hx;unfold GI;split
  ·rename_i hax;refine List.pairwise_cons.2 ⟨fun y hy=>?_,LF h.2 hx.2⟩;rcases JC.1 hy with rfl|hy
   ·exact hax
   ·exact h.1 y hy
  ·rename_i hax;refine List.pairwise_cons.2 ⟨fun y hy=>?_,List.pairwise_cons.2 h⟩;rcases List.mem_cons.1 hy with rfl|hy
   ·omega
   ·have:=h.1 y hy;omega
theorem ZA{l:List Int}{x:Int}(h:Asc l):Asc (LG l x)∧∀y,y∈LG l x↔y=x∨y∈l:=by
 unfold LG;split
 ·rename_i hc;have hm:x∈l:=by simpa using hc
  refine⟨h,fun y=>⟨fun hy=>.inr hy,?_⟩⟩;rintro(rfl|hy)
  ·exact hm
  ·exact hy
 ·rename_i hc;have hm:x∉l:=by simpa using hc
  rw[O5];refine⟨?_,fun y=>by rw[List.mem_reverse,JC,List.mem_reverse]⟩;unfold Asc at *;rw[List.pairwise_reverse];exact LF (by rw[List.pairwise_reverse];exact h) (by rw[List.mem_reverse];exact hm)
theorem MQ(l:List Int):Asc (Dn l)∧∀y,y∈Dn l↔y∈l:=by
 have key:∀(l out:List Int),Asc out→Asc (l.foldl LG out)∧∀y,y∈l.foldl LG out↔y∈out∨y∈l:=by
  intro l;induction l with
  |nil=>intro out h;exact⟨h,fun y=>by simp⟩
  |cons x l ih=>
   intro out h;obtain⟨h1,h2⟩:=ZA (x:=x) h;obtain⟨h3,h4⟩:=ih _ h1;refine⟨h3,fun y=>?_⟩;rw[List.foldl_cons,h4 y,h2 y,List.mem_cons];constructor
   ·rintro((h|h)|h) <;> simp[h]
   ·rintro(h|h|h) <;> simp[h]
 obtain⟨h1,h2⟩:=key l [] List.Pairwise.nil;exact⟨h1,fun y=>by unfold Dn;rw[h2 y];simp⟩
theorem Pm(f:Func):Asc (Bg f):=(MQ _).1
theorem DL{f:Func}{r:Int}:r∈Bg f↔∃b∈f.blocks,∃x∈b.ins,r∈readsC x:=by
 unfold Bg;rw[(MQ _).2 r];unfold B3;simp only[List.mem_flatMap]
end Mu
end
section
namespace Mu
open Go Go.RowKit Go.Proofs Go.Maps
instance:AG Tryz.prog 219 false 1:=⟨by kernel_rfl⟩
instance:SZ Tryz.prog 219 1:=⟨by kernel_rfl⟩
instance:ES Tryz.prog 219 1:=⟨by kernel_rfl⟩
instance:SL Tryz.prog 219:=⟨by kernel_rfl⟩
instance:RT Tryz.prog 219 218 1 8:=⟨by kernel_rfl⟩
instance:AG Tryz.prog 218 false 1:=⟨by kernel_rfl⟩
instance:SZ Tryz.prog 218 1:=⟨by kernel_rfl⟩
instance:ZC Tryz.prog 218 [.map none]:=⟨by kernel_rfl⟩
theorem X4{i:Nat}{K:St→Prop}{Q:Exit→St→Prop}{s:St}(h:Q (.exit i) s):JK K Q (.exit i) s:=h
theorem U3{id:Nat}{Q:Exit→St→Prop}{s:St}(h:Q .normal s):I5 id Q (.exit id) s:=by simp[I5,h]
theorem Aai{id:Nat}{Q:Exit→St→Prop}{s:St}(h:Q .normal s):I5 id Q .normal s:=h
theorem Aqa:E2 Tryz.prog 219=some (218,.map none,8):=by kernel_rfl
theorem VJ:Tryz.prog.underlying 218=some (.map 3 3):=by kernel_rfl
theorem Gy(l:List Int):(Dn l).length≤l.length:=by
 have key:∀(l acc:List Int),(l.foldl LG acc).length≤acc.length+l.length:=by
  intro l;induction l with
  |nil=>intro acc;simp
  |cons x l ih=>
   intro acc;have:=ih (LG acc x);have h2:(LG acc x).length≤acc.length+1:=by
    unfold LG;split
    ·omega
    ·rw[KZ];simp
   simp only[List.foldl_cons,List.length_cons];omega
 simpa[Dn]using key l []
theorem NS(f:Func)(ho:okFunc f)(hT:(B3 f).length≤2097152):RegsR (Bg f):=by
 refine⟨Pm f,fun x hx=>?_,?_⟩
 ·obtain⟨b,h1,y,h2,h3⟩:=DL.1 hx;exact Ep ((ho.blocks b h1).ins y h2) x h3
 ·have:=Gy (B3 f);unfold Bg;omega
def Hu(ms:List Nat)(n:Nat):List AV:=ms.map DQ++List.replicate (n - ms.length) (.lit (.map none))
theorem UW{ms:List Nat}{n b m:Nat}(hb:ms.length=b)(hn:b < n):(Hu ms n).take b++[DQ m]++(Hu ms n).drop (b+1)=Hu (ms++[m]) n:=by
 unfold Hu;have h1:(ms.map DQ).length=b:=by simp[hb]
 rw[List.take_append_of_le_length (by omega),List.take_of_length_le (by omega),List.drop_append,List.drop_eq_nil_of_le (by simp;omega),List.nil_append,h1,List.drop_replicate,List.map_append,List.length_append,List.append_assoc,List.append_assoc];congr 3;simp;omega
theorem UX{ms:List Nat}{n:Nat}(h:ms.length≤n):(Hu ms n).length=n:=by
 unfold Hu;simp;omega
theorem RW{ms:List Nat}{n:Nat}(h:ms.length=n):Hu ms n=ms.map DQ:=by
 unfold Hu;rw[h];simp
def JD(l:List Nat):List Int:=l.map fun k:Nat=>(k:Int)
theorem EX(l:List Nat):(JD l).length=l.length:=by simp[JD]
theorem IS(l:List Nat)(b:Nat):JD (l++[b])=JD l++[(b:Int)]:=by simp[JD]
theorem Ak2{a b c:Nat}(hb:b≤2097152)(hc:c≤2097152)(h:a≤b * c):a≤4398046511104:=Nat.le_trans h (Nat.le_trans (Nat.mul_le_mul hb hc) (by decide))
theorem Acg(f:Func)(ho:okFunc f)(hs:smallF f)(hT:(B3 f).length≤2097152):Fn Tryz.prog 168 [.agg (Ak f)] (.bs Aa6 ((List.range f.blocks.length).map (MW f))):=by
 have hbl:=hs.blocks;have hRR:=NS f ho hT;have hLl:(Bg f).length≤2097152:=Nat.le_trans (Gy _) hT;have hLr:∀b∈f.blocks,∀x∈b.ins,∀r∈readsC x,r∈Bg f:=fun b hb x hx r hr=>DL.2 ⟨b,hb,x,hx,hr⟩
 have hmk:8 * f.blocks.length≤281474976710656:=by omega
 have hmx:f.blocks.length≤maxLen:=by unfold maxLen;omega
 refine FK Tryz.func168 rfl (by kernel_rfl) rfl Tryz.ntmps168 fun C hC hrd=>?_
 refine nS ?_;refine Ac fun K1 h1=>?_
 refine rR ?_;refine h1 _ ?_;refine nT ?_;refine Bv 1 rfl rfl rfl (fun g=>(.any::.lit (.pointer (some ⟨g,0,none⟩))::A80 (A20 [.any]))) (fun g=>(by(repeat(first|exact OpnB.nil|refine OpnB.ptr ?_|refine OpnB.any ?_|refine OpnB.keep rfl ?_)))) fun g1=>?_
 refine Ac fun K2 h2=>?_
 (refine Awp.region ?_;(repeat(first|refine sQ ?_|refine AO ?_|refine B6 ?_)))
 refine Ao rfl (Yw rfl Aqa rfl rfl hmk hmx fun O=>?_);refine sNt ?_
 (repeat(first|refine sQ ?_|refine AO ?_|refine B6 ?_))
 refine Ar ?_;refine h2 _ ?_;refine nT ?_;refine As ⟨(.any::.lit (.pointer (some ⟨g1,0,none⟩))::.any::.lit (.slice (some ⟨O,0,none⟩) f.blocks.length f.blocks.length)::A80 (A10 (A9 []))),[.res (Bq []),.res (Bn g1 (Ak f)),.res (Bn O (List.replicate f.blocks.length (.lit (.map none))))]⟩ (Ce) ?_;refine Ac fun K3 h3=>?_
 suffices hM3:∀s':St,St.le C s' ⟨(.any::.lit (.pointer (some ⟨g1,0,none⟩))::.any::.lit (.slice (some ⟨O,0,none⟩) f.blocks.length f.blocks.length)::.own 3 0::.bs tInt.slice (I2 f f.blocks.length)::A80 (A10 (A7 []))),[.res (Bq []),.res (Bn g1 (Ak f)),.res (Bn O (List.replicate f.blocks.length (.lit (.map none)))),.row 0 3 tInt []]⟩→K3 s' by
  (refine Yn 0 (by kernel_rfl) (by kernel_rfl) ?_;refine FD ?_;(refine Aw [0,4] (tC ?_ (tC ?_ Ah));(refine oQ ?_;(refine Aw [1,4] (tC ?_ (tC ?_ Ah));(refine oQ ?_;(refine Aw [2,4] (tC ?_ (tC ?_ Ah));(refine oQ ?_;(refine Aw [3,4] (tC ?_ (tC ?_ Ah));((refine Db (T:=tInt) (m:=1) (e:=3) rfl rfl (by decide) rfl rfl hmk hmx ?_;refine tNt ?_);(refine Aw [4] (tC ?_ Ah);(refine oQ ?_;(refine Aw [5] (tC ?_ Ah);(refine oQ ?_ (Av.call rfl (Cb f ho hs) rfl rfl rfl);(refine Aw [6] (tC ?_ Ah);(refine oQ ?_;(refine Aw [7] (tC ?_ Ah);(refine oQ ?_;(exact DJ (hM3 _ (Ce))))))))))));(refine oQ ?_;(refine Aw [3,5] (tC ?_ (tC ?_ Ah));((refine Db (T:=tInt) (m:=1) (e:=3) rfl rfl (by decide) rfl rfl hmk hmx ?_;refine tNt ?_);(refine Aw [5] (tC ?_ Ah);(refine oQ ?_ (Av.call rfl (Cb f ho hs) rfl rfl rfl);(refine Aw [6] (tC ?_ Ah);(refine oQ ?_;(refine Aw [7] (tC ?_ Ah);(refine oQ ?_;(exact DJ (hM3 _ (Ce))))))))));(refine oQ ?_ (Av.call rfl (Cb f ho hs) rfl rfl rfl);(refine Aw [3] (tC ?_ Ah);((refine Db (T:=tInt) (m:=1) (e:=3) rfl rfl (by decide) rfl rfl hmk hmx ?_;refine tNt ?_);(refine Aw [6] (tC ?_ Ah);(refine oQ ?_;(refine Aw [7] (tC ?_ Ah);(refine oQ ?_;(exact DJ (hM3 _ (Ce))))))))))))));(refine oQ ?_;(refine Aw [2,5] (tC ?_ (tC ?_ Ah));(refine oQ ?_;(refine Aw [3,5] (tC ?_ (tC ?_ Ah));((refine Db (T:=tInt) (m:=1) (e:=3) rfl rfl (by decide) rfl rfl hmk hmx ?_;refine tNt ?_);(refine Aw [5] (tC ?_ Ah);(refine oQ ?_ (Av.call rfl (Cb f ho hs) rfl rfl rfl);(refine Aw [6] (tC ?_ Ah);(refine oQ ?_;(refine Aw [7] (tC ?_ Ah);(refine oQ ?_;(exact DJ (hM3 _ (Ce))))))))));(refine oQ ?_ (Av.call rfl (Cb f ho hs) rfl rfl rfl);(refine Aw [3] (tC ?_ Ah);((refine Db (T:=tInt) (m:=1) (e:=3) rfl rfl (by decide) rfl rfl hmk hmx ?_;refine tNt ?_);(refine Aw [6] (tC ?_ Ah);(refine oQ ?_;(refine Aw [7] (tC ?_ Ah);(refine oQ ?_;(exact DJ (hM3 _ (Ce))))))))))));(refine oQ ?_ (Av.call rfl (Cb f ho hs) rfl rfl rfl);(refine Aw [2] (tC ?_ Ah);(refine oQ ?_;(refine Aw [3] (tC ?_ Ah);((refine Db (T:=tInt) (m:=1) (e:=3) rfl rfl (by decide) rfl rfl hmk hmx ?_;refine tNt ?_);(refine Aw [6] (tC ?_ Ah);(refine oQ ?_;(refine Aw [7] (tC ?_ Ah);(refine oQ ?_;(exact DJ (hM3 _ (Ce))))))))))))))));(refine oQ ?_;(refine Aw [1,5] (tC ?_ (tC ?_ Ah));(refine oQ ?_;(refine Aw [2,5] (tC ?_ (tC ?_ Ah));(refine oQ ?_;(refine Aw [3,5] (tC ?_ (tC ?_ Ah));((refine Db (T:=tInt) (m:=1) (e:=3) rfl rfl (by decide) rfl rfl hmk hmx ?_;refine tNt ?_);(refine Aw [5] (tC ?_ Ah);(refine oQ ?_ (Av.call rfl (Cb f ho hs) rfl rfl rfl);(refine Aw [6] (tC ?_ Ah);(refine oQ ?_;(refine Aw [7] (tC ?_ Ah);(refine oQ ?_;(exact DJ (hM3 _ (Ce))))))))));(refine oQ ?_ (Av.call rfl (Cb f ho hs) rfl rfl rfl);(refine Aw [3] (tC ?_ Ah);((refine Db (T:=tInt) (m:=1) (e:=3) rfl rfl (by decide) rfl rfl hmk hmx ?_;refine tNt ?_);(refine Aw [6] (tC ?_ Ah);(refine oQ ?_;(refine Aw [7] (tC ?_ Ah);(refine oQ ?_;(exact DJ (hM3 _ (Ce))))))))))));(refine oQ ?_ (Av.call rfl (Cb f ho hs) rfl rfl rfl);(refine Aw [2] (tC ?_ Ah);(refine oQ ?_;(refine Aw [3] (tC ?_ Ah);((refine Db (T:=tInt) (m:=1) (e:=3) rfl rfl (by decide) rfl rfl hmk hmx ?_;refine tNt ?_);(refine Aw [6] (tC ?_ Ah);(refine oQ ?_;(refine Aw [7] (tC ?_ Ah);(refine oQ ?_;(exact DJ (hM3 _ (Ce))))))))))))));(refine oQ ?_ (Av.call rfl (Cb f ho hs) rfl rfl rfl);(refine Aw [1] (tC ?_ Ah);(refine oQ ?_;(refine Aw [2] (tC ?_ Ah);(refine oQ ?_;(refine Aw [3] (tC ?_ Ah);((refine Db (T:=tInt) (m:=1) (e:=3) rfl rfl (by decide) rfl rfl hmk hmx ?_;refine tNt ?_);(refine Aw [6] (tC ?_ Ah);(refine oQ ?_;(refine Aw [7] (tC ?_ Ah);(refine oQ ?_;(exact DJ (hM3 _ (Ce))))))))))))))))));(refine oQ ?_;(refine Aw [0,5] (tC ?_ (tC ?_ Ah));(refine oQ ?_;(refine Aw [1,5] (tC ?_ (tC ?_ Ah));(refine oQ ?_;(refine Aw [2,5] (tC ?_ (tC ?_ Ah));(refine oQ ?_;(refine Aw [3,5] (tC ?_ (tC ?_ Ah));((refine Db (T:=tInt) (m:=1) (e:=3) rfl rfl (by decide) rfl rfl hmk hmx ?_;refine tNt ?_);(refine Aw [5] (tC ?_ Ah);(refine oQ ?_ (Av.call rfl (Cb f ho hs) rfl rfl rfl);(refine Aw [6] (tC ?_ Ah);(refine oQ ?_;(refine Aw [7] (tC ?_ Ah);(refine oQ ?_;(exact DJ (hM3 _ (Ce))))))))));(refine oQ ?_ (Av.call rfl (Cb f ho hs) rfl rfl rfl);(refine Aw [3] (tC ?_ Ah);((refine Db (T:=tInt) (m:=1) (e:=3) rfl rfl (by decide) rfl rfl hmk hmx ?_;refine tNt ?_);(refine Aw [6] (tC ?_ Ah);(refine oQ ?_;(refine Aw [7] (tC ?_ Ah);(refine oQ ?_;(exact DJ (hM3 _ (Ce))))))))))));(refine oQ ?_ (Av.call rfl (Cb f ho hs) rfl rfl rfl);(refine Aw [2] (tC ?_ Ah);(refine oQ ?_;(refine Aw [3] (tC ?_ Ah);((refine Db (T:=tInt) (m:=1) (e:=3) rfl rfl (by decide) rfl rfl hmk hmx ?_;refine tNt ?_);(refine Aw [6] (tC ?_ Ah);(refine oQ ?_;(refine Aw [7] (tC ?_ Ah);(refine oQ ?_;(exact DJ (hM3 _ (Ce))))))))))))));(refine oQ ?_ (Av.call rfl (Cb f ho hs) rfl rfl rfl);(refine Aw [1] (tC ?_ Ah);(refine oQ ?_;(refine Aw [2] (tC ?_ Ah);(refine oQ ?_;(refine Aw [3] (tC ?_ Ah);((refine Db (T:=tInt) (m:=1) (e:=3) rfl rfl (by decide) rfl rfl hmk hmx ?_;refine tNt ?_);(refine Aw [6] (tC ?_ Ah);(refine oQ ?_;(refine Aw [7] (tC ?_ Ah);(refine oQ ?_;(exact DJ (hM3 _ (Ce))))))))))))))));(refine oQ ?_ (Av.call rfl (Cb f ho hs) rfl rfl rfl);(refine Aw [0] (tC ?_ Ah);(refine oQ ?_;(refine Aw [1] (tC ?_ Ah);(refine oQ ?_;(refine Aw [2] (tC ?_ Ah);(refine oQ ?_;(refine Aw [3] (tC ?_ Ah);((refine Db (T:=tInt) (m:=1) (e:=3) rfl rfl (by decide) rfl rfl hmk hmx ?_;refine tNt ?_);(refine Aw [6] (tC ?_ Ah);(refine oQ ?_;(refine Aw [7] (tC ?_ Ah);(refine oQ ?_;(exact DJ (hM3 _ (Ce))))))))))))))))))))
 intro s' hle
 ·refine h3 _ (As _ hle ?_);refine As _ (U5 (R:=mapsR [] []) (fun _ _=>⟨rfl,List.nodup_nil,fun i m S hm=>by simp at hm⟩) (fun g hg=>by cases hg) rfl) ?_;refine Ac fun K4 h4=>?_
  refine Ac fun K5 h5=>?_
  refine rR ?_;refine h5 _ ?_;refine nT ?_;refine Af ?_;refine Au (fun p:Nat×Nat×List Nat=>⟨(.any::.lit (.pointer (some ⟨g1,0,none⟩))::.any::.lit (.slice (some ⟨O,0,none⟩) f.blocks.length f.blocks.length)::.own 3 p.2.1::.bs tInt.slice (I2 f f.blocks.length)::A20 (.lit (.int .i64 (f.blocks.length:Int))::.lit (.int .i64 (p.1:Int))::A40 (A20 (A10 (A5 []))))),[.res (Bq []),.res (Bn g1 (Ak f)),.res (Bn O (Hu p.2.2 f.blocks.length)),.row p.2.1 3 tInt (JD (List.range p.1)),.res (mapsR p.2.2 (List.replicate p.1 fun _=>false))]⟩) (fun p=>p.1≤f.blocks.length∧p.2.2.length=p.1) (fun p=>f.blocks.length - p.1) (0,0,[]) ⟨Nat.zero_le _,rfl⟩ (Ce) ?_;rintro⟨b,ver,ms⟩ ⟨hbn,hms⟩;dsimp only at hbn hms⊢;refine Ac fun K7 h7=>?_
  refine rR ?_;refine h7 _ ?_;refine nT ?_;refine Ac fun K8 h8=>?_
  refine Ae rfl (fun hb9=>?_) (fun hb9=>?_)
  ·have hlt:b < f.blocks.length:=by simpa using hb9
   have hclen:b+ [DQ 0].length≤(Hu ms f.blocks.length).length:=by rw[UX (by omega)];exact hlt
   have hw:=Abi (k:=b) (by omega);have hn1:(JD (List.range b)).length+ [(b:Int)].length≤maxLen:=by rw[EX];simp[maxLen];omega
   have hn2:((JD (List.range b)).length+ [(b:Int)].length) * 8≤140737488355328:=by rw[EX];simp;omega
   refine Ag ?_;refine h8 _ ?_;refine nT ?_;refine Ac fun K10 h10=>?_
   refine Af ?_;refine Ac fun K11 h11=>?_
   refine rR ?_;refine h11 _ ?_;refine nT ?_;refine Ac fun K12 h12=>?_
   (refine Awp.region ?_;(repeat(first|refine sQ ?_|refine AO ?_|refine B6 ?_)))
   refine Ao rfl (QO rfl fun m=>?_);refine sNt ?_
   (repeat(first|refine sQ ?_|refine AO ?_|refine B6 ?_))
   refine Ao rfl (Mr (i:=2) (new:=[DQ m]) rfl rfl rfl (OC.one (One.lit rfl)) rfl rfl hclen ?_);refine sNt ?_;refine Ar ?_;rw[UW hms hlt];refine h12 _ ?_;refine nT ?_;refine As _ (U9 (i:=4) (j:=5) (by decide) rfl rfl) ?_;refine rR ?_;refine h10 _ ?_;refine nT ?_;refine rR ?_;refine athen_n ⟨(b+1,ver+1,ms++[m]),⟨by omega,by simp[hms]⟩,by dsimp only;omega,?_⟩;dsimp only;rw[List.range_succ,IS,List.replicate_succ'];exact Fb (Cut.cons (Cut.cons (Cut.cons (Cut.cons (Cut.cons (Cut.nil _))))))
  ·refine Aq ?_;have hbe:b=f.blocks.length:=by
    have:¬b < f.blocks.length:=by simpa using hb9
    omega
   subst hbe;refine h4 _ ?_;refine nT ?_;rw[RW hms];refine Ac fun K13 h13=>?_
   refine Af ?_;have hI0:AllI f (Bg f) (List.range f.blocks.length) (List.replicate f.blocks.length fun _=>false):=Vq fun b=>List.mem_range
   have hlk:=Adr (Bg f) (List.replicate f.blocks.length fun _=>false);rw[List.length_replicate]at hlk;have hlk2:=Ak2 hbl hLl hlk;refine Au (fun p:List Nat×Nat×List Nat×List (Int→Bool)=>⟨(.any::.lit (.pointer (some ⟨g1,0,none⟩))::.any::.lit (.slice (some ⟨O,0,none⟩) f.blocks.length f.blocks.length)::.own 3 p.2.1::.bs tInt.slice (I2 f f.blocks.length)::A80 (A10 (A7 []))),[.res (Bq p.1),.res (Bn g1 (Ak f)),.res (Bn O (ms.map DQ)),.row p.2.1 3 tInt (JD p.2.2.1),.res (mapsR ms p.2.2.2)]⟩) (fun p=>AllI f (Bg f) p.2.2.1 p.2.2.2∧2 * LC (Bg f) p.2.2.2+p.2.2.1.length≤10000000000000) (fun p=>2 * LC (Bg f) p.2.2.2+p.2.2.1.length) ([],ver,List.range f.blocks.length,List.replicate f.blocks.length fun _=>false) ⟨hI0,by dsimp only;rw[List.length_range];omega⟩ (Ce) ?_;rintro⟨ds,ver,wait,Ss⟩ ⟨hI,hmu⟩;dsimp only at hI hmu⊢;refine Ac fun K15 h15=>?_
   refine Ac fun K16 h16=>?_
   refine rR ?_;refine h16 _ ?_;refine nT ?_;refine Ae rfl (fun hb17=>?_) (fun hb17=>?_)
   ·have hne:wait≠[]:=fun e=>by subst e;simp[JD]at hb17
    obtain⟨w0,b,rfl⟩:∃w0 b,wait=w0++[b]:=⟨_,_,(List.dropLast_concat_getLast hne).symm⟩
    have hl:(JD (w0++[b])).length=w0.length+1:=by rw[EX];simp
    have hwl:w0.length≤10000000000000:=by simp at hmu;omega
    have hx0:(JD (w0++[b]))[(((JD (w0++[b])).length:Int) - 1).toNat]? =some (b:Int):=by
     rw[hl,IS,show(((w0.length+1:Nat):Int) - 1).toNat=(JD w0).length by rw[EX];omega];simp
    have hcut:AV.lit (.int .i64 (((JD (w0++[b])).length:Int) - 1))= .lit (.int .i64 (w0.length:Int)):=by
     rw[hl,show(((w0.length+1:Nat):Int) - 1)=(w0.length:Int)by omega]
    have hcl:w0.length≤(JD (w0++[b])).length:=by omega
    have htk:(JD (w0++[b])).take w0.length=JD w0:=by rw[IS,←EX w0];simp
    have hbn:b < f.blocks.length:=hI.lt b (by simp);obtain⟨m,hm⟩:∃m,ms[b]? =some m:=⟨_,List.getElem?_eq_getElem (by omega)⟩
    obtain⟨S,hS⟩:∃S,Ss[b]? =some S:=⟨_,List.getElem?_eq_getElem (by rw[hI.len];exact hbn)⟩
    obtain⟨bl,hblk⟩:∃bl,f.blocks[b]? =some bl:=⟨_,List.getElem?_eq_getElem hbn⟩
    have hat:at_ Ss b=S:=by unfold at_;rw[List.getD_eq_getElem?_getD,hS];rfl
    have hins:BW f b=bl.ins:=by unfold BW;rw[hblk]
    have hmem:=List.mem_of_getElem? hblk;have hsb:=hs.all bl hmem;have hob:=ho.blocks bl hmem;have hSs:Sub (Bg f) S:=by have:=hI.sub b;rwa [hat]at this
    have hmc:(ms.map DQ)[b]? =some (DQ m):=by rw[List.getElem?_map,hm];rfl
    refine Ag ?_;refine h15 _ ?_;refine nT ?_;refine Af ?_;refine Ac fun K18 h18=>?_
    refine rR ?_;refine h18 _ ?_;refine nT ?_;refine Ac fun K19 h19=>?_
    (refine Awp.region ?_;(repeat(first|refine sQ ?_|refine AO ?_|refine B6 ?_)))
    refine Ao rfl (Vt (i:=3) (m:=w0.length) rfl rfl rfl rfl ⟨.i64,hcut⟩ hcl ?_);refine sNt ?_
    (repeat(first|refine sQ ?_|refine AO ?_|refine B6 ?_))
    refine Ar ?_;rw[htk];refine h19 _ ?_;refine nT ?_;refine Ac fun K20 h20=>?_
    (refine Awp.region ?_;(repeat(first|refine sQ ?_|refine AO ?_|refine B6 ?_)))
    refine Ao rfl (QP (i:=4) rfl rfl (UP hm hS) (fun _=>rfl) rfl rfl fun mn=>?_);refine sNt ?_
    (repeat(first|(refine Ao rfl (Dt (new:=[_]) rfl rfl rfl (OC.one (One.lit rfl)) rfl (Nat.le_of_ble_eq_true rfl) ?_);refine sNt ?_)|refine sQ ?_|refine AO ?_|refine B6 ?_))
    refine Ar ?_;refine h20 _ ?_;refine nT ?_;refine Bv 6 rfl rfl rfl (fun g=>(.any::.lit (.pointer (some ⟨g1,0,none⟩))::.any::.lit (.slice (some ⟨O,0,none⟩) f.blocks.length f.blocks.length)::.own 3 (ver+1)::.bs tInt.slice (I2 f f.blocks.length)::.any::.lit (.int .i64 (b:Int))::.lit (.pointer (some ⟨g,0,none⟩))::A80 (A10 (A4 [])))) (fun g=>(by(repeat(first|exact OpnB.nil|refine OpnB.ptr ?_|refine OpnB.any ?_|refine OpnB.keep rfl ?_)))) fun gn=>?_
    refine QH 3 rfl rfl (fun v=>(.any::.lit (.pointer (some ⟨g1,0,none⟩))::.any::.lit (.slice (some ⟨O,0,none⟩) f.blocks.length f.blocks.length)::.lit v::.bs tInt.slice (I2 f f.blocks.length)::.any::.lit (.int .i64 (b:Int))::.lit (.pointer (some ⟨gn,0,none⟩))::A80 (A10 (A4 [])))) (fun v=>(by(repeat(first|exact Opn.nil|refine Opn.own ?_|refine Opn.any ?_|refine Opn.keep rfl ?_)))) fun vw=>?_
    refine Ac fun K21 h21=>?_
    refine Ac fun K22 h22=>?_
    (refine Awp.region ?_;(repeat(first|refine sQ ?_|refine AO ?_|refine B6 ?_)))
    refine Ao rfl (Co rfl (Kb bl.ins) (fun _=>rfl) rfl rfl fun p=>?_);refine sNt ?_
    (repeat(first|refine sQ ?_|refine AO ?_|refine B6 ?_))
    refine Ar ?_;refine h22 _ ?_;refine nT ?_;refine As ⟨(.any::.lit (.pointer (some ⟨g1,0,none⟩))::.any::.lit (.slice (some ⟨O,0,none⟩) f.blocks.length f.blocks.length)::.lit vw::.bs tInt.slice (I2 f f.blocks.length)::.any::.lit (.int .i64 (b:Int))::.lit (.pointer (some ⟨gn,0,none⟩))::A40 (A10 (A5 (.lit (bkF p)::A20 (A10 (A8 [])))))),[.res (Bq ds),.res (Bn g1 (Ak f)),.res (Bn O (ms.map DQ)),.res (rowR vw 3 tInt (JD w0)),.res (mapsR ms Ss),.res (G3 S mn),.res (Bn gn [DQ mn]),.res (bkR bl.ins p)]⟩ (Ce) ?_;refine Af ?_;obtain⟨sg,hsg⟩:∃sg:(Int→Bool)→List ABlk,sg=fun T=>[.dead,.res (Bn g1 (Ak f)),.res (Bn O (ms.map DQ)),.res (rowR vw 3 tInt (JD w0)),.res (mapsR ms Ss),.res (G3 T mn),.res (Bn gn [DQ mn]),.dead]:=⟨_,rfl⟩
    refine FN 7 0 (fun k=>sg (bkS bl.ins S k)) hrd rfl (by decide) rfl rfl rfl ?hdrop ?hd1 ?hd2 ?hd3 rfl (Acd _) (XX _) (QB (by kernel_rfl) fun w T h1 h2 h3=>I3 bl.ins hsb.ins p w T h1 h2 h3) ?hround ?hdone
    case hdrop=>
     rw[Oo,hsg];exact⟨Cut.dead (Cut.cons (Cut.cons (Cut.cons (Cut.cons (Cut.cons (Cut.cons (Cut.dead (Cut.nil _)))))))),fun b hb=>List.all_eq_true.1 (show bdH [.dead,.res (Bn g1 (Ak f)),.res (Bn O (ms.map DQ)),.res (rowR vw 3 tInt (JD w0)),.res (mapsR ms Ss),.res (G3 S mn),.res (Bn gn [DQ mn]),.dead]=true from rfl) b hb⟩
    case hd1=>rw[hsg];rfl
    case hd2=>intro k;rw[hsg];rfl
    case hd3=>intro k;rw[hsg];rfl
    case hround=>
     intro k hk C' hr';obtain⟨d,hd⟩:∃d,bl.ins[bl.ins.length - 1 - k]? =some d:=⟨_,List.getElem?_eq_getElem (by omega)⟩
     have hmd:=List.mem_of_getElem? hd;have hbk:bkE bl.ins k= [.lit (.int .i64 ((bl.ins.length - 1 - k:Nat):Int)),.agg (AL d)]:=by unfold bkE;rw[hd]
     have hsub:=RY hSs (hLr bl hmem) k;have hal:d.args.length≤2097152:=by have:=hsb.all d hmd;omega
     rw[hbk,hsg];refine Dr (t':=(.any::.lit (.pointer (some ⟨g1,0,none⟩))::.any::.lit (.slice (some ⟨O,0,none⟩) f.blocks.length f.blocks.length)::.lit vw::.bs tInt.slice (I2 f f.blocks.length)::.any::.lit (.int .i64 (b:Int))::.lit (.pointer (some ⟨gn,0,none⟩))::A40 (A10 (A5 (.lit (bkF p)::.lit (.int .i64 ((bl.ins.length - 1 - k:Nat):Int))::.agg (AL d)::A20 (A10 (A6 []))))))) rfl rfl ?_;refine rR ?_;refine athen_n ?_;intro C'' hr'';refine nT ?_;refine Af ?_
     (refine Awp.region ?_;(repeat(first|refine sQ ?_|refine AO ?_|refine B6 ?_)))
     refine Ao rfl (BR (i:=5) rfl rfl (Qk d _ (Bg f) mn (hob.ins d hmd) hal hRR hsub.inR (hLr bl hmem d hmd)) (fun _=>rfl) rfl rfl fun _=>?_);refine sNt ?_;refine Ar ?_;refine⟨rfl,?_⟩;rw[Tq hd hk];exact⟨Cut.cons (Cut.cons (Cut.cons (Cut.cons (Cut.cons (Cut.cons (Cut.cons (Cut.cons (Cut.nil _)))))))),fun b hb=>List.all_eq_true.1 (show bdH [.dead,.res (Bn g1 (Ak f)),.res (Bn O (ms.map DQ)),.res (rowR vw 3 tInt (JD w0)),.res (mapsR ms Ss),.res (G3 (Id d (bkS bl.ins S k)) mn),.res (Bn gn [DQ mn]),.dead]=true from rfl) b hb⟩
    case hdone=>
     intro D;have hbf:(I2 f f.blocks.length)[b]? =some (QV f b):=by
      unfold QV;rw[List.getD_eq_getElem?_getD,List.getElem?_eq_getElem (by rw[Ic];exact hbn)];rfl
     have hbe:=XZ f f.blocks.length _ (List.mem_of_getElem? hbf);have hNs:Sub (Bg f) (inS bl.ins S):=hSs.inS (hLr bl hmem);rw[Af6,hsg];refine h21 _ ?_;refine Dr (t':=(.any::.lit (.pointer (some ⟨g1,0,none⟩))::.any::.lit (.slice (some ⟨O,0,none⟩) f.blocks.length f.blocks.length)::.lit vw::.bs tInt.slice (I2 f f.blocks.length)::.any::.lit (.int .i64 (b:Int))::.lit (.pointer (some ⟨gn,0,none⟩))::A40 (A10 (A5 (.lit (bkF p)::A20 (A10 (A8 []))))))) (h':=[.res (Bq (D::ds)),.res (Bn g1 (Ak f)),.res (Bn O (ms.map DQ)),.res (rowR vw 3 tInt (JD w0)),.res (mapsR ms Ss),.res (G3 (inS bl.ins S) mn),.res (Bn gn [DQ mn]),.dead]) rfl rfl ?_;refine As _ (Ig 3 (ver:=ver+1) (t':=(.any::.lit (.pointer (some ⟨g1,0,none⟩))::.any::.lit (.slice (some ⟨O,0,none⟩) f.blocks.length f.blocks.length)::.own 3 (ver+1)::.bs tInt.slice (I2 f f.blocks.length)::.any::.lit (.int .i64 (b:Int))::.lit (.pointer (some ⟨gn,0,none⟩))::A80 (A10 (A4 [])))) rfl rfl (by(try simp only[AJ,List.set_cons_zero,List.set_cons_succ]);(repeat(first|exact Cls.nil|refine Cls.own ?_|refine Cls.any ?_|refine Cls.keep rfl ?_)))) ?_;refine Ac fun K30 h30=>?_
     refine rR ?_;refine h30 _ ?_;refine nT ?_;refine Af ?_;refine Au (fun p:Nat×Nat×List Nat×List (Int→Bool)=>⟨(.any::.lit (.pointer (some ⟨g1,0,none⟩))::.any::.lit (.slice (some ⟨O,0,none⟩) f.blocks.length f.blocks.length)::.own 3 p.2.1::.bs tInt.slice (I2 f f.blocks.length)::A2 (.lit (.pointer (some ⟨gn,0,none⟩))::A40 (A20 (A4 (.bs tInt (QV f b)::.lit (.int .i64 ((QV f b).length:Int))::.lit (.int .i64 (p.1:Int))::A20 (A7 [])))))),[.res (Bq (D::ds)),.res (Bn g1 (Ak f)),.res (Bn O (ms.map DQ)),.row p.2.1 3 tInt (JD p.2.2.1),.res (mapsR ms p.2.2.2),.res (G3 (inS bl.ins S) mn),.res (Bn gn [DQ mn]),.dead]⟩) (fun p=>p.1≤(QV f b).length∧AllJ f (Bg f) b w0 Ss ((QV f b).take p.1) p.2.2.1 p.2.2.2) (fun p=>(QV f b).length - p.1) (0,ver+1,w0,Ss) ⟨Nat.zero_le _,hI.split⟩ (Ce) ?_;rintro⟨i,v2,wt,Ts⟩ ⟨hil,hJ⟩;dsimp only at hil hJ⊢;have hless:=hJ.less;have hwt:wt.length≤10000000000000:=by simp at hmu;omega
     refine Ac fun K31 h31=>?_
     refine rR ?_;refine h31 _ ?_;refine nT ?_;refine Ac fun K32 h32=>?_
     refine Ae rfl (fun hb33=>?_) (fun hb33=>?_)
     ·have hlt:i < (QV f b).length:=by simpa using hb33
      obtain⟨x,hxb⟩:∃x,(QV f b)[i]? =some x:=⟨_,List.getElem?_eq_getElem hlt⟩
      obtain⟨k,hek,rfl⟩:=(Tu hbn x).1 (List.mem_of_getElem? hxb);have hkn:=(IY hek).1;obtain⟨mk,hmk2⟩:∃mk,ms[k]? =some mk:=⟨_,List.getElem?_eq_getElem (by omega)⟩
      obtain⟨T,hTk⟩:∃T,Ts[k]? =some T:=⟨_,List.getElem?_eq_getElem (by rw[hJ.len];exact hkn)⟩
      have hmck:(ms.map DQ)[k]? =some (DQ mk):=by rw[List.getElem?_map,hmk2];rfl
      have hatT:at_ Ts k=T:=by unfold at_;rw[List.getD_eq_getElem?_getD,hTk];rfl
      have hTs:Sub (Bg f) T:=by have:=hJ.sub k;rwa [hatT]at this
      have hUs:Sub (Bg f) (uni T (inS bl.ins S)):=fun r hr=>by
       unfold uni at hr;rw[Bool.or_eq_true]at hr;rcases hr with hr|hr
       ·exact hTs r hr
       ·exact hNs r hr
      have hTk2:(Ts.set k (uni T (inS bl.ins S)))[k]? =some (uni T (inS bl.ins S)):=List.getElem?_set_self (by rw[hJ.len];exact hkn);have hstep:=hJ.step hI hek hTk (by rw[hins];exact hLr bl hmem);dsimp only at hstep;rw[hins,hat]at hstep;have htk2:(QV f b).take (i+1)=(QV f b).take i++[(k:Int)]:=by rw[List.take_add_one,hxb];rfl
      rw[←htk2]at hstep;have hw:=Abi (k:=k) (by omega);have hn1:(JD wt).length+ [(k:Int)].length≤maxLen:=by rw[EX];simp[maxLen];omega
      have hn2:((JD wt).length+ [(k:Int)].length) * 8≤140737488355328:=by rw[EX];simp;omega
      refine Ag ?_;refine h32 _ ?_;refine nT ?_;refine Ac fun K34 h34=>?_
      refine Af ?_;refine Ac fun K35 h35=>?_
      refine rR ?_;refine h35 _ ?_;refine nT ?_;refine Ac fun K36 h36=>?_
      (refine Awp.region ?_;(repeat(first|refine sQ ?_ (JO (i:=4) rfl VJ rfl rfl (GF hmk2 hTk) hRR hTs.inR)|refine sQ ?_|refine AO ?_|refine B6 ?_));refine Ar ?_)
      refine h36 _ ?_;refine nT ?_;refine Ac fun K37 h37=>?_
      (refine LU 5 (hh:=?_);(repeat(first|refine qQ ?_|refine Km ?_));refine FD ?_;(repeat(first|(refine Ao rfl (OI (i:=4) (j:=5) (by decide) rfl rfl rfl (UN hmk2 hTk hRR hTs.inR hNs.inR) (fun _=>rfl) rfl rfl fun _=>?_);refine sNt ?_)|refine sQ ?_|refine AO ?_|refine B6 ?_));refine Ar ?_)
      refine h37 _ ?_;refine nT ?_;refine Ac fun K38 h38=>?_
      rcases hc:decide ((((Bg f).filter (uni T (inS bl.ins S))).length:Int) > (((Bg f).filter T).length:Int))with _|_
      ·rw[if_neg (by simpa using hc)]at hstep
       (refine Awp.region ?_;(repeat(first|refine sQ ?_ (JO (i:=4) rfl VJ rfl rfl (GF hmk2 hTk2) hRR hUs.inR)|refine sQ ?_|refine AO ?_|refine B6 ?_));refine Ar ?_)
       refine h38 _ ?_;refine nT ?_;refine Ae rfl (fun hb39=>by cases hb39) (fun hb39=>?_);refine Ag ?_;refine h34 _ ?_;refine nT ?_;refine rR ?_;refine athen_n ⟨(i+1,v2,wt,Ts.set k (uni T (inS bl.ins S))),⟨by omega,hstep⟩,by dsimp only;omega,?_⟩;exact Ce
      ·rw[if_pos (by simpa using hc)]at hstep
       (refine Awp.region ?_;(repeat(first|refine sQ ?_ (JO (i:=4) rfl VJ rfl rfl (GF hmk2 hTk2) hRR hUs.inR)|refine sQ ?_|refine AO ?_|refine B6 ?_));refine Ar ?_)
       refine h38 _ ?_;refine nT ?_;refine Ae rfl (fun hb39=>?_) (fun hb39=>by cases hb39);refine rR ?_;refine h34 _ ?_;refine nT ?_;refine rR ?_;refine athen_n ⟨(i+1,v2+1,wt++[k],Ts.set k (uni T (inS bl.ins S))),⟨by omega,hstep⟩,by dsimp only;omega,?_⟩;dsimp only;rw[IS];exact Ce
     ·refine Aq ?_;have hie:i=(QV f b).length:=by
       have:¬i < (QV f b).length:=by simpa using hb33
       omega
      subst hie;rw[List.take_length]at hJ;refine X4 (X4 ?_);refine U3 ?_;refine Aai ?_;refine athen_n ⟨(D::ds,v2,wt,Ts),⟨hJ.done_all hI,by dsimp only;simp at hmu;omega⟩,by dsimp only;simp;omega,?_⟩;dsimp only;exact Fb (Cut.cons (Cut.cons (Cut.cons (Cut.cons (Cut.cons (Cut.nil _))))))
   ·refine Aq ?_;have hw0:wait= []:=List.eq_nil_of_length_eq_zero (by
     have:¬(0:Int) < ((JD wait).length:Int):=by simpa using hb17
     rw[EX]at this;omega)
    subst hw0;refine h13 _ ?_;refine nT ?_;have hend:=hI.end_;have hln:=hI.len;subst hend;refine As _ (R9 (i:=2) (j:=4) (by decide) rfl rfl) ?_;refine Ac fun K23 h23=>?_
    refine rR ?_;refine h23 _ ?_;refine nT ?_;refine Aj ?_;exact⟨.inr rfl,ds,rfl,rfl,Aar (i:=2) (p:=(O,ms)) rfl hln hmx⟩
instance:AG Tryz.prog 78 false 1:=⟨by kernel_rfl⟩
instance:SZ Tryz.prog 78 1:=⟨by kernel_rfl⟩
instance:ES Tryz.prog 78 1:=⟨by kernel_rfl⟩
instance:SL Tryz.prog 78:=⟨by kernel_rfl⟩
instance:RT Tryz.prog 78 22 1 24:=⟨by kernel_rfl⟩
instance:AG Tryz.prog 22 false 1:=⟨by kernel_rfl⟩
instance:SZ Tryz.prog 22 1:=⟨by kernel_rfl⟩
instance:ES Tryz.prog 22 1:=⟨by kernel_rfl⟩
instance:SL Tryz.prog 22:=⟨by kernel_rfl⟩
instance:RT Tryz.prog 22 3 1 8:=⟨by kernel_rfl⟩
instance:AG Tryz.prog 43 false 1:=⟨by kernel_rfl⟩
instance:SZ Tryz.prog 43 1:=⟨by kernel_rfl⟩
instance:ES Tryz.prog 43 2:=⟨by kernel_rfl⟩
instance:SL Tryz.prog 43:=⟨by kernel_rfl⟩
instance:RT Tryz.prog 43 48 2 40:=⟨by kernel_rfl⟩
instance:AG Tryz.prog 48 true 2:=⟨by kernel_rfl⟩
instance:SZ Tryz.prog 48 2:=⟨by kernel_rfl⟩
theorem MT(R:List Int)(ds:List Ins)(S:Int→Bool):F2 R ds S=(List.range (ds.length+1)).map fun i=>R.filter (inS (ds.drop i) S):=rfl
theorem Ace(f:Func)(b:Nat):F2 (Bg f) (BW f b) (MW f b)=BU f b:=by
 rw[MT];unfold BU Cg;refine List.map_congr_left fun i _=>?_
 congr 1;funext r;exact(PP f (MW f b) b i (fun r=>F3) r).symm
theorem Nf(f:Func)(b:Nat):(BU f b).length=(BW f b).length+1:=by simp[BU]
theorem Aae(f:Func):(Agd f).length=f.blocks.length:=by simp[Agd]
noncomputable def inL(f:Func)(b:Nat):List Int:=(Bg f).filter (inS (BW f b) (MW f b))
def atF(f:Func)(b:Int):List (List Int):=if 0≤b∧b < f.blocks.length then BU f b.toNat else []
theorem J9(f:Func)(b:Nat):(BU f b)[0]? =some (inL f b):=by
 rw[←Ace,MT,List.getElem?_map,List.getElem?_range (by omega)];rfl
theorem Nx{h:List ABlk}{α:Type}{T:Ty α}(hm:mkD h= []:=by rfl):Fin h (.lit (.slice none 0 0)) (.bs T []):=⟨hm,fun C S ψ w v hC H hv=>⟨S,fun _ h=>h,fun _ h=>.inl h,H.lt,by
 unfold AV.rel at hv⊢;rw[hv];exact T.slice_nilS _ _⟩⟩
theorem Af9(f:Func)(b:Int)(ho:okFunc f)(hs:smallF f)(hT:(B3 f).length≤2097152):Fn Tryz.prog 119 [.agg (Ak f),.lit (.int .i64 b)] (.bs tInt.slice (atF f b)):=by
 have hbl:=hs.blocks;have hRR:=NS f ho hT;have hLr:∀b∈f.blocks,∀x∈b.ins,∀r∈readsC x,r∈Bg f:=fun b hb x hx r hr=>DL.2 ⟨b,hb,x,hx,hr⟩
 refine Ax Tryz.func119 rfl (by kernel_rfl) rfl Tryz.ntmps119 fun C hC=>?_
 refine nS ?_;refine rRS ?_;refine Ac fun K2 h2=>?_
 refine Ac fun K3 h3=>?_
 rcases hd1:decide (b < 0)with _|_
 ·rcases hd2:decide (b≥(f.blocks.length:Int))with _|_
  ·have h0:0≤b:=by simpa using hd1
   have hlt:b.toNat < f.blocks.length:=by
    have:b < (f.blocks.length:Int):=by simpa using hd2
    omega
   obtain⟨bl,hblk⟩:∃bl,f.blocks[b.toNat]? =some bl:=⟨_,List.getElem?_eq_getElem hlt⟩
   have hmem:=List.mem_of_getElem? hblk;have hins:BW f b.toNat=bl.ins:=by unfold BW;rw[hblk]
   have hset:((List.range f.blocks.length).map (MW f))[b.toNat]? =some (MW f b.toNat):=by rw[List.getElem?_map,List.getElem?_range hlt];rfl
   have hres:atF f b=F2 (Bg f) bl.ins (MW f b.toNat):=by
    unfold atF;rw[if_pos ⟨h0,by omega⟩,←hins,Ace]
   refine rR ?_;refine h3 _ ?_;refine nT ?_;refine Ae rfl (fun hb4=>by cases hb4) (fun hb4=>?_);refine Ag ?_;refine h2 _ ?_;refine nT ?_;refine Ac fun K6 h6=>?_
   (refine LU 12 (hh:=?_);(repeat(first|refine qQ ?_ (Av.call rfl (Acg f ho hs hT) rfl rfl rfl)|refine qQ ?_ (Av.call rfl (Px bl (MW f b.toNat) (Bg f) (ho.blocks bl hmem) (hs.all bl hmem) hRR (NZ hLr _) (hLr bl hmem)) rfl rfl rfl)|refine qQ ?_|refine Km ?_));refine FD ?_;(repeat(first|refine sQ ?_ (Av.call rfl (Acg f ho hs hT) rfl rfl rfl)|refine sQ ?_ (Av.call rfl (Px bl (MW f b.toNat) (Bg f) (ho.blocks bl hmem) (hs.all bl hmem) hRR (NZ hLr _) (hLr bl hmem)) rfl rfl rfl)|refine sQ ?_|refine AO ?_|refine B6 ?_));refine Ar ?_)
   refine h6 _ ?_;refine nT ?_;refine Aj ?_;rw[hres];exact⟨.inr rfl,Fin.cl rfl⟩
  ·have hres:atF f b= []:=by
    have:(f.blocks.length:Int)≤b:=by simpa using hd2
    unfold atF;rw[if_neg (by omega)]
   refine rR ?_;refine h3 _ ?_;refine nT ?_;refine Ae rfl (fun hb4=>?_) (fun hb4=>by cases hb4);refine rRS ?_;refine Aj ?_;rw[hres];exact⟨.inr rfl,Nx⟩
 ·have hres:atF f b= []:=by
   have:b < 0:=by simpa using hd1
   unfold atF;rw[if_neg (by omega)]
  refine rR ?_;refine h3 _ ?_;refine nT ?_;refine Ae rfl (fun hb4=>?_) (fun hb4=>by cases hb4);refine rRS ?_;refine Aj ?_;rw[hres];exact⟨.inr rfl,Nx⟩
end Mu
end
section
namespace Mu
open Go Go.RowKit Go.Proofs Go.Shelf
attribute [local go_sem] Oper.semAt_some
def Uh{α:Type}(g:Nat→List α)(b:Nat):Nat:=((List.range b).flatMap g).length
theorem Lu{α:Type}(g:Nat→List α)(b:Nat):Uh g (b+1)=Uh g b+(g b).length:=by
 unfold Uh;rw[List.range_succ,List.flatMap_append,List.length_append];simp
theorem Ww{α:Type}(g:Nat→List α)(b k:Nat):Uh g b≤Uh g (b+k):=by
 induction k with
 |zero=>exact Nat.le_refl _
 |succ k ih=>rw[←Nat.add_assoc,Lu];omega
theorem Wx{α:Type}(g:Nat→List α):∀(n b i:Nat),b < n→i < (g b).length→((List.range n).flatMap g)[Uh g b+i]? =(g b)[i]?
 |0,b,i,h,_=>by omega
 |n+1,b,i,h,hi=>by
  rw[List.range_succ,List.flatMap_append];by_cases hb:b=n
  ·subst hb;rw[List.getElem?_append_right (by unfold Uh;omega)];unfold Uh;simp
  ·have h1:Uh g b+i < ((List.range n).flatMap g).length:=by
    have h2:=Ww g (b+1) (n - (b+1));rw[show b+1+(n - (b+1))=n by omega,Lu]at h2;unfold Uh at h2⊢;omega
   rw[List.getElem?_append_left h1];exact Wx g n b i (by omega) hi
def Fq(f:Func)(b:Nat):List (Ins×List Int):=(BW f b).zip ((BU f b).drop 1)
def stepsL(f:Func):List (Ins×List Int):=(List.range f.blocks.length).flatMap (Fq f)
theorem TR(f:Func)(b:Nat):(Fq f b).length=(BW f b).length:=by
 unfold Fq;rw[List.length_zip,List.length_drop,Nf];omega
theorem VR{f:Func}{b i:Nat}{x:Ins}{l:List Int}(hx:(BW f b)[i]? =some x)(hl:(BU f b)[i+1]? =some l):(Fq f b)[i]? =some (x,l):=by
 unfold Fq;rw[List.getElem?_zip_eq_some];refine⟨hx,?_⟩;rw[List.getElem?_drop,Nat.add_comm];exact hl
theorem OX{f:Func}{b i:Nat}{x:Ins}{l:List Int}(hb:b < f.blocks.length)(hx:(BW f b)[i]? =some x)(hl:(BU f b)[i+1]? =some l):(stepsL f)[Uh (Fq f) b+i]? =some (x,l):=by
 have h:=VR hx hl;unfold stepsL;rw[Wx (Fq f) _ b i hb (List.getElem?_eq_some_iff.1 h).1,h]
def stE(f:Func)(k:Nat):List AV:=match(stepsL f)[k]? with
 |some q=>[.agg (AL q.1),.bs tInt q.2]
 |none=>(A2 [])
theorem SF{f:Func}{k:Nat}{q:Ins×List Int}(h:(stepsL f)[k]? =some q):stE f k= [.agg (AL q.1),.bs tInt q.2]:=by unfold stE;rw[h]
theorem VV(f:Func)(k:Nat):AZ (stE f k)=true:=by
 unfold stE;split <;> rfl
theorem Q8(f:Func)(k:Nat):(stE f k).length=2:=by
 unfold stE;split <;> rfl
theorem YN(F:Fence)(n:Nat)(hF:F.fn 131)(hro:F.round=none)(cs:List Value)(w:World)(hcs:cs.length=4):
 CallsIn F n Tryz.prog 131 #[.agg cs.toArray] w fun e w'=>e= .returned (.func (.func 176) #[] #[.pointer (some ⟨w.heap.size,0,none⟩)])∧w'=w.alloc (.cells cs.toArray 45):=by
 match cs,hcs with
 | [a,b,c,d],_=>
  refine callsIn_of_wp Tryz.func131 rfl hF ?_ hro;simp only[Tryz.ntmps131,List.size_toArray,List.length_cons,List.length_nil,Nat.reduceAdd,Nat.reduceSub,Array.replicate_succ,Array.replicate_zero,List.push_toArray,List.append_toArray,List.nil_append,List.cons_append]
  gi_wp2
  go_ret
  exact⟨rfl,rfl⟩
def stF(p:Nat):Value:=.func (.func 176) #[] #[.pointer (some ⟨p,0,none⟩)]
theorem KY(f:Func):QE Tryz.prog 131 [.agg (Ak f)] (fun p=>Bn p (Ak f)) stF:=by
 refine⟨by kernel_rfl,fun w S vs hS hr=>?_⟩;obtain⟨v,rfl,hv⟩:=Aaa hr;obtain⟨cs,rfl,hc⟩:=H7 hv;have hl:cs.length=4:=by rw[AW hc];rfl
 refine((callsIn_wide (n:=4)).1 (YN Fence.wide 4 trivial rfl cs w hl)).mono ?_;rintro e w' ⟨rfl,rfl⟩;have hb:Below w.heap.size w (w.alloc (.cells cs.toArray 45)):=(Below.refl _ _).alloc (Nat.le_refl _) _;exact⟨_,rfl,⟨hb.os,hb.tape,hb.output,hb.size,fun k hk _=>hb.block k hk⟩,w.heap.size,rfl,⟨cs,45,heap_alloc_new w _,Al (Ext.grow [] ψ0 (fun k hk=>hb.block k (hS k hk)) fun _ h=>h) _ _ hc⟩,fun k hk=>by
  have hk:k=w.heap.size:=hk;subst hk;exact⟨.inr (Nat.le_refl _),by simp⟩⟩
theorem Jl(f:Func)(ho:okFunc f)(hs:smallF f)(hT:(B3 f).length≤2097152)(hi1:∀b∈f.blocks,b.ins.length+1≤2097152)(pb:Nat):
 Yh Tryz.prog 176 [.pointer (some ⟨pb,0,none⟩)] (Bn pb (Ak f)) (stE f) (stepsL f).length:=by
 have hbl:=hs.blocks;refine Ki Tryz.func176 rfl (by kernel_rfl) rfl Tryz.ntmps176 rfl fun C hrd ι l Jr hm hY q0=>?_
 simp only[List.map_cons,List.map_nil,List.length_cons,List.length_nil,Nat.reduceAdd,Nat.reduceSub,List.replicate_succ,List.replicate_zero,List.cons_append,List.nil_append];refine Ac fun K1 h1=>?_
 refine rR ?_;refine h1 _ ?_;refine nT ?_;refine Af ?_;refine Au (fun p:Nat×ι=>⟨(.lit (.func (.yield l) #[] #[])::.lit (.pointer (some ⟨pb,0,none⟩))::A7 (.lit (.int .i64 (f.blocks.length:Int))::.lit (.int .i64 (p.1:Int))::A20 (A8 []))),[.res (Jr (Uh (Fq f) p.1) p.2),.res (Bn pb (Ak f))]⟩) (fun p=>p.1≤f.blocks.length) (fun p=>f.blocks.length - p.1) (0,q0) (Nat.zero_le _) (Ce) ?_;rintro⟨b,q⟩ hbn;dsimp only at hbn⊢;refine Ac fun K3 h3=>?_
 refine rR ?_;refine h3 _ ?_;refine nT ?_;refine Ac fun K4 h4=>?_
 refine Ae rfl (fun hb5=>?_) (fun hb5=>?_)
 ·have hlt:b < f.blocks.length:=by simpa using hb5
  obtain⟨bl,hblk⟩:∃bl,f.blocks[b]? =some bl:=⟨_,List.getElem?_eq_getElem hlt⟩
  have hmem:=List.mem_of_getElem? hblk;have hins:BW f b=bl.ins:=by unfold BW;rw[hblk]
  have hil:=hi1 bl hmem;have hat:atF f (b:Int)=BU f b:=by
   unfold atF;rw[if_pos ⟨by omega,by omega⟩,Int.toNat_natCast]
  have hA:=Af9 f (b:Int) ho hs hT;rw[hat]at hA;have hsl:(Fq f b).length=bl.ins.length:=by rw[TR,hins]
  have hoff:=Lu (Fq f) b;rw[hsl]at hoff;generalize hk0:Uh (Fq f) b=k0 at hoff⊢;refine Ag ?_;refine h4 _ ?_;refine nT ?_;refine Ac fun K6 h6=>?_
  refine Af ?_;refine Ac fun K7 h7=>?_
  refine rR ?_;refine h7 _ ?_;refine nT ?_;refine Ac fun K8 h8=>?_
  (refine Awp.region ?_;(repeat(first|refine sQ ?_ (Av.call rfl hA rfl rfl rfl)|refine sQ ?_|refine AO ?_|refine B6 ?_));refine Ar ?_)
  refine h8 _ ?_;refine nT ?_;refine Ac fun K9 h9=>?_
  refine rR ?_;refine h9 _ ?_;refine nT ?_;refine Af ?_;refine Au (fun p:Nat×ι=>⟨(.lit (.func (.yield l) #[] #[])::.lit (.pointer (some ⟨pb,0,none⟩))::.any::.lit (.int .i64 (b:Int))::.bs tInt.slice (BU f b)::A4 (.lit (.int .i64 (f.blocks.length:Int))::.lit (.int .i64 (b:Int))::A10 (.bs Dj bl.ins::.lit (.int .i64 (bl.ins.length:Int))::.lit (.int .i64 (p.1:Int))::A10 (A5 [])))),[.res (Jr (k0+p.1) p.2),.res (Bn pb (Ak f))]⟩) (fun p=>p.1≤bl.ins.length) (fun p=>bl.ins.length - p.1) (0,q) (Nat.zero_le _) (Ce) ?_;rintro⟨i,q⟩ hi;dsimp only at hi⊢;refine Ac fun K11 h11=>?_
  refine rR ?_;refine h11 _ ?_;refine nT ?_;refine Ac fun K12 h12=>?_
  refine Ae rfl (fun hb13=>?_) (fun hb13=>?_)
  ·have hil2:i < bl.ins.length:=by simpa using hb13
   obtain⟨x,hx⟩:∃x,bl.ins[i]? =some x:=⟨_,List.getElem?_eq_getElem hil2⟩
   obtain⟨bh,hbh⟩:∃bh,(BU f b)[i+1]? =some bh:=⟨_,List.getElem?_eq_getElem (by rw[Nf,hins];omega)⟩
   have hbh2:(BU f b)[((i:Int)+1).toNat]? =some bh:=by rw[show((i:Int)+1).toNat=i+1 by omega];exact hbh
   have hst:(stepsL f)[k0+i]? =some (x,bh):=by rw[←hk0];exact OX hlt (by rw[hins];exact hx) hbh
   have hYk:∀q,Yc Tryz.prog l C.S0 C.w0.heap.size (Jr (k0+i) q) [.agg (AL x),.bs tInt bh] (Jr (k0+i+1)):=fun q=>by
    have:=hY (k0+i) q (List.getElem?_eq_some_iff.1 hst).1;rwa [SF hst]at this
   refine Ag ?_;refine h12 _ ?_;refine nT ?_;refine Ac fun K14 h14=>?_
   refine Af ?_;refine Ac fun K15 h15=>?_
   refine rR ?_;refine h15 _ ?_;refine nT ?_;refine Ac fun K16 h16=>?_
   refine Ym 7 (by kernel_rfl) (by kernel_rfl) ?_;simp only[List.take_succ_cons,List.take_zero,List.drop_succ_cons,List.drop_zero,List.take_nil,List.drop_nil]
   (repeat(first|refine qQ ?_|refine Km ?_))
   refine FD ?_;refine R7 rfl (Api.yield (i:=0) hrd rfl (fun p=>by rw[hm,hm]) rfl rfl rfl rfl (hYk q) fun q'=>?_);refine I6 (by(try simp only[AJ,List.set_cons_zero,List.set_cons_succ]);exact rfl) (by(try simp only[List.nil_append,List.cons_append,List.set_cons_zero,List.set_cons_succ,List.length_nil,List.length_cons,Nat.reduceAdd]);exact rfl) ?_;refine Ou rfl (BG (CE rfl rfl) ?_);refine I7 ?_;refine h16 _ ?_;refine nT ?_;refine Ae rfl (fun hb17=>by cases hb17) (fun hb17=>?_);refine Ag ?_;refine h14 _ ?_;refine nT ?_;refine rR ?_;refine athen_n ⟨(i+1,q'),by dsimp only;omega,by dsimp only;omega,?_⟩;exact Fb (.cons (.cons (Cut.nil _)))
  ·have hie:i=bl.ins.length:=by
    have:¬i < bl.ins.length:=by simpa using hb13
    omega
   subst hie;rw[←hoff];refine Aq ?_;refine h6 _ ?_;refine nT ?_;refine rR ?_;refine athen_n ⟨(b+1,q),by dsimp only;omega,by dsimp only;omega,?_⟩;exact Ce
 ·have hbe:b=f.blocks.length:=by
   have:¬b < f.blocks.length:=by simpa using hb5
   omega
  subst hbe;refine Aq ?_;exact⟨.inl rfl,q,rfl,by simp[mkD,ABlk.mrk,hm];rfl⟩
end Mu
end
section
namespace Go.Proofs
open Go.Shelf
def Tryz.keysK_ren:Go.Shelf.Ren:=⟨fun|7=>134|10=>178|n=>n,fun|23=>152|26=>3|3=>3|28=>185|0=>0|27=>184|33=>158|4=>4|n=>n,fun|n=>n⟩
theorem Tryz.keysK:Go.Proofs.SlLaysZI.n7 Tryz.prog Tryz.keysK_ren:={
 mixed:=by kernel_rfl
 f7:=⟨Tryz.f134.name,by decide,Tryz.func134.trans (congrArg some (by kernel_rfl))⟩
 f10:=⟨Tryz.f178.name,by decide,Tryz.func178.trans (congrArg some (by kernel_rfl))⟩
 t0:=Tryz.underlying0
 a0:=Tryz.isAgg0
 z0:=Tryz.sizeOf0
 v0:=Tryz.zeroValue0
 t4:=Tryz.underlying4
 a4:=Tryz.isAgg4
 z4:=Tryz.sizeOf4
 v4:=Tryz.zeroValue4
 t23:=Tryz.underlying152
 a23:=Tryz.isAgg152
 z23:=Tryz.sizeOf152
 v23:=Tryz.zeroValue152
 t26:=Tryz.underlying3
 a26:=Tryz.isAgg3
 z26:=Tryz.sizeOf3
 v26:=Tryz.zeroValue3
 t27:=Tryz.underlying184
 a27:=Tryz.isAgg184
 z27:=Tryz.sizeOf184
 v27:=Tryz.zeroValue184
 t28:=Tryz.underlying185
 a28:=Tryz.isAgg185
 z28:=Tryz.sizeOf185
 v28:=Tryz.zeroValue185
 t33:=Tryz.underlying158
 a33:=Tryz.isAgg158
 z33:=Tryz.sizeOf158
 v33:=Tryz.zeroValue158}
end Go.Proofs
end
section
namespace Mu
open Go Go.RowKit Go.Proofs Go.Maps Go.Shelf
section
variable{P:Program}{C:Ctx}{t:List AV}{h:List ABlk}{o:Oper}
def Arh(P:Program)(f:FuncId)(R1 R2:Res)(args:List AV)(r:AV):Prop:=
 Bw P f=true∧∀(w:World) (S:Nat→Prop) (vs:List Value),(∀k,S k→k < w.heap.size)→(∀g,R1.F g→g < w.heap.size)→(∀g,R2.F g→g < w.heap.size)→R1.R w S→R2.R w S→Ad w S [] ψ0 args vs→
  Calls P f vs.toArray w fun e w'=>∃v,e= .returned v∧Vm w S [] ψ0 r v w'
theorem Qx{f:FuncId}{args:Array Operand}{tys:Array TypeId}{xs:List AV}{r:AV}{R1 R2:Res}(i j:Nat)(hi:h[i]? =some (.res R1))(hj:h[j]? =some (.res R2))
 (ho:o.op= .call {callee:=.value (.func f),args:=args,argTypes:=tys}) (hF:Arh P f R1 R2 xs r) (hx:args.toList.map (evA t)=xs) (hc:AZ xs=true) (hr:AV.cl r=true):Av P C t h o r:=by
 intro S ψ w ρ H hρ;have h1:ρ (.func f)= .func (.func f) #[] #[]:=by
  have:=hρ (.func f) (by rw[ho];exact Array.mem_append.2 (.inl (by simp)));simpa[evA,AV.rel]using this
 rw[CJ ho hF.1 ρ w h1];refine⟨rfl,?_⟩;have h2:Ad w S h ψ xs (args.toList.map ρ):=by
  rw[←hx];exact BY fun x hx'=>hρ x (by rw[ho];exact Array.mem_append.2 (.inr (Array.mem_toList_iff.1 hx')))
 have hB1:=H.blk i _ hi;have hB2:=H.blk j _ hj;have h3:=hF.2 w S (args.toList.map ρ) H.lt (fun g hg=>(hB1.1 g hg).2.2) (fun g hg=>(hB2.1 g hg).2.2) hB1.2 hB2.2 (AQ _ _ hc h2);rw[show(args.map ρ)=(args.toList.map ρ).toArray from(by rw[←Array.toList_map])];refine h3.mono ?_;rintro e w' ⟨v,he,hb,S',k1,k2,k3,k4⟩;exact⟨v,he,hb,S',k1,k2,k3,Br _ _ hr k4⟩
end
section
variable{C:Ctx}{t:List AV}{h:List ABlk}{o:Oper}
theorem Aay{ty:TypeId}{x y z:Operand}(i:Nat){m:Nat}{S:Int→Bool}{R:List Int}{r:Int}{K:St→Prop}(ho:o.op= .mapUpdate ty x y z)(hty:Tryz.prog.underlying ty=some (.map 3 3))(hi:h[i]? =some (.res (G3 S m)))
 (hx:evA t x= .lit (.map (some m))) (hy:evA t y= .lit (.int .i64 r)) (hz:evA t z= .lit (.int .i64 1)) (hR:RegsR R) (hin:InR R S) (hr:Jj r) (hK:K ⟨AJ t o.dst (.lit undef),h.set i (.res (G3 (Aag S r) m))⟩):AOp Tryz.prog C o ⟨t,h⟩ K:=by
 refine AOp.turn (ι:=Unit) (Rs:=fun _=>G3 (Aag S r) m) (val:=fun _=>undef) hi (fun _=>rfl) (fun T ψ w ρ H hRw hlt hρ=>?_) (fun _=>hK);have h1:=hρ x (by simp[ho,Op.operands]);have h2:=hρ y (by simp[ho,Op.operands]);have h3:=hρ z (by simp[ho,Op.operands]);rw[hx]at h1;rw[hy]at h2;rw[hz]at h3;unfold AV.rel at h1 h2 h3;obtain⟨D,hown,hD⟩:=(show Gl w m S from hRw)
 have hsz:=Fw hown hD hR hin;obtain⟨w',hrun,hown',hg⟩:=hown.update Abm hty (by have:=hsz.2;unfold maxLen;omega) (App hr) (plainElem_int Tryz.underlying3 SR);have hs':=Gl.put hown hD hown';have e:(execOp ρ o).run Tryz.prog w= .ok .skip w'∨(execOp ρ o).run Tryz.prog w= .ok (.value undef) w':=by
  simp[execOp,ho,h1,h2,h3,hrun,Result.andThen]
 have hT:Turns w T (G3 S m).F (fun _:Unit=>G3 (Aag S r) m) (fun _=>undef) undef w':=
  ⟨BC hg |> fun G=>⟨G.os,G.tape,G.output,G.size,fun k hk hn=>G.block k hk fun e=>hn (by cases e;rfl)⟩,(),rfl,hs',fun k hk=>⟨.inl hk,by
   have hk:k=m:=hk;subst hk;exact hs'.lt⟩⟩
 rcases e with e|e
 ·rw[e];exact hT
 ·rw[e];exact hT
end
theorem WW(m:Nat):QE Tryz.prog 134 [.lit (.map (some m))] (fun p=>Bn p [.lit (.map (some m))]) (fun p=>.func (.func 178) #[] #[.pointer (some ⟨p,0,none⟩)]):=by
 refine⟨by kernel_rfl,fun w S vs hS hr=>?_⟩;obtain⟨us,rfl,h0⟩:=D5 hr;unfold Ad at h0;subst h0;have cK:CallsIn Fence.wide 5 Tryz.prog 134 #[.map (some m)] w fun e w'=>e= .returned (.func (.func 178) #[] #[.pointer (some ⟨w.heap.size,0,none⟩)])∧w'=w.alloc (.cells #[.map (some m)] 152):=AnyZI.keys_in Tryz.keysK Fence.wide 5 trivial rfl (some m) w
 refine((callsIn_wide (n:=5)).1 cK).mono ?_;rintro e w' ⟨rfl,rfl⟩;have hb:Below w.heap.size w (w.alloc (.cells #[.map (some m)] 152)):=(Below.refl _ _).alloc (Nat.le_refl _) _;exact⟨_,rfl,⟨hb.os,hb.tape,hb.output,hb.size,fun k hk _=>hb.block k hk⟩,w.heap.size,rfl,⟨[.map (some m)],152,heap_alloc_new w _,Gx [.map (some m)]⟩,fun k hk=>by
  have hk:k=w.heap.size:=hk;subst hk;exact⟨.inr (Nat.le_refl _),by simp⟩⟩
theorem TW(p m:Nat)(S:Int→Bool)(R:List Int)(hR:RegsR R)(hi:InR R S):
 Arh Tryz.prog 133 (Bn p [.lit (.map (some m))]) (G3 S m) [.lit (.func (.func 178) #[] #[.pointer (some ⟨p,0,none⟩)])] (.bs tInt (R.filter S)):=by
 refine⟨by kernel_rfl,fun w T vs hT hF1 hF2 hbox hs hr=>?_⟩;obtain⟨us,rfl,h0⟩:=D5 hr;unfold Ad at h0;subst h0;obtain⟨cs,e,hp,hcs⟩:=hbox;obtain⟨us,rfl,h1⟩:=D5 hcs;unfold Ad at h1;subst h1;have hpl:=hF1 p rfl;have hcell:w.cell? ⟨p,0,none⟩=some (.map (some m)):=by simp[World.cell?,hp]
 obtain⟨D,hown,hS⟩:=(show Gl w m S from hs)
 obtain⟨hperm,hsz⟩:=Rc hown hS hR.asc hR.wf hi.mem;have hfl:=List.length_filter_le S R;have hRl:=hR.len;have hmax:Maps.size D≤maxLen:=by rw[hsz];unfold maxLen;omega
 have hbytes:Maps.size D * 8≤140737488355328:=by rw[hsz];omega
 have hseq:SeqGives Fence.wide 2 Tryz.prog 178 #[.pointer (some ⟨p,0,none⟩)] encZ (fun ss=>ss.Perm (intKeys D)) (Maps.size D) w:=
  AnyZI.keys_gives (ρ:=Tryz.keysK_ren) {Tryz.keysK with} Fence.wide _ trivial rfl (by omega) p m (Maps.size D) D _ hpl hcell hown
 have cS:=AnyZI.sorted_in Tryz.sortedM Fence.wide 5 trivial trivial trivial trivial rfl (by omega) (Aa9 _) (enters_of Tryz.func88 (by kernel_rfl) rfl) 178 #[.pointer (some ⟨p,0,none⟩)] trivial (enters_of Tryz.func178 (by kernel_rfl) rfl) _ _ hmax hbytes _ hseq;change CallsIn _ _ Tryz.prog 133 _ _ _ at cS;refine((callsIn_wide (n:=5)).1 cS).mono ?_;rintro e w' ⟨v,ss,rfl,hSp,hrow,hnil,hb⟩;have hp2:ss.Perm (R.filter S):=hSp.trans hperm;have he:(ss.mergeSort fun x y=>decide (x≤y))=R.filter S:=
  R4 (Oq (hp2.nodup_iff.2 (hR.asc.filter S).nodup)) (hR.asc.filter S) (fun x=>((List.mergeSort_perm ss _).mem_iff).trans hp2.mem_iff)
 have hrow2:w'.ownsRow w.heap.size 3 1 v ss.length ((ss.mergeSort (fun x y=>decide (x≤y))).map encZ):=hrow;rw[he]at hrow2;have hO:Ks w' w.heap.size v (R.filter S):=.of hrow2 hp2.length_eq rfl;refine⟨v,rfl,hb,fun k=>T k∨v.ownBlock=some k,fun _ h=>.inl h,fun k hk=>?_,fun k hk=>?_,?_⟩
 ·rcases hk with hk|hk
  ·exact .inl hk
  ·exact .inr (hO.lt k hk).1
 ·rcases hk with hk|hk
  ·exact Nat.lt_of_lt_of_le (hT k hk) hb.size
  ·exact(hO.lt k hk).2
 ·unfold AV.rel;exact tInt.slice.keepS (Lr hO fun x hx=>hR.wf x (List.mem_filter.1 hx).1) (fun _ _=>rfl) fun k hk=>.inr hk
def Vy(x:Pair):Value:=.agg #[.int .i64 x.a,.int .i64 x.b]
def Ur(x:Pair):Lit:=.string (keyBytes [.int .i64 x.a,.int .i64 x.b])
theorem Abl:Keyed Tryz.prog 127:=Keyed.of_law (deep_law (m:=2) (Nat.le_of_ble_eq_true rfl) (by kernel_rfl) (by kernel_rfl) (by kernel_rfl))
theorem XT:Tryz.prog.cellsOf 127=2:=by kernel_rfl
theorem Acb:Tryz.prog.cellsOf 3=1:=by kernel_rfl
theorem IN{n:Nat}{v:Value}{L:List Lit}:Tryz.prog.keyLits (n+1) 3 [v]=some L↔∃a,v= .int .i64 a∧(Lit.int .i64 a).wf=true∧L= [.int .i64 a]:=by
 unfold Program.keyLits;rw[Tryz.underlying3];constructor
 ·intro h;cases v <;> simp only[reduceCtorEq]at h
  rename_i k a;split at h
  ·rename_i hc;obtain⟨rfl,hw⟩:=hc;exact⟨a,rfl,hw,(Option.some.inj h).symm⟩
  ·cases h
 ·rintro⟨a,rfl,hw,rfl⟩;simp[hw]
theorem WX{n:Nat}{vs:List Value}{L:List Lit}(h:Tryz.prog.keyLits (n+2) 127 vs=some L):∃a b,vs= [.int .i64 a,.int .i64 b]∧(Lit.int .i64 a).wf=true∧(Lit.int .i64 b).wf=true∧L= [.int .i64 a,.int .i64 b]:=by
 rw[show n+2=(n+1)+1 from rfl]at h;unfold Program.keyLits at h;rw[Tryz.underlying127]at h;simp only[XT]at h;split at h
 ·rename_i hc;obtain⟨hl,_⟩:=hc;match vs,hl with
  | [u,v],_=>
   simp[Acb]at h;cases h1:Tryz.prog.keyLits (n+1) 3 [u]with
   |none=>rw[h1]at h;simp at h
   |some l1=>
    cases h2:Tryz.prog.keyLits (n+1) 3 [v]with
    |none=>rw[h1,h2]at h;simp at h
    |some l2=>
     obtain⟨a,rfl,wa,rfl⟩:=IN.1 h1;obtain⟨b,rfl,wb,rfl⟩:=IN.1 h2;rw[h1,h2]at h;simp at h;exact⟨a,b,rfl,wa,wb,h.symm⟩
 ·cases h
theorem PQ{n:Nat}{a b:Int}(ha:(Lit.int .i64 a).wf=true)(hb:(Lit.int .i64 b).wf=true):Tryz.prog.keyLits (n+2) 127 [.int .i64 a,.int .i64 b]=some [.int .i64 a,.int .i64 b]:=by
 rw[show n+2=(n+1)+1 from rfl];unfold Program.keyLits;rw[Tryz.underlying127];have h1:=(IN (n:=n) (v:=.int .i64 a)).2 ⟨a,rfl,ha,rfl⟩;have h2:=(IN (n:=n) (v:=.int .i64 b)).2 ⟨b,rfl,hb,rfl⟩;simp[XT,Acb,h1,h2]
theorem Akg:Nat.ble 1 Tryz.prog.types.size=true:=by kernel_rfl
theorem Aa5:∃n,Tryz.prog.types.size+1=n+2:=by
 have h:=Nat.le_of_ble_eq_true Akg;generalize Tryz.prog.types.size=m at h;exact⟨m - 1,by omega⟩
theorem S5{v:Value}{l:Lit}(h:keyOf Tryz.prog 127 v=some l):∃x,okPair x∧v=Vy x∧l=Ur x:=by
 obtain⟨xs,L,rfl,h1,rfl⟩:=keyOf_top (by kernel_rfl) h;obtain⟨n,hn⟩:=Aa5;rw[hn]at h1;obtain⟨a,b,e,wa,wb,rfl⟩:=WX h1;refine⟨⟨a,b⟩,⟨wa,wb⟩,?_,rfl⟩;have e2:xs= #[Value.int .i64 a,Value.int .i64 b]:=Array.toList_inj.1 e;rw[e2];rfl
theorem JB{x:Pair}(h:okPair x):keyOf Tryz.prog 127 (Vy x)=some (Ur x):=by
 obtain⟨n,hn⟩:=Aa5;have hk:Tryz.prog.keyType 127=true:=by kernel_rfl
 have hf:(Vy x).formed Tryz.prog 127=true:=by
  unfold Vy Value.formed;rw[Tryz.underlying127];simp[XT]
 unfold keyOf;rw[Tryz.underlying127];simp only[hk,hf,Bool.and_self,if_true];rw[hn];show(Tryz.prog.keyLits (n+2) 127 [.int .i64 x.a,.int .i64 x.b]).map _=_;rw[PQ h.a h.b];rfl
theorem SY{x y:Pair}(hx:okPair x)(hy:okPair y)(h:Ur x=Ur y):x=y:=by
 have h1:=JB hx;rw[h,←JB hy]at h1;have h2:=Abl.inj (h1.trans (JB hy)) (JB hy);have h3:x.a=y.a∧x.b=y.b:=by
  clear h h1;unfold Vy at h2;simpa using h2
 cases x;cases y;exact congr (congrArg Pair.mk h3.1) h3.2
theorem Ev{α:Type}[DecidableEq α]:∀{l m:List α},l.Nodup→(∀x∈l,x∈m)→l.length≤m.length
 | [],_,_,_=>Nat.zero_le _
 |x::l,m,hn,h=>by
  have hn:=List.nodup_cons.1 hn;have hx:=h x (by simp);have:=Ev (m:=m.erase x) hn.2 fun y hy=>(List.mem_erase_of_ne (fun e=>hn.1 (by subst e;exact hy))).2 (h y (by simp[hy]))
  rw[List.length_erase_of_mem hx]at this;have:=List.length_pos_of_mem hx;simp only[List.length_cons];omega
instance Aiy:DecidableEq Pair:=fun x y=>decidable_of_iff (x.a=y.a∧x.b=y.b) ⟨fun⟨h1,h2⟩=>by cases x;cases y;simp_all,fun h=>by subst h;exact⟨rfl,rfl⟩⟩
def DZ:List Int→List Pair
 | []=>[]
 |a::R=>R.map (fun b=>⟨a,b⟩)++DZ R
def Ack(w:World)(b:Nat)(S:Pair→Bool):Prop:=∃(D:DataW Unit),w.ownsMap Tryz.prog 127 (plainElem Tryz.prog 3) b (Maps.size D) D∧∀x,okPair x→has D (Ur x)=S x
theorem MV{w:World}{b n:Nat}{D:DataW Unit}(h:w.ownsMap Tryz.prog 127 (plainElem Tryz.prog 3) b n D):w.ownsMap Tryz.prog 127 (plainElem Tryz.prog 3) b (Maps.size D) D:=by
 obtain⟨es,clock,h1,h2,h3,rfl⟩:=h;refine⟨es,clock,h1,h2,?_,rfl⟩;rw[size_eq,length_read];exact Nat.le_refl _
theorem Ack.lt{w:World}{b:Nat}{S:Pair→Bool}(h:Ack w b S):b < w.heap.size:=by
 obtain⟨D,h1,_⟩:=h;exact h1.lt
theorem Ack.keep{w w':World}{b:Nat}{S:Pair→Bool}(h:Ack w b S)(hk:w'.heap[b]? =w.heap[b]?):Ack w' b S:=by
 obtain⟨D,⟨es,clock,h1,h2⟩,h3⟩:=h;exact⟨D,⟨es,clock,hk.trans h1,h2⟩,h3⟩
theorem V1{w:World}{b n:Nat}{D:DataW Unit}{S:Pair→Bool}{L:List Pair}(h:w.ownsMap Tryz.prog 127 (plainElem Tryz.prog 3) b n D)(hS:∀x,okPair x→has D (Ur x)=S x)(hL:∀x,okPair x→S x=true→x∈L):Maps.size D≤L.length:=by
 obtain⟨es,rfl,hpw,_⟩:=h.entries Abl;obtain⟨es',hD',hko⟩:=h.keysOf;obtain rfl:es=es':=by simpa using hD'
 haveI:DecidableEq Lit:=fun a b=>Classical.propDecidable (a=b)
 suffices hle:(es.map fun p=>p.1).length≤(L.map Ur).length by simpa[size_eq]using hle
 refine Ev (List.pairwise_map.2 hpw) fun l hl=>?_
 obtain⟨p,hp,rfl⟩:=List.mem_map.1 hl;obtain⟨v,hv⟩:=hko p hp;obtain⟨x,hx,_,e⟩:=S5 hv;refine List.mem_map.2 ⟨x,hL x hx ?_,e.symm⟩;rw[←hS x hx,has_eq];exact List.any_eq_true.2 ⟨p,hp,by rw[←e];exact WideAt.sameKey_self (Abl.key hv)⟩
def Aah(S:Pair→Bool)(y:Pair):Pair→Bool:=fun x=>S x||decide (x=y)
theorem Ack.put{w w1:World}{b n:Nat}{S:Pair→Bool}{D:DataW Unit}{d:DataW Unit}{y:Pair}(hy:okPair y)(hown:w.ownsMap Tryz.prog 127 (plainElem Tryz.prog 3) b n D)(hS:∀x,okPair x→has D (Ur x)=S x)
 (h1:w1.ownsMap Tryz.prog 127 (plainElem Tryz.prog 3) b (n+1) (D.put (Ur y) d)):Ack w1 b (Aah S y):=by
 refine⟨_,MV h1,fun x hx=>?_⟩;by_cases e:x=y
 ·subst e;rw[has_put_same hown.isMap (Abl.key (JB hx))];simp[Aah]
 ·rw[has_put_other (fun h=>e (SY hx hy h)),hS x hx];simp[Aah,e]
def CY(S:Pair→Bool)(m:Nat):Res:=⟨[],fun g=>g=m,fun w _=>Ack w m S,fun h hk _ _=>h.keep (hk m rfl)⟩
section
variable{C:Ctx}{t:List AV}{h:List ABlk}{o:Oper}
theorem Aax{ty:TypeId}{x y z:Operand}(i:Nat){m:Nat}{S:Pair→Bool}{L:List Pair}{q:Pair}{K:St→Prop}(ho:o.op= .mapUpdate ty x y z)(hty:Tryz.prog.underlying ty=some (.map 127 3))(hi:h[i]? =some (.res (CY S m)))
 (hx:evA t x= .lit (.map (some m))) (hy:evA t y= .agg (Ca q)) (hz:evA t z= .lit (.int .i64 1)) (hL:∀x,okPair x→S x=true→x∈L) (hl:L.length < maxLen) (hq:okPair q) (hK:K ⟨AJ t o.dst (.lit undef),h.set i (.res (CY (Aah S q) m))⟩):AOp Tryz.prog C o ⟨t,h⟩ K:=by
 refine AOp.turn (ι:=Unit) (Rs:=fun _=>CY (Aah S q) m) (val:=fun _=>undef) hi (fun _=>rfl) (fun T ψ w ρ H hRw hlt hρ=>?_) (fun _=>hK);have h1:=hρ x (by simp[ho,Op.operands]);have h2:=hρ y (by simp[ho,Op.operands]);have h3:=hρ z (by simp[ho,Op.operands]);rw[hx]at h1;rw[hy]at h2;rw[hz]at h3;unfold AV.rel at h1 h2 h3;obtain⟨cs,h2,hcs⟩:=h2;obtain⟨rfl,_⟩:=HV.1 (NW hq hcs);have h2:ρ y=Vy q:=h2;obtain⟨D,hown,hD⟩:=(show Ack w m S from hRw)
 have hsz:=V1 hown hD hL;obtain⟨w',hrun,hown',hg⟩:=hown.update Abl hty (by omega) (JB hq) (plainElem_int Tryz.underlying3 SR);have hs':=Ack.put hq hown hD hown';have e:(execOp ρ o).run Tryz.prog w= .ok .skip w'∨(execOp ρ o).run Tryz.prog w= .ok (.value undef) w':=by
  simp[execOp,ho,h1,h2,h3,hrun,Result.andThen]
 have hT:Turns w T (CY S m).F (fun _:Unit=>CY (Aah S q) m) (fun _=>undef) undef w':=
  ⟨BC hg |> fun G=>⟨G.os,G.tape,G.output,G.size,fun k hk hn=>G.block k hk fun e=>hn (by cases e;rfl)⟩,(),rfl,hs',fun k hk=>⟨.inl hk,by
   have hk:k=m:=hk;subst hk;exact hs'.lt⟩⟩
 rcases e with e|e
 ·rw[e];exact hT
 ·rw[e];exact hT
end
def Agj(w:World)(m r:Nat)(S:Pair→Bool)(ks:List Pair):Prop:=∃(D:DataW Unit) (left:Lit→Bool) (cnt:Nat),
 w.ranges Tryz.prog 127 (plainElem Tryz.prog 3) m r (Maps.size D) D left cnt∧(∀x,okPair x→has D (Ur x)=S x)∧(∀x,okPair x→left (Ur x)=(S x&&!ks.contains x))∧(∀x∈ks,okPair x∧S x=true)∧ks.Nodup
def AtP(w:World)(r:Nat)(q:Pair)(c:Int):Prop:=(Instr.entry (.pointer (some ⟨r,0,none⟩))).run Tryz.prog w= .ok (.tuple #[Vy q,.int .i64 c]) w
theorem Rm{H:Type}{P:Program}{k:TypeId}{R:Value→Option (DataW H×List MemPlace)}{w w':World}{b r n:Nat}{D:DataW H}{left:Lit→Bool}{cnt:Nat}(h:w.ranges P k R b r n D left cnt)(hb:w'.heap[b]? =w.heap[b]?)(hr:w'.heap[r]? =w.heap[r]?):w'.ranges P k R b r n D left cnt:=by
 obtain⟨es,clock,since,seen,c0,h1,F,hs,hD,h2,rest⟩:=h;exact⟨es,clock,since,seen,c0,hb.trans h1,F,hs,hD,hr.trans h2,rest⟩
theorem Agj.keep{w w':World}{m r:Nat}{S:Pair→Bool}{ks:List Pair}(h:Agj w m r S ks)(hb:w'.heap[m]? =w.heap[m]?)(hr:w'.heap[r]? =w.heap[r]?):Agj w' m r S ks:=by
 obtain⟨D,left,cnt,h1,h2⟩:=h;exact⟨D,left,cnt,Rm h1 hb hr,h2⟩
theorem AtP.keep{w w':World}{m r:Nat}{S:Pair→Bool}{ks:List Pair}{q:Pair}{c:Int}(h:Agj w m r S ks)(ha:AtP w r q c)(hb:w'.heap[m]? =w.heap[m]?)(hr:w'.heap[r]? =w.heap[r]?):AtP w' r q c:=by
 obtain⟨D,left,cnt,⟨es,clock,since,seen,c0,h1,_,_,_,h2,_⟩,_⟩:=h;unfold AtP at ha⊢;have e1:(getObj r).run Tryz.prog w= .ok (.mapIter (some m) since seen c0) w:=by simp[getObj,Sem.run,h2]
 have e2:(getObj m).run Tryz.prog w= .ok (.map es clock) w:=by simp[getObj,Sem.run,h1]
 have e3:(getObj r).run Tryz.prog w'= .ok (.mapIter (some m) since seen c0) w':=by simp[getObj,Sem.run,hr,h2]
 have e4:(getObj m).run Tryz.prog w'= .ok (.map es clock) w':=by simp[getObj,Sem.run,hb,h1]
 unfold Instr.entry at ha⊢;simp only[Sem.run_bind,e1,e3,Result.andThen_ok]at ha⊢;cases hs:seen.back? with
 |none=>rw[hs]at ha;simp[stuck]at ha
 |some stamp=>
  rw[hs]at ha;simp only[Sem.run_bind,e2,e4,Result.andThen_ok]at ha⊢;by_cases hc:clock !=c0
  ·simp[hc,unsupported]at ha
  ·cases hf:es.find? (fun x=>x.born ==stamp)with
   |none=>simp[hc,hf,unsupported]at ha
   |some e=>
    simp[hc,hf]at ha⊢;exact ha
def YX(S:Pair→Bool)(ks:List Pair)(m r:Nat):Res:=⟨[],fun g=>g=m∨g=r,fun w _=>Agj w m r S ks,fun h hk _ _=>h.keep (hk m (.inl rfl)) (hk r (.inr rfl))⟩
def atR(S:Pair→Bool)(ks:List Pair)(q:Pair)(c:Int)(m r:Nat):Res:=⟨[],fun g=>g=m∨g=r,fun w _=>Agj w m r S ks∧AtP w r q c,fun h hk _ _=>⟨h.1.keep (hk m (.inl rfl)) (hk r (.inr rfl)),AtP.keep h.1 h.2 (hk m (.inl rfl)) (hk r (.inr rfl))⟩⟩
section
variable{C:Ctx}{t:List AV}{h:List ABlk}{o:Oper}
theorem NA{ty:TypeId}{x:Operand}(i:Nat){m:Nat}{S:Pair→Bool}{K:St→Prop}(ho:o.op= .range ty x)(hty:Tryz.prog.underlying ty=some (.map 127 3))(hi:h[i]? =some (.res (CY S m)))
 (hx:evA t x= .lit (.map (some m))) (hK:∀r,K ⟨AJ t o.dst (.lit (.pointer (some ⟨r,0,none⟩))),h.set i (.res (YX S [] m r))⟩):AOp Tryz.prog C o ⟨t,h⟩ K:=by
 refine AOp.turn (ι:=Nat) (Rs:=fun r=>YX S [] m r) (val:=fun r=>.pointer (some ⟨r,0,none⟩)) hi (fun _=>rfl) (fun T ψ w ρ H hRw hlt hρ=>?_) hK;have h1:=hρ x (by simp[ho,Op.operands]);rw[hx]at h1;unfold AV.rel at h1;obtain⟨D,hown,hD⟩:=(show Ack w m S from hRw)
 obtain⟨w',hrun,hr,hg,hsz⟩:=hown.range Abl hty;have e:(execOp ρ o).run Tryz.prog w= .ok (.value (.pointer (some ⟨w.heap.size,0,none⟩))) w':=by
  simp[execOp,ho,h1,hrun,Result.andThen]
 rw[e];have hm:=hown.lt;refine⟨BC hg |> fun G=>⟨G.os,G.tape,G.output,G.size,fun k hk hn=>G.block k hk fun e=>by cases e⟩,w.heap.size,rfl,⟨D,_,_,hr,hD,fun x hx=>by simp[hD x hx],(fun _ hx=>by cases hx),List.nodup_nil⟩,fun k hk=>?_⟩;rcases(show k=m∨k=w.heap.size from hk)with rfl|rfl
 ·exact⟨.inl rfl,by omega⟩
 ·exact⟨.inr (Nat.le_refl _),by omega⟩
theorem QN{x:Operand}(i:Nat){m r:Nat}{S:Pair→Bool}{ks:List Pair}{K:St→Prop}(ho:o.op= .next x false)(hi:h[i]? =some (.res (YX S ks m r)))
 (hx:evA t x= .lit (.pointer (some ⟨r,0,none⟩))) (hK0:(∀x,okPair x→S x=true→x∈ks)→K ⟨AJ t o.dst (.lit (.tuple #[.bool false])),h.set i (.res (YX S ks m r))⟩)
 (hK1:∀q c,okPair q→S q=true→q∉ks→K ⟨AJ t o.dst (.lit (.tuple #[.bool true,Vy q,.int .i64 c])),h.set i (.res (atR S (ks++[q]) q c m r))⟩):AOp Tryz.prog C o ⟨t,h⟩ K:=by
 refine AOp.turn (ι:={p:Option (Pair×Int) // match p with|none=>∀x,okPair x→S x=true→x∈ks|some (q,_)=>okPair q∧S q=true∧q∉ks})
  (Rs:=fun p=>match p.1 with|none=>YX S ks m r|some (q,c)=>atR S (ks++[q]) q c m r) (val:=fun p=>match p.1 with|none=>.tuple #[.bool false]|some (q,c)=>.tuple #[.bool true,Vy q,.int .i64 c]) hi ?_ (fun T ψ w ρ H hRw hlt hρ=>?_) ?_
 ·rintro⟨_|⟨q,c⟩,hp⟩ <;> rfl
 ·have h1:=hρ x (by simp[ho,Op.operands]);rw[hx]at h1;unfold AV.rel at h1;obtain⟨D,left,cnt,hr,hD,hl,hks,hnd⟩:=(show Agj w m r S ks from hRw)
  have hm:=hr.owns.lt;have hrl:=hr.lt;rcases hr.next Abl o.type with⟨_,hno,hrun⟩|⟨key,v,kl,y,w',cnt',hkey,hleft,hv,_,hrun,hr',_,hg,hsz,hent⟩
  ·have e:(execOp ρ o).run Tryz.prog w= .ok (.value (.tuple #[.bool false])) w:=by
    simp[execOp,ho,h1,hrun,Result.andThen]
   rw[e];refine⟨⟨rfl,rfl,rfl,Nat.le_refl _,fun _ _ _=>rfl⟩,⟨none,fun x hx hs=>?_⟩,rfl,hRw,fun k hk=>⟨.inl hk,?_⟩⟩
   ·have:=hl x hx;rw[hno,hs]at this;simpa using this
   ·rcases(show k=m∨k=r from hk)with rfl|rfl
    ·exact hm
    ·exact hrl
  ·obtain⟨q,hq,rfl,rfl⟩:=S5 hkey;obtain⟨c,rfl,_⟩:=plainElem_int_inv Tryz.underlying3 hv;have hlq:=hl q hq;rw[hleft]at hlq;have hlq:S q=true∧q∉ks:=by simpa using hlq.symm
   have e:(execOp ρ o).run Tryz.prog w= .ok (.value (.tuple #[.bool true,Vy q,.int .i64 c])) w':=by
    simp[execOp,ho,h1,hrun,Result.andThen]
   rw[e];refine⟨BC hg |> fun G=>⟨G.os,G.tape,G.output,G.size,fun k hk hn=>G.block k hk fun e=>hn (by cases e;exact .inr rfl)⟩,⟨some (q,c),hq,hlq.1,hlq.2⟩,rfl,⟨⟨D,_,_,hr',hD,fun x hx=>?_,fun x hx=>?_,?_⟩,hent⟩,fun k hk=>⟨.inl hk,?_⟩⟩
   ·rw[hl x hx];by_cases hxq:x=q
    ·subst hxq;rw[WideAt.sameKey_self (Abl.key hkey)];simp
    ·have hs:(Ur x).sameKey (Ur q)=false:=Maps.sameKey_ne fun e=>hxq (SY hx hq e)
     rw[hs];simp[hxq]
   ·rcases List.mem_append.1 hx with hx|hx
    ·exact hks x hx
    ·simp only[List.mem_cons,List.not_mem_nil,or_false]at hx;subst hx;exact⟨hq,hlq.1⟩
   ·rw[List.nodup_append];exact⟨hnd,by simp,fun a ha b hb=>by
     simp only[List.mem_cons,List.not_mem_nil,or_false]at hb;subst hb;intro e;subst e;exact hlq.2 ha⟩
   ·rcases(show k=m∨k=r from hk)with rfl|rfl <;> omega
 ·rintro⟨_|⟨q,c⟩,hp⟩
  ·exact hK0 hp
  ·exact hK1 q c hp.1 hp.2.1 hp.2.2
theorem Kh{x:Operand}(i:Nat){m r:Nat}{S:Pair→Bool}{ks:List Pair}{q:Pair}{c:Int}(ho:o.op= .entry x)(hi:h[i]? =some (.res (atR S ks q c m r)))(hx:evA t x= .lit (.pointer (some ⟨r,0,none⟩))):
 Av Tryz.prog C t h o (.tup [.agg (Ca q),.lit (.int .i64 c)]):=
 Ap fun S' ψ w ρ H hρ=>by
  have h1:=hρ x (by simp[ho,Op.operands]);rw[hx]at h1;unfold AV.rel at h1;obtain⟨_,ha⟩:=(show Agj w m r S ks∧AtP w r q c from(H.blk i _ hi).2)
  refine⟨.tuple #[Vy q,.int .i64 c],by simp[execOp,ho,h1,(show _=_ from ha),Result.andThen],?_⟩;simp only[AV.rel,Ad,Ca];exact⟨[Vy q,.int .i64 c],rfl,_,_,rfl,⟨[.int .i64 q.a,.int .i64 q.b],rfl,_,_,rfl,rfl,_,_,rfl,rfl,rfl⟩,_,_,rfl,rfl,rfl⟩
end
end Mu
end
