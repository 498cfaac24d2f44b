/-
  Own texts laid together, part 2: MuDrawT, MuDrawF, MuRes, MuRange, MuFnM, MuLitR, MuSlice, MuStep, MuFull, MuCond, MuStr, MuBytes, MuTab, MuOwnG, MuClo, MuLine, MuMark, MuZeros, MuFnC2, MuBoxRow, MuLift, MuTok, MuYield, MuRangeY, MuRangeS, MuSplit, MuFnN, MuTurnW, MuTurnM, MuAnd, MuTokL, MuTree, MuFzG, MuTurnS, MuCloneG, MuFlatP, MuRK, MuArr, MuEqS, MuLiftA.
  Conditions: as each part says.
-/
import Derived.Test.YtlamjpneghjbgaaGreatSm1
import Derived.RangeFuncCalls
import Derived.RangeFuncRecord
import Derived.RangeFuncLeaves
import Derived.Deep.Upon
import Derived.Laws.Strings3
import Derived.Laws.IdiomStrings
import Derived.Laws.StructEq
import Derived.Deep.Onto
import Derived.Lib.AppendZeros
import Derived.Laws.Cover3
set_option linter.unusedSimpArgs false
set_option linter.unusedVariables false
section
namespace Mu
open Go Go.RowKit
section
variable{P:Program}{C:Ctx}{ops:Array Oper}{md:Region.Mode}{h:List ABlk}{K:St→Prop}
def tOp(P:Program)(C:Ctx)(ops:Array Oper)(i:Nat)(K:St→Prop)(s:St):Prop:=
 match ops[i]? with
 |none=>K s
 |some o=>∃b,gA ops s.t o=some b∧(b=true→AOp P C o s K)∧(b=false→K ⟨AJ s.t o.dst (.lit undef),s.h⟩)
def HW(P:Program)(C:Ctx)(md:Region.Mode)(ops:Array Oper)(K:St→Prop):Nat→Array Bool→St→Prop
 |0,listed,s=>Region.ready md ops listed= []∧K s
 |f+1,listed,s=>(Region.ready md ops listed= []→K s)∧∀i∈Region.ready md ops listed,tOp P C ops i (HW P C md ops K f (listed.setIfInBounds i true)) s
theorem QX{i:Nat}{s:St}{a:Act}{w:World}{K':Act→World→Prop}{Q':Exit→Act→World→Prop}(H:s.rel C a w)(hK:∀s a w,K s→s.rel C a w→K' a w)(hh:tOp P C ops i K s):wpOp P ops Q' i K' a w:=by
 unfold tOp at hh;unfold wpOp;split
 ·rename_i ho;simp only[ho]at hh;exact hK _ _ _ hh H
 ·rename_i o ho;simp only[ho]at hh;obtain⟨b,hg,ht,hf⟩:=hh;obtain⟨_,S,ψ,_,hl⟩:=id H;rw[CZ hg hl];cases b with
  |true=>
   rw[if_pos rfl];exact .inl (Oper.wp_mono (fun a' w' ⟨s',h1,h2⟩=>hK s' a' w' h1 h2) (ht rfl Q' a w H).2)
  |false=>
   rw[if_neg (by simp)];exact hK _ _ _ (hf rfl) (Ej H o.dst)
theorem D4{Q':Exit→Act→World→Prop}(hQ:∀s a w,K s→s.rel C a w→Q' .normal a w):∀(f:Nat) (listed:Array Bool) (s:St) (a:Act) (w:World),HW P C md ops K f listed s→s.rel C a w→wpAny P md ops Q' f listed a w
 |0,_,s,a,w,hh,H=>⟨hh.1,hQ s a w hh.2 H⟩
 |f+1,_,s,a,w,hh,H=>⟨fun h0=>hQ s a w (hh.1 h0) H,fun i hi=>QX H (fun s' a' w' h' H'=>D4 hQ f _ s' a' w' h' H') (hh.2 i hi)⟩
def Zu(ops:Array Oper)(n:Nat):Nat→Nat→Array Bool→Bool
 |0,_,listed=>(Region.ready .any ops listed).all fun j=>decide (n≤j)
 |f+1,k,listed=>(Region.ready .any ops listed).contains k&&Region.free .any ops listed k&&Zu ops n f (k+1) (listed.setIfInBounds k true)
def Aq9(ops:Array Oper)(n:Nat):Bool:=
 (Region.noSelect ops&&GC ops)&&decide (n≤ops.size)&&((List.range ops.size).all fun t=>decide (t < n)||(List.range n).all fun i=>Region.waitsFor .any ops t i)&&Zu ops n n 0 (Array.replicate ops.size false)
def E5(sz:Nat):Nat→Array Bool
 |0=>Array.replicate sz false
 |k+1=>(E5 sz k).setIfInBounds k true
theorem Qp{n sz:Nat}{Lq:List AV→Prop}(htail:∀listed i,HeadInv .any ops n listed→i < n→listed.getD i true=false→∀t,n≤t→t∉Region.ready .any ops listed):
 ∀(l:List Oper) (k:Nat) (t:List AV),(∀j,j < l.length→l[j]? =ops[k+j]?)→k+l.length=n→HeadInv .any ops n (E5 sz k)→
 Zu ops n l.length k (E5 sz k)=true→aQ P C ops h Lq l t→
 YF P C .any ops h n (fun listed' t'=>(∀j∈Region.ready .any ops listed',n≤j)∧listed'=E5 sz n∧Lq t') l.length (E5 sz k) t
 | [],k,t,_,hk,_,hB,hh=>by
  have:k=n:=by simpa using hk
  subst this;exact⟨fun j hj=>of_decide_eq_true (List.all_eq_true.1 hB j hj),rfl,hh⟩
 |o::l,k,t,hl,hk,inv,hB,hh=>by
  have h0:ops[k]? =some o:=by simpa using(hl 0 (by simp)).symm
  simp only[List.length_cons,Zu,Bool.and_eq_true]at hB;obtain⟨⟨hr,hf⟩,hB'⟩:=hB;have hkn:k < n:=by simp only[List.length_cons]at hk;omega
  have hr':k∈Region.ready .any ops (E5 sz k):=by simpa using hr
  obtain⟨v,hy,hK⟩:=hh;exact Nh h0 htail hkn (fun listed' a' hL=>hL.1) l.length _ t inv (Region.free_spec h0 hf) hr' hy
   (Qp htail l (k+1) _ (fun j hj=>by have:=hl (j+1) (by simp;omega);simpa[Nat.add_assoc,Nat.add_comm 1 j]using this) (by simp only[List.length_cons]at hk;omega) (inv.set hr' hkn) hB' hK)
end
theorem Yn{P:Program}{C:Ctx}{id:Nat}{l:List Oper}{Q:Exit→St→Prop}{s:St}(n:Nat)(hm:P.follows .mixedOrders=true)(hB:Aq9 l.toArray n=true)
 (hh:aQ P C l.toArray s.h (fun t=>HW P C .any l.toArray (Q .normal) (l.length - n) (E5 l.length n) ⟨t,s.h⟩) (l.take n) s.t):Awp P C (.region id l.toArray true) Q s:=fun a w H=>by
 simp only[Aq9,Bool.and_eq_true,decide_eq_true_eq]at hB;obtain⟨⟨⟨⟨hsel,hnd⟩,hn⟩,hs⟩,hlex⟩:=hB;have hn':n≤l.length:=by simpa using hn
 have htl:(l.take n).length=n:=by simp;omega
 have inv0:HeadInv .any l.toArray n (Array.replicate l.toArray.size false):=
  ⟨by simp,fun j oj _ hl=>(by rw[getD_replicate_false]at hl;cases hl),fun t _ ht=>getD_in (by simpa using ht) (getD_replicate_false _ _)⟩
 have htail:∀(listed:Array Bool) (i:Nat),HeadInv .any l.toArray n listed→i < n→listed.getD i true=false→∀t,n≤t→t∉Region.ready .any l.toArray listed:=by
  intro listed i inv hi hun t ht hr;obtain⟨_,ot,hot,hall⟩:=mem_ready.1 hr;have htlt:t < l.toArray.size:=(Array.getElem?_eq_some_iff.1 hot).1;have h1:=List.all_eq_true.1 hs t (List.mem_range.2 htlt);simp only[Bool.or_eq_true,decide_eq_true_eq]at h1;rcases h1 with h1|h1
  ·omega
  ·obtain⟨oj,hoj,e,he,hb,hon⟩:=Region.waitsFor_spec (List.all_eq_true.1 h1 i (List.mem_range.2 hi));have:oj=ot:=Option.some.inj (hoj.symm.trans hot);subst this;have h2:=hall e he hb;rw[hon,getD_both hun]at h2;cases h2
 have HH:=Qp (P:=P) (C:=C) (h:=s.h) (sz:=l.length) (Lq:=fun t=>HW P C .any l.toArray (Q .normal) (l.length - n) (E5 l.length n) ⟨t,s.h⟩) htail (l.take n) 0 s.t (fun j hj=>by
  have hj':j < n:=by rw[htl]at hj;exact hj
  simp[hj']) (by simpa using htl) (by simpa[E5]using inv0) (by rw[htl];simpa[E5]using hlex) hh
 refine Dw hm hnd ?_;have H':St.rel C ⟨s.t,s.h⟩ a {w with drawn:=w.drawn+1}:=by
  obtain⟨hd,S,ψ,hh',hl⟩:=H;have hb:Below w.heap.size w {w with drawn:=w.drawn+1}:=⟨rfl,rfl,rfl,Nat.le_refl _,fun _ _=>rfl⟩
  exact⟨hd,S,ψ,hh'.grow hb (fun _ h=>h) (fun _ h=>.inl h) hh'.lt,Al (show Ext w S s.h ψ {w with drawn:=w.drawn+1} S s.h ψ from Ext.grow s.h ψ (fun k hk=>rfl) fun _ h=>h) _ _ hl⟩
 have:=Fd (Q':=fun e a' w'=>e= .normal∧∃s',Q e s'∧s'.rel C a' w') (g:=l.length - n) (fun listed t a' w' hL H'=>by
  rw[hL.2.1];exact D4 (fun s a w h H=>⟨rfl,s,h,H⟩) _ _ _ _ _ hL.2.2 H') _ _ _ _ _ HH H'
 rw[htl,show n+(l.length - n)=l.toArray.size by simp;omega]at this;exact this
section
variable{P:Program}{C:Ctx}{ops:Array Oper}{K:St→Prop}{listed:Array Bool}{g:Nat}{s:St}{t:List AV}{h:List ABlk}
def Acs(P:Program)(C:Ctx)(ops:Array Oper)(K:St→Prop)(g:Nat)(listed:Array Bool)(s:St)(rs:List Nat):Prop:=∀i∈rs,tOp P C ops i (HW P C .any ops K g (listed.setIfInBounds i true)) s
theorem Ek(rs:List Nat)(hr:Region.ready .any ops listed=rs)(hne:rs≠[])(hh:Acs P C ops K g listed s rs):HW P C .any ops K (g+1) listed s:=⟨fun h0=>absurd (hr▸h0) hne,hr▸hh⟩
theorem OT(hr:Region.ready .any ops listed= [])(hh:K s):HW P C .any ops K 0 listed s:=⟨hr,hh⟩
theorem Ah:Acs P C ops K g listed s []:=fun i hi=>by cases hi
theorem El{i:Nat}{rs:List Nat}{o:Oper}(ho:ops[i]? =some o)(hg:gA ops s.t o=some true)(h1:AOp P C o s (HW P C .any ops K g (listed.setIfInBounds i true)))(h2:Acs P C ops K g listed s rs):Acs P C ops K g listed s (i::rs):=fun j hj=>by
 rcases List.mem_cons.1 hj with rfl|hj
 ·unfold tOp;simp only[ho];exact⟨true,hg,fun _=>h1,fun e=>by cases e⟩
 ·exact h2 j hj
end
section
variable{P:Program}{C:Ctx}{ops:Array Oper}{md:Region.Mode}{h:List ABlk}{Inv:Array Bool→Prop}{n:Nat}
theorem R8{i:Nat}{oi:Oper}{v:AV}{L:Array Bool→List AV→Prop}(hset:∀listed i,Inv listed→i∈Region.ready md ops listed→i < n→Inv (listed.setIfInBounds i true))(hi:ops[i]? =some oi)
 (htail:∀listed i,Inv listed→i < n→listed.getD i true=false→∀t,n≤t→t∉Region.ready md ops listed) (hin:i < n)
 (hdone:∀listed t,L listed t→∀j∈Region.ready md ops listed,n≤j):
 ∀(f:Nat) (listed:Array Bool) (t:List AV),Inv listed→
  (∀j oj,ops[j]? =some oj→j≠i→listed.getD j true=false→(∀e∈oj.after,Region.binds md e=true→e.on≠i)→oi.apart ops oj=true)→
  i∈Region.ready md ops listed→EA P C ops h oi v t→
  YF P C md ops h n L f (listed.setIfInBounds i true) (AJ t oi.dst v)→YF P C md ops h n L (f+1) listed t:=by
 intro f;induction f with
 |zero=>
  intro listed t inv _ hr hy H;have hun:=(mem_ready.1 hr).1;refine⟨fun h=>(by rw[h]at hr;cases hr),fun j hj=>?_⟩;have hjn:j < n:=by
   rcases Nat.lt_or_ge j n with h|h
   ·exact h
   ·exact absurd hj (htail _ i inv hin hun j h)
  refine⟨hjn,?_⟩;by_cases hji:j=i
  ·subst hji;unfold aOp;simp only[hi];exact⟨v,hy,H⟩
  ·have:=hdone _ _ H j (ready_mono hj hji);omega
 |succ f ih=>
  intro listed t inv hfree hr hy H;have hun:=(mem_ready.1 hr).1;refine⟨fun h=>(by rw[h]at hr;cases hr),fun j hj=>?_⟩;have hjn:j < n:=by
   rcases Nat.lt_or_ge j n with h|h
   ·exact h
   ·exact absurd hj (htail _ i inv hin hun j h)
  refine⟨hjn,?_⟩;by_cases hji:j=i
  ·subst hji;unfold aOp;simp only[hi];exact⟨v,hy,H⟩
  ·have h1:=(H.2 j (ready_mono hj hji)).2;obtain⟨hjun,oj,hoj,hall⟩:=mem_ready.1 hj;have hnot:∀e∈oj.after,Region.binds md e=true→e.on≠i:=fun e he hb heq=>by
    have h1:=hall e he hb;rw[heq,getD_both hun]at h1;cases h1
   have h2:=Yb hoj (hfree j oj hoj hji hjun hnot) hy h1;have hfree':∀k ok,ops[k]? =some ok→k≠i→(listed.setIfInBounds j true).getD k true=false→
    (∀e∈ok.after,Region.binds md e=true→e.on≠i)→oi.apart ops ok=true:=fun k ok hk hki hun hno=>by
    refine hfree k ok hk hki ?_ hno;by_cases hjk:j=k
    ·subst hjk;exact hjun
    ·rw[getD_set_ne true hjk]at hun;exact hun
   refine TA (fun a' h3=>ih (listed.setIfInBounds j true) a' (hset _ _ inv hj hjn) hfree' (ready_mono hr (Ne.symm hji)) h3.1 ?_) h2;rw[Array.setIfInBounds_comm _ _ hji];exact h3.2
def aQo(P:Program)(C:Ctx)(ops:Array Oper)(h:List ABlk)(K:List AV→Prop):List Nat→List AV→Prop
 | [],t=>K t
 |i::rest,t=>∃o r,ops[i]? =some o∧EA P C ops h o r t∧aQo P C ops h K rest (AJ t o.dst r)
def BV:List Nat→Array Bool→Array Bool
 | [],l=>l
 |i::is,l=>BV is (l.setIfInBounds i true)
def Aks(ops:Array Oper)(n:Nat):List Nat→Array Bool→Bool
 | [],listed=>(Region.ready .any ops listed).all fun j=>decide (n≤j)
 |i::is,listed=>decide (i < n)&&(Region.ready .any ops listed).contains i&&Region.free .any ops listed i&&Aks ops n is (listed.setIfInBounds i true)
theorem Ov{Lq:List AV→Prop}(hset:∀listed i,Inv listed→i∈Region.ready .any ops listed→i < n→Inv (listed.setIfInBounds i true))
 (htail:∀listed i,Inv listed→i < n→listed.getD i true=false→∀t,n≤t→t∉Region.ready .any ops listed):
 ∀(l:List Nat) (listed:Array Bool) (t:List AV),Inv listed→Aks ops n l listed=true→aQo P C ops h Lq l t→
 YF P C .any ops h n (fun listed' t'=>(∀j∈Region.ready .any ops listed',n≤j)∧listed'=BV l listed∧Lq t') l.length listed t
 | [],listed,t,_,hB,hh=>⟨fun j hj=>of_decide_eq_true (List.all_eq_true.1 hB j hj),rfl,hh⟩
 |i::l,listed,t,inv,hB,hh=>by
  obtain⟨o,v,h0,hy,hK⟩:=hh;simp only[Aks,Bool.and_eq_true,decide_eq_true_eq]at hB;obtain⟨⟨⟨hin,hr⟩,hf⟩,hB'⟩:=hB;have hr':i∈Region.ready .any ops listed:=by simpa using hr
  exact R8 hset h0 htail hin (fun listed' a' hL=>hL.1) l.length _ t inv (Region.free_spec h0 hf) hr' hy (Ov hset htail l _ _ (hset _ _ inv hr' hin) hB' hK)
def SU(ops:Array Oper):List Nat→List AV→Option (List AV)
 | [],t=>some t
 |i::is,t=>
  match ops[i]? with
  |some ⟨dst,.move x,_,_,_,none⟩=>SU ops is (AJ t dst (evA t x))
  |_=>none
def JG(ops:Array Oper):List Nat→Array Bool→Bool
 | [],_=>true
 |i::is,listed=>(Region.ready .any ops listed).contains i&&Region.free .any ops listed i&&JG ops is (listed.setIfInBounds i true)
theorem KT{Q:Exit→Act→World→Prop}(hsel:Region.noSelect ops=true)(hQ:∀c a w,¬Q (.panic c) a w):∀(is:List Nat) (fuel:Nat) (listed:Array Bool) (t t':List AV) (a:Act) (w:World),JG ops is listed=true→SU ops is t=some t'→St.rel C ⟨t,h⟩ a w→
 (∀a',St.rel C ⟨t',h⟩ a' w→wpAny P .any ops Q fuel (BV is listed) a' w)→wpAny P .any ops Q (fuel+is.length) listed a w
 | [],fuel,listed,t,t',a,w,_,hm,H,hk=>by
  cases hm;exact hk a H
 |i::is,fuel,listed,t,t',a,w,hB,hm,H,hk=>by
  unfold SU at hm;split at hm <;> try(cases hm;done)
  rename_i dst x ty pos af ho;simp only[JG,Bool.and_eq_true]at hB;obtain⟨⟨hr,hf⟩,hB'⟩:=hB;obtain⟨hd,S,ψ,hh,hl⟩:=id H;have hy:Yields P ops ⟨dst,.move x,ty,pos,af,none⟩ (a.eval x) a:=.inl ⟨by simp[Region.wanted],fun w=>by simp[execOp]⟩;rw[show fuel+(i::is).length=(fuel+is.length)+1 from by simp;omega];refine wpAny_take ho hsel hf hr (fun c a w hq=>absurd hq (hQ c _ w)) hy ?_;exact KT hsel hQ is fuel _ _ t' _ w hB' hm ⟨by rw[put_defers];exact hd,S,ψ,hh,F0 hl dst (Ba hl x)⟩ hk
end
def Q0(ops:Array Oper):Nat→Nat→Nat→Bool
 |0,_,_=>false
 |f+1,j,i=>
  match ops[j]? with
  |some oj=>oj.after.any fun e=>Region.binds .any e&&(e.on ==i||Q0 ops f e.on i)
  |none=>false
theorem JV{ops:Array Oper}{n:Nat}{listed:Array Bool}(inv:HeadInv .any ops n listed):∀(f j i:Nat),(∀oj,ops[j]? =some oj→∀e∈oj.after,Region.binds .any e=true→listed.getD e.on false=true)→Q0 ops f j i=true→listed.getD i false=true
 |0,j,i,_,h=>by cases h
 |f+1,j,i,hj,h=>by
  unfold Q0 at h;cases ho:ops[j]? with
  |none=>rw[ho]at h;cases h
  |some oj=>
   rw[ho]at h;obtain⟨e,he,hb⟩:=Array.any_eq_true'.1 h;simp only[Bool.and_eq_true,Bool.or_eq_true,beq_iff_eq]at hb;have hl:=hj oj ho e he hb.1;rcases hb.2 with h1|h1
   ·rw[←h1];exact hl
   ·exact JV inv f e.on i (fun oj' ho' e' he' hb'=>inv.closed e.on oj' ho' hl e' he' hb') h1
def Ara(ops:Array Oper)(n:Nat)(fs is:List Nat):Bool:=
 (Region.noSelect ops&&GC ops)&&decide (n≤ops.size)&&(fs.all fun i=>decide (i < n))&&JG ops fs (Array.replicate ops.size false)&&Aks ops n is (BV fs (Array.replicate ops.size false))&&((List.range ops.size).all fun t=>decide (t < n)||(List.range n).all fun i=>fs.contains i||Q0 ops ops.size t i)
theorem Lc:∀(l:List Nat) (a:Array Bool) (j:Nat),a.getD j false=true→(BV l a).getD j false=true
 | [],a,j,h=>h
 |i::l,a,j,h=>Lc l _ j (getD_set_true h)
theorem Jp:∀(l:List Nat) (a:Array Bool) (j:Nat),j∈l→j < a.size→(BV l a).getD j false=true
 | [],a,j,h,_=>by cases h
 |i::l,a,j,h,hs=>by
  unfold BV;rcases List.mem_cons.1 h with rfl|h
  ·exact Lc l _ _ (by simp[Array.getD_eq_getD_getElem?,hs])
  ·exact Jp l _ j h (by simpa using hs)
theorem LI{ops:Array Oper}{n:Nat}:∀(fs:List Nat) (listed:Array Bool),HeadInv .any ops n listed→(fs.all fun i=>decide (i < n))=true→JG ops fs listed=true→HeadInv .any ops n (BV fs listed)
 | [],listed,inv,_,_=>inv
 |i::fs,listed,inv,hn,hB=>by
  simp only[List.all_cons,Bool.and_eq_true,decide_eq_true_eq]at hn;simp only[JG,Bool.and_eq_true]at hB;exact LI fs _ (inv.set (by simpa using hB.1.1) hn.1) hn.2 hB.2
theorem Yr{P:Program}{C:Ctx}{id:Nat}{l:List Oper}{Q:Exit→St→Prop}{s:St}(n:Nat)(fs is:List Nat){t1:List AV}(hm:P.follows .mixedOrders=true)(hB:Ara l.toArray n fs is=true)(hl:fs.length+is.length=n∧n≤l.length)(hmv:SU l.toArray fs s.t=some t1)
 (hh:aQo P C l.toArray s.h (fun t=>HW P C .any l.toArray (Q .normal) (l.length - n) (BV is (BV fs (Array.replicate l.length false))) ⟨t,s.h⟩) is t1):Awp P C (.region id l.toArray true) Q s:=fun a w H=>by
 simp only[Ara,Bool.and_eq_true,decide_eq_true_eq]at hB;obtain⟨⟨⟨⟨⟨⟨hsel,hnd⟩,hn⟩,hfn⟩,hfree⟩,hord⟩,hs⟩:=hB;have inv0:HeadInv .any l.toArray n (Array.replicate l.toArray.size false):=
  ⟨by simp,fun j oj _ hl=>(by rw[getD_replicate_false]at hl;cases hl),fun t _ ht=>getD_in (by simpa using ht) (getD_replicate_false _ _)⟩
 let Inv:Array Bool→Prop:=fun listed=>HeadInv .any l.toArray n listed∧∀j∈fs,listed.getD j false=true
 have hset:∀listed i,Inv listed→i∈Region.ready .any l.toArray listed→i < n→Inv (listed.setIfInBounds i true):=fun listed i inv hr hi=>⟨inv.1.set hr hi,fun j hj=>getD_set_true (inv.2 j hj)⟩
 have htail:∀(listed:Array Bool) (i:Nat),Inv listed→i < n→listed.getD i true=false→∀t,n≤t→t∉Region.ready .any l.toArray listed:=by
  intro listed i inv hi hun t ht hr;obtain⟨_,ot,hot,hall⟩:=mem_ready.1 hr;have htlt:t < l.toArray.size:=(Array.getElem?_eq_some_iff.1 hot).1;have h1:=List.all_eq_true.1 hs t (List.mem_range.2 htlt);simp only[Bool.or_eq_true,decide_eq_true_eq]at h1;rcases h1 with h1|h1
  ·omega
  ·have h2:=List.all_eq_true.1 h1 i (List.mem_range.2 hi);simp only[Bool.or_eq_true]at h2;rcases h2 with h2|h2
   ·have:=inv.2 i (by simpa using h2);rw[getD_both hun]at this;cases this
   ·have h3:=JV inv.1 _ t i (fun oj hoj e he hb=>by
     have:oj=ot:=Option.some.inj (hoj.symm.trans hot);subst this;exact hall e he hb) h2
    rw[getD_both hun]at h3;cases h3
 have inv1:Inv (BV fs (Array.replicate l.toArray.size false)):=⟨LI fs _ inv0 hfn hfree,fun j hj=>Jp fs _ j hj (by
  have:=List.all_eq_true.1 hfn j hj;simp only[decide_eq_true_eq]at this;simp;omega)⟩
 have HH:=Ov (P:=P) (C:=C) (h:=s.h) (Inv:=Inv) (Lq:=fun t=>HW P C .any l.toArray (Q .normal) (l.length - n) (BV is (BV fs (Array.replicate l.length false))) ⟨t,s.h⟩) hset htail is _ t1 inv1 hord hh;have H':St.rel C ⟨s.t,s.h⟩ a {w with drawn:=w.drawn+1}:=by
  obtain⟨hd,S,ψ,hh',hl⟩:=H;have hb:Below w.heap.size w {w with drawn:=w.drawn+1}:=⟨rfl,rfl,rfl,Nat.le_refl _,fun _ _=>rfl⟩
  exact⟨hd,S,ψ,hh'.grow hb (fun _ h=>h) (fun _ h=>.inl h) hh'.lt,Al (show Ext w S s.h ψ {w with drawn:=w.drawn+1} S s.h ψ from Ext.grow s.h ψ (fun k hk=>rfl) fun _ h=>h) _ _ hl⟩
 refine Dw hm hnd ?_;have key:=KT (P:=P) (C:=C) (h:=s.h) (Q:=fun e a' w'=>e= .normal∧∃s',Q e s'∧s'.rel C a' w') hsel (fun c a w hq=>by cases hq.1) fs (is.length+(l.length - n)) (Array.replicate l.toArray.size false) s.t t1 a {w with drawn:=w.drawn+1} hfree hmv H' fun a' H''=>
  Fd (Q':=fun e a' w'=>e= .normal∧∃s',Q e s'∧s'.rel C a' w') (g:=l.length - n) (fun listed t a' w' hL H'=>by
   rw[hL.2.1];have:=hL.2.2;simp only[List.size_toArray]at this⊢;exact D4 (fun s a w h H=>⟨rfl,s,h,H⟩) _ _ _ _ _ this H') _ _ _ _ _ HH H''
 rw[show is.length+(l.length - n)+fs.length=l.toArray.size by simp;omega]at key;exact key
section
variable{P:Program}{C:Ctx}{ops:Array Oper}{K:List AV→Prop}{h:List ABlk}{t:List AV}
theorem Aqy{i:Nat}{is:List Nat}{o:Oper}(ho:ops[i]? =some o)(hg:gA ops t o=some true)(hq:QOp P C o t h (aQo P C ops h K is)):aQo P C ops h K (i::is) t:=let ⟨r,h1,h2⟩:=hq;⟨o,r,ho,.inl ⟨hg,h1⟩,h2⟩
theorem Aci{l:List Nat}{t':List AV}(ht:t=t')(hk:aQo P C ops h K l t'):aQo P C ops h K l t:=by subst ht;exact hk
theorem Agg(hk:K t):aQo P C ops h K [] t:=hk
end
section
variable{P:Program}{C:Ctx}{t:List AV}{h:List ABlk}{o:Oper}
theorem Ii.res{i b off:Nat}{R:Res}{rs:List AV}(hi:h[i]? =some (.res R))(hc:AZ rs=true)
 (hp:∀w S,R.R w S→∀j r,rs[j]? =some r→∃u,w.cell? ⟨b,off+j,none⟩=some u∧AV.rel w S [] ψ0 r u):Ii h (.lit (.pointer (some ⟨b,off,none⟩))) rs:=fun C S ψ w v H hv=>by
 unfold AV.rel at hv;refine⟨b,off,hv,fun j y hy=>?_⟩;obtain⟨u,h1,h2⟩:=hp w S (H.blk i _ hi).2 j y hy;have hcy:AV.cl y=true:=by
  have:∀(l:List AV),AZ l=true→∀y∈l,AV.cl y=true:=fun l=>by
   induction l with
   |nil=>intro _ y hy;cases hy
   |cons x l ih=>
    intro hl y hy;unfold AZ at hl;rw[Bool.and_eq_true]at hl;rcases List.mem_cons.1 hy with rfl|hy
    ·exact hl.1
    ·exact ih hl.2 y hy
  exact this rs hc y (List.mem_of_getElem? hy)
 exact⟨u,h1,Br _ _ hcy h2⟩
theorem BQ{ty:TypeId}{x:Operand}{n i b off:Nat}{R:Res}{r:AV}[AG P ty false n](ho:o.op= .load ty x)(hx:evA t x= .lit (.pointer (some ⟨b,off,none⟩)))(hi:h[i]? =some (.res R))(hc:AV.cl r=true)
 (hp:∀w S,R.R w S→∃u,w.cell? ⟨b,off,none⟩=some u∧AV.rel w S [] ψ0 r u):Av P C t h o r:=
 C9 (cells:=[r]) ho AG.eq hx (Ii.res (rs:=[r]) hi (by unfold AZ;rw[hc];rfl) fun w S hR j y hy=>by
  cases j with
  |zero=>cases hy;exact hp w S hR
  |succ j=>cases hy) rfl
theorem Ja{ty:TypeId}{x y:Operand}{ik:IntKind}{k n b off len c:Nat}[ES P ty n](ho:o.op= .indexAddr ty x y)(hx:evA t x= .lit (.slice (some ⟨b,off,none⟩) len c))(hy:evA t y= .lit (.int ik (k:Int)))(hk:k < len):
 Av P C t h o (.lit (.pointer (some ⟨b,off+k * n,none⟩))):=
 Ap fun S ψ w ρ H hρ=>by
  have h1:=hρ x (by simp[ho,Op.operands]);have h2:=hρ y (by simp[ho,Op.operands]);rw[hx]at h1;rw[hy]at h2;unfold AV.rel at h1 h2;have hr:=E4 (P:=P) (w:=w) (b:=b) (off:=off) (c:=c) (ik:=ik) (ES.eq (P:=P) (ty:=ty) (n:=n)) hk;exact⟨_,by simp[execOp,ho,h1,h2,hr];rfl,by unfold AV.rel;rfl⟩
def FnR(P:Program)(f:FuncId)(R:Res)(args:List AV)(r:AV):Prop:=
 Bw P f=true∧∀(w:World) (S:Nat→Prop) (vs:List Value),(∀k,S k→k < w.heap.size)→(∀g,R.F g→g < w.heap.size)→R.R w S→Ad w S [] ψ0 args vs→
  Calls P f vs.toArray w fun e w'=>∃v,e= .returned v∧Vm w S [] ψ0 r v w'
theorem Mi{f:FuncId}{args:Array Operand}{tys:Array TypeId}{xs:List AV}{r:AV}{i:Nat}{R:Res}(hi:h[i]? =some (.res R))
 (ho:o.op= .call {callee:=.value (.func f),args:=args,argTypes:=tys}) (hF:FnR P f R xs r) (hx:args.toList.map (evA t)=xs) (hc:AZ xs=true) (hr:AV.cl r=true):Av P C t h o r:=by
 intro S ψ w ρ H hρ;have h1:ρ (.func f)= .func (.func f) #[] #[]:=by
  have:=hρ (.func f) (by rw[ho];exact Array.mem_append.2 (.inl (by simp)));simpa[evA,AV.rel]using this
 rw[CJ ho hF.1 ρ w h1];refine⟨rfl,?_⟩;have h2:Ad w S h ψ xs (args.toList.map ρ):=by
  rw[←hx];exact BY fun x hx'=>hρ x (by rw[ho];exact Array.mem_append.2 (.inr (Array.mem_toList_iff.1 hx')))
 have hB:=H.blk i _ hi;have h3:=hF.2 w S (args.toList.map ρ) H.lt (fun g hg=>(hB.1 g hg).2.2) hB.2 (AQ _ _ hc h2);rw[show(args.map ρ)=(args.toList.map ρ).toArray from(by rw[←Array.toList_map])];refine h3.mono ?_;rintro e w' ⟨v,he,hb,S',k1,k2,k3,k4⟩;exact⟨v,he,hb,S',k1,k2,k3,Br _ _ hr k4⟩
structure Turns{ι:Type}(w:World)(S:Nat→Prop)(F:Nat→Prop)(Rs:ι→Res)(val:ι→Value)(v:Value)(w':World):Prop where
 gr:Gr F w w'
 some:∃p,v=val p∧(Rs p).R w' S∧∀k,(Rs p).F k→(F k∨w.heap.size≤k)∧k < w'.heap.size
def Q2{ι:Type}(P:Program)(w:World)(S:Nat→Prop)(F:Nat→Prop)(Rs:ι→Res)(val:ι→Value):Result Next→Prop
 | .ok (.value v) w'=>Turns w S F Rs val v w'
 | .ok .skip w'=>Turns w S F Rs val undef w'
 | .ok (.enter f args) w1=>w1=w∧Calls P f args w fun e w'=>∃v,e= .returned v∧Turns w S F Rs val v w'
 |_=>False
variable{ι:Type}{Rs:ι→Res}{val:ι→Value}
theorem Is{w:World}{S:Nat→Prop}{F:Nat→Prop}{ρ:Operand→Value}(hq:Q2 P w S F Rs val ((execOp ρ o).run P w)):∀c,o.op≠.defer c:=fun c e=>by
 simp only[execOp,e,Sem.run_bind]at hq;generalize (resolve ρ c o.type).run P w=x at hq;cases x with
 |ok d w'=>exact hq
 |halt x w'=>exact hq
theorem OQ{K:Act→World→Prop}{Q':Exit→Act→World→Prop}{a:Act}{w:World}{S:Nat→Prop}{F:Nat→Prop}{res:Result Next}(hq:Q2 P w S F Rs val res)(hK:∀v w',Turns w S F Rs val v w'→K (a.put o.dst v) w'):o.upon P a K Q' res:=by
 cases res with
 |ok n w'=>
  cases n <;> simp only[Q2]at hq <;> simp only[Oper.upon]
  case value v=>exact hK v w' hq
  case skip=>exact hK undef w' hq
  case enter f args=>
   obtain⟨rfl,hc⟩:=hq;exact hc.mono fun e w'' ⟨v,he,hg⟩=>by subst he;exact hK v w'' hg
 |halt x w'=>simp only[Q2]at hq
theorem AOp.turn{i:Nat}{R:Res}{K:St→Prop}(hi:h[i]? =some (.res R))(hm:∀p,(Rs p).mrk=R.mrk)
 (hq:∀S ψ w (ρ:Operand→Value),HRel C h S ψ w→R.R w S→(∀g,R.F g→g < w.heap.size)→(∀x∈o.op.operands,AV.rel w S h ψ (evA t x) (ρ x))→Q2 P w S R.F Rs val ((execOp ρ o).run P w))
 (hK:∀p,K ⟨AJ t o.dst (.lit (val p)),h.set i (.res (Rs p))⟩):AOp P C o ⟨t,h⟩ K:=by
 rintro Q' a w ⟨hd,S,ψ,H,hl⟩;have hB:=H.blk i _ hi;have hq':=hq S ψ w a.eval H hB.2 (fun g hg=>(hB.1 g hg).2.2) fun x _=>Ba hl x
 refine⟨Is hq',OQ hq' fun v w' hT=>?_⟩;obtain⟨p,rfl,hR,hF⟩:=hT.some;have hblk:∀k,S k→w'.heap[k]? =w.heap[k]?:=fun k hk=>hT.gr.block k (H.lt k hk) fun hf=>(hB.1 k hf).2.1 hk
 have X:Ext w S h ψ w' S (h.set i (.res (Rs p))) (Bk ψ i (ψ i)):=Ext.set hblk hi (fun c' hc=>by simp[ABlk.ver]at hc) fun h=>by simp[AN]at h
 have hBn:Ho C.N w' S (h.set i (.res (Rs p))) (Bk ψ i (ψ i)) (ψ i) (.res (Rs p)):=⟨fun g hg=>by
  obtain⟨h1,h2⟩:=hF g hg;rcases h1 with h1|h1
  ·exact⟨(hB.1 g h1).1,(hB.1 g h1).2.1,h2⟩
  ·exact⟨fun hn=>by have:=H.nlt g hn;have:=H.bel.size;omega,fun hs=>by have:=H.lt g hs;omega,h2⟩,hR⟩
 exact⟨_,hK p,JZ (s:=⟨t,h⟩) hi hd hl (H.set hi rfl hT.gr X hBn fun g hg=>(hF g hg).1) X (by unfold AV.rel;rfl) (by show(Rs p).mrk.map Hs=R.mrk.map Hs;rw[hm p])⟩
theorem Cj{K:St→Prop}(hm:∀p,(Rs p).mrk= [])
 (hq:∀S ψ w (ρ:Operand→Value),HRel C h S ψ w→(∀x∈o.op.operands,AV.rel w S h ψ (evA t x) (ρ x))→Q2 P w S (fun _=>False) Rs val ((execOp ρ o).run P w))
 (hK:∀p,K ⟨AJ t o.dst (.lit (val p)),h++[.res (Rs p)]⟩):AOp P C o ⟨t,h⟩ K:=by
 rintro Q' a w ⟨hd,S,ψ,H,hl⟩;have hq':=hq S ψ w a.eval H fun x _=>Ba hl x
 refine⟨Is hq',OQ hq' fun v w' hT=>?_⟩;obtain⟨p,rfl,hR,hF⟩:=hT.some;have hb:Below w.heap.size w w':=⟨hT.gr.os,hT.gr.tape,hT.gr.output,hT.gr.size,fun k hk=>hT.gr.block k hk fun h=>h⟩
 have X:Ext w S h ψ w' S (h++[.res (Rs p)]) (Bk ψ h.length (val p)):=Ext.push _ _ fun k hk=>hb.block k (H.lt k hk)
 have hBn:Ho C.N w' S (h++[.res (Rs p)]) (Bk ψ h.length (val p)) (val p) (.res (Rs p)):=⟨fun g hg=>by
  obtain⟨h1,h2⟩:=hF g hg;rcases h1 with h1|h1
  ·exact h1.elim
  ·exact⟨fun hn=>by have:=H.nlt g hn;have:=H.bel.size;omega,fun hs=>by have:=H.lt g hs;omega,h2⟩,hR⟩
 exact⟨_,hK p,NK (s:=⟨t,h⟩) hd hl (H.push hb hBn fun g hg=>by
  rcases(hF g hg).1 with h1|h1
  ·exact h1.elim
  ·exact h1) X (by unfold AV.rel;rfl) (by show(Rs p).mrk.map Hs= [];rw[hm p];rfl)⟩
def QE(P:Program)(f:FuncId)(args:List AV)(Rs:ι→Res)(val:ι→Value):Prop:=
 Bw P f=true∧∀(w:World) (S:Nat→Prop) (vs:List Value),(∀k,S k→k < w.heap.size)→Ad w S [] ψ0 args vs→
  Calls P f vs.toArray w fun e w'=>∃v,e= .returned v∧Turns w S (fun _=>False) Rs val v w'
theorem Co{f:FuncId}{args:Array Operand}{tys:Array TypeId}{xs:List AV}{K:St→Prop}
 (ho:o.op= .call {callee:=.value (.func f),args:=args,argTypes:=tys}) (hF:QE P f xs Rs val) (hm:∀p,(Rs p).mrk= []) (hx:args.toList.map (evA t)=xs) (hc:AZ xs=true)
 (hK:∀p,K ⟨AJ t o.dst (.lit (val p)),h++[.res (Rs p)]⟩):AOp P C o ⟨t,h⟩ K:=by
 refine Cj hm (fun S ψ w ρ H hρ=>?_) hK;have h1:ρ (.func f)= .func (.func f) #[] #[]:=by
  have:=hρ (.func f) (by rw[ho];exact Array.mem_append.2 (.inl (by simp)));simpa[evA,AV.rel]using this
 rw[CJ ho hF.1 ρ w h1];refine⟨rfl,?_⟩;have h2:Ad w S h ψ xs (args.toList.map ρ):=by
  rw[←hx];exact BY fun x hx'=>hρ x (by rw[ho];exact Array.mem_append.2 (.inr (Array.mem_toList_iff.1 hx')))
 rw[show(args.map ρ)=(args.toList.map ρ).toArray from(by rw[←Array.toList_map])];exact hF.2 w S (args.toList.map ρ) H.lt (AQ _ _ hc h2)
def Yj(P:Program)(f:FuncId)(R:Res)(args:List AV)(Rs:ι→Res)(val:ι→Value):Prop:=
 Bw P f=true∧∀(w:World) (S:Nat→Prop) (vs:List Value),(∀k,S k→k < w.heap.size)→(∀g,R.F g→g < w.heap.size)→R.R w S→Ad w S [] ψ0 args vs→
  Calls P f vs.toArray w fun e w'=>∃v,e= .returned v∧Turns w S (fun _=>False) Rs val v w'
theorem QP{i:Nat}{R:Res}{f:FuncId}{args:Array Operand}{tys:Array TypeId}{xs:List AV}{K:St→Prop}(hi:h[i]? =some (.res R))
 (ho:o.op= .call {callee:=.value (.func f),args:=args,argTypes:=tys}) (hF:Yj P f R xs Rs val) (hm:∀p,(Rs p).mrk= []) (hx:args.toList.map (evA t)=xs) (hc:AZ xs=true)
 (hK:∀p,K ⟨AJ t o.dst (.lit (val p)),h++[.res (Rs p)]⟩):AOp P C o ⟨t,h⟩ K:=by
 refine Cj hm (fun S ψ w ρ H hρ=>?_) hK;have h1:ρ (.func f)= .func (.func f) #[] #[]:=by
  have:=hρ (.func f) (by rw[ho];exact Array.mem_append.2 (.inl (by simp)));simpa[evA,AV.rel]using this
 rw[CJ ho hF.1 ρ w h1];refine⟨rfl,?_⟩;have h2:Ad w S h ψ xs (args.toList.map ρ):=by
  rw[←hx];exact BY fun x hx'=>hρ x (by rw[ho];exact Array.mem_append.2 (.inr (Array.mem_toList_iff.1 hx')))
 rw[show(args.map ρ)=(args.toList.map ρ).toArray from(by rw[←Array.toList_map])];have hB:=H.blk i _ hi;exact hF.2 w S (args.toList.map ρ) H.lt (fun g hg=>(hB.1 g hg).2.2) hB.2 (AQ _ _ hc h2)
def Gh(P:Program)(f:FuncId)(R:Res)(args:List AV)(Rs:ι→Res)(val:ι→Value):Prop:=
 Bw P f=true∧∀(w:World) (S:Nat→Prop) (vs:List Value),(∀k,S k→k < w.heap.size∧¬R.F k)→(∀g,R.F g→g < w.heap.size)→R.R w S→Ad w S [] ψ0 args vs→
  Calls P f vs.toArray w fun e w'=>∃v,e= .returned v∧Turns w S R.F Rs val v w'
theorem BR{i:Nat}{R:Res}{f:FuncId}{args:Array Operand}{tys:Array TypeId}{xs:List AV}{K:St→Prop}(hi:h[i]? =some (.res R))
 (ho:o.op= .call {callee:=.value (.func f),args:=args,argTypes:=tys}) (hF:Gh P f R xs Rs val) (hm:∀p,(Rs p).mrk=R.mrk) (hx:args.toList.map (evA t)=xs) (hc:AZ xs=true)
 (hK:∀p,K ⟨AJ t o.dst (.lit (val p)),h.set i (.res (Rs p))⟩):AOp P C o ⟨t,h⟩ K:=by
 refine AOp.turn hi hm (fun S ψ w ρ H hR hlt hρ=>?_) hK;have h1:ρ (.func f)= .func (.func f) #[] #[]:=by
  have:=hρ (.func f) (by rw[ho];exact Array.mem_append.2 (.inl (by simp)));simpa[evA,AV.rel]using this
 rw[CJ ho hF.1 ρ w h1];refine⟨rfl,?_⟩;have h2:Ad w S h ψ xs (args.toList.map ρ):=by
  rw[←hx];exact BY fun x hx'=>hρ x (by rw[ho];exact Array.mem_append.2 (.inr (Array.mem_toList_iff.1 hx')))
 rw[show(args.map ρ)=(args.toList.map ρ).toArray from(by rw[←Array.toList_map])];exact hF.2 w S (args.toList.map ρ) (fun k hk=>⟨H.lt k hk,fun hf=>((H.blk i _ hi).1 k hf).2.1 hk⟩) hlt hR (AQ _ _ hc h2)
theorem DS{i:Nat}{R R':Res}(hi:h[i]? =some (.res R))(hF:∀g,R'.F g→R.F g)(hR:∀w S,R.R w S→R'.R w S)(hm:R'.mrk=R.mrk):St.le C ⟨t,h⟩ ⟨t,h.set i (.res R')⟩:=fun a w ⟨hd,S,ψ,H,hl⟩=>by
 have hB:=H.blk i _ hi;have X:Ext w S h ψ w S (h.set i (.res R')) (Bk ψ i (ψ i)):=Ext.set (fun _ _=>rfl) hi (fun c' hc=>by simp[ABlk.ver]at hc) fun h=>by simp[AN]at h
 refine⟨by rw[hd];exact(Do hi (by show R'.mrk.map Hs=R.mrk.map Hs;rw[hm])).symm,S,_,H.set (v':=ψ i) hi rfl ⟨rfl,rfl,rfl,Nat.le_refl _,fun _ _ _=>rfl⟩ X ⟨fun g hg=>hB.1 g (hF g hg),hR w S hB.2⟩ fun g hg=>.inl (hF g hg),Al X _ _ hl⟩
theorem C8{i j:Nat}{R1 R2 R:Res}(hij:i≠j)(hi:h[i]? =some (.res R1))(hj:h[j]? =some (.res R2))(h1:R1.mrk= [])(h2:R2.mrk= [])(h3:R.mrk= [])(hF:∀g,R.F g→R1.F g∨R2.F g)
 (hR:∀w S,R1.R w S→R2.R w S→(∀g,R1.F g→¬R2.F g)→R.R w S):St.le C ⟨t,h⟩ ⟨t,(h.set j .dead).set i (.res R)⟩:=fun a w ⟨hd,S,ψ,H,hl⟩=>by
 have hB1:=H.blk i _ hi;have hB2:=H.blk j _ hj;have hil:=(List.getElem?_eq_some_iff.1 hi).1;have hjl:=(List.getElem?_eq_some_iff.1 hj).1;have hdis:∀g,R1.F g→¬R2.F g:=fun g k1 k2=>H.dis i j hij (by rw[hi];rfl) (by rw[hj];rfl) g (by rw[hi];exact k1) (by rw[hj];exact k2)
 have X1:Ext w S h ψ w S (h.set j .dead) (Bk ψ j (ψ j)):=Ext.set (fun _ _=>rfl) hj (fun c' hc=>by simp[ABlk.ver]at hc) fun h=>by simp[AN]at h
 have hi':(h.set j .dead)[i]? =some (.res R1):=by rw[List.getElem?_set_ne (Ne.symm hij)];exact hi
 have X2:Ext w S (h.set j .dead) (Bk ψ j (ψ j)) w S ((h.set j .dead).set i (.res R)) (Bk (Bk ψ j (ψ j)) i (Bk ψ j (ψ j) i)):=Ext.set (fun _ _=>rfl) hi' (fun c' hc=>by simp[ABlk.ver]at hc) fun h=>by simp[AN]at h
 have e:∀(φ:Nat→Value) k,Bk φ k (φ k)=φ:=fun φ k=>funext fun q=>by unfold Bk;split <;> simp_all
 rw[e]at X1;rw[e,e]at X2;have X:Ext w S h ψ w S ((h.set j .dead).set i (.res R)) ψ:=⟨fun _ _=>rfl,fun _ h=>h,by simp,fun k c' hk hv=>by
  obtain⟨c1,k1,k2,k3⟩:=X2.ver k c' (by simpa using hk) hv;obtain⟨c2,k4,k5,k6⟩:=X1.ver k c1 hk k1;exact⟨c2,k4,by omega,fun e'=>⟨rfl,by rw[(k3 (by omega)).2,(k6 (by omega)).2]⟩⟩,fun k hk hv=>⟨(X1.box k hk (X2.box k (by simpa using hk) hv).1).1,rfl⟩⟩
 have hget:∀k b,((h.set j .dead).set i (.res R))[k]? =some b→(k=i∧b= .res R)∨(k=j∧b= .dead)∨(k≠i∧k≠j∧h[k]? =some b):=fun k b hb=>by
  by_cases hki:k=i
  ·subst hki;rw[List.getElem?_set_self (by simpa using hil)]at hb;cases hb;exact .inl ⟨rfl,rfl⟩
  ·rw[List.getElem?_set_ne (Ne.symm hki)]at hb;by_cases hkj:k=j
   ·subst hkj;rw[List.getElem?_set_self hjl]at hb;cases hb;exact .inr (.inl ⟨rfl,rfl⟩)
   ·rw[List.getElem?_set_ne (Ne.symm hkj)]at hb;exact .inr (.inr ⟨hki,hkj,hb⟩)
 refine⟨?_,S,ψ,⟨H.bel,H.nlt,H.lt,H.sub,H.new,fun k b hb=>?_,fun k q hkq hk hq g g1 g2=>?_⟩,Al X _ _ hl⟩
 ·rw[hd];show mkD h=_;rw[Do hi' (by show R.mrk.map Hs=R1.mrk.map Hs;rw[h1,h3]),Do hj (by show []=R2.mrk.map Hs;rw[h2];rfl)]
 ·rcases hget k b hb with⟨rfl,rfl⟩|⟨rfl,rfl⟩|⟨_,_,hb⟩
  ·exact⟨fun g hg=>(hF g hg).elim (hB1.1 g) (hB2.1 g),hR w S hB1.2 hB2.2 hdis⟩
  ·trivial
  ·exact(H.blk k b hb).keep X fun g _=>⟨rfl,fun h=>h⟩
 ·have key:∀k,ABlk.live ((h.set j .dead).set i (.res R))[k]? =true→ftp ((h.set j .dead).set i (.res R))[k]? (ψ k) g→(k=i∧(R1.F g∨R2.F g))∨(k≠i∧k≠j∧ABlk.live h[k]? =true∧ftp h[k]? (ψ k) g):=fun k k1 k2=>by
   obtain⟨b,hb⟩:=DM k1;rw[hb]at k1 k2;rcases hget k b hb with⟨rfl,rfl⟩|⟨rfl,rfl⟩|⟨q1,q2,hb'⟩
   ·exact .inl ⟨rfl,hF g k2⟩
   ·cases k1
   ·exact .inr ⟨q1,q2,by rw[hb'];exact k1,by rw[hb'];exact k2⟩
  have no:∀k,k≠i→k≠j→ABlk.live h[k]? =true→ftp h[k]? (ψ k) g→(R1.F g∨R2.F g)→False:=fun k q1 q2 q3 q4 q5=>by
   rcases q5 with q5|q5
   ·exact H.dis k i q1 q3 (by rw[hi];rfl) g q4 (by rw[hi];exact q5)
   ·exact H.dis k j q2 q3 (by rw[hj];rfl) g q4 (by rw[hj];exact q5)
  rcases key k hk g1 with⟨e1,f1⟩|⟨a1,a2,a3,a4⟩ <;> rcases key q hq g2 with⟨e2,f2⟩|⟨b1,b2,b3,b4⟩
  ·exact hkq (e1.trans e2.symm)
  ·exact no q b1 b2 b3 b4 f1
  ·exact no k a1 a2 a3 a4 f2
  ·exact H.dis k q hkq a3 b3 g a4 b4
end
def Apg(P:Program)(gf:FuncId)(lb:Array Value)(Sg:Nat→Prop)(W0:World)(encs:Nat→List Value→Prop)(N:Nat):Prop:=
 ∀(l:Nat) (J:Nat→World→Prop) (W:World),KS Sg W0 W→
  (∀k vs W1,k < N→encs k vs→J k W1→YieldAt Fence.wide 2 P l vs.toArray W1 fun e W'=>e= .returned (.bool true)∧J (k+1) W'∧KS Sg W1 W')→
  J 0 W→CallsIn Fence.wide 3 P gf (#[.func (.yield l) #[] #[]]++lb) W fun e W'=>(∃v,e= .returned v)∧J N W'
def Bq(ds:List Nat):Res:=⟨ds,fun g=>g∈ds,fun w _=>ds.Nodup∧∀d∈ds,w.heap[d]? =some (.deferred (some [])),fun h hk _ _=>⟨h.1,fun d hd=>(hk d hd).trans (h.2 d hd)⟩⟩
def owns(h:List ABlk)(ψ:Nat→Value)(g:Nat):Prop:=∃j,ABlk.live h[j]? =true∧ftp h[j]? (ψ j) g
section
variable{C:Ctx}{h h':List ABlk}{S:Nat→Prop}{ψ:Nat→Value}{w w' W W':World}{N N':Nat→Prop}
theorem Ho.re{b:ABlk}{v:Value}(H:Ho N w S h ψ v b)(hn:∀g,ftp (some b) v g→ABlk.live (some b)=true→¬N' g):Ho N' w S h ψ v b:=by
 cases b with
 |dead=>trivial
 |box cells=>
  obtain⟨g,cs,e,rfl,h1,h2,h3,h4⟩:=H;exact⟨g,cs,e,rfl,hn g rfl rfl,h2,h3,h4⟩
 |row ver e T l=>
  obtain⟨cells,h1,h0,h2,h3⟩:=H;exact⟨cells,h1,h0,h2,fun g hg=>⟨hn g (AR hg) rfl,(h3 g hg).2⟩⟩
 |res R=>exact⟨fun g hg=>⟨hn g hg rfl,(H.1 g hg).2⟩,H.2⟩
theorem HRel.own_lt(H:HRel C h S ψ w){g:Nat}(hg:owns h ψ g):¬C.N g∧g < w.heap.size∧¬S g:=by
 obtain⟨j,h1,h2⟩:=hg;obtain⟨b,hb⟩:=DM h1;rw[hb]at h1 h2;exact(H.blk j b hb).lt h1 g h2
theorem HRel.re(H:HRel C h S ψ W)(hS:∀k,S k→W'.heap[k]? =W.heap[k]?)(hO:∀k,owns h ψ k→W'.heap[k]? =W.heap[k]?)(N':Nat→Prop)(hN:∀k,N' k→k < W'.heap.size∧¬owns h ψ k)(rd:Option Nat):HRel ⟨W',S,N',rd⟩ h S ψ W':=by
 refine⟨Kp.refl _ _,fun k hk=>(hN k hk).1,fun k hk=>?_,fun _ h=>h,fun _ h=>.inl h,fun i b hi=>?_,H.dis⟩
 ·have h1:=hS k hk;rw[Array.getElem?_eq_getElem (H.lt k hk)]at h1;exact(Array.getElem?_eq_some_iff.1 h1).1
 ·by_cases hl:ABlk.live (some b)=true
  ·have hown:∀g,ftp (some b) (ψ i) g→owns h ψ g:=fun g hg=>⟨i,by rw[hi];exact hl,by rw[hi];exact hg⟩
   exact Ho.re ((H.blk i b hi).keep (Ext.grow h ψ hS fun _ h=>h) fun g hg=>⟨hO g (hown g hg),fun h=>h⟩) fun g hg _ hn=>(hN g hn).2 (hown g hg)
  ·cases b <;> simp[ABlk.live]at hl
   trivial
theorem HRel.to{C':Ctx}(H:HRel C' h S ψ W)(hbel:Kp C.N C.w0 W)(hnlt:∀k,C.N k→k < C.w0.heap.size)(hsub:∀k,C.S0 k→S k)(hnew:∀k,S k→C.S0 k∨C.w0.heap.size≤k)(hown:∀g,owns h ψ g→¬C.N g):HRel C h S ψ W:=
 ⟨hbel,hnlt,H.lt,hsub,hnew,fun i b hi=>(H.blk i b hi).re fun g hg hl=>hown g ⟨i,by rw[hi];exact hl,by rw[hi];exact hg⟩,H.dis⟩
theorem HRel.cut(H:HRel C h S ψ w)(hc:Cut h h')(hb:∀b∈h',Z5 h'.length b=true):HRel C h' S ψ w:=by
 refine⟨H.bel,H.nlt,H.lt,H.sub,H.new,fun i b hi=>?_,fun i j hij h1 h2=>by rw[hc.same h1,hc.same h2];exact H.dis i j hij (hc.live h1) (hc.live h2)⟩;rcases hc.blk i b hi with rfl|h1
 ·trivial
 ·have hB:=H.blk i b h1;cases b with
  |dead=>trivial
  |box cells=>
   obtain⟨g,cs,e,k1,k2,k3,k4,k5⟩:=hB;exact⟨g,cs,e,k1,k2,k3,k4,DC hc _ _ (hb _ (List.mem_of_getElem? hi)) k5⟩
  |row ver e T l=>exact hB
  |res R=>exact hB
theorem Zb(hc:Cut h h'){g:Nat}(hg:owns h' ψ g):owns h ψ g:=by
 obtain⟨j,h1,h2⟩:=hg;exact⟨j,hc.live h1,by rw[←hc.same h1];exact h2⟩
theorem HRel.rise{p:Nat}{R:Res}(H:HRel C h S ψ w)(hp:h[p]? =some .dead)(hR:R.R w S)(hF:∀g,R.F g→¬C.N g∧¬S g∧g < w.heap.size∧¬owns h ψ g):HRel C (h.set p (.res R)) S ψ w:=by
 have hpl:=(List.getElem?_eq_some_iff.1 hp).1;have X:Ext w S h ψ w S (h.set p (.res R)) (Bk ψ p (ψ p)):=Ext.set (fun _ _=>rfl) hp (fun c' hc=>by simp[ABlk.ver]at hc) fun h=>by simp[AN]at h
 have e:Bk ψ p (ψ p)=ψ:=funext fun j=>by unfold Bk;split <;> simp_all
 rw[e]at X;refine⟨H.bel,H.nlt,H.lt,H.sub,H.new,fun i b hi=>?_,fun i j hij hi hj g h1 h2=>?_⟩
 ·by_cases hip:i=p
  ·subst hip;rw[List.getElem?_set_self hpl]at hi;cases hi;exact⟨fun g hg=>⟨(hF g hg).1,(hF g hg).2.1,(hF g hg).2.2.1⟩,hR⟩
  ·rw[List.getElem?_set_ne (Ne.symm hip)]at hi;exact(H.blk i b hi).keep X fun g _=>⟨rfl,fun h=>h⟩
 ·have key:∀j,j≠p→ABlk.live (h.set p (.res R))[j]? =true→ftp (h.set p (.res R))[j]? (ψ j) g→owns h ψ g:=fun j hj h1 h2=>by
   rw[List.getElem?_set_ne (Ne.symm hj)]at h1 h2;exact⟨j,h1,h2⟩
  by_cases hip:i=p
  ·subst hip;rw[List.getElem?_set_self hpl]at h1;exact(hF g h1).2.2.2 (key j (Ne.symm hij) hj h2)
  ·by_cases hjp:j=p
   ·subst hjp;rw[List.getElem?_set_self hpl]at h2;exact(hF g h2).2.2.2 (key i hip hi h1)
   ·rw[List.getElem?_set_ne (Ne.symm hip)]at h1 hi;rw[List.getElem?_set_ne (Ne.symm hjp)]at h2 hj;exact H.dis i j hij hi hj g h1 h2
theorem Zt{h:List ABlk}{p:Nat}{R:Res}(hp:h[p]? =some .dead)(hm:mkD h= []):mkD (h.set p (.res R))=R.mrk.map Hs:=by
 induction h generalizing p with
 |nil=>simp at hp
 |cons c h ih=>
  simp only[mkD,List.append_eq_nil_iff]at hm;cases p with
  |zero=>simp[mkD,hm.1,ABlk.mrk]
  |succ p=>
   simp only[List.set_cons_succ,mkD];rw[ih (by simpa using hp) hm.1,hm.2,List.append_nil]
end
def Pu(t:List AV)(ps:List Tmp)(es:List AV):List AV:=(ps.zip es).foldl (fun t p=>t.set p.1 p.2) t
theorem MS{w:World}{S:Nat→Prop}{h:List ABlk}{ψ:Nat→Value}:∀(ps:List Tmp) (es:List AV) (vs:List Value) (t:List AV) (tmps:Array Value),Ad w S h ψ es vs→Ad w S h ψ t tmps.toList→
 Ad w S h ψ (Pu t ps es) ((ps.zip vs).foldl (fun(t:Array Value) p=>t.setIfInBounds p.1 p.2) tmps).toList
 | [],es,vs,t,tmps,_,ht=>ht
 |p::ps,[],vs,t,tmps,he,ht=>by
  unfold Ad at he;subst he;exact ht
 |p::ps,x::es,vs,t,tmps,he,ht=>by
  unfold Ad at he;obtain⟨v,vs',rfl,h1,h2⟩:=he;exact MS ps es vs' (t.set p x) (tmps.setIfInBounds p v) h2 (by rw[Array.toList_setIfInBounds];exact DE ht p h1)
structure Drops(h h':List ABlk):Prop where
 cut:Cut h h'
 bd:∀b∈h',Z5 h'.length b=true
def YW(h':List ABlk):Exit→St→Prop:=fun e s=>e= .normal∧Drops s.h h'
def Wc(P:Program)(body:Code)(h':List ABlk)(s1:St):Prop:=∀C':Ctx,C'.rd.isSome=true→Awp P C' body (YW h') s1
section
variable{P:Program}
def TC(C:Ctx):Prop:=∃l r,C.rd=some l∧C.N l∧C.w0.heap[l]? =some (.loop r)
theorem TC.some{C:Ctx}(h:TC C):C.rd.isSome=true:=by
 obtain⟨l,r,h1,_⟩:=h;rw[h1];rfl
theorem RL{gf:FuncId}(hE:Bw P gf=true)(args:Array Value)(w:World):(callFunc gf args).run P w= .ok (.enter gf args) w:=by
 unfold Bw at hE;cases hf:P.funcs[gf]? with
 |none=>rw[hf]at hE;cases hE
 |some fn=>
  rw[hf]at hE;simp only[Bool.and_eq_true,Bool.not_eq_true']at hE;have h1:¬fn.name= "runtime.NumGoroutine" :=by simpa using hE.1
  have h2:¬fn.body=none:=fun e=>by have:=hE.2;rw[e]at this;cases this
  simp[callFunc,hf,h1,h2]
end
section
variable{C:Ctx}{h:List ABlk}{S:Nat→Prop}{ψ:Nat→Value}{W:World}
theorem HRel.other(H:HRel C h S ψ W){D:Nat}(o:Obj)(h1:¬C.N D)(h2:¬S D)(h3:¬owns h ψ D):HRel C h S ψ (W.putObj D o):=by
 have hot:∀g,g≠D→(W.putObj D o).heap[g]? =W.heap[g]?:=fun g hg=>World.putObj_heap_other hg
 have hS:∀k,S k→(W.putObj D o).heap[k]? =W.heap[k]?:=fun k hk=>hot k fun e=>h2 (e▸hk)
 refine⟨H.bel.trans ⟨rfl,rfl,rfl,by simp,fun k hk=>hot k fun e=>h1 (e▸hk)⟩,H.nlt,fun k hk=>by simpa using H.lt k hk,H.sub,H.new,fun i b hi=>?_,H.dis⟩;by_cases hl:ABlk.live (some b)=true
 ·exact(H.blk i b hi).keep (Ext.grow h ψ hS fun _ h=>h) fun g hg=>⟨hot g fun e=>h3 ⟨i,by rw[hi];exact hl,by rw[hi];exact e▸hg⟩,fun h=>h⟩
 ·cases b <;> simp[ABlk.live]at hl
  trivial
end
theorem KK{P:Program}{C:Ctx}{fn:Go.Func}{tmps:Array Value}{R:Ending→World→Prop}{v:Value}{x:AV}{n:Nat}(hres:∀W,(results fn tmps).run P W= .ok v W):
 ∀(ds:List Nat) (W:World) (h:List ABlk) (S:Nat→Prop) (ψ:Nat→Value),(∀W S ψ,HRel C (h.set 0 .dead) S ψ W→AV.rel W S (h.set 0 .dead) ψ x v→R (.returned v) W)→h[0]? =some (.res (Bq ds))→HRel C h S ψ W→AV.rel W S h ψ x v→
  LeavesInM Fence.wide n P fn tmps R (ds.map Hs) .returning W
 | [],W,h,S,ψ,hfin,h0,H,hv=>by
  have hc:Cut h (h.set 0 .dead):=⟨by simp,fun i b hi=>by
   by_cases hi0:i=0
   ·subst hi0;rw[List.getElem?_set_self (List.getElem?_eq_some_iff.1 h0).1]at hi;cases hi;exact .inl rfl
   ·rw[List.getElem?_set_ne (Ne.symm hi0)]at hi;exact .inr hi⟩
  exact⟨v,hres W,hfin W S ψ (H.cute hc (by simp)) (Ij hc (by simp) _ _ hv)⟩
 |D::ds,W,h,S,ψ,hfin,h0,H,hv=>by
  have hB:=H.blk 0 _ h0;have hlen:=(List.getElem?_eq_some_iff.1 h0).1;have hD:=hB.1 D (by show D∈D::ds;simp);refine⟨by simp,.inl ⟨_,_,rfl,run_takeDeferred (hB.2.2 D (by simp)),?_⟩⟩;have X:Ext W S h ψ W S (h.set 0 (.res (Bq ds))) (Bk ψ 0 (ψ 0)):=Ext.set (fun _ _=>rfl) h0 (fun c' hc=>by simp[ABlk.ver]at hc) fun h=>by simp[AN]at h
  have hnd:=List.nodup_cons.1 hB.2.1;have H1:HRel C (h.set 0 (.res (Bq ds))) S (Bk ψ 0 (ψ 0)) W:=H.set (v':=ψ 0) h0 rfl ⟨rfl,rfl,rfl,Nat.le_refl _,fun _ _ _=>rfl⟩ X
   ⟨fun g hg=>hB.1 g (List.mem_cons_of_mem _ hg),hnd.2,fun d hd=>hB.2.2 d (List.mem_cons_of_mem _ hd)⟩ fun g hg=>.inl (List.mem_cons_of_mem _ hg)
  have hno:¬owns (h.set 0 (.res (Bq ds))) (Bk ψ 0 (ψ 0)) D:=fun⟨j,h1,h2⟩=>by
   by_cases hj:j=0
   ·subst hj;rw[List.getElem?_set_self hlen]at h2;exact hnd.1 h2
   ·rw[List.getElem?_set_ne (Ne.symm hj)]at h1 h2;rw[BH hj]at h2;exact H.dis j 0 hj h1 (by rw[h0];rfl) D h2 (by rw[h0];show D∈D::ds;simp)
  have hSk:∀k,S k→(W.putObj D (.deferred none)).heap[k]? =W.heap[k]?:=fun k hk=>World.putObj_heap_other fun e=>hD.2.1 (e▸hk)
  refine KK hres ds _ _ S _ (fun W S ψ h1 h2=>?_) (List.getElem?_set_self hlen) (H1.other _ hD.1 hD.2.1 hno) (Dh (Ext.grow _ _ hSk fun _ h=>h) _ _ (Dh X _ _ hv));rw[List.set_set]at h1 h2;exact hfin W S ψ h1 h2
def Aq3(t:Tmp)(r:AV):Exit→St→Prop:=fun e s=>(e= .normal∨e= .ret)∧∃ds,s.h[0]? =some (.res (Bq ds))∧mkD s.h=ds.map Hs∧Fin (s.h.set 0 .dead) (evA s.t (.tmp t)) r
theorem FK{P:Program}{f:FuncId}{fn:Go.Func}{c:Code}{args:List AV}{r:AV}{t:Tmp}{n:Nat}(hf:P.funcs[f]? =some fn)(hb:fn.body=some c)(hE:Bw P f=true)(hres:fn.results= #[.tmp t])(hn:fn.ntmps=n)
 (h:∀C:Ctx,C.std→C.rd=none→Awp P C c (Aq3 t r) ⟨args++List.replicate (n - args.length) (.lit undef),[.res (Bq [])]⟩):Fn P f args r:=by
 refine⟨hE,fun w S vs hS hr=>(callsIn_wide (n:=4)).1 (callsIn_of_wp_marks hf hb trivial ?_)⟩;rw[hn];have hst:St.rel ⟨w,S,fun k=>k < w.heap.size,none⟩ ⟨args++List.replicate (n - args.length) (.lit undef),[.res (Bq [])]⟩ {tmps:=vs.toArray++Array.replicate (n - vs.toArray.size) undef,defers:=[]} w:=by
  obtain⟨hd,S1,ψ,H,hl⟩:=Em (n:=n) hS hr;have X:=Ext.push (w:=w) (w':=w) (S:=S1) (h:=[]) (ψ:=ψ) (.res (Bq [])) undef fun _ _=>rfl
  exact⟨rfl,S1,_,H.push (b:=.res (Bq [])) (v:=undef) (Below.refl _ _) (show Ho _ _ _ _ _ _ (.res (Bq []))from⟨fun g hg=>(List.not_mem_nil hg).elim,show([]:List Nat).Nodup∧∀d∈([]:List Nat),w.heap[d]? =some (.deferred (some []))from⟨List.nodup_nil,fun d hd=>(List.not_mem_nil hd).elim⟩⟩) (fun g hg=>(List.not_mem_nil hg).elim),Al X _ _ hl⟩
 have hw:=h ⟨w,S,fun k=>k < w.heap.size,none⟩ (fun _ h=>h) rfl _ w hst;refine wpIn_mono hw ?_;rintro e a' w' ⟨s,⟨he,ds,h0,hm,hfin⟩,hd,S1,ψ,H,hl⟩;have hv:=Ba hl (.tmp t);rw[hm]at hd;have key:=KK (P:=P) (C:=⟨w,S,fun k=>k < w.heap.size,none⟩) (fn:=fn) (tmps:=a'.tmps) (R:=fun e w'=>∃v,e= .returned v∧Vm w S [] ψ0 r v w') (n:=4) (x:=evA s.t (.tmp t)) (v:=a'.eval (.tmp t)) (fun W=>results_tmp hres _ _ _) ds w' s.h S1 ψ (fun W S ψ h1 h2=>⟨_,rfl,G6 (s:=⟨s.t,s.h.set 0 .dead⟩) h1 hfin h2⟩) h0 H hv;rcases he with rfl|rfl
 ·show LeavesInM Fence.wide 4 P fn a'.tmps _ a'.defers .returning w';rw[hd];exact key
 ·show LeavesInM Fence.wide 4 P fn a'.tmps _ a'.defers .returning w';rw[hd];exact key
end Mu
end
section
namespace Mu
open Go Go.RowKit Go.ChangeShapes Go.WideShapes
def Bn(g:Nat)(cells:List AV):Res:=⟨[],fun k=>k=g,fun w S=>∃cs e,w.heap[g]? =some (.cells (List.toArray cs) e (0,0))∧Ad w S [] ψ0 cells cs,
 fun h hk hb hs=>let ⟨cs,e,h1,h2⟩:=h;⟨cs,e,(hk g rfl).trans h1,Al (Ext.grow [] ψ0 hb hs) _ _ h2⟩⟩
def rowR(v:Value)(e:TypeId){α:Type}(T:Ty α)(l:List α):Res:=⟨[],fun g=>BX v=some g,fun w S=>∃cells,w.ownsRow 0 e T.size v l.length cells∧0 < T.size∧∀i d,l[i]? =some d→T.RS w S ((cells.drop (i * T.size)).take T.size) d,
 fun h hk hb hs=>let ⟨cells,h1,h0,h2⟩:=h;⟨cells,J2 h1 fun g hg=>hk g hg,h0,fun i d hd=>T.keepS (h2 i d hd) hb hs⟩⟩
section
variable{C:Ctx}{h:List ABlk}{S:Nat→Prop}{ψ:Nat→Value}{w:World}
theorem HRel.desc{i:Nat}{b b':ABlk}{v':Value}(H:HRel C h S ψ w)(hi:h[i]? =some b)(hlive:ABlk.live (some b)=true)(hn:∀j c,j≠i→h[j]? =some c→nrB i c=true)
 (hB:Ho C.N w S (h.set i b') (Bk ψ i v') v' b') (hF:∀g,ftp (some b') v' g→ftp (some b) (ψ i) g):HRel C (h.set i b') S (Bk ψ i v') w:=by
 have hil:=(List.getElem?_eq_some_iff.1 hi).1;refine⟨H.bel,H.nlt,H.lt,H.sub,H.new,fun j c hc=>?_,fun j k hjk hj hk g hgj hgk=>?_⟩
 ·by_cases hji:j=i
  ·subst hji;rw[List.getElem?_set_self hil]at hc;cases hc;rw[Bi];exact hB
  ·rw[List.getElem?_set_ne (Ne.symm hji)]at hc;rw[BH hji];have hBj:=H.blk j c hc;cases c with
   |dead=>trivial
   |box cells=>
    obtain⟨g,cs,e,k1,k2,k3,k4,k5⟩:=hBj;exact⟨g,cs,e,k1,k2,k3,k4,Di (fun k hk=>BH hk) _ _ (hn j _ hji hc) k5⟩
   |row ver e T l=>exact hBj
   |res R=>exact hBj
 ·have hold:∀k,ABlk.live (h.set i b')[k]? =true→ftp (h.set i b')[k]? (Bk ψ i v' k) g→ABlk.live h[k]? =true∧ftp h[k]? (ψ k) g:=fun k hk hgk=>by
   by_cases hki:k=i
   ·subst hki;rw[List.getElem?_set_self hil,Bi]at hgk;rw[hi];exact⟨hlive,hF g hgk⟩
   ·rw[List.getElem?_set_ne (Ne.symm hki)]at hk hgk;rw[BH hki]at hgk;exact⟨hk,hgk⟩
  obtain⟨a1,a2⟩:=hold j hj hgj;obtain⟨b1,b2⟩:=hold k hk hgk;exact H.dis j k hjk a1 b1 g a2 b2
end
inductive Opn (i ver:Nat) (v:Value):List AV→List AV→Prop
 |nil:Opn i ver v [] []
 |any {x:AV} {t t':List AV} (h:Opn i ver v t t'):Opn i ver v (x::t) (.any::t')
 |keep {x:AV} {t t':List AV} (hx:EH i x=true) (h:Opn i ver v t t'):Opn i ver v (x::t) (x::t')
 |own {t t':List AV} (h:Opn i ver v t t'):Opn i ver v (.own i ver::t) (.lit v::t')
inductive OpnB (i g:Nat):List AV→List AV→Prop
 |nil:OpnB i g [] []
 |any {x:AV} {t t':List AV} (h:OpnB i g t t'):OpnB i g (x::t) (.any::t')
 |keep {x:AV} {t t':List AV} (hx:EH i x=true) (h:OpnB i g t t'):OpnB i g (x::t) (x::t')
 |ptr {off:Nat} {t t':List AV} (h:OpnB i g t t'):OpnB i g (.ptr i off::t) (.lit (.pointer (some ⟨g,off,none⟩))::t')
inductive Cls (i ver:Nat) (v:Value):List AV→List AV→Prop
 |nil:Cls i ver v [] []
 |any {x:AV} {t t':List AV} (h:Cls i ver v t t'):Cls i ver v (x::t) (.any::t')
 |keep {x:AV} {t t':List AV} (hx:EH i x=true) (h:Cls i ver v t t'):Cls i ver v (x::t) (x::t')
 |own {t t':List AV} (h:Cls i ver v t t'):Cls i ver v (.lit v::t) (.own i ver::t')
def Zm(i:Nat)(h:List ABlk):Bool:=h.all fun b=>nrB i b
theorem N7{i:Nat}{h:List ABlk}(hn:Zm i h=true):∀(j:Nat) (c:ABlk),j≠i→h[j]? =some c→nrB i c=true:=fun j c _ hc=>List.all_eq_true.1 hn c (List.mem_of_getElem? hc)
theorem FP(φ:Nat→Value)(k:Nat):Bk φ k (φ k)=φ:=funext fun q=>by unfold Bk;split <;> simp_all
section
variable{w:World}{S:Nat→Prop}{h:List ABlk}{ψ:Nat→Value}{i ver g:Nat}{v:Value}{b:ABlk}
theorem Opn.rel{t t':List AV}(ho:Opn i ver v t t')(hv:∀u,AV.rel w S h ψ (.own i ver) u→u=v):∀{cs:List Value},Ad w S h ψ t cs→Ad w S (h.set i b) ψ t' cs:=by
 induction ho with
 |nil=>intro cs H;unfold Ad at H⊢;exact H
 |any _ ih=>
  intro cs H;unfold Ad at H⊢;obtain⟨u,vs,e,_,h2⟩:=H;exact⟨u,vs,e,by unfold AV.rel;trivial,ih h2⟩
 |keep hx _ ih=>
  intro cs H;unfold Ad at H⊢;obtain⟨u,vs,e,h1,h2⟩:=H;exact⟨u,vs,e,GT (fun _ _=>rfl) _ _ hx h1,ih h2⟩
 |own _ ih=>
  intro cs H;unfold Ad at H⊢;obtain⟨u,vs,e,h1,h2⟩:=H;exact⟨u,vs,e,by rw[hv u h1];unfold AV.rel;rfl,ih h2⟩
theorem OpnB.rel{t t':List AV}(ho:OpnB i g t t')(hv:∀off u,AV.rel w S h ψ (.ptr i off) u→u= .pointer (some ⟨g,off,none⟩)):∀{cs:List Value},Ad w S h ψ t cs→Ad w S (h.set i b) ψ t' cs:=by
 induction ho with
 |nil=>intro cs H;unfold Ad at H⊢;exact H
 |any _ ih=>
  intro cs H;unfold Ad at H⊢;obtain⟨u,vs,e,_,h2⟩:=H;exact⟨u,vs,e,by unfold AV.rel;trivial,ih h2⟩
 |keep hx _ ih=>
  intro cs H;unfold Ad at H⊢;obtain⟨u,vs,e,h1,h2⟩:=H;exact⟨u,vs,e,GT (fun _ _=>rfl) _ _ hx h1,ih h2⟩
 |ptr _ ih=>
  intro cs H;unfold Ad at H⊢;obtain⟨u,vs,e,h1,h2⟩:=H;exact⟨u,vs,e,by rw[hv _ u h1];unfold AV.rel;rfl,ih h2⟩
theorem Cls.rel{t t':List AV}(ho:Cls i ver v t t')(hil:i < h.length)(hb:ABlk.ver (some b)=some ver):∀{cs:List Value},Ad w S h ψ t cs→Ad w S (h.set i b) (Bk ψ i v) t' cs:=by
 induction ho with
 |nil=>intro cs H;unfold Ad at H⊢;exact H
 |any _ ih=>
  intro cs H;unfold Ad at H⊢;obtain⟨u,vs,e,_,h2⟩:=H;exact⟨u,vs,e,by unfold AV.rel;trivial,ih h2⟩
 |keep hx _ ih=>
  intro cs H;unfold Ad at H⊢;obtain⟨u,vs,e,h1,h2⟩:=H;exact⟨u,vs,e,GT (fun _ hk=>BH hk) _ _ hx h1,ih h2⟩
 |own _ ih=>
  intro cs H;unfold Ad at H⊢;obtain⟨u,vs,e,h1,h2⟩:=H;refine⟨u,vs,e,?_,ih h2⟩;unfold AV.rel at h1⊢;subst h1;refine⟨by simpa using hil,fun c hc=>?_⟩;rw[List.getElem?_set_self hil,hb]at hc;cases hc;exact⟨Nat.le_refl _,fun _=>by rw[Bi]⟩
end
section
variable{P:Program}{C:Ctx}{t:List AV}{h:List ABlk}{c:Code}{Q:Exit→St→Prop}
theorem Bv(i:Nat){cells:List AV}(hi:h[i]? =some (.box cells))(hc:AZ cells=true)(hn:Zm i h=true)(t':Nat→List AV)(ht:∀g,OpnB i g t (t' g))
 (hK:∀g,Awp P C c Q ⟨t' g,h.set i (.res (Bn g cells))⟩):Awp P C c Q ⟨t,h⟩:=fun a w ⟨hd,S,ψ,H,hl⟩=>by
 obtain⟨g,cs,e,e1,hN,hS,hg,hcs⟩:=H.blk i _ hi;have H':=H.desc (b':=.res (Bn g cells)) (v':=ψ i) hi rfl (N7 hn) ⟨fun k hk=>by
  have hk:k=g:=hk;subst hk;exact⟨hN,hS,(Array.getElem?_eq_some_iff.1 hg).1⟩,⟨cs,_,hg,AQ _ _ hc hcs⟩⟩ fun k hk=>by
  have hk:k=g:=hk;subst hk;rw[e1];rfl
 rw[FP]at H';refine hK g a w ⟨by rw[hd];exact(Do (b':=.res (Bn g cells)) hi rfl).symm,S,ψ,H',(ht g).rel (fun off u hu=>?_) hl⟩;unfold AV.rel at hu;obtain⟨g',h1,rfl⟩:=hu.2 (by rw[hi];rfl);rw[e1]at h1;cases h1;rfl
theorem QH(i:Nat){ver:Nat}{e:TypeId}{α:Type}{T:Ty α}{l:List α}(hi:h[i]? =some (.row ver e T l))(hn:Zm i h=true)(t':Value→List AV)(ht:∀v,Opn i ver v t (t' v))
 (hK:∀v,Awp P C c Q ⟨t' v,h.set i (.res (rowR v e T l))⟩):Awp P C c Q ⟨t,h⟩:=fun a w ⟨hd,S,ψ,H,hl⟩=>by
 have hB:=H.blk i _ hi;have hlt:=hB.lt rfl;obtain⟨cells,h1,h0,h2,h3⟩:=id hB;have H':=H.desc (b':=.res (rowR (ψ i) e T l)) (v':=ψ i) hi rfl (N7 hn) ⟨fun k hk=>by
  obtain⟨a1,a2,a3⟩:=hlt k hk;exact⟨a1,a3,a2⟩,⟨cells,h1,h0,h2⟩⟩ fun k hk=>hk
 rw[FP]at H';refine hK (ψ i) a w ⟨by rw[hd];exact(Do (b':=.res (rowR (ψ i) e T l)) hi rfl).symm,S,ψ,H',(ht (ψ i)).rel (fun u hu=>?_) hl⟩;unfold AV.rel at hu;exact(hu.2 _ (by rw[hi];rfl)).2 rfl
theorem Ig(i:Nat){ver:Nat}{v:Value}{e:TypeId}{α:Type}{T:Ty α}{l:List α}{t':List AV}(hi:h[i]? =some (.res (rowR v e T l)))(hn:Zm i h=true)(ht:Cls i ver v t t'):
 St.le C ⟨t,h⟩ ⟨t',h.set i (.row ver e T l)⟩:=fun a w ⟨hd,S,ψ,H,hl⟩=>by
 have hB:=H.blk i _ hi;obtain⟨cells,h1,h0,h2⟩:=hB.2;have H':=H.desc (b':=.row ver e T l) (v':=v) hi rfl (N7 hn) ⟨cells,h1,h0,h2,fun g hg=>by
  obtain⟨a1,a2,_⟩:=hB.1 g (AR hg);exact⟨a1,a2⟩⟩ fun k hk=>hk
 exact⟨by rw[hd];exact(Do (b':=.row ver e T l) hi rfl).symm,S,_,H',ht.rel (List.getElem?_eq_some_iff.1 hi).1 rfl hl⟩
end
section
variable{P:Program}{C:Ctx}{t:List AV}{h:List ABlk}{o:Oper}{K:St→Prop}
theorem By{ty:TypeId}{x:Operand}{n i g off:Nat}{cells:List AV}{r:AV}[AG P ty false n](ho:o.op= .load ty x)(hx:evA t x= .lit (.pointer (some ⟨g,off,none⟩)))(hi:h[i]? =some (.res (Bn g cells)))(hr:cells[off]? =some r)(hc:AV.cl r=true):Av P C t h o r:=
 BQ ho hx hi hc fun w S ⟨cs,e,h1,h2⟩=>by
  obtain⟨u,h3,h4⟩:=Bl h2 hr;exact⟨u,by simp[World.cell?,h1,h3],h4⟩
theorem BF{ty:TypeId}{x:Operand}{n i g off:Nat}{cells:List AV}[AG P ty true n](ho:o.op= .load ty x)(hx:evA t x= .lit (.pointer (some ⟨g,off,none⟩)))(hi:h[i]? =some (.res (Bn g cells)))(hc:AZ ((cells.drop off).take n)=true)(hn:((cells.drop off).take n).length=n):Av P C t h o (.agg ((cells.drop off).take n)):=
 ED ho AG.eq hx (Ii.res (R:=Bn g cells) (rs:=(cells.drop off).take n) hi hc fun w S ⟨cs,e,h1,h2⟩ j r hj=>by
  rw[List.getElem?_take]at hj;split at hj
  ·rw[List.getElem?_drop]at hj;obtain⟨u,h3,h4⟩:=Bl h2 hj;exact⟨u,by simp[World.cell?,h1,h3],h4⟩
  ·cases hj) (by rw[List.take_take,Nat.min_self]) hn
theorem Jd{st:TypeId}{x:Operand}{j n b off:Nat}[FO P st j n](ho:o.op= .fieldAddr st x j)(hx:evA t x= .lit (.pointer (some ⟨b,off,none⟩))):Av P C t h o (.lit (.pointer (some ⟨b,off+n,none⟩))):=
 Av.fieldAddr ho FO.eq hx fun C S ψ w v H hv=>by
  unfold AV.rel at hv⊢;exact⟨b,off,hv,rfl⟩
theorem AY{ty:TypeId}{x y:Operand}{ik:IntKind}{k b len c:Nat}[ES P ty 1](ho:o.op= .indexAddr ty x y)(hx:evA t x= .lit (.slice (some ⟨b,0,none⟩) len c))(hy:evA t y= .lit (.int ik (k:Int)))(hk:k < len):
 Av P C t h o (.lit (.pointer (some ⟨b,k,none⟩))):=by
 have:=Ja (P:=P) (C:=C) (h:=h) (n:=1) ho hx hy hk;rwa [Nat.zero_add,Nat.mul_one]at this
theorem Mr{ty:TypeId}{x y:Operand}{i g off n:Nat}{cells new:List AV}[SZ P ty n](ho:o.op= .store ty x y)(hx:evA t x= .lit (.pointer (some ⟨g,off,none⟩)))(hi:h[i]? =some (.res (Bn g cells)))(hp:OC h (evA t y) new)(hc:AZ new=true)(hs:n=new.length)(hle:off+new.length≤cells.length)
 (hK:K ⟨AJ t o.dst (.lit undef),h.set i (.res (Bn g (cells.take off++new++cells.drop (off+new.length))))⟩):AOp P C o ⟨t,h⟩ K:=by
 refine AOp.turn (ι:=Unit) (Rs:=fun _=>Bn g (cells.take off++new++cells.drop (off+new.length))) (val:=fun _=>undef) hi (fun _=>rfl) (fun S ψ w ρ H hR hlt hρ=>?_) fun _=>hK
 have hx':=hρ x (by rw[ho];simp[Op.operands]);have hy':=hρ y (by rw[ho];simp[Op.operands]);rw[hx]at hx';unfold AV.rel at hx';obtain⟨cs,e,hg,hcs⟩:=hR;obtain⟨hn,h1⟩:=hp C S ψ w _ H hy';have hnl:=AW hn;have hcl:=AW hcs;have hr:=FV (P:=P) (ty:=ty) (v:=ρ y) (off:=off) (w:=w) (by rw[SZ.eq (P:=P) (ty:=ty) (n:=n),hnl,hs]) hg (by rw[hnl,List.size_toArray,hcl];exact hle) h1;rw[hnl]at hr;have hgr:=DP w g (cs.take off++(ρ y).cells.toList++cs.drop (off+new.length)).toArray;have hblk:∀k,S k→(w.setRow g (cs.take off++(ρ y).cells.toList++cs.drop (off+new.length)).toArray).heap[k]? =w.heap[k]?:=fun k hk=>setRow_other _ _ _ _ fun e=>((H.blk i _ hi).1 k (show k=g from e)).2.1 hk
 simp only[execOp,ho,hx',Sem.run_bind,hr,Result.andThen_ok,Sem.run_pure,Q2];refine⟨⟨hgr.os,hgr.tape,hgr.output,hgr.size,fun k hk hn=>hgr.block k hk fun e=>hn (by injection e)⟩,(),rfl,⟨_,e,setRow_heap w g _ _ e _ hg,?_⟩,fun k hk=>?_⟩
 ·have hE:Ext w S [] ψ0 (w.setRow g (cs.take off++(ρ y).cells.toList++cs.drop (off+new.length)).toArray) S [] ψ0:=Ext.grow [] ψ0 hblk fun _ h=>h
  exact Al hE _ _ (BK (BK (Iw hcs off) (AQ _ _ hc hn)) (Ix hcs _))
 ·have hk:k=g:=hk;subst hk;have h5:k < w.heap.size:=(Array.getElem?_eq_some_iff.1 hg).1;exact⟨.inl rfl,Nat.lt_of_lt_of_le h5 hgr.size⟩
theorem Yw{ty:TypeId}{x y:Operand}{k k':IntKind}{n:Nat}{e:TypeId}{z:Value}{bytes:Nat}(ho:o.op= .makeSlice ty x y)(hz:E2 P ty=some (e,z,bytes))
 (hx:evA t x= .lit (.int k (n:Int))) (hy:evA t y= .lit (.int k' (n:Int))) (hb:bytes * n≤281474976710656) (hn:n≤maxLen)
 (hK:∀g,K ⟨AJ t o.dst (.lit (.slice (some ⟨g,0,none⟩) n n)),h++[.res (Bn g (List.replicate n (.lit z)))]⟩):AOp P C o ⟨t,h⟩ K:=by
 refine Cj (ι:=Nat) (Rs:=fun g=>Bn g (List.replicate n (.lit z))) (val:=fun g=>.slice (some ⟨g,0,none⟩) n n) (fun _=>rfl) (fun S ψ w ρ H hρ=>?_) hK;have hx':=hρ x (by rw[ho];simp[Op.operands]);have hy':=hρ y (by rw[ho];simp[Op.operands]);rw[hx]at hx';rw[hy]at hy';unfold AV.rel at hx' hy';unfold E2 at hz;split at hz <;> try(cases hz;done)
 rename_i e' h1;obtain⟨i,hi,h2⟩:=Option.bind_eq_some_iff.1 hz;obtain⟨z',hz',h3⟩:=Option.bind_eq_some_iff.1 h2;split at h3 <;> try(cases h3;done)
 rename_i h4;cases h3;have hzc:=CM h4.2;have hrun:=run_make_row' (P:=P) ty e z i.bytes h1 (by rw[hi];simp[hz',h4.1]) hzc k k' n hb (by unfold maxLen at hn;omega) w;rw[IL]at hrun;have hbl:=(Below.refl w.heap.size w).alloc (Nat.le_refl _) (.cells (List.replicate n z).toArray e);have he:(execOp ρ o).run P w= .ok (.value (.slice (some ⟨w.heap.size,0,none⟩) n n)) (w.alloc (.cells (List.replicate n z).toArray e)):=by simp[execOp,ho,hx',hy',hrun]
 rw[he];refine⟨⟨hbl.os,hbl.tape,hbl.output,hbl.size,fun k hk _=>hbl.block k hk⟩,w.heap.size,rfl,⟨List.replicate n z,e,heap_alloc_new w _,?_⟩,fun k hk=>?_⟩
 ·refine Dm (by simp) fun j x v hx hv=>?_
  rw[List.eq_of_mem_replicate (List.mem_of_getElem? hx),List.eq_of_mem_replicate (List.mem_of_getElem? hv)];unfold AV.rel;rfl
 ·have hk:k=w.heap.size:=hk;subst hk;exact⟨.inr (Nat.le_refl _),by simp⟩
end
def Bnd(d:Nat):Option Value→Nat→Prop
 |none,n=>n=d
 |some v,n=>∃k,v= .int k (n:Int)
section
variable{P:Program}{C:Ctx}{t:List AV}{h:List ABlk}{o:Oper}
theorem SK{ty:TypeId}{sz len cap l m:Nat}{a:Option Addr}{lo hi:Option Value}{w:World}(hs:LQ P ty=some sz)(hl:Bnd 0 lo l)(hh:Bnd len hi m)(h1:l≤m)(h2:m≤cap):
 (Instr.sliceAt ty (.slice a len cap) lo hi none).run P w= .ok (.slice (if cap=l then a else a.map (·.add (l * sz))) (m - l) (cap - l)) w:=by
 unfold LQ at hs;split at hs <;> try(cases hs;done)
 rename_i e hu;cases hi':P.info? e with
 |none=>rw[hi']at hs;cases hs
 |some i=>
  rw[hi']at hs;simp only[Option.map_some,Option.some.injEq]at hs;have he:P.elem ty=e:=by simp[Program.elem,hu]
  have hu':P.underlying ty=some (.slice (P.elem ty)):=by rw[he];exact hu
  have hz:(Go.sizeOf (P.elem ty)).run P w= .ok sz w:=by rw[he];simp[Go.sizeOf,typeInfo,hi',hs]
  rw[run_sliceAt_slice (h:=hu')];cases lo with
  |none=>
   have hl:l=0:=hl;subst hl;cases hi with
   |none=>
    have hh:m=len:=hh;subst hh;rw[run_slice_all (ht:=hu'),hz];simp[sliced]
   |some v=>
    obtain⟨k,rfl⟩:=hh;rw[run_slice_h (ht:=hu') (h0:=by omega) (h2:=by omega),hz];simp[sliced]
  |some u=>
   obtain⟨ku,rfl⟩:=hl;cases hi with
   |none=>
    have hh:m=len:=hh;subst hh;rw[run_slice_l (ht:=hu') (h0:=by omega) (h1:=by omega),hz];simp[sliced]
   |some v=>
    obtain⟨k,rfl⟩:=hh;rw[run_slice_lh (ht:=hu') (h0:=by omega) (h1:=by omega) (h2:=by omega),hz];simp[sliced]
theorem T0{α:Type}{T:Ty α}{w:World}{S:Nat→Prop}{a:Option Addr}{n c l m:Nat}{ds:List α}(h:T.slice.RS w S [.slice a n c] ds)(h1:l≤m)(h2:m≤ds.length):
 T.slice.RS w S [.slice (if c=l then a else a.map (·.add (l * T.size))) (m - l) (c - l)] ((ds.take m).drop l):=by
 obtain⟨A,c',e,hle,⟨hc,hn⟩,hi⟩:=h;simp only[List.cons.injEq,Value.slice.injEq,and_true]at e;obtain⟨rfl,rfl,rfl⟩:=e;have hlen:((ds.take m).drop l).length=m - l:=by simp;omega
 refine⟨_,c - l,by rw[hlen],by rw[hlen];omega,⟨by omega,fun e=>?_⟩,fun i d hd=>?_⟩
 ·split at e
  ·rename_i hcl;omega
  ·cases a with
   |none=>have:=hn rfl;omega
   |some x=>simp at e
 ·rw[List.getElem?_drop,List.getElem?_take]at hd;split at hd
  ·rename_i hlt;obtain⟨b,off,rfl,hat⟩:=hi _ _ hd;have hne:¬c=l:=by omega
   refine⟨b,off+l * T.size,by rw[if_neg hne];simp[add_plain],?_⟩;rw[show off+l * T.size+i * T.size=off+(l+i) * T.size by rw[Nat.add_mul];omega];exact hat
  ·cases hd
def Agr(t:List AV)(d:Nat):Option Operand→Nat→Prop
 |none,n=>n=d
 |some x,n=>∃k,evA t x= .lit (.int k (n:Int))
theorem Agr.val{d n:Nat}{x:Option Operand}(hb:Agr t d x n){w:World}{S:Nat→Prop}{ψ:Nat→Value}{ρ:Operand→Value}(hρ:∀y,x=some y→AV.rel w S h ψ (evA t y) (ρ y)):Bnd d (x.map ρ) n:=by
 cases x with
 |none=>exact hb
 |some y=>
  obtain⟨k,hk⟩:=hb;have:=hρ y rfl;rw[hk]at this;unfold AV.rel at this;exact⟨k,this⟩
theorem Md{ty:TypeId}{x:Operand}{lo hi:Option Operand}{n l m:Nat}{α:Type}{T:Ty α}{ds:List α}[ES P ty n](ho:o.op= .slice ty x lo hi none)(hx:evA t x= .bs T ds)(hs:T.size=n)(hl:Agr t 0 lo l)(hm:Agr t ds.length hi m)(h1:l≤m)(h2:m≤ds.length):
 Av P C t h o (.bs T ((ds.take m).drop l)):=
 Ap fun S ψ w ρ H hρ=>by
  have hx':=hρ x (by rw[ho];simp[Op.operands]);have hlo:=hl.val (h:=h) (w:=w) (S:=S) (ψ:=ψ) (ρ:=ρ) fun y hy=>hρ y (by rw[ho,hy];simp[Op.operands])
  have hhi:=hm.val (h:=h) (w:=w) (S:=S) (ψ:=ψ) (ρ:=ρ) fun y hy=>hρ y (by rw[ho,hy];simp[Op.operands])
  rw[hx]at hx';unfold AV.rel at hx';obtain⟨A,c,e⟩:=BB hx';have hx2:=hx';rw[e]at hx2;have hle:m≤c:=by
   obtain⟨A',c',e',h3,_⟩:=hx2;simp only[List.cons.injEq,Value.slice.injEq,and_true]at e';omega
  have hr:=SK (P:=P) (w:=w) (a:=A) (cap:=c) (ES.eq (P:=P) (ty:=ty) (n:=n)) hlo hhi h1 hle;refine⟨_,by simp[execOp,ho,e,hr];rfl,?_⟩;unfold AV.rel;rw[←hs];exact T0 hx2 h1 h2
theorem Vt{ty:TypeId}{x:Operand}{hi':Option Operand}{i ver m n:Nat}{e:TypeId}{α:Type}{T:Ty α}{l:List α}{K:St→Prop}[ES P ty n](ho:o.op= .slice ty x none hi' none)(hx:evA t x= .own i ver)(hi:h[i]? =some (.row ver e T l))(hs:T.size=n)
 (hm:Agr t l.length hi' m) (h2:m≤l.length) (hK:K ⟨AJ t o.dst (.own i (ver+1)),h.set i (.row (ver+1) e T (l.take m))⟩):AOp P C o ⟨t,h⟩ K:=by
 rintro Q' a w ⟨hd,S,ψ,H,hl⟩;refine⟨fun c e=>(by rw[ho]at e;cases e),?_⟩;have hx':=Ba hl x;have hhi:=hm.val (h:=h) (w:=w) (S:=S) (ψ:=ψ) (ρ:=a.eval) fun y hy=>Ba hl y
 rw[hx]at hx';unfold AV.rel at hx';have hv:=(hx'.2 _ (by rw[hi];rfl)).2 rfl;obtain⟨cells,hown,h0,hR,hNS⟩:=H.blk i _ hi;obtain⟨v',hrun,hown',hob,hbk⟩:∃v',(Instr.sliceAt ty (ψ i) none (hi'.map a.eval) none).run P w= .ok v' w∧w.ownsRow 0 e T.size v' m (cells.take (m * T.size))∧(∀g,v'.ownBlock=some g→(ψ i).ownBlock=some g)∧(∀g,BX v'=some g→BX (ψ i)=some g):=by
  obtain⟨hcl,hcase⟩:=hown;rcases hcase with⟨e1,e2⟩|⟨g,cap,cur,e1,e2,e3,e4,e5,e6,e7⟩
  ·have hm0:m=0:=by omega
   subst hm0;have hr:=SK (P:=P) (w:=w) (a:=none) (len:=0) (cap:=0) (l:=0) (m:=0) (lo:=none) (hi:=hi'.map a.eval) (ES.eq (P:=P) (ty:=ty) (n:=n)) rfl (by rw[e2]at hhi;exact hhi) (Nat.le_refl _) (Nat.le_refl _);refine⟨.slice none 0 0,?_,⟨by simp,.inl ⟨rfl,rfl⟩⟩,fun g hg=>by simp[Value.ownBlock]at hg,fun g hg=>by simp[BX]at hg⟩;rw[e1];simpa using hr
  ·have hr:=SK (P:=P) (w:=w) (a:=some ⟨g,0,none⟩) (len:=l.length) (cap:=cap) (l:=0) (m:=m) (lo:=none) (hi:=hi'.map a.eval) (ES.eq (P:=P) (ty:=ty) (n:=n)) rfl hhi (Nat.zero_le _) (by omega);refine⟨.slice (some ⟨g,0,none⟩) m cap,?_,⟨by rw[List.length_take,hcl];exact Nat.min_eq_left (Nat.mul_le_mul_right _ h2),.inr ⟨g,cap,cur,rfl,e2,e3,by omega,e5,e6,?_⟩⟩,fun g' hg=>by rw[e1];exact hg,fun g' hg=>by rw[e1];exact hg⟩
   ·rw[e1,hr];simp[add_plain]
   ·rw[←e7,List.take_take,Nat.min_eq_left (Nat.mul_le_mul_right _ h2)]
 have X:Ext w S h ψ w S (h.set i (.row (ver+1) e T (l.take m))) (Bk ψ i v'):=Ext.set (fun _ _=>rfl) hi (fun c' hc=>by
  simp only[ABlk.ver,Option.some.injEq]at hc;exact⟨ver,rfl,by omega,fun e=>by omega⟩) fun h=>by simp[AN]at h
 have hB:Ho C.N w S (h.set i (.row (ver+1) e T (l.take m))) (Bk ψ i v') v' (.row (ver+1) e T (l.take m)):=by
  refine⟨cells.take (m * T.size),by rw[List.length_take,Nat.min_eq_left h2];exact hown',h0,fun j d hj=>?_,fun g hg=>hNS g (hob g hg)⟩;rw[List.getElem?_take]at hj;split at hj
  ·rename_i hjm;have:=hR j d hj;have hle:(j+1) * T.size≤m * T.size:=Nat.mul_le_mul_right _ (by omega);rw[Nat.add_mul,Nat.one_mul]at hle;rw[List.drop_take,List.take_take,Nat.min_eq_left (by omega)];exact this
  ·cases hj
 unfold Oper.wp;simp only[execOp,ho,hv,Option.map_none,hrun,Sem.run_bind,Result.andThen_ok,Sem.run_pure,Oper.upon,Functor.map];refine⟨_,hK,JZ (s:=⟨t,h⟩) hi hd hl (H.set hi rfl ⟨rfl,rfl,rfl,Nat.le_refl _,fun _ _ _=>rfl⟩ X hB fun g hg=>.inl (hbk g hg)) X ?_⟩;unfold AV.rel;refine⟨by simp[(List.getElem?_eq_some_iff.1 hi).1],fun c' hc'=>?_⟩;rw[List.getElem?_set_self (List.getElem?_eq_some_iff.1 hi).1]at hc';simp only[ABlk.ver,Option.some.injEq]at hc';exact⟨by omega,fun _=>by rw[Bi]⟩
theorem Db{ty:TypeId}{x y:Operand}{k k':IntKind}{n m:Nat}{e:TypeId}{bytes:Nat}{α:Type}{T:Ty α}{K:St→Prop}[RT P ty e m bytes][TyOf P e α T](ho:o.op= .makeSlice ty x y)(hs:T.size=m)(h0:0 < T.size)
 (hx:evA t x= .lit (.int k 0)) (hy:evA t y= .lit (.int k' (n:Int))) (hb:bytes * n≤281474976710656) (hn:n≤maxLen) (hK:K ⟨AJ t o.dst (.own h.length 0),h++[.row 0 e T []]⟩):AOp P C o ⟨t,h⟩ K:=by
 rintro Q' a w ⟨hd,S,ψ,H,hl⟩;refine⟨fun c e=>(by rw[ho]at e;cases e),?_⟩;have hx':=Ba hl x;have hy':=Ba hl y;rw[hx]at hx';rw[hy]at hy';unfold AV.rel at hx' hy';obtain⟨h1,ti,z,h2,h3,h4,h5,h6⟩:=Ec (RT.eq (P:=P) (ty:=ty) (e:=e) (n:=m) (bytes:=bytes));have hb':(ti.bytes:Int) *(n:Int)≤281474976710656:=by
  rw[h5];have h:((bytes * n:Nat):Int)≤281474976710656:=by omega
  rwa [Int.natCast_mul]at h
 have hrun:=run_make (P:=P) w ty e ti z h1 h2 h3 k k' 0 n (by omega) (by omega) hb' (by unfold maxLen at hn;omega);simp only[Int.toNat_natCast,Int.toNat_zero,h4]at hrun;unfold Oper.wp;refine AOp.newRow (s:=⟨t,h⟩) (T:=T) (l:=[]) (e:=e) (cells:=[]) (n:=0) (cap:=n) (w':=w.alloc (.cells (madeCells z.cells (n * m)) e)) hd H hl ?_ ((Below.refl _ _).alloc (Nat.le_refl _) _) ?_ h0 ?_ hK
 ·simp[execOp,ho,hx',hy',hrun]
 ·refine⟨by simp,.inr ⟨_,n,_,rfl,Nat.zero_le _,heap_alloc_new w _,Nat.zero_le _,hn,by rw[hs];simp[madeCells],by simp⟩⟩
 ·intro j d hj;simp at hj
theorem U5{t:List AV}{h:List ABlk}{R:Res}(hR:∀w S,R.R w S)(hF:∀g,¬R.F g)(hm:R.mrk= []):St.le C ⟨t,h⟩ ⟨t,h++[.res R]⟩:=fun a w ⟨hd,S,ψ,H,hl⟩=>by
 have X:Ext w S h ψ w S (h++[.res R]) (Bk ψ h.length undef):=Ext.push _ _ fun _ _=>rfl
 have hH:=H.push (b:=.res R) (v:=undef) (Below.refl _ _) (show Ho _ _ _ _ _ _ (.res R)from⟨fun g hg=>(hF g hg).elim,hR w S⟩) fun g hg=>(hF g hg).elim
 refine⟨?_,S,_,hH,Al X _ _ hl⟩;show a.defers=mkD (h++[.res R]);rw[F5];show a.defers=R.mrk.map Hs++mkD h;rw[hm];exact hd
end
end Mu
end
section
namespace Mu
open Go Go.RowKit
section
variable{P:Program}{C:Ctx}{t t' t'':List AV}{h h' h'':List ABlk}{o:Oper}{r:AV}{ops:Array Oper}{rest:List Oper}{K:St→Prop}
theorem qt (hq:Av P C t h o r:=by(first
 |exact Av.move rfl (by(conv=>lhs;whnf);try rfl)
 |exact Av.assign rfl (by(conv=>lhs;whnf);try rfl)
 |exact Bz rfl rfl rfl
 |exact Da rfl rfl
 |exact Av.fa_rp rfl rfl rfl
 |exact Jd rfl rfl
 |exact Bh rfl rfl rfl rfl
 |exact Dq rfl rfl rfl
 |exact Cw rfl rfl rfl (by assumption) rfl
 |exact Bt rfl rfl rfl rfl
 |exact CD rfl rfl rfl
 |exact Jc rfl rfl rfl rfl (by assumption)
 |exact FH rfl rfl rfl rfl (by first|decide|omega) (by assumption)
 |exact FG rfl rfl rfl rfl rfl (by first|assumption|omega)
 |exact Eg rfl rfl rfl rfl rfl (by first|decide|omega) (by first|assumption|omega)
 |exact AY rfl rfl rfl (by first|assumption|omega)
 |exact Av.ln rfl rfl
 |exact FF rfl rfl rfl
 |exact C5 rfl rfl
 |exact EF rfl rfl rfl (by omega)
 |exact EC rfl rfl rfl (by omega)
 |exact FJ rfl rfl rfl rfl (by assumption)
 |exact B7 rfl rfl rfl rfl
 |exact CE rfl rfl
 |exact Av.pick rfl rfl (by(conv=>lhs;whnf);try rfl)
 |exact Av.extract rfl rfl rfl
 |exact CB rfl rfl rfl (by rfl) (by decide) (by first|exact Fit.bool|exact Fit.bs|exact Fit.int (by assumption))
 |exact Av.max2 rfl rfl rfl
 |exact Av.min2 rfl rfl rfl
 |exact By (i:=1) rfl rfl rfl (by first|rfl|assumption) rfl
 |exact By (i:=2) rfl rfl rfl (by first|rfl|assumption) rfl
 |exact By (i:=3) rfl rfl rfl (by first|rfl|assumption) rfl
 |exact By (i:=4) rfl rfl rfl (by first|rfl|assumption) rfl
 |exact By (i:=5) rfl rfl rfl (by first|rfl|assumption) rfl
 |exact By (i:=6) rfl rfl rfl (by first|rfl|assumption) rfl
 |exact By (i:=7) rfl rfl rfl (by first|rfl|assumption) rfl
 |exact By (i:=8) rfl rfl rfl (by first|rfl|assumption) rfl
 |exact BF (i:=1) rfl rfl rfl rfl rfl
 |exact BF (i:=2) rfl rfl rfl rfl rfl
 |exact BF (i:=3) rfl rfl rfl rfl rfl
 |exact BF (i:=4) rfl rfl rfl rfl rfl
 |exact BF (i:=5) rfl rfl rfl rfl rfl
 |exact BF (i:=6) rfl rfl rfl rfl rfl
 |exact BF (i:=7) rfl rfl rfl rfl rfl
 |exact BF (i:=8) rfl rfl rfl rfl rfl)):Av P C t h o r:=hq
theorem sQ(hk:Ck P C ops K rest ⟨t',h⟩)(hq:Av P C t h o r:=by exact qt)(ht:AJ t o.dst r=t':=by((try simp only[AJ,List.set_cons_zero,List.set_cons_succ]);exact rfl))(hg:gA ops t o=some true:=by rfl):Ck P C ops K (o::rest) ⟨t,h⟩:=by
 subst ht;exact X9 hg hq hk
theorem AO(hk:Ck P C ops K rest ⟨t',h⟩)(hg:gA ops t o=some false:=by rfl)(ht:AJ t o.dst (.lit undef)=t':=by((try simp only[AJ,List.set_cons_zero,List.set_cons_succ]);exact rfl)):Ck P C ops K (o::rest) ⟨t,h⟩:=by
 subst ht;exact L8 hg hk
theorem B6 (hk:Ck P C ops K rest ⟨t',h'⟩) (hg:gA ops t o=some true:=by rfl) (hq:∀K':St→Prop,K' ⟨t'',h''⟩→AOp P C o ⟨t,h⟩ K':=by(intro K' hK;(first
 |exact AOp.box rfl Qz.agg hK
 |exact AOp.al rfl hK
 |exact Dt rfl rfl rfl (Eh rfl) rfl (Nat.le_of_ble_eq_true rfl) hK
 |exact Dt (new:=[_]) rfl rfl rfl (OC.one (One.lit rfl)) rfl (Nat.le_of_ble_eq_true rfl) hK
 |exact OK rfl rfl rfl rfl rfl (by first|assumption|(simp[maxLen];done)|(simp[maxLen];omega)) (by first|assumption|(simp;done)|(simp;omega)) hK
 |exact Mq rfl rfl rfl (by assumption) (by first|exact Fit.bool|exact Fit.bs|exact Fit.int (by assumption)) rfl hK))) (ht:t''=t':=by((try simp only[AJ,List.set_cons_zero,List.set_cons_succ]);exact rfl)) (hh:h''=h':=by((try simp only[List.nil_append,List.cons_append,List.set_cons_zero,List.set_cons_succ,List.length_nil,List.length_cons,Nat.reduceAdd]);exact rfl)):Ck P C ops K (o::rest) ⟨t,h⟩:=by
 subst ht hh;exact Apb hg (hq _ hk)
theorem sNt(hk:Ck P C ops K rest ⟨t',h'⟩)(ht:t=t':=by((try simp only[AJ,List.set_cons_zero,List.set_cons_succ]);exact rfl))(hh:h=h':=by((try simp only[List.nil_append,List.cons_append,List.set_cons_zero,List.set_cons_succ,List.length_nil,List.length_cons,Nat.reduceAdd]);exact rfl)):Ck P C ops K rest ⟨t,h⟩:=by
 subst ht hh;exact hk
theorem qQ{K:List AV→Prop}(hk:aQ P C ops h K rest t')(hq:Av P C t h o r:=by exact qt)(ht:AJ t o.dst r=t':=by((try simp only[AJ,List.set_cons_zero,List.set_cons_succ]);exact rfl))(hg:gA ops t o=some true:=by rfl):aQ P C ops h K (o::rest) t:=by
 subst ht;exact Arf hg hq hk
theorem Km{K:List AV→Prop}(hk:aQ P C ops h K rest t')(hg:gA ops t o=some false:=by rfl)(ht:AJ t o.dst (.lit undef)=t':=by((try simp only[AJ,List.set_cons_zero,List.set_cons_succ]);exact rfl)):aQ P C ops h K (o::rest) t:=by
 subst ht;exact Agh hg hk
theorem oQ{K:St→Prop}(hk:K ⟨t',h⟩)(hq:Av P C t h o r:=by exact qt)(ht:AJ t o.dst r=t':=by((try simp only[AJ,List.set_cons_zero,List.set_cons_succ]);exact rfl)):AOp P C o ⟨t,h⟩ K:=by
 subst ht;exact BG hq hk
theorem Aql {K:St→Prop} (hk:K ⟨t',h'⟩) (hq:∀K':St→Prop,K' ⟨t'',h''⟩→AOp P C o ⟨t,h⟩ K':=by(intro K' hK;(first
 |exact AOp.box rfl Qz.agg hK
 |exact AOp.al rfl hK
 |exact Dt rfl rfl rfl (Eh rfl) rfl (Nat.le_of_ble_eq_true rfl) hK
 |exact Dt (new:=[_]) rfl rfl rfl (OC.one (One.lit rfl)) rfl (Nat.le_of_ble_eq_true rfl) hK
 |exact OK rfl rfl rfl rfl rfl (by first|assumption|(simp[maxLen];done)|(simp[maxLen];omega)) (by first|assumption|(simp;done)|(simp;omega)) hK
 |exact Mq rfl rfl rfl (by assumption) (by first|exact Fit.bool|exact Fit.bs|exact Fit.int (by assumption)) rfl hK))) (ht:t''=t':=by((try simp only[AJ,List.set_cons_zero,List.set_cons_succ]);exact rfl)) (hh:h''=h':=by((try simp only[List.nil_append,List.cons_append,List.set_cons_zero,List.set_cons_succ,List.length_nil,List.length_cons,Nat.reduceAdd]);exact rfl)):AOp P C o ⟨t,h⟩ K:=by
 subst ht hh;exact hq _ hk
theorem nT{c:Code}{Q:Exit→St→Prop}(hk:Awp P C c Q ⟨t',h'⟩)(ht:t=t':=by((try simp only[AJ,List.set_cons_zero,List.set_cons_succ]);exact rfl))(hh:h=h':=by((try simp only[List.nil_append,List.cons_append,List.set_cons_zero,List.set_cons_succ,List.length_nil,List.length_cons,Nat.reduceAdd]);exact rfl)):Awp P C c Q ⟨t,h⟩:=by
 subst ht hh;exact hk
theorem Ce(hb:bdH h=true:=by rfl)(hf:Fgt h.length t t':=by((try simp only[AJ,List.set_cons_zero,List.set_cons_succ]);repeat(first|exact Fgt.nil|refine Fgt.keep rfl ?_|refine Fgt.any ?_))):St.le C ⟨t,h⟩ ⟨t',h⟩:=BD hb hf
theorem Fb(hc:Cut h h')(hb:bdH h'=true:=by rfl)(hf:Fgt h'.length t t':=by((try simp only[AJ,List.set_cons_zero,List.set_cons_succ]);repeat(first|exact Fgt.nil|refine Fgt.keep rfl ?_|refine Fgt.any ?_)))(hm:mkD h'=mkD h:=by rfl):St.le C ⟨t,h⟩ ⟨t',h'⟩:=B5 hc hb hf hm
theorem LU{id:Nat}{l l1 l2:List Oper}{Q:Exit→St→Prop}(n:Nat)(hm:P.follows .mixedOrders=true:=by kernel_rfl)(hB:Yy l.toArray n=true:=by kernel_rfl)(h1:l.take n=l1:=by(simp only[List.take_succ_cons,List.take_zero,List.drop_succ_cons,List.drop_zero,List.take_nil,List.drop_nil];exact rfl))(h2:l.drop n=l2:=by(simp only[List.take_succ_cons,List.take_zero,List.drop_succ_cons,List.drop_zero,List.take_nil,List.drop_nil];exact rfl))
 (hh:aQ P C l.toArray h (fun t=>Ck P C l.toArray (Q .normal) l2 ⟨t,h⟩) l1 t):Awp P C (.region id l.toArray true) Q ⟨t,h⟩:=by
 subst h1 h2;exact OG n hm hB hh
theorem Aw{g:Nat}{listed:Array Bool}{s:St}(rs:List Nat)(hh:Acs P C ops K g listed s rs)(hr:Region.ready .any ops listed=rs:=by kernel_rfl)(hne:rs≠[]:=by simp):HW P C .any ops K (g+1) listed s:=Ek rs hr hne hh
theorem DJ{listed:Array Bool}{s:St}(hh:K s)(hr:Region.ready .any ops listed= []:=by kernel_rfl):HW P C .any ops K 0 listed s:=OT hr hh
theorem tC{i g:Nat}{listed:Array Bool}{s:St}{rs:List Nat}(h1:AOp P C o s (HW P C .any ops K g (listed.setIfInBounds i true)))(h2:Acs P C ops K g listed s rs)(ho:ops[i]? =some o:=by(simp only[List.getElem?_toArray,List.getElem?_cons_succ,List.getElem?_cons_zero];exact rfl))(hg:gA ops s.t o=some true:=by rfl):Acs P C ops K g listed s (i::rs):=El ho hg h1 h2
theorem tNt{g:Nat}{listed:Array Bool}(hk:HW P C .any ops K g listed ⟨t',h'⟩)(ht:t=t':=by((try simp only[AJ,List.set_cons_zero,List.set_cons_succ]);exact rfl))(hh:h=h':=by((try simp only[List.nil_append,List.cons_append,List.set_cons_zero,List.set_cons_succ,List.length_nil,List.length_cons,Nat.reduceAdd]);exact rfl)):HW P C .any ops K g listed ⟨t,h⟩:=by
 subst ht hh;exact hk
end
section
variable{P:Program}{C:Ctx}
theorem AOp.weak{o:Oper}{s:St}{K K':St→Prop}(hk:∀s,K s→K' s)(h:AOp P C o s K):AOp P C o s K':=fun Q' a w H=>
 let ⟨h1,h2⟩:=h Q' a w H
 ⟨h1,Oper.wp_mono (fun _ _ ⟨s',k1,k2⟩=>⟨s',hk _ k1,k2⟩) h2⟩
theorem C3{ops:Array Oper}{K K':St→Prop}(hk:∀s,K s→K' s):∀{l:List Oper} {s:St},Ck P C ops K l s→Ck P C ops K' l s
 | [],s,h=>hk s h
 |o::rest,s,h=>by
  obtain⟨b,hg,ht,hf⟩:=h;exact⟨b,hg,fun e=>(ht e).weak fun s h=>C3 hk h,fun e=>C3 hk (hf e)⟩
theorem Agx{ops:Array Oper}{s s':St}(e:s=s'):Ck P C ops (fun x=>x=s') [] s:=e
end
section
variable{P:Program}{C:Ctx}{id:Nat}{l:List Oper}{y:Code}{Q:Exit→St→Prop}{t t':List AV}{h h':List ABlk}
theorem rR(hk:Q .normal ⟨t',h'⟩)(hx:Ck P C l.toArray (fun s=>s=⟨t',h'⟩) l ⟨t,h⟩:=by((repeat(first|refine sQ ?_|refine AO ?_|refine B6 ?_));exact Agx rfl)):Awp P C (.region id l.toArray false) Q ⟨t,h⟩:=Awp.region (C3 (fun s e=>by subst e;exact hk) hx)
theorem rRS(hk:Awp P C y Q ⟨t',h'⟩)(hx:Ck P C l.toArray (fun s=>s=⟨t',h'⟩) l ⟨t,h⟩:=by((repeat(first|refine sQ ?_|refine AO ?_|refine B6 ?_));exact Agx rfl)):Awp P C (.seq (.region id l.toArray false) y) Q ⟨t,h⟩:=Ac fun _ hK=>Awp.region (C3 (fun s e=>by subst e;exact hK _ hk) hx)
end
end Mu
end
section
namespace Mu
open Go Go.RowKit Go.ChangeShapes Go.WideShapes
section
variable{P:Program}{C:Ctx}{t:List AV}{h:List ABlk}{o:Oper}
end
end Mu
end
section
namespace Mu
open Go Go.RowKit
section
variable{P:Program}{C:Ctx}{t t':List AV}{h:List ABlk}{o:Oper}{r:AV}{ops:Array Oper}{rest:List Oper}{K:St→Prop}
theorem Ap7{j:Nat}{want q c:Bool}(ho:o.guard=some (j,want))(hd:((ops[j]?).bind (·.dst)).bind (t[·]?)=some (cond q (.lit (.bool c)) (.lit undef))):gA ops t o=some (q&&(c ==want)):=by
 unfold gA;rw[ho];simp only;rw[hd];cases q <;> rfl
theorem Arz{g:Bool}(hg:gA ops t o=some g)(hq:g=true→Av P C t h o r):EA P C ops h o (cond g r (.lit undef)) t:=by
 cases g with
 |true=>exact .inl ⟨hg,hq rfl⟩
 |false=>exact .inr ⟨hg,rfl⟩
theorem sG{g:Bool}(hk:Ck P C ops K rest ⟨t',h⟩)(hg:gA ops t o=some g:=by first|rfl|exact Ap7 rfl rfl)(hq:g=true→Av P C t h o r:=by(intro hg;(try simp only[Bool.and_eq_true,beq_iff_eq]at hg);(try simp only[hg,cond_true,Bool.true_and,beq_self_eq_true]);(first|exact AH rfl rfl rfl rfl|exact Ay rfl rfl rfl rfl|exact Av.pickOr' rfl rfl rfl rfl|exact Av.pickAnd' rfl rfl rfl rfl|exact qt)))(ht:AJ t o.dst (cond g r (.lit undef))=t':=by((try simp only[AJ,List.set_cons_zero,List.set_cons_succ]);exact rfl)):Ck P C ops K (o::rest) ⟨t,h⟩:=by
 subst ht;cases g with
 |true=>exact X9 hg (hq rfl) hk
 |false=>exact L8 hg hk
theorem qG{K:List AV→Prop}{g:Bool}(hk:aQ P C ops h K rest t')(hg:gA ops t o=some g:=by first|rfl|exact Ap7 rfl rfl)(hq:g=true→Av P C t h o r:=by(intro hg;(try simp only[Bool.and_eq_true,beq_iff_eq]at hg);(try simp only[hg,cond_true,Bool.true_and,beq_self_eq_true]);(first|exact AH rfl rfl rfl rfl|exact Ay rfl rfl rfl rfl|exact Av.pickOr' rfl rfl rfl rfl|exact Av.pickAnd' rfl rfl rfl rfl|exact qt)))(ht:AJ t o.dst (cond g r (.lit undef))=t':=by((try simp only[AJ,List.set_cons_zero,List.set_cons_succ]);exact rfl)):aQ P C ops h K (o::rest) t:=by
 subst ht;exact⟨_,Arz hg hq,hk⟩
theorem AH{c a b:Operand}{q e:Bool}(ho:o.op= .pick c a b)(hc:evA t c= .lit (.bool q))(ha:evA t a= .lit (.bool true))(hb:evA t b=cond (q ==false) (.lit (.bool e)) (.lit undef)):Av P C t h o (.lit (.bool (q||e))):=by
 refine Av.pick ho hc ?_;cases q
 ·exact hb
 ·exact ha
theorem Ay{c a b:Operand}{q e:Bool}(ho:o.op= .pick c a b)(hc:evA t c= .lit (.bool q))(ha:evA t a=cond (q ==true) (.lit (.bool e)) (.lit undef))(hb:evA t b= .lit (.bool false)):Av P C t h o (.lit (.bool (q&&e))):=by
 refine Av.pick ho hc ?_;cases q
 ·exact hb
 ·exact ha
end
section
variable{P:Program}{C:Ctx}{id:Nat}{l:List Oper}{y:Code}{Q:Exit→St→Prop}{t t':List AV}{h h':List ABlk}
theorem rC(hk:Q .normal ⟨t',h'⟩)(hx:Ck P C l.toArray (fun s=>s=⟨t',h'⟩) l ⟨t,h⟩:=by((repeat(first|refine sQ ?_ (AH rfl rfl rfl rfl)|refine sQ ?_ (Ay rfl rfl rfl rfl)|refine sQ ?_|refine AO ?_|refine sG ?_|refine B6 ?_));exact Agx rfl)):Awp P C (.region id l.toArray false) Q ⟨t,h⟩:=Awp.region (C3 (fun s e=>by subst e;exact hk) hx)
theorem rCS(hk:Awp P C y Q ⟨t',h'⟩)(hx:Ck P C l.toArray (fun s=>s=⟨t',h'⟩) l ⟨t,h⟩:=by((repeat(first|refine sQ ?_ (AH rfl rfl rfl rfl)|refine sQ ?_ (Ay rfl rfl rfl rfl)|refine sQ ?_|refine AO ?_|refine sG ?_|refine B6 ?_));exact Agx rfl)):Awp P C (.seq (.region id l.toArray false) y) Q ⟨t,h⟩:=Ac fun _ hK=>Awp.region (C3 (fun s e=>by subst e;exact hK _ hk) hx)
end
end Mu
end
section
namespace Mu
open Go Go.RowKit Go.Proofs
class StrT(P:Program)(ty:TypeId):Prop where
 eq:P.underlying ty=some .string
section
variable{P:Program}{C:Ctx}{o:Oper}{t:List AV}{h:List ABlk}
theorem I9{ty:TypeId}{x:Operand}{s:ByteArray}[StrT P ty](ho:o.op= .call {callee:=.builtin .len,args:=#[x],argTypes:=#[ty]})(hx:evA t x= .lit (.string s)):Av P C t h o (.lit (.int .i64 (s.size:Int))):=
 Ap fun S ψ w ρ H hρ=>by
  have h1:=hρ x (by simp[ho,Op.operands,Call.operands]);rw[hx]at h1;unfold AV.rel at h1;refine⟨_,by simp[execOp,ho,resolve,invoke,builtin,h1,run_len_string w ty _ s (StrT.eq (P:=P) (ty:=ty)),goInt];rfl,?_⟩;unfold AV.rel;rfl
theorem Mg{ty:TypeId}{x y:Operand}{s:ByteArray}{k:Nat}{ik:IntKind}{c:UInt8}[StrT P ty](ho:o.op= .index ty x y)(hx:evA t x= .lit (.string s))(hy:evA t y= .lit (.int ik (k:Int)))(hk:s.data.toList[k]? =some c):Av P C t h o (.lit (.int .u8 (c.toNat:Int))):=
 Ap fun S ψ w ρ H hρ=>by
  have h1:=hρ x (by simp[ho,Op.operands]);have h2:=hρ y (by simp[ho,Op.operands]);rw[hx]at h1;rw[hy]at h2;unfold AV.rel at h1 h2;obtain⟨hlt,hc⟩:=List.getElem?_eq_some_iff.1 hk;have hlt':k < s.size:=hlt;have hr:=run_index_string w ty s ik (k:Int) (StrT.eq (P:=P) (ty:=ty));rw[dif_pos ⟨by omega,by omega⟩]at hr;have e:(s[(k:Int).toNat]'(by simpa using hlt'))=c:=by
   rw[←hc];rfl
  rw[e]at hr;exact⟨_,by simp[execOp,ho,h1,h2,hr];rfl,by unfold AV.rel;rfl⟩
theorem Nv{ty:TypeId}{x y:Operand}{s:ByteArray}{k:Nat}{ik:IntKind}[StrT P ty](ho:o.op= .slice ty x (some y) none none)(hx:evA t x= .lit (.string s))(hy:evA t y= .lit (.int ik (k:Int)))(hk:k≤s.size):Av P C t h o (.lit (.string (s.extract k s.size))):=
 Ap fun S ψ w ρ H hρ=>by
  have h1:=hρ x (by simp[ho,Op.operands]);have h2:=hρ y (by simp[ho,Op.operands]);rw[hx]at h1;rw[hy]at h2;unfold AV.rel at h1 h2;have hr:=run_slice_string_from_if (P:=P) w ty s ik (k:Int) (StrT.eq (P:=P) (ty:=ty));rw[if_pos ⟨by omega,by omega⟩,show((k:Int).toNat)=k from rfl]at hr;exact⟨_,by simp[execOp,ho,h1,h2,run_sliceAt_string (P:=P) w ty _ _ _ _ (StrT.eq (P:=P) (ty:=ty)),hr];rfl,by unfold AV.rel;rfl⟩
theorem Je{xt yt:TypeId}{x y:Operand}{a b:ByteArray}(ho:o.op= .binOp .eql xt x y yt)(hx:evA t x= .lit (.string a))(hy:evA t y= .lit (.string b)):Av P C t h o (.lit (.bool (a ==b))):=
 Ap fun S ψ w ρ H hρ=>by
  have h1:=hρ x (by simp[ho,Op.operands]);have h2:=hρ y (by simp[ho,Op.operands]);rw[hx]at h1;rw[hy]at h2;unfold AV.rel at h1 h2;rw[beq_toListBytes];exact⟨_,by simp[execOp,ho,h1,h2,binOp_string_eql];rfl,by unfold AV.rel;rfl⟩
end
end Mu
end
section
namespace Mu
open Go Go.RowKit Go.ChangeShapes Go.WideShapes Go.Proofs
class IntT(P:Program)(ty:TypeId)(k:outParam IntKind):Prop where
 eq:P.underlying ty=some (.int k)
class BoolT(P:Program)(ty:TypeId):Prop where
 eq:P.underlying ty=some .bool
section
variable{P:Program}{C:Ctx}{o:Oper}{t:List AV}{h:List ABlk}
theorem Av.shl{xt yt:TypeId}{x y:Operand}{k q:IntKind}{a b m:Int}(ho:o.op= .binOp .shl xt x y yt)(hx:evA t x= .lit (.int k a))(hy:evA t y= .lit (.int q b))(hb:0≤b)(hm:k.wrap (a * 2 ^ min b.toNat k.bits)=m):Av P C t h o (.lit (.int k m)):=
 Ap fun S ψ w ρ _ hρ=>by
  have h1:=hρ x (by simp[ho,Op.operands]);have h2:=hρ y (by simp[ho,Op.operands]);rw[hx]at h1;rw[hy]at h2;unfold AV.rel at h1 h2;refine⟨_,?_,by unfold AV.rel;rfl⟩;rw[←hm];simp[execOp,ho,h1,h2,eqGuard,binOp_shl,shift_shl_any _ _ _ _ hb]
theorem Av.shr{xt yt:TypeId}{x y:Operand}{k q:IntKind}{a b m:Int}(ho:o.op= .binOp .shr xt x y yt)(hx:evA t x= .lit (.int k a))(hy:evA t y= .lit (.int q b))(hb:0≤b)(hm:a / 2 ^ min b.toNat k.bits=m):Av P C t h o (.lit (.int k m)):=
 Ap fun S ψ w ρ _ hρ=>by
  have h1:=hρ x (by simp[ho,Op.operands]);have h2:=hρ y (by simp[ho,Op.operands]);rw[hx]at h1;rw[hy]at h2;unfold AV.rel at h1 h2;refine⟨_,?_,by unfold AV.rel;rfl⟩;rw[←hm];simp[execOp,ho,h1,h2,eqGuard,binOp_shr,shift_shr_any _ _ _ _ hb]
def Abo:BinOp→Bool
 | .and| .or| .xor| .andNot=>true
 |_=>false
theorem DW{op:BinOp}{xt yt:TypeId}{x y:Operand}{k:IntKind}{a b m:Int}(ho:o.op= .binOp op xt x y yt)(hx:evA t x= .lit (.int k a))(hy:evA t y= .lit (.int k b))(hop:Abo op=true)(hm:bits op k a b=m):Av P C t h o (.lit (.int k m)):=
 Ap fun S ψ w ρ _ hρ=>by
  have h1:=hρ x (by simp[ho,Op.operands]);have h2:=hρ y (by simp[ho,Op.operands]);rw[hx]at h1;rw[hy]at h2;unfold AV.rel at h1 h2;refine⟨_,?_,by unfold AV.rel;rfl⟩;rw[←hm];cases op <;> simp only[Abo,Bool.false_eq_true,reduceCtorEq]at hop <;> simp[execOp,ho,h1,h2,eqGuard,binOp_and,binOp_or,binOp_xor,binOp_andNot,intBits_and,intBits_or,intBits_xor,intBits_andNot]
theorem Av.cv{src dst:TypeId}{x:Operand}{k q q':IntKind}{n m:Int}[IntT P src q'][IntT P dst k](ho:o.op= .convert src dst x)(hx:evA t x= .lit (.int q n))(hm:k.wrap n=m):Av P C t h o (.lit (.int k m)):=
 Ap fun S ψ w ρ _ hρ=>by
  have h1:=hρ x (by simp[ho,Op.operands]);rw[hx]at h1;unfold AV.rel at h1;have hd:P.underlying dst=some (.int k):=IntT.eq;have hs:(P.underlying src).isSome=true:=by rw[IntT.eq (P:=P) (ty:=src)];rfl
  have hk:P.intKind dst=k:=by simp[Program.intKind,hd]
  have hr:=run_convert_int w src dst q n hs (by rw[hk];exact hd);rw[hk]at hr;refine⟨.int k (k.wrap n),?_,by rw[hm];unfold AV.rel;rfl⟩;simp[execOp,ho,h1,hr]
theorem Me{xt yt:TypeId}{x y:Operand}{a b q:Bool}[BoolT P xt](ho:o.op= .binOp .neq xt x y yt)(hx:evA t x= .lit (.bool a))(hy:evA t y= .lit (.bool b))(hq:(a !=b)=q):Av P C t h o (.lit (.bool q)):=
 Ap fun S ψ w ρ _ hρ=>by
  have h1:=hρ x (by simp[ho,Op.operands]);have h2:=hρ y (by simp[ho,Op.operands]);rw[hx]at h1;rw[hy]at h2;unfold AV.rel at h1 h2;refine⟨.bool (a !=b),?_,by rw[hq];unfold AV.rel;rfl⟩;simp[execOp,ho,h1,h2,eqGuard,binOp,run_equal_bool _ _ _ _ (BoolT.eq (P:=P) (ty:=xt)),bne]
theorem Nt{xt yt:TypeId}{x y:Operand}{a:ByteArray}(ho:o.op= .binOp .eql xt x y yt)(hx:evA t x= .lit (.string a))(hy:evA t y= .lit (.string a)):Av P C t h o (.lit (.bool true)):=by
 have:=Je (P:=P) (C:=C) (h:=h) ho hx hy;rwa [show(a ==a)=true from by first|(show(a.data ==a.data)=true;exact beq_self_eq_true _)|(cases a;rfl)|(cases a;simp)|exact beq_self_eq_true a]at this
end
instance Aka:StrT Tryz.prog 9:=⟨by kernel_rfl⟩
instance Aj9:BoolT Tryz.prog 4:=⟨by kernel_rfl⟩
instance Afm:IntT Tryz.prog 21 .i32:=⟨by kernel_rfl⟩
instance Afl:IntT Tryz.prog 2 .i64:=⟨by kernel_rfl⟩
end Mu
end
section
namespace Mu
open Go Go.RowKit Go.Proofs
section
variable{P:Program}{C:Ctx}{t:List AV}{h:List ABlk}{o:Oper}
def Agq(P:Program)(f:FuncId)(args:List AV)(e:TypeId){α:Type}(T:Ty α)(l:List α):Prop:=
 Bw P f=true∧∀(w:World) (S:Nat→Prop) (vs:List Value),(∀k,S k→k < w.heap.size)→Ad w S [] ψ0 args vs→
  Calls P f vs.toArray w fun r w'=>∃v cells,r= .returned v∧Below w.heap.size w w'∧w'.ownsRow w.heap.size e T.size v l.length cells∧∀i d,l[i]? =some d→T.RS w' S ((cells.drop (i * T.size)).take T.size) d
theorem Afx{w:World}{e:TypeId}{α:Type}{T:Ty α}{l:List α}{ver base n sz:Nat}{cells:List Value}{v:Value}(hv:w.ownsRow base e sz v n cells):∀g,ftp (some (.row ver e T l)) v g→base≤g:=fun g hg=>by
 obtain⟨_,⟨rfl,_⟩|⟨g',cap,cur,rfl,hb,_⟩⟩:=hv
 ·simp[ftp,BX]at hg
 ·simp[ftp,BX]at hg;omega
end
section
variable{P:Program}{C:Ctx}{o:Oper}{t:List AV}{h:List ABlk}
theorem Lf{f:FuncId}{x:Operand}{args:Array Operand}{tys:Array TypeId}{cs:Array Value}(ho:o.op= .call {callee:=.value x,args:=args,argTypes:=tys})(hE:Bw P f=true)(ρ:Operand→Value)(w:World)(hρ:ρ x= .func (.func f) #[] cs):
 (execOp ρ o).run P w= .ok (.enter f (args.map ρ++cs)) w:=by
 unfold Bw at hE;cases hf:P.funcs[f]? with
 |none=>rw[hf]at hE;cases hE
 |some fn=>
  rw[hf]at hE;simp only[Bool.and_eq_true,Bool.not_eq_true']at hE;have h1:¬fn.name= "runtime.NumGoroutine" :=by simpa using hE.1
  have h2:¬fn.body=none:=fun e=>by have:=hE.2;rw[e]at this;cases this
  simp[execOp,ho,resolve,Deferred.ofValue,hρ,invoke,callFunc,hf,h1,h2]
theorem FE{f:FuncId}{cap:Array Operand}(ho:o.op= .makeFunc (.func f) #[] cap):Av P C t h o (.fn f (cap.toList.map (evA t))):=
 Ap fun S ψ w ρ H hρ=>by
  have hl:Ad w S h ψ (cap.toList.map (evA t)) (cap.toList.map ρ):=BY fun x hx=>hρ x (by rw[ho];simpa[Op.operands]using hx)
  refine⟨.func (.func f) #[] (cap.map ρ),by simp[execOp,ho,Instr.makeFunc],?_⟩;unfold AV.rel;exact⟨_,by rw[←Array.toList_map],hl⟩
mutual
inductive LendV (h:List ABlk):AV→AV→Prop
 |cl {x:AV} (hx:AV.cl x=true):LendV h x x
 |own {i ver:Nat} {e:TypeId} {α:Type} {T:Ty α} {d:List α} (hi:h[i]? =some (.row ver e T d)):LendV h (.own i ver) (.bs T d)
 |box {i off:Nat} {cells:List AV} {α:Type} {T:Ty α} {d:α} (hi:h[i]? =some (.box cells)) (hn:((cells.drop off).take T.size).length=T.size) (hp:∀(C:Ctx) (S:Nat→Prop) (ψ:Nat→Value) (w:World) (cs:List Value),HRel C h S ψ w→Ad w S h ψ ((cells.drop off).take T.size) cs→T.RS w S cs d):LendV h (.ptr i off) (.bp T d 0)
 |fn {f:FuncId} {l l':List AV} (hl:LendL h l l'):LendV h (.fn f l) (.fn f l')
 |fl {f:FuncId}:LendV h (.lit (.func (.func f) #[] #[])) (.fn f [])
inductive LendL (h:List ABlk):List AV→List AV→Prop
 |nil:LendL h [] []
 |cons {x x':AV} {l l':List AV} (hx:LendV h x x') (hl:LendL h l l'):LendL h (x::l) (x'::l')
end
mutual
theorem LendV.rel{w:World}{S:Nat→Prop}{ψ:Nat→Value}(H:HRel C h S ψ w):∀{x x':AV} {v:Value},LendV h x x'→AV.rel w S h ψ x v→AV.rel w (fun k=>k < w.heap.size) [] ψ0 x' v
 |x,_,v,.cl hx,hr=>Br _ _ hx (Dh (Ext.grow h ψ (fun _ _=>rfl) H.lt:Ext w S h ψ w (fun k=>k < w.heap.size) h ψ) _ _ hr)
 |_,_,v,.own (i:=i) hi,hr=>by
  unfold AV.rel at hr⊢;have hv:=(hr.2 _ (by rw[hi];rfl)).2 rfl;subst hv;obtain⟨cells,k1,k0,k2,k3⟩:=H.blk _ _ hi;exact Ch k1 (fun i d hd=>Ty.keepS _ (k2 i d hd) (fun _ _=>rfl) H.lt) fun g hg=>(World.ownsRow.lt k1 g hg).2
 |_,_,v,.box (i:=i) (off:=off) (cells:=cells) (T:=T) (d:=d) hi hn hp,hr=>by
  unfold AV.rel at hr⊢;obtain⟨g,hg,hv⟩:=hr.2 (by rw[hi];rfl);obtain⟨g',cs,e,hg',_,_,hw,hcs⟩:=H.blk _ _ hi;rw[hg]at hg';cases hg';have hlt:g < w.heap.size:=(Array.getElem?_eq_some_iff.1 hw).1;have hl:=Iw (Ix hcs off) T.size;refine⟨g,off,by rw[hv];rfl,hlt,(cs.drop off).take T.size,Ty.keepS _ (hp C S ψ w _ H hl) (fun _ _=>rfl) H.lt,fun j u hj=>?_⟩;rw[List.getElem?_take]at hj;split at hj
  ·rw[List.getElem?_drop]at hj;have:w.cell? ⟨g,off+0+j,none⟩=some u:=by
    unfold World.cell?;rw[hw];simpa using hj
   simpa using this
  ·cases hj
 |_,_,v,.fn hl,hr=>by
  unfold AV.rel at hr⊢;obtain⟨cs,e,hcs⟩:=hr;exact⟨cs,e,LendL.rel H hl hcs⟩
 |_,_,v,.fl,hr=>by
  unfold AV.rel at hr⊢;exact⟨[],hr,by unfold Ad;rfl⟩
theorem LendL.rel{w:World}{S:Nat→Prop}{ψ:Nat→Value}(H:HRel C h S ψ w):∀{l l':List AV} {vs:List Value},LendL h l l'→Ad w S h ψ l vs→Ad w (fun k=>k < w.heap.size) [] ψ0 l' vs
 |_,_,vs,.nil,hr=>by
  unfold Ad at hr⊢;exact hr
 |_,_,vs,.cons hx hl,hr=>by
  unfold Ad at hr⊢;obtain⟨v,vs',e,h1,h2⟩:=hr;exact⟨v,vs',e,LendV.rel H hx h1,LendL.rel H hl h2⟩
end
end
section
variable{P:Program}{C:Ctx}
theorem Ya{ops:Array Oper}{h:List ABlk}{K K':List AV→Prop}(hk:∀s,K s→K' s):∀{l:List Oper} {t:List AV},aQ P C ops h K l t→aQ P C ops h K' l t
 | [],s,h=>hk s h
 |o::rest,t,h=>by
  obtain⟨r,h1,h2⟩:=h;exact⟨r,h1,Ya hk h2⟩
theorem Cn{t:List AV}{h:List ABlk}{o:Oper}{f:FuncId}{args:Array Operand}{tys:Array TypeId}{xs:List AV}{r:AV}
 (ho:o.op= .call {callee:=.value (.func f),args:=args,argTypes:=tys}) (hx:args.toList.map (evA t)=xs) (hF:Fn P f xs r) (hc:AZ xs=true) (hr:AV.cl r=true):Av P C t h o r:=Av.call ho hF hx hc hr
theorem D7{t:List AV}{h:List ABlk}{o:Oper}{c a b:Operand}{q e:Bool}(ho:o.op= .pick c a b)(hc:evA t c= .lit (.bool q))(ha:evA t a= .lit (.bool true))(hb:evA t b=cond (!q) (.lit (.bool e)) (.lit undef)):Av P C t h o (.lit (.bool (q||e))):=
 AH ho hc ha (by rw[hb];cases q <;> rfl)
theorem C4{t:List AV}{h:List ABlk}{o:Oper}{c a b:Operand}{q e:Bool}(ho:o.op= .pick c a b)(hc:evA t c= .lit (.bool q))(ha:evA t a=cond q (.lit (.bool e)) (.lit undef))(hb:evA t b= .lit (.bool false)):Av P C t h o (.lit (.bool (q&&e))):=
 Ay ho hc (by rw[ha];cases q <;> rfl) hb
section
variable{t t' t'':List AV}{h h' h'':List ABlk}{o:Oper}{r:AV}{ops:Array Oper}{rest:List Oper}{K:St→Prop}
theorem qAt (hq:Av P C t h o r:=by(first
 |exact Cn rfl rfl (by assumption) rfl rfl
 |exact Av.callTA rfl rfl (by assumption) (by assumption) (by assumption) (by assumption) rfl rfl
 |exact B7 rfl rfl rfl (by assumption)
 |exact AH rfl rfl rfl rfl
 |exact Ay rfl rfl rfl rfl
 |exact D7 rfl rfl rfl rfl
 |exact C4 rfl rfl rfl rfl
 |exact Av.pickOr' rfl rfl rfl rfl
 |exact Av.pickAnd' rfl rfl rfl rfl
 |exact Av.move rfl (by(conv=>lhs;whnf);try rfl)
 |exact Av.assign rfl (by(conv=>lhs;whnf);try rfl)
 |exact Bz rfl rfl rfl
 |exact Da rfl rfl
 |exact Av.fa_rp rfl rfl rfl
 |exact Jd rfl rfl
 |exact Bh rfl rfl rfl rfl
 |exact Dq rfl rfl rfl
 |exact Cw rfl rfl rfl (by assumption) rfl
 |exact Bt rfl rfl rfl rfl
 |exact CD rfl rfl rfl
 |exact Jc rfl rfl rfl rfl (by assumption)
 |exact FH rfl rfl rfl rfl (by first|decide|omega) (by assumption)
 |exact FG rfl rfl rfl rfl rfl (by first|assumption|omega)
 |exact Eg rfl rfl rfl rfl rfl (by first|decide|omega) (by first|assumption|omega)
 |exact AY rfl rfl rfl (by first|assumption|omega)
 |exact Av.ln rfl rfl
 |exact FF rfl rfl rfl
 |exact C5 rfl rfl
 |exact EF rfl rfl rfl (by omega)
 |exact EC rfl rfl rfl (by omega)
 |exact FJ rfl rfl rfl rfl (by assumption)
 |exact B7 rfl rfl rfl rfl
 |exact CE rfl rfl
 |exact Av.pick rfl rfl (by(conv=>lhs;whnf);try rfl)
 |exact Av.extract rfl rfl rfl
 |exact CB rfl rfl rfl (by rfl) (by decide) (by first|exact Fit.bool|exact Fit.bs|exact Fit.int (by assumption))
 |exact Av.max2 rfl rfl rfl
 |exact Av.min2 rfl rfl rfl
 |exact By (i:=0) rfl rfl rfl (by first|rfl|assumption) rfl
 |exact By (i:=1) rfl rfl rfl (by first|rfl|assumption) rfl
 |exact By (i:=2) rfl rfl rfl (by first|rfl|assumption) rfl
 |exact By (i:=3) rfl rfl rfl (by first|rfl|assumption) rfl
 |exact By (i:=4) rfl rfl rfl (by first|rfl|assumption) rfl
 |exact By (i:=5) rfl rfl rfl (by first|rfl|assumption) rfl
 |exact By (i:=6) rfl rfl rfl (by first|rfl|assumption) rfl
 |exact By (i:=7) rfl rfl rfl (by first|rfl|assumption) rfl
 |exact By (i:=8) rfl rfl rfl (by first|rfl|assumption) rfl
 |exact BF (i:=1) rfl rfl rfl rfl rfl
 |exact BF (i:=2) rfl rfl rfl rfl rfl
 |exact BF (i:=3) rfl rfl rfl rfl rfl
 |exact BF (i:=4) rfl rfl rfl rfl rfl
 |exact BF (i:=5) rfl rfl rfl rfl rfl
 |exact BF (i:=6) rfl rfl rfl rfl rfl
 |exact BF (i:=7) rfl rfl rfl rfl rfl
 |exact BF (i:=8) rfl rfl rfl rfl rfl
 |exact Av.eqb rfl rfl rfl (by assumption)
 |exact Av.eqb rfl rfl rfl rfl
 |exact Me rfl rfl rfl (by assumption)
 |exact Me rfl rfl rfl rfl
 |exact Nt rfl rfl rfl
 |exact Je rfl rfl rfl
 |exact Av.neS rfl rfl rfl
 |exact I9 rfl rfl
 |exact Mg rfl rfl rfl (by assumption)
 |exact Av.cat rfl rfl rfl (by first|assumption|omega)
 |exact Av.cut rfl rfl rfl rfl (by first|assumption|omega) (by first|assumption|omega)
 |exact Nv rfl rfl rfl (by first|assumption|omega)
 |exact Av.shl rfl rfl rfl (by decide) (by assumption)
 |exact Av.shl rfl rfl rfl (by decide) rfl
 |exact Av.shr rfl rfl rfl (by decide) (by assumption)
 |exact Av.shr rfl rfl rfl (by decide) rfl
 |exact DW rfl rfl rfl rfl (by assumption)
 |exact DW rfl rfl rfl rfl rfl
 |exact FE rfl
 |exact Av.callV rfl rfl rfl (by assumption) rfl (by first|rfl|assumption) rfl
 |exact Av.cv rfl rfl (by assumption)
 |exact Av.cv rfl rfl rfl
 |exact Av.b2s rfl rfl
 |exact Av.s2b rfl rfl (by first|assumption|omega))):Av P C t h o r:=hq
theorem sA(hk:Ck P C ops K rest ⟨t',h⟩)(hq:Av P C t h o r:=by exact qAt)(ht:AJ t o.dst r=t':=by((try simp only[AJ,List.set_cons_zero,List.set_cons_succ]);exact rfl))(hg:gA ops t o=some true:=by rfl):Ck P C ops K (o::rest) ⟨t,h⟩:=by
 subst ht;exact X9 hg hq hk
theorem qA{K:List AV→Prop}(hk:aQ P C ops h K rest t')(hq:Av P C t h o r:=by exact qAt)(ht:AJ t o.dst r=t':=by((try simp only[AJ,List.set_cons_zero,List.set_cons_succ]);exact rfl))(hg:gA ops t o=some true:=by rfl):aQ P C ops h K (o::rest) t:=by
 subst ht;exact Arf hg hq hk
end
section
variable{id:Nat}{l l1 l2:List Oper}{y:Code}{Q:Exit→St→Prop}{t t' t'':List AV}{h h':List ABlk}
theorem wR(hk:Awp P C y Q ⟨t',h'⟩)(hx:Ck P C l.toArray (fun s=>s=⟨t',h'⟩) l ⟨t,h⟩:=by((repeat(first|refine sA ?_|refine AO ?_|refine sAG (hk:=?_)|refine B6 ?_));exact Agx rfl)):Awp P C (.seq (.region id l.toArray false) y) Q ⟨t,h⟩:=
 Ac fun _ hK=>Awp.region (C3 (fun s e=>by subst e;exact hK _ hk) hx)
theorem wRE(hk:Q .normal ⟨t',h'⟩)(hx:Ck P C l.toArray (fun s=>s=⟨t',h'⟩) l ⟨t,h⟩:=by((repeat(first|refine sA ?_|refine AO ?_|refine sAG (hk:=?_)|refine B6 ?_));exact Agx rfl)):Awp P C (.region id l.toArray false) Q ⟨t,h⟩:=
 Awp.region (C3 (fun s e=>by subst e;exact hk) hx)
end
theorem Ew{t t':List AV}{h:List ABlk}(hb:bdH h=true:=by rfl)(hf:Fgt h.length t t':=by((try simp only[AJ,List.set_cons_zero,List.set_cons_succ]);repeat(first|exact Fgt.nil|refine Fgt.keep rfl ?_|refine Fgt.any ?_|refine Fgt.keep (by first|assumption|exact bd_of_cl _ _ (by assumption)) ?_))):St.le C ⟨t,h⟩ ⟨t',h⟩:=BD hb hf
end
end Mu
end
section
namespace Mu
open Go Go.RowKit Go.ChangeShapes Go.WideShapes Go.Proofs
section
variable{P:Program}{C:Ctx}{t:List AV}{h:List ABlk}{o:Oper}{K:St→Prop}
end
section
variable{P:Program}{C:Ctx}{t:List AV}{h:List ABlk}{o:Oper}{K:St→Prop}
end
end Mu
end
section
namespace Mu
open Go Go.RowKit Go.Proofs
section
variable{P:Program}
end
end Mu
end
section
namespace Mu
open Go Go.RowKit Go.ChangeShapes Go.WideShapes Go.Proofs
theorem B9{P:Program}{C:Ctx}{t:List AV}{h:List ABlk}{o:Oper}{ty:TypeId}{parts:Array (Nat×Operand)}{zs:List Value}{pl:List (Nat×Nat)}{rs:List AV}[ZC P ty zs](ho:o.op= .build ty parts)(hpl:Cf P ty=some pl)
 (hr:putCells pl (zs.map .lit) (parts.toList.map fun p=>(p.1,evA t p.2))=some rs) (h1:(parts.toList.all fun p=>Us (evA t p.2))=true):Av P C t h o (.agg rs):=
 Av.build ho ZC.eq hpl hr fun p hp=>Jf (List.all_eq_true.1 h1 p hp)
end Mu
end
section
namespace Mu
open Go Go.RowKit Go.Proofs
def ixD{α:Type}[Inhabited α](l:List α)(z:Int):α:=l.getD z.toNat default
def EJ{α:Type}(l:List α)(z:Int):Bool:=decide (0≤z)&&decide (z.toNat < l.length)
theorem B8{α:Type}{l:List α}{z:Int}:EJ l z=true↔0≤z∧z.toNat < l.length:=by unfold EJ;simp
theorem BJ{α:Type}[Inhabited α]{l:List α}{z:Int}(h:EJ l z=true):l[z.toNat]? =some (ixD l z):=by
 have h1:=(B8.1 h).2;unfold ixD;rw[List.getD_eq_getElem?_getD,List.getElem?_eq_getElem h1];rfl
theorem PR{α:Type}[Inhabited α]{l:List α}{k:Nat}{x:α}(h:l[k]? =some x):ixD l (k:Int)=x:=by
 unfold ixD;rw[Int.toNat_natCast,List.getD_eq_getElem?_getD,h];rfl
def Apr(s:ByteArray)(z:Int):Bool:=decide (0≤z)&&decide (z.toNat < s.size)
def chD(s:ByteArray)(z:Int):Int:=((s.data.toList.getD z.toNat 0).toNat:Int)
def H5(n bytes:Nat):Bool:=decide (n≤maxLen)&&decide (n * bytes≤140737488355328)
def Aqo(z:Int)(bytes:Nat):Bool:=decide (0≤z)&&decide (z.toNat≤maxLen)&&decide (bytes * z.toNat≤281474976710656)
def Aqf(s:ByteArray):Bool:=decide (s.size≤maxLen)
def Aq6(k:IntKind)(a b:Int):Int:=k.wrap (a * 2 ^ min b.toNat k.bits)
def Aqh(k:IntKind)(a b:Int):Int:=a / 2 ^ min b.toNat k.bits
def wfB(k:IntKind)(a:Int):Bool:=(Lit.int k a).wf
theorem Iq{k:IntKind}{a:Int}(h:wfB k a=true):wfI k a:=h
theorem YU{n b:Nat}(h:H5 n b=true):n≤maxLen:=by unfold H5 at h;simp at h;exact h.1
theorem T6{n b:Nat}(h:H5 n b=true):n * b≤140737488355328:=by unfold H5 at h;simp at h;exact h.2
theorem VQ{s:ByteArray}(h:Aqf s=true):s.size≤maxLen:=of_decide_eq_true h
theorem Uy{k:IntKind}{a b:Int}(h:(b !=0)=true):IP .quo k a b=some (.int k (k.wrap (a.tdiv b))):=by
 have:b≠0:=by simpa using h
 unfold IP;rw[if_neg this]
theorem Ux{k:IntKind}{a b:Int}(h:(b !=0)=true):IP .rem k a b=some (.int k (a.tmod b)):=by
 have:b≠0:=by simpa using h
 show(if b=0 then none else some (Value.int k (a.tmod b)))=_;rw[if_neg this]
theorem S8{g p:Bool}(h:(!g||p)=true)(hg:g=true):p=true:=by subst hg;simpa using h
theorem Du{a b:Bool}(h:(a&&b)=true):a=true:=by cases a;cases h;rfl
theorem XO{α:Type 1}{a b:Bool}(h:a=true)(x y:α):(bif a&&b then x else y)=bif b then x else y:=by subst h;rfl
theorem Fc{α:Type 1}{b:Bool}(h:b=true)(x y:α):(bif b then x else y)=x:=by subst h;rfl
theorem V3{x0 r:AV}{l:List AV}:AJ (x0::l) (some 0) r=r::l:=rfl
theorem T3{x0 x1 r:AV}{l:List AV}:AJ (x0::x1::l) (some 1) r=x0::r::l:=rfl
theorem Akm{x0 x1 x2 r:AV}{l:List AV}:AJ (x0::x1::x2::l) (some 2) r=x0::x1::r::l:=rfl
theorem Ag0{x0 x1 x2 x3 r:AV}{l:List AV}:AJ (x0::x1::x2::x3::l) (some 3) r=x0::x1::x2::r::l:=rfl
theorem Ac0{x0 x1 x2 x3 x4 r:AV}{l:List AV}:AJ (x0::x1::x2::x3::x4::l) (some 4) r=x0::x1::x2::x3::r::l:=rfl
theorem Agz{x0 x1 x2 x3 x4 x5 r:AV}{l:List AV}:AJ (x0::x1::x2::x3::x4::x5::l) (some 5) r=x0::x1::x2::x3::x4::r::l:=rfl
theorem Apj{x0 x1 x2 x3 x4 x5 x6 r:AV}{l:List AV}:AJ (x0::x1::x2::x3::x4::x5::x6::l) (some 6) r=x0::x1::x2::x3::x4::x5::r::l:=rfl
theorem Vw{x0 x1 x2 x3 x4 x5 x6 x7 r:AV}{l:List AV}:AJ (x0::x1::x2::x3::x4::x5::x6::x7::l) (some 7) r=x0::x1::x2::x3::x4::x5::x6::r::l:=rfl
theorem Bf{x0 x1 x2 x3 x4 x5 x6 x7 r:AV}{l l':List AV}{k:Nat}(e:AJ l (some k) r=l'):AJ (x0::x1::x2::x3::x4::x5::x6::x7::l) (some (k+8)) r=x0::x1::x2::x3::x4::x5::x6::x7::l':=by subst e;rfl
theorem AC{x0 x1 x2 x3 x4 x5 x6 x7 x8 x9 x10 x11 x12 x13 x14 x15 x16 x17 x18 x19 x20 x21 x22 x23 x24 x25 x26 x27 x28 x29 x30 x31 r:AV}{l l':List AV}{k:Nat}(e:AJ l (some k) r=l'):AJ (x0::x1::x2::x3::x4::x5::x6::x7::x8::x9::x10::x11::x12::x13::x14::x15::x16::x17::x18::x19::x20::x21::x22::x23::x24::x25::x26::x27::x28::x29::x30::x31::l) (some (k+32)) r=x0::x1::x2::x3::x4::x5::x6::x7::x8::x9::x10::x11::x12::x13::x14::x15::x16::x17::x18::x19::x20::x21::x22::x23::x24::x25::x26::x27::x28::x29::x30::x31::l':=by subst e;rfl
theorem Tb{x0:AV}{l:List AV}:evA (x0::l) (.tmp 0)=x0:=rfl
theorem Afu{x0 x1:AV}{l:List AV}:evA (x0::x1::l) (.tmp 1)=x1:=rfl
theorem Aft{x0 x1 x2:AV}{l:List AV}:evA (x0::x1::x2::l) (.tmp 2)=x2:=rfl
theorem Ab6{x0 x1 x2 x3:AV}{l:List AV}:evA (x0::x1::x2::x3::l) (.tmp 3)=x3:=rfl
theorem ZI{x0 x1 x2 x3 x4:AV}{l:List AV}:evA (x0::x1::x2::x3::x4::l) (.tmp 4)=x4:=rfl
theorem Oh{x0 x1 x2 x3 x4 x5:AV}{l:List AV}:evA (x0::x1::x2::x3::x4::x5::l) (.tmp 5)=x5:=rfl
theorem OM{x0 x1 x2 x3 x4 x5 x6:AV}{l:List AV}:evA (x0::x1::x2::x3::x4::x5::x6::l) (.tmp 6)=x6:=rfl
theorem QU{x0 x1 x2 x3 x4 x5 x6 x7:AV}{l:List AV}:evA (x0::x1::x2::x3::x4::x5::x6::x7::l) (.tmp 7)=x7:=rfl
theorem AT{x0 x1 x2 x3 x4 x5 x6 x7 r:AV}{l:List AV}{k:Nat}(e:evA l (.tmp k)=r):evA (x0::x1::x2::x3::x4::x5::x6::x7::l) (.tmp (k+8))=r:=e
theorem AK{x0 x1 x2 x3 x4 x5 x6 x7 x8 x9 x10 x11 x12 x13 x14 x15 x16 x17 x18 x19 x20 x21 x22 x23 x24 x25 x26 x27 x28 x29 x30 x31 r:AV}{l:List AV}{k:Nat}(e:evA l (.tmp k)=r):evA (x0::x1::x2::x3::x4::x5::x6::x7::x8::x9::x10::x11::x12::x13::x14::x15::x16::x17::x18::x19::x20::x21::x22::x23::x24::x25::x26::x27::x28::x29::x30::x31::l) (.tmp (k+32))=r:=e
theorem Vx{l:List AV}{v:Value}:evA l (.const v)= .lit v:=rfl
theorem Arl{l:List AV}{r:AV}:AJ l none r=l:=rfl
inductive Up:AV→AV→Prop
 |refl (x:AV):Up x x
 |nil {α:Type} (T:Ty α):Up (.lit (.slice none 0 0)) (.bs T [])
 |agg {l l':List AV}:l.length=l'.length→(∀(i:Nat) (x y:AV),l[i]? =some x→l'[i]? =some y→Up x y)→Up (.agg l) (.agg l')
 |tup {l l':List AV}:l.length=l'.length→(∀(i:Nat) (x y:AV),l[i]? =some x→l'[i]? =some y→Up x y)→Up (.tup l) (.tup l')
theorem Up.rel{w:World}{S:Nat→Prop}{h:List ABlk}{ψ:Nat→Value}{x y:AV}(hu:Up x y):∀{v:Value},AV.rel w S h ψ x v→AV.rel w S h ψ y v:=by
 induction hu with
 |refl x=>exact fun h=>h
 |nil T=>
  intro v H;unfold AV.rel at H⊢;rw[H];exact T.slice_nilS _ _
 |@agg l l' hlen hi ih=>
  intro v H;unfold AV.rel at H⊢;obtain⟨cs,e,hl⟩:=H;refine⟨cs,e,Dm (by rw[AW hl,hlen]) fun i y u hy hu=>?_⟩;have hlt:i < l.length:=by rw[hlen];exact(List.getElem?_eq_some_iff.1 hy).1
  obtain⟨x,hx⟩:∃x,l[i]? =some x:=⟨_,List.getElem?_eq_getElem hlt⟩
  obtain⟨u',h1,h2⟩:=Bl hl hx;rw[h1]at hu;cases hu;exact ih i x y hx hy h2
 |@tup l l' hlen hi ih=>
  intro v H;unfold AV.rel at H⊢;obtain⟨cs,e,hl⟩:=H;refine⟨cs,e,Dm (by rw[AW hl,hlen]) fun i y u hy hu=>?_⟩;have hlt:i < l.length:=by rw[hlen];exact(List.getElem?_eq_some_iff.1 hy).1
  obtain⟨x,hx⟩:∃x,l[i]? =some x:=⟨_,List.getElem?_eq_getElem hlt⟩
  obtain⟨u',h1,h2⟩:=Bl hl hx;rw[h1]at hu;cases hu;exact ih i x y hx hy h2
inductive UpL:List AV→List AV→Prop
 |nil:UpL [] []
 |cons {x y:AV} {l l':List AV}:Up x y→UpL l l'→UpL (x::l) (y::l')
theorem UpL.len{l l':List AV}(h:UpL l l'):l.length=l'.length:=by
 induction h with
 |nil=>rfl
 |cons _ _ ih=>simp[ih]
theorem UpL.get{l l':List AV}(h:UpL l l'):∀(i:Nat) (x y:AV),l[i]? =some x→l'[i]? =some y→Up x y:=by
 induction h with
 |nil=>intro i x y hx;simp at hx
 |cons h1 _ ih=>
  intro i x y hx hy;cases i with
  |zero=>simp at hx hy;subst hx hy;exact h1
  |succ i=>exact ih i x y (by simpa using hx) (by simpa using hy)
theorem UpL.rel{w:World}{S:Nat→Prop}{h:List ABlk}{ψ:Nat→Value}{l l':List AV}(hu:UpL l l'){cs:List Value}(H:Ad w S h ψ l cs):Ad w S h ψ l' cs:=by
 refine Dm (by rw[AW H,hu.len]) fun i y u hy hv=>?_
 have hlt:i < l.length:=by rw[hu.len];exact(List.getElem?_eq_some_iff.1 hy).1
 obtain⟨x,hx⟩:∃x,l[i]? =some x:=⟨_,List.getElem?_eq_getElem hlt⟩
 obtain⟨u',h1,h2⟩:=Bl H hx;rw[h1]at hv;cases hv;exact(hu.get i x y hx hy).rel h2
theorem Aqz{l l':List AV}(h:UpL l l'):Up (.agg l) (.agg l'):=.agg h.len h.get
section
variable{P:Program}{C:Ctx}{t t':List AV}{h h':List ABlk}{o:Oper}
theorem FI{ty:TypeId}{x y:Operand}{ik:IntKind}{z:Int}{n:Nat}{α:Type}[Inhabited α]{T:Ty α}{l:List α}[ES P ty n](ho:o.op= .indexAddr ty x y)(hx:evA t x= .bs T l)(hy:evA t y= .lit (.int ik z))(hs:T.size=n)(hz:EJ l z=true):Av P C t h o (.bp T (ixD l z) 0):=
 FH ho hx hy hs (B8.1 hz).1 (BJ hz)
theorem Vi{ty:TypeId}{x y:Operand}{ik:IntKind}{z:Int}{n i ver:Nat}{e:TypeId}{α:Type}{T:Ty α}{l:List α}[ES P ty n](ho:o.op= .indexAddr ty x y)(hx:evA t x= .own i ver)(hi:h[i]? =some (.row ver e T l))(hy:evA t y= .lit (.int ik z))(hs:T.size=n)(hz:EJ l z=true):Av P C t h o (.rp i ver z.toNat 0):=
 Eg ho hx hi hy hs (B8.1 hz).1 (B8.1 hz).2
theorem Nr{ty:TypeId}{x y:Operand}{s:ByteArray}{z:Int}{ik:IntKind}[StrT P ty](ho:o.op= .index ty x y)(hx:evA t x= .lit (.string s))(hy:evA t y= .lit (.int ik z))(hz:Apr s z=true):Av P C t h o (.lit (.int .u8 (chD s z))):=by
 unfold Apr at hz;simp only[Bool.and_eq_true,decide_eq_true_eq]at hz;obtain⟨h0,h1⟩:=hz;have e:z=((z.toNat:Nat):Int):=by omega
 have h2:z.toNat < s.data.toList.length:=h1;rw[e]at hy;have:=Mg (P:=P) (C:=C) (h:=h) ho hx hy (List.getElem?_eq_getElem h2);unfold chD;rw[List.getD_eq_getElem?_getD,List.getElem?_eq_getElem h2];exact this
theorem Vc{xt yt:TypeId}{x y:Operand}{k q:IntKind}{a b:Int}(ho:o.op= .binOp .shl xt x y yt)(hx:evA t x= .lit (.int k a))(hy:evA t y= .lit (.int q b))(hb:decide (0≤b)=true):Av P C t h o (.lit (.int k (Aq6 k a b))):=Av.shl ho hx hy (of_decide_eq_true hb) rfl
theorem No{xt yt:TypeId}{x y:Operand}{k q:IntKind}{a b:Int}(ho:o.op= .binOp .shr xt x y yt)(hx:evA t x= .lit (.int k a))(hy:evA t y= .lit (.int q b))(hb:decide (0≤b)=true):Av P C t h o (.lit (.int k (Aqh k a b))):=Av.shr ho hx hy (of_decide_eq_true hb) rfl
theorem Vd{xt yt:TypeId}{x y:Operand}{k:IntKind}{a b:Int}(ho:o.op= .binOp .quo xt x y yt)(hx:evA t x= .lit (.int k a))(hy:evA t y= .lit (.int k b))(hb:(b !=0)=true):Av P C t h o (.lit (.int k (k.wrap (a.tdiv b)))):=B7 ho hx hy (Uy hb)
theorem Np{xt yt:TypeId}{x y:Operand}{k:IntKind}{a b:Int}(ho:o.op= .binOp .rem xt x y yt)(hx:evA t x= .lit (.int k a))(hy:evA t y= .lit (.int k b))(hb:(b !=0)=true):Av P C t h o (.lit (.int k (a.tmod b))):=B7 ho hx hy (Ux hb)
theorem Aa1{ty:TypeId}{x y:Operand}{i ver:Nat}{e:TypeId}{bytes n:Nat}{α:Type}{T:Ty α}{l l2:List α}{enc:α→List AV}{K:St→Prop}[RT P ty e n bytes][EncOf T enc](ho:o.op= .call {callee:=.builtin .append,args:=#[x,y],argTypes:=#[ty,ty]})
 (hx:evA t x= .own i ver) (hi:h[i]? =some (.row ver e T l)) (hy:evA t y= .bs T l2) (hs:T.size=n) (hb:H5 (l.length+l2.length) bytes=true)
 (hK:K ⟨AJ t o.dst (.own i (ver+1)),h.set i (.row (ver+1) e T (l++l2))⟩):AOp P C o ⟨t,h⟩ K:=OK ho hx hi hy hs (YU hb) (T6 hb) hK
theorem YC{ops:Array Oper}{b:Bool}(hg:gA ops t o=some (b ==true)):gA ops t o=some b:=by rw[hg];cases b <;> rfl
theorem ZJ{ops:Array Oper}{b:Bool}(hg:gA ops t o=some (b ==false)):gA ops t o=some (!b):=by rw[hg];cases b <;> rfl
theorem LK{ops:Array Oper}{j:Nat}{q c:Bool}(ho:o.guard=some (j,true))(hd:((ops[j]?).bind (·.dst)).bind (t[·]?)=some (cond q (.lit (.bool c)) (.lit undef))):gA ops t o=some (q&&c):=by rw[Ap7 ho hd];cases c <;> rfl
theorem LL{ops:Array Oper}{j:Nat}{q c:Bool}(ho:o.guard=some (j,false))(hd:((ops[j]?).bind (·.dst)).bind (t[·]?)=some (cond q (.lit (.bool c)) (.lit undef))):gA ops t o=some (q&&!c):=by rw[Ap7 ho hd];cases c <;> rfl
theorem Aaj(hu:UpL t t'):St.le C ⟨t,h⟩ ⟨t',h⟩:=fun a w ⟨hd,S,ψ,H,hl⟩=>⟨hd,S,ψ,H,hu.rel hl⟩
theorem Sz:∀t:List AV,UpL t t
 | []=>.nil
 |x::t=>.cons (.refl x) (Sz t)
theorem VI:∀{t:List AV} {j:Nat} {x y:AV},t[j]? =some x→Up x y→UpL t (t.set j y)
 | [],_,_,_,h,_=>by simp at h
 |a::t,0,x,y,h,hu=>by
  simp at h;subst h;exact .cons hu (Sz t)
 |a::t,j+1,x,y,h,hu=>.cons (.refl a) (VI (t:=t) (by simpa using h) hu)
theorem Aak(j:Nat){α:Type}(T:Ty α)(hj:t[j]? =some (.lit (.slice none 0 0)))(ht:t.set j (.bs T [])=t':=by((try simp only[List.set_cons_zero,List.set_cons_succ]);exact rfl)):St.le C ⟨t,h⟩ ⟨t',h⟩:=by
 subst ht;exact Aaj (VI hj (.nil T))
theorem Yd(j:Nat)(e:TypeId){α:Type}(T:Ty α)(hj:t[j]? =some (.lit (.slice none 0 0)))(h0:0 < T.size)(ht:t.set j (.own h.length 0)=t':=by((try simp only[List.set_cons_zero,List.set_cons_succ,List.length_nil,List.length_cons,Nat.reduceAdd]);exact rfl))(hh:h++[.row 0 e T []]=h':=by((try simp only[List.nil_append,List.cons_append]);exact rfl)):St.le C ⟨t,h⟩ ⟨t',h'⟩:=by
 subst ht hh;exact Cz j e T hj h0
theorem leC(hc:Cut h h')(hb:bdH h'=true:=by rfl)(hf:Fgt h'.length t t':=by((try simp only[AJ,List.set_cons_zero,List.set_cons_succ]);repeat(first|exact Fgt.nil|refine Fgt.keep rfl ?_|refine Fgt.any ?_|refine Fgt.keep (by first|assumption|exact bd_of_cl _ _ (by assumption)) ?_)))(hm:mkD h'=mkD h:=by rfl):St.le C ⟨t,h⟩ ⟨t',h'⟩:=B5 hc hb hf hm
theorem exN{id:Nat}{Q:Exit→St→Prop}{s:St}(hq:Q .normal s):I5 id Q (.exit id) s:=by
 unfold I5;simp[hq]
theorem Ga{K:St→Prop}{Q:Exit→St→Prop}{id:Nat}{s:St}(hq:Q (.exit id) s):JK K Q (.exit id) s:=hq
theorem abN{id:Nat}{Q:Exit→St→Prop}{s:St}(hq:Q .normal s):I5 id Q .normal s:=hq
theorem asN{Q:Exit→St→Prop}{s:St}(hq:Q .normal s):Acf Q .normal s:=hq
theorem OJ{elem:TypeId}{x:Operand}{cells:List AV}{K:St→Prop}(i:Nat)(hi:h.length=i)(ho:o.op= .box elem x)(hp:Qz h (evA t x) cells)(hK:K ⟨AJ t o.dst (.ptr i 0),h++[.box cells]⟩):AOp P C o ⟨t,h⟩ K:=by
 subst hi;exact AOp.box (s:=⟨t,h⟩) ho hp hK
theorem Agw{elem:TypeId}{zs:List Value}{K:St→Prop}[ZC P elem zs](i:Nat)(hi:h.length=i)(ho:o.op= .alloc elem)(hK:K ⟨AJ t o.dst (.ptr i 0),h++[.box (zs.map .lit)]⟩):AOp P C o ⟨t,h⟩ K:=by
 subst hi;exact AOp.al ho hK
theorem TL{ty e:TypeId}{bytes n:Nat}{parts:Array (Nat×Operand)}{xs:List Operand}{α:Type}{T:Ty α}{ds:List α}{K:St→Prop}(i:Nat)(hi:h.length=i)(ho:o.op= .buildSlice ty n parts)(hp:parts=DF xs)(hn:n=xs.length)
 (hT:Hm P ty=some (e,T.size,bytes)) (h0:0 < T.size) (hsz:n * T.size≤16777216) (hf:Fits h T (xs.map (evA t)) ds) (hK:K ⟨AJ t o.dst (.own i 0),h++[.row 0 e T ds]⟩):AOp P C o ⟨t,h⟩ K:=by
 subst hi;exact AOp.lit (s:=⟨t,h⟩) ho hp hn hT h0 hsz hf hK
theorem Apk{ops:Array Oper}{rest:List Oper}{K:St→Prop}(hk:Ck P C ops K rest ⟨t',h'⟩)(ht:t=t':=by exact rfl)(hh:h=h':=by((try simp only[List.nil_append,List.cons_append,List.set_cons_zero,List.set_cons_succ,List.take_zero,List.take_succ_cons,List.drop_succ_cons,List.drop_zero,List.drop_nil,List.take_nil,List.map_cons,List.map_nil,List.append_nil,List.length_cons,List.length_nil,Nat.zero_add,Nat.reduceAdd]);exact rfl)):Ck P C ops K rest ⟨t,h⟩:=by
 subst ht hh;exact hk
theorem Tz{ops:Array Oper}{K:St→Prop}{rest:List Oper}{s s':St}(hg:o.guard=none)(hle:St.le C s s')(hk:Ck P C ops K (o::rest) s'):Ck P C ops K (o::rest) s:=by
 obtain⟨b,h1,h2,h3⟩:=hk;have e:∀t,gA ops t o=some true:=fun t=>by unfold gA;rw[hg]
 rw[e]at h1;cases h1;exact⟨true,e _,fun _ Q' a w H=>h2 rfl Q' a w (hle a w H),fun h=>by cases h⟩
theorem D8{x y:Code}{Q:Exit→St→Prop}{s:St}{β:Type}(J:β→Prop)(G:β→St)(hx:Awp P C x (JK (fun s'=>∃b,J b∧St.le C s' (G b)) Q) s)(hy:∀b,J b→Awp P C y Q (G b)):Awp P C (.seq x y) Q s:=
 Ac fun K hK=>hx.mono fun e s' q=>by
  cases e with
  |normal=>
   obtain⟨b,hJ,hle⟩:=q;exact hK s' ((hy b hJ).le hle)
  |_=>exact q
theorem Yl{c:Code}{Q:Exit→St→Prop}{s:St}{β:Type}(J:β→Prop)(G:β→St)(hx:Awp P C c (JK (fun s'=>∃b,J b∧St.le C s' (G b)) Q) s)(hy:∀b s',J b→St.le C s' (G b)→Q .normal s'):Awp P C c Q s:=
 hx.mono fun e s' q=>by
  cases e with
  |normal=>
   obtain⟨b,hJ,hle⟩:=q;exact hy b s' hJ hle
  |_=>exact q
theorem GS{c:Code}{Q:Exit→St→Prop}{s:St}{σ ρ β:Type}{step:σ→M (σ⊕ρ)}{s0:σ}{r:ρ}(H:(M.loop step s0).to r)(F:σ→β→St)(b0:β)(h0:St.le C s (F s0 b0))
 (hr:∀s' b x,(step s').to x→(∀r',x= .inr r'→r'=r)→Awp P C c (JK (fun st=>∃s'' b',x= .inl s''∧St.le C st (F s'' b')) Q) (F s' b)):Awp P C (.loop c) Q s:=by
 obtain⟨k,hk⟩:=Qn.1 H;refine Awp.loop (fun m st=>∃s' b,st=F s' b∧M.Rounds step m s' r) k ⟨_,h0,s0,b0,rfl,hk⟩ ?_;rintro m st ⟨s',b,rfl,hm⟩;cases hm with
 |out hx=>
  refine(hr s' b _ hx fun r' e=>by cases e;rfl).mono fun e s1 q=>?_
  cases e with
  |normal=>obtain⟨_,_,e,_⟩:=q;cases e
  |_=>exact q
 |on hx hm=>
  refine(hr s' b _ hx fun r' e=>by cases e).mono fun e s1 q=>?_
  cases e with
  |normal=>
   obtain⟨s2,b',e,hle⟩:=q;cases e;exact⟨_,Nat.lt_succ_self _,_,hle,_,b',rfl,hm⟩
  |_=>exact q
end
instance Aom:Inhabited Ins:=⟨⟨0,0,0,0,0,0,[],0,0⟩⟩
instance Aol:Inhabited Block:=⟨⟨⟨#[]⟩,[]⟩⟩
instance Aok:Inhabited Func:=⟨⟨⟨#[]⟩,0,0,[]⟩⟩
class GA(t:List AV)(x:Operand)(r:outParam AV):Prop where
 e:evA t x=r
class PA(t:List AV)(d:Option Nat)(r:AV)(t':outParam (List AV)):Prop where
 e:AJ t d r=t'
instance Apz{l:List AV}{v:Value}:GA l (.const v) (.lit v):=⟨rfl⟩
instance Apy{x0:AV}{l:List AV}:GA (x0::l) (.tmp 0) x0:=⟨rfl⟩
instance Apx{x0 x1:AV}{l:List AV}:GA (x0::x1::l) (.tmp 1) x1:=⟨rfl⟩
instance Apw{x0 x1 x2:AV}{l:List AV}:GA (x0::x1::x2::l) (.tmp 2) x2:=⟨rfl⟩
instance Apv{x0 x1 x2 x3:AV}{l:List AV}:GA (x0::x1::x2::x3::l) (.tmp 3) x3:=⟨rfl⟩
instance Apu{x0 x1 x2 x3 x4:AV}{l:List AV}:GA (x0::x1::x2::x3::x4::l) (.tmp 4) x4:=⟨rfl⟩
instance Apt{x0 x1 x2 x3 x4 x5:AV}{l:List AV}:GA (x0::x1::x2::x3::x4::x5::l) (.tmp 5) x5:=⟨rfl⟩
instance Aps{x0 x1 x2 x3 x4 x5 x6:AV}{l:List AV}:GA (x0::x1::x2::x3::x4::x5::x6::l) (.tmp 6) x6:=⟨rfl⟩
instance An3{x0 x1 x2 x3 x4 x5 x6 x7:AV}{l:List AV}:GA (x0::x1::x2::x3::x4::x5::x6::x7::l) (.tmp 7) x7:=⟨rfl⟩
instance An2{x0 x1 x2 x3 x4 x5 x6 x7 r:AV}{l:List AV}{k:Nat}[GA l (.tmp k) r]:GA (x0::x1::x2::x3::x4::x5::x6::x7::l) (.tmp (k+8)) r:=⟨AT GA.e⟩
instance An1{x0 x1 x2 x3 x4 x5 x6 x7 x8 x9 x10 x11 x12 x13 x14 x15 x16 x17 x18 x19 x20 x21 x22 x23 x24 x25 x26 x27 x28 x29 x30 x31 r:AV}{l:List AV}{k:Nat}[GA l (.tmp k) r]:GA (x0::x1::x2::x3::x4::x5::x6::x7::x8::x9::x10::x11::x12::x13::x14::x15::x16::x17::x18::x19::x20::x21::x22::x23::x24::x25::x26::x27::x28::x29::x30::x31::l) (.tmp (k+32)) r:=⟨AK GA.e⟩
instance An0{l:List AV}{r:AV}:PA l none r l:=⟨rfl⟩
instance Anz{x0 r:AV}{l:List AV}:PA (x0::l) (some 0) r (r::l):=⟨rfl⟩
instance Anx{x0 x1 r:AV}{l:List AV}:PA (x0::x1::l) (some 1) r (x0::r::l):=⟨rfl⟩
instance Anw{x0 x1 x2 r:AV}{l:List AV}:PA (x0::x1::x2::l) (some 2) r (x0::x1::r::l):=⟨rfl⟩
instance Anv{x0 x1 x2 x3 r:AV}{l:List AV}:PA (x0::x1::x2::x3::l) (some 3) r (x0::x1::x2::r::l):=⟨rfl⟩
instance Anu{x0 x1 x2 x3 x4 r:AV}{l:List AV}:PA (x0::x1::x2::x3::x4::l) (some 4) r (x0::x1::x2::x3::r::l):=⟨rfl⟩
instance Ant{x0 x1 x2 x3 x4 x5 r:AV}{l:List AV}:PA (x0::x1::x2::x3::x4::x5::l) (some 5) r (x0::x1::x2::x3::x4::r::l):=⟨rfl⟩
instance Ans{x0 x1 x2 x3 x4 x5 x6 r:AV}{l:List AV}:PA (x0::x1::x2::x3::x4::x5::x6::l) (some 6) r (x0::x1::x2::x3::x4::x5::r::l):=⟨rfl⟩
instance Anr{x0 x1 x2 x3 x4 x5 x6 x7 r:AV}{l:List AV}:PA (x0::x1::x2::x3::x4::x5::x6::x7::l) (some 7) r (x0::x1::x2::x3::x4::x5::x6::r::l):=⟨rfl⟩
instance Anq{x0 x1 x2 x3 x4 x5 x6 x7 r:AV}{l l':List AV}{k:Nat}[PA l (some k) r l']:PA (x0::x1::x2::x3::x4::x5::x6::x7::l) (some (k+8)) r (x0::x1::x2::x3::x4::x5::x6::x7::l'):=⟨Bf PA.e⟩
instance Anp{x0 x1 x2 x3 x4 x5 x6 x7 x8 x9 x10 x11 x12 x13 x14 x15 x16 x17 x18 x19 x20 x21 x22 x23 x24 x25 x26 x27 x28 x29 x30 x31 r:AV}{l l':List AV}{k:Nat}[PA l (some k) r l']:PA (x0::x1::x2::x3::x4::x5::x6::x7::x8::x9::x10::x11::x12::x13::x14::x15::x16::x17::x18::x19::x20::x21::x22::x23::x24::x25::x26::x27::x28::x29::x30::x31::l) (some (k+32)) r (x0::x1::x2::x3::x4::x5::x6::x7::x8::x9::x10::x11::x12::x13::x14::x15::x16::x17::x18::x19::x20::x21::x22::x23::x24::x25::x26::x27::x28::x29::x30::x31::l'):=⟨AC PA.e⟩
class BI(op:BinOp)(k:IntKind)(a b:Int)(v:outParam Value):Prop where
 e:IP op k a b=some v
instance Ano{k:IntKind}{a b:Int}:BI .add k a b (.int k (k.wrap (a+b))):=⟨rfl⟩
instance Ann{k:IntKind}{a b:Int}:BI .sub k a b (.int k (k.wrap (a - b))):=⟨rfl⟩
instance Anm{k:IntKind}{a b:Int}:BI .mul k a b (.int k (k.wrap (a * b))):=⟨rfl⟩
instance Anl{k:IntKind}{a b:Int}:BI .eql k a b (.bool (a ==b)):=⟨rfl⟩
instance Ank{k:IntKind}{a b:Int}:BI .neq k a b (.bool (a !=b)):=⟨rfl⟩
instance Anj{k:IntKind}{a b:Int}:BI .lss k a b (.bool (decide (a < b))):=⟨rfl⟩
instance Ani{k:IntKind}{a b:Int}:BI .leq k a b (.bool (decide (a≤b))):=⟨rfl⟩
instance Anh{k:IntKind}{a b:Int}:BI .gtr k a b (.bool (decide (a > b))):=⟨rfl⟩
instance Ang{k:IntKind}{a b:Int}:BI .geq k a b (.bool (decide (a≥b))):=⟨rfl⟩
class HB(h:List ABlk)(i:Nat)(b:outParam ABlk):Prop where
 e:h[i]? =some b
instance Anf{b:ABlk}{h:List ABlk}:HB (b::h) 0 b:=⟨rfl⟩
instance Ane{b c:ABlk}{h:List ABlk}{i:Nat}[HB h i b]:HB (c::h) (i+1) b:=⟨by rw[List.getElem?_cons_succ];exact HB.e⟩
class LD(l:List AV)(k:Nat)(x:outParam AV):Prop where
 e:(l.drop k)[0]? =some x
instance And{x:AV}{l:List AV}:LD (x::l) 0 x:=⟨rfl⟩
instance Anc{x y:AV}{l:List AV}{k:Nat}[LD l k x]:LD (y::l) (k+1) x:=⟨by rw[List.drop_succ_cons];exact LD.e⟩
class TK(l:List AV)(k n:Nat)(r:outParam (List AV)):Prop where
 e:(l.drop k).take n=r∧r.length=n
instance Anb{l:List AV}:TK l 0 0 []:=⟨by simp⟩
instance Ana{x:AV}{l r:List AV}{n:Nat}[TK l 0 n r]:TK (x::l) 0 (n+1) (x::r):=⟨by have h:=TK.e (l:=l) (k:=0) (n:=n) (r:=r);rw[List.drop_zero]at h;rw[List.drop_zero,List.take_succ_cons,h.1,List.length_cons,h.2];exact⟨rfl,rfl⟩⟩
class AD(a b:Nat)(c:outParam Nat):Prop where
 e:a+b=c
instance Am9{a b:Nat}:AD a b (a+b):=⟨rfl⟩
instance Am8{n:Nat}:AD n 0 n:=⟨rfl⟩
instance Am7{n:Nat}:AD 0 n n:=⟨Nat.zero_add n⟩
class EL{α:Type}(T:Ty α)(d:α)(l:outParam (List AV)):Prop where
 e:∀(h:List ABlk) (off:Nat),Ii h (.bp T d off) (l.drop off)
instance Am6{α:Type}{T:Ty α}{d:α}{enc:α→List AV}[EncOf T enc]:EL T d (enc d):=⟨fun _ _=>Ii.bp EncOf.ok⟩
class QI(P:Program)(C:Ctx)(t:List AV)(h:List ABlk)(op:Op)(r:outParam AV):Prop where
 e:∀(d:Option Nat) (ty:TypeId) (ps:String) (af:Array Go.Edge),Av P C t h ⟨d,op,ty,ps,af,none⟩ r
section
variable{P:Program}{C:Ctx}{t t':List AV}{h h':List ABlk}
instance Am5{x:Operand}{r:AV}[GA t x r]:QI P C t h (.move x) r:=⟨fun _ _ _ _=>Av.move rfl GA.e⟩
instance Am4{x:Operand}{r:AV}[GA t x r]:QI P C t h (.assign x) r:=⟨fun _ _ _ _=>Av.assign rfl GA.e⟩
instance Am3{op:BinOp}{xt yt:TypeId}{x z:Operand}{k:IntKind}{a b:Int}{v:Value}[GA t x (.lit (.int k a))][GA t z (.lit (.int k b))][BI op k a b v]:QI P C t h (.binOp op xt x z yt) (.lit v):=⟨fun _ _ _ _=>B7 rfl GA.e GA.e BI.e⟩
instance Am2{xt:TypeId}{x:Operand}{b:Bool}[GA t x (.lit (.bool b))]:QI P C t h (.unOp .not xt x) (.lit (.bool (!b))):=⟨fun _ _ _ _=>CE rfl GA.e⟩
instance Am1{ty:TypeId}{x:Operand}{n i off:Nat}{r:AV}{cells:List AV}[AG P ty false n][GA t x (.ptr i off)][HB h i (.box cells)][LD cells off r]:QI P C t h (.load ty x) r:=⟨fun _ _ _ _=>Bh rfl GA.e HB.e LD.e⟩
instance Am0{ty:TypeId}{x:Operand}{n i off:Nat}{cells r:List AV}[AG P ty true n][GA t x (.ptr i off)][HB h i (.box cells)][TK cells off n r]:QI P C t h (.load ty x) (.agg r):=⟨fun _ _ _ _=>ED rfl AG.eq GA.e (Ii.ptr HB.e) (TK.e (l:=cells) (k:=off) (n:=n) (r:=r)).1 (TK.e (l:=cells) (k:=off) (n:=n) (r:=r)).2⟩
instance Amz{ty:TypeId}{x:Operand}{n off:Nat}{r:AV}{α:Type}{T:Ty α}{d:α}{cells:List AV}[AG P ty false n][GA t x (.bp T d off)][EL T d cells][LD cells off r]:QI P C t h (.load ty x) r:=⟨fun _ _ _ _=>C9 rfl AG.eq GA.e (EL.e h off) LD.e⟩
instance Amy{ty:TypeId}{x:Operand}{n off:Nat}{r:List AV}{α:Type}{T:Ty α}{d:α}{cells:List AV}[AG P ty true n][GA t x (.bp T d off)][EL T d cells][TK cells off n r]:QI P C t h (.load ty x) (.agg r):=⟨fun _ _ _ _=>ED rfl AG.eq GA.e (EL.e h off) (TK.e (l:=cells) (k:=off) (n:=n) (r:=r)).1 (TK.e (l:=cells) (k:=off) (n:=n) (r:=r)).2⟩
instance Amx{st:TypeId}{x:Operand}{j n m i off:Nat}{cells:List AV}[FO P st j n][GA t x (.ptr i off)][HB h i (.box cells)][AD off n m]:QI P C t h (.fieldAddr st x j) (.ptr i m):=⟨fun _ _ _ _=>by rw[←AD.e (a:=off) (b:=n) (c:=m)];exact Bz rfl GA.e HB.e⟩
instance Amw{st:TypeId}{x:Operand}{j n m off:Nat}{α:Type}{T:Ty α}{d:α}[FO P st j n][GA t x (.bp T d off)][AD off n m]:QI P C t h (.fieldAddr st x j) (.bp T d m):=⟨fun _ _ _ _=>by rw[←AD.e (a:=off) (b:=n) (c:=m)];exact Da rfl GA.e⟩
instance Amv{ty:TypeId}{x:Operand}{α:Type}{T:Ty α}{l:List α}[SL P ty][GA t x (.bs T l)]:QI P C t h (.call {callee:=.builtin .len,args:=#[x],argTypes:=#[ty]}) (.lit (.int .i64 (l.length:Int))):=⟨fun _ _ _ _=>Av.ln rfl GA.e⟩
instance Amu{ty:TypeId}{x:Operand}{i ver:Nat}{e:TypeId}{α:Type}{T:Ty α}{l:List α}[SL P ty][GA t x (.own i ver)][HB h i (.row ver e T l)]:QI P C t h (.call {callee:=.builtin .len,args:=#[x],argTypes:=#[ty]}) (.lit (.int .i64 (l.length:Int))):=⟨fun _ _ _ _=>FF rfl GA.e HB.e⟩
instance Amt{x:Operand}{j:Nat}{xs:List AV}{r:AV}[GA t x (.tup xs)][LD xs j r]:QI P C t h (.extract x j) r:=⟨fun _ _ _ _=>Av.extract rfl GA.e (by rw[←LD.e (l:=xs) (k:=j) (x:=r),List.getElem?_drop,Nat.add_zero])⟩
instance Ams{c a b:Operand}{q e:Bool}[GA t c (.lit (.bool q))][GA t a (.lit (.bool true))][GA t b (cond (!q) (.lit (.bool e)) (.lit undef))]:QI P C t h (.pick c a b) (.lit (.bool (q||e))):=⟨fun _ _ _ _=>D7 rfl GA.e GA.e GA.e⟩
instance Amr{c a b:Operand}{q e:Bool}[GA t c (.lit (.bool q))][GA t a (cond q (.lit (.bool e)) (.lit undef))][GA t b (.lit (.bool false))]:QI P C t h (.pick c a b) (.lit (.bool (q&&e))):=⟨fun _ _ _ _=>C4 rfl GA.e GA.e GA.e⟩
end
section
variable{P:Program}{C:Ctx}{t t':List AV}{h h':List ABlk}{ops:Array Oper}{rest l:List Oper}{d:Option Nat}{ty:TypeId}{ps:String}{af:Array Go.Edge}{K:St→Prop}{L:List AV→Prop}{y:Code}{Q:Exit→St→Prop}{id:Nat}
theorem wS(hx:Ck P C l.toArray (fun s=>Awp P C y Q s) l ⟨t,h⟩):Awp P C (.seq (.region id l.toArray false) y) Q ⟨t,h⟩:=Ac fun _ hK=>Awp.region (C3 (fun _ e=>hK _ e) hx)
theorem wSE(hx:Ck P C l.toArray (Q .normal) l ⟨t,h⟩):Awp P C (.region id l.toArray false) Q ⟨t,h⟩:=Awp.region hx
theorem wN{s:St}(hk:K s):Ck P C ops K [] s:=hk
theorem qN(hk:L t):aQ P C ops h L [] t:=hk
theorem sT{op:Op}{r:AV}[QI P C t h op r][PA t d r t'](hk:Ck P C ops K rest ⟨t',h⟩):Ck P C ops K (⟨d,op,ty,ps,af,none⟩::rest) ⟨t,h⟩:=sA (hg:=rfl) (hq:=QI.e d ty ps af) (ht:=PA.e) (hk:=hk)
theorem qT{op:Op}{r:AV}[QI P C t h op r][PA t d r t'](hk:aQ P C ops h L rest t'):aQ P C ops h L (⟨d,op,ty,ps,af,none⟩::rest) t:=qA (hg:=rfl) (hq:=QI.e d ty ps af) (ht:=PA.e) (hk:=hk)
theorem sX{st:TypeId}{x z:Operand}{ik:IntKind}{m:Int}{n:Nat}{α:Type}[Inhabited α]{T:Ty α}{l:List α}(hz:EJ l m=true)[GA t x (.bs T l)][GA t z (.lit (.int ik m))][ES P st n][PA t d (.bp T (ixD l m) 0) t'](hk:Ck P C ops K rest ⟨t',h⟩)(hs:T.size=n:=by exact rfl):Ck P C ops K (⟨d,.indexAddr st x z,ty,ps,af,none⟩::rest) ⟨t,h⟩:=sA (hg:=rfl) (hq:=FI rfl GA.e GA.e hs hz) (ht:=PA.e) (hk:=hk)
theorem qX{st:TypeId}{x z:Operand}{ik:IntKind}{m:Int}{n:Nat}{α:Type}[Inhabited α]{T:Ty α}{l:List α}(hz:EJ l m=true)[GA t x (.bs T l)][GA t z (.lit (.int ik m))][ES P st n][PA t d (.bp T (ixD l m) 0) t'](hk:aQ P C ops h L rest t')(hs:T.size=n:=by exact rfl):aQ P C ops h L (⟨d,.indexAddr st x z,ty,ps,af,none⟩::rest) t:=qA (hg:=rfl) (hq:=FI rfl GA.e GA.e hs hz) (ht:=PA.e) (hk:=hk)
theorem sC{f:FuncId}{args:Array Operand}{tys:Array TypeId}{xs:List AV}{r:AV}(hF:Fn P f xs r)[PA t d r t'](hk:Ck P C ops K rest ⟨t',h⟩)(hx:args.toList.map (evA t)=xs:=by exact rfl)(hc:AZ xs=true:=by exact rfl)(hr:AV.cl r=true:=by exact rfl):Ck P C ops K (⟨d,.call {callee:=.value (.func f),args:=args,argTypes:=tys},ty,ps,af,none⟩::rest) ⟨t,h⟩:=sA (hg:=rfl) (hq:=Cn rfl hx hF hc hr) (ht:=PA.e) (hk:=hk)
theorem qC{f:FuncId}{args:Array Operand}{tys:Array TypeId}{xs:List AV}{r:AV}(hF:Fn P f xs r)[PA t d r t'](hk:aQ P C ops h L rest t')(hx:args.toList.map (evA t)=xs:=by exact rfl)(hc:AZ xs=true:=by exact rfl)(hr:AV.cl r=true:=by exact rfl):aQ P C ops h L (⟨d,.call {callee:=.value (.func f),args:=args,argTypes:=tys},ty,ps,af,none⟩::rest) t:=qA (hg:=rfl) (hq:=Cn rfl hx hF hc hr) (ht:=PA.e) (hk:=hk)
end
class GX(g:Bool)(t:List AV)(x:Operand)(r:outParam AV):Prop where
 e:g=true→evA t x=r
instance Amq{g:Bool}{t:List AV}{x:Operand}{r:AV}[GA t x r]:GX g t x r:=⟨fun _=>GA.e⟩
instance Amp{g:Bool}{t:List AV}{x:Operand}{r:AV}[GA t x (cond g r (.lit undef))]:GX g t x r:=⟨fun h=>by have e:=GA.e (t:=t) (x:=x) (r:=cond g r (.lit undef));rw[e,h];rfl⟩
class QG(P:Program)(C:Ctx)(t:List AV)(h:List ABlk)(op:Op)(g:Bool)(r:outParam AV):Prop where
 e:∀(d:Option Nat) (ty:TypeId) (ps:String) (af:Array Go.Edge) (gd:Option (Nat×Bool)),g=true→Av P C t h ⟨d,op,ty,ps,af,gd⟩ r
section
variable{P:Program}{C:Ctx}{t t':List AV}{h h':List ABlk}{g:Bool}
instance Amo{x:Operand}{r:AV}[GX g t x r]:QG P C t h (.move x) g r:=⟨fun _ _ _ _ _ hg=>Av.move rfl (GX.e hg)⟩
instance Amn{op:BinOp}{xt yt:TypeId}{x z:Operand}{k:IntKind}{a b:Int}{v:Value}[GX g t x (.lit (.int k a))][GX g t z (.lit (.int k b))][BI op k a b v]:QG P C t h (.binOp op xt x z yt) g (.lit v):=⟨fun _ _ _ _ _ hg=>B7 rfl (GX.e hg) (GX.e hg) BI.e⟩
instance Amm{xt:TypeId}{x:Operand}{b:Bool}[GX g t x (.lit (.bool b))]:QG P C t h (.unOp .not xt x) g (.lit (.bool (!b))):=⟨fun _ _ _ _ _ hg=>CE rfl (GX.e hg)⟩
instance Aml{ty:TypeId}{x:Operand}{n i off:Nat}{r:AV}{cells:List AV}[AG P ty false n][GX g t x (.ptr i off)][HB h i (.box cells)][LD cells off r]:QG P C t h (.load ty x) g r:=⟨fun _ _ _ _ _ hg=>Bh rfl (GX.e hg) HB.e LD.e⟩
instance Amk{ty:TypeId}{x:Operand}{n off:Nat}{r:AV}{α:Type}{T:Ty α}{d:α}{cells:List AV}[AG P ty false n][GX g t x (.bp T d off)][EL T d cells][LD cells off r]:QG P C t h (.load ty x) g r:=⟨fun _ _ _ _ _ hg=>C9 rfl AG.eq (GX.e hg) (EL.e h off) LD.e⟩
instance Amj{st:TypeId}{x:Operand}{j n m i off:Nat}{cells:List AV}[FO P st j n][GX g t x (.ptr i off)][HB h i (.box cells)][AD off n m]:QG P C t h (.fieldAddr st x j) g (.ptr i m):=⟨fun _ _ _ _ _ hg=>by rw[←AD.e (a:=off) (b:=n) (c:=m)];exact Bz rfl (GX.e hg) HB.e⟩
instance Ami{st:TypeId}{x:Operand}{j n m off:Nat}{α:Type}{T:Ty α}{d:α}[FO P st j n][GX g t x (.bp T d off)][AD off n m]:QG P C t h (.fieldAddr st x j) g (.bp T d m):=⟨fun _ _ _ _ _ hg=>by rw[←AD.e (a:=off) (b:=n) (c:=m)];exact Da rfl (GX.e hg)⟩
instance Amh{ty:TypeId}{x:Operand}{α:Type}{T:Ty α}{l:List α}[SL P ty][GX g t x (.bs T l)]:QG P C t h (.call {callee:=.builtin .len,args:=#[x],argTypes:=#[ty]}) g (.lit (.int .i64 (l.length:Int))):=⟨fun _ _ _ _ _ hg=>Av.ln rfl (GX.e hg)⟩
end
class HA(h:List ABlk)(b:ABlk)(i:outParam Nat)(h':outParam (List ABlk)):Prop where
 e:h.length=i∧h++[b]=h'
instance Amg{b:ABlk}:HA [] b 0 [b]:=⟨rfl,rfl⟩
instance Amf{b c0:ABlk}:HA [c0] b 1 [c0,b]:=⟨rfl,rfl⟩
instance Ame{b c0 c1:ABlk}:HA [c0,c1] b 2 [c0,c1,b]:=⟨rfl,rfl⟩
instance Amd{b c0 c1 c2:ABlk}:HA [c0,c1,c2] b 3 [c0,c1,c2,b]:=⟨rfl,rfl⟩
instance Amc{b c0 c1 c2 c3:ABlk}:HA [c0,c1,c2,c3] b 4 [c0,c1,c2,c3,b]:=⟨rfl,rfl⟩
instance Amb{b c0 c1 c2 c3 c4:ABlk}:HA [c0,c1,c2,c3,c4] b 5 [c0,c1,c2,c3,c4,b]:=⟨rfl,rfl⟩
instance Ama{b c0 c1 c2 c3 c4 c5 c6:ABlk}:HA [c0,c1,c2,c3,c4,c5,c6] b 7 [c0,c1,c2,c3,c4,c5,c6,b]:=⟨rfl,rfl⟩
class HS(h:List ABlk)(i:Nat)(b:ABlk)(h':outParam (List ABlk)):Prop where
 e:h.set i b=h'
instance Al9{b c:ABlk}{h:List ABlk}:HS (c::h) 0 b (b::h):=⟨rfl⟩
instance Al8{b c:ABlk}{h h':List ABlk}{i:Nat}[HS h i b h']:HS (c::h) (i+1) b (c::h'):=⟨by rw[List.set_cons_succ,HS.e (h:=h) (i:=i) (b:=b) (h':=h')]⟩
class OneI(h:List ABlk)(x:AV):Prop where
 e:One h x
instance Al7{h:List ABlk}{k:IntKind}{n:Int}:OneI h (.lit (.int k n)):=⟨One.lit rfl⟩
instance Al6{h:List ABlk}{b:ByteArray}:OneI h (.lit (.string b)):=⟨One.lit rfl⟩
instance Al5{h:List ABlk}{a:Option Addr}{n c:Nat}:OneI h (.lit (.slice a n c)):=⟨One.lit rfl⟩
instance Al4{h:List ABlk}{α:Type}{T:Ty α}{l:List α}:OneI h (.bs T l):=⟨One.bs⟩
class AllO(h:List ABlk)(l:List AV):Prop where
 e:∀x∈l,One h x
instance Al3{h:List ABlk}:AllO h []:=⟨fun _ hx=>by cases hx⟩
instance Al2{h:List ABlk}{x:AV}{l:List AV}[OneI h x][AllO h l]:AllO h (x::l):=⟨fun y hy=>by
 rcases List.mem_cons.1 hy with rfl|hy
 ·exact OneI.e
 ·exact AllO.e (h:=h) (l:=l) y hy⟩
class PT(h:List ABlk)(y:AV)(new:outParam (List AV)):Prop where
 e:OC h y new
instance Al1{h:List ABlk}{l:List AV}[AllO h l]:PT h (.agg l) l:=⟨OC.agg AllO.e⟩
instance Al0{h:List ABlk}{x:AV}[OneI h x]:PT h x [x]:=⟨OC.one OneI.e⟩
class WR(cells:List AV)(off:Nat)(new:List AV)(r:outParam (List AV)):Prop where
 e:cells.take off++new++cells.drop (off+new.length)=r∧off+new.length≤cells.length
instance Alz{l:List AV}:WR l 0 [] l:=⟨by simp⟩
instance Aly{c x:AV}{l new r:List AV}[WR l 0 new r]:WR (c::l) 0 (x::new) (x::r):=⟨by
 have h:=WR.e (cells:=l) (off:=0) (new:=new) (r:=r);simp only[List.take_zero,List.nil_append,Nat.zero_add,List.length_cons,List.cons_append,List.drop_succ_cons]at h⊢;exact⟨by rw[h.1],by omega⟩⟩
instance Alx{c:AV}{l new r:List AV}{k:Nat}[WR l k new r]:WR (c::l) (k+1) new (c::r):=⟨by
 have h:=WR.e (cells:=l) (off:=k) (new:=new) (r:=r);rw[show k+1+new.length=(k+new.length)+1 by omega,List.take_succ_cons,List.drop_succ_cons,List.cons_append,List.cons_append,h.1,List.length_cons];exact⟨rfl,by omega⟩⟩
class ML(zs:List Value)(l:outParam (List AV)):Prop where
 e:zs.map AV.lit=l
instance Ap0:ML [] []:=⟨rfl⟩
instance Alw{z:Value}{zs:List Value}{l:List AV}[ML zs l]:ML (z::zs) (.lit z::l):=⟨by rw[List.map_cons,ML.e (zs:=zs) (l:=l)]⟩
section
variable{P:Program}{C:Ctx}{t t':List AV}{h h':List ABlk}{ops:Array Oper}{rest l l1 l2:List Oper}{d:Option Nat}{ty:TypeId}{ps:String}{af:Array Go.Edge}{gd:Option (Nat×Bool)}{K:St→Prop}{L:List AV→Prop}{y:Code}{Q:Exit→St→Prop}{id j:Nat}{g:Bool}
theorem sGt{op:Op}{r:AV}(hg:gA ops t ⟨d,op,ty,ps,af,some (j,true)⟩=some (g ==true))[QG P C t h op g r][PA t d (cond g r (.lit undef)) t'](hk:Ck P C ops K rest ⟨t',h⟩):Ck P C ops K (⟨d,op,ty,ps,af,some (j,true)⟩::rest) ⟨t,h⟩:=sG (hg:=YC hg) (hq:=fun hg=>QG.e d ty ps af (some (j,true)) hg) (ht:=PA.e) (hk:=hk)
theorem sGf{op:Op}{r:AV}(hg:gA ops t ⟨d,op,ty,ps,af,some (j,false)⟩=some (g ==false))[QG P C t h op (!g) r][PA t d (cond (!g) r (.lit undef)) t'](hk:Ck P C ops K rest ⟨t',h⟩):Ck P C ops K (⟨d,op,ty,ps,af,some (j,false)⟩::rest) ⟨t,h⟩:=sG (hg:=ZJ hg) (hq:=fun hg=>QG.e d ty ps af (some (j,false)) hg) (ht:=PA.e) (hk:=hk)
theorem qGt{op:Op}{r:AV}(hg:gA ops t ⟨d,op,ty,ps,af,some (j,true)⟩=some (g ==true))[QG P C t h op g r][PA t d (cond g r (.lit undef)) t'](hk:aQ P C ops h L rest t'):aQ P C ops h L (⟨d,op,ty,ps,af,some (j,true)⟩::rest) t:=qG (hg:=YC hg) (hq:=fun hg=>QG.e d ty ps af (some (j,true)) hg) (ht:=PA.e) (hk:=hk)
theorem qGf{op:Op}{r:AV}(hg:gA ops t ⟨d,op,ty,ps,af,some (j,false)⟩=some (g ==false))[QG P C t h op (!g) r][PA t d (cond (!g) r (.lit undef)) t'](hk:aQ P C ops h L rest t'):aQ P C ops h L (⟨d,op,ty,ps,af,some (j,false)⟩::rest) t:=qG (hg:=ZJ hg) (hq:=fun hg=>QG.e d ty ps af (some (j,false)) hg) (ht:=PA.e) (hk:=hk)
theorem Aq7{st:TypeId}{x z:Operand}{ik:IntKind}{m:Int}{n:Nat}{α:Type}[Inhabited α]{T:Ty α}{l:List α}(hg:gA ops t ⟨d,.indexAddr st x z,ty,ps,af,some (j,true)⟩=some (g ==true))(hz:(!g||EJ l m)=true)[GX g t x (.bs T l)][GX g t z (.lit (.int ik m))][ES P st n][PA t d (cond g (.bp T (ixD l m) 0) (.lit undef)) t'](hk:Ck P C ops K rest ⟨t',h⟩)(hs:T.size=n:=by exact rfl):Ck P C ops K (⟨d,.indexAddr st x z,ty,ps,af,some (j,true)⟩::rest) ⟨t,h⟩:=sG (hg:=YC hg) (hq:=fun hg=>FI rfl (GX.e hg) (GX.e hg) hs (S8 hz hg)) (ht:=PA.e) (hk:=hk)
theorem Aqi{st:TypeId}{x z:Operand}{ik:IntKind}{m:Int}{n:Nat}{α:Type}[Inhabited α]{T:Ty α}{l:List α}(hg:gA ops t ⟨d,.indexAddr st x z,ty,ps,af,some (j,true)⟩=some (g ==true))(hz:(!g||EJ l m)=true)[GX g t x (.bs T l)][GX g t z (.lit (.int ik m))][ES P st n][PA t d (cond g (.bp T (ixD l m) 0) (.lit undef)) t'](hk:aQ P C ops h L rest t')(hs:T.size=n:=by exact rfl):aQ P C ops h L (⟨d,.indexAddr st x z,ty,ps,af,some (j,true)⟩::rest) t:=qG (hg:=YC hg) (hq:=fun hg=>FI rfl (GX.e hg) (GX.e hg) hs (S8 hz hg)) (ht:=PA.e) (hk:=hk)
theorem sB{elem:TypeId}{x:Operand}{cells:List AV}{i:Nat}[GA t x (.agg cells)][HA h (.box cells) i h'][PA t d (.ptr i 0) t'](hk:Ck P C ops K rest ⟨t',h'⟩):Ck P C ops K (⟨d,.box elem x,ty,ps,af,none⟩::rest) ⟨t,h⟩:=Ao rfl (OJ i (HA.e (b:=.box cells) (h':=h')).1 rfl (by rw[GA.e (t:=t) (x:=x) (r:=.agg cells)];exact Qz.agg) (by rw[(HA.e (h:=h) (b:=.box cells) (i:=i) (h':=h')).2,PA.e (t:=t) (d:=d) (r:=.ptr i 0) (t':=t')];exact hk))
theorem sA0{elem:TypeId}{zs:List Value}{cells:List AV}{i:Nat}[ZC P elem zs][ML zs cells][HA h (.box cells) i h'][PA t d (.ptr i 0) t'](hk:Ck P C ops K rest ⟨t',h'⟩):Ck P C ops K (⟨d,.alloc elem,ty,ps,af,none⟩::rest) ⟨t,h⟩:=Ao rfl (Agw i (HA.e (b:=.box cells) (h':=h')).1 rfl (by rw[ML.e (zs:=zs) (l:=cells),(HA.e (h:=h) (b:=.box cells) (i:=i) (h':=h')).2,PA.e (t:=t) (d:=d) (r:=.ptr i 0) (t':=t')];exact hk))
theorem sW{sty:TypeId}{x z:Operand}{i off n:Nat}{cells new r:List AV}{v:AV}[SZ P sty n][GA t x (.ptr i off)][HB h i (.box cells)][GA t z v][PT h v new][WR cells off new r][HS h i (.box r) h'][PA t d (.lit undef) t'](hk:Ck P C ops K rest ⟨t',h'⟩)(hs:n=new.length:=by exact rfl):Ck P C ops K (⟨d,.store sty x z,ty,ps,af,none⟩::rest) ⟨t,h⟩:=
 Ao rfl (Dt rfl GA.e HB.e (by rw[GA.e (t:=t) (x:=z) (r:=v)];exact PT.e) hs (WR.e (cells:=cells) (off:=off) (new:=new) (r:=r)).2 (by rw[(WR.e (cells:=cells) (off:=off) (new:=new) (r:=r)).1,HS.e (h:=h) (i:=i) (b:=.box r) (h':=h'),PA.e (t:=t) (d:=d) (r:=.lit undef) (t':=t')];exact hk))
theorem sP{at_:TypeId}{x z:Operand}{i ver:Nat}{e:TypeId}{bytes n:Nat}{α:Type}{T:Ty α}{l l2:List α}{enc:α→List AV}(hb:H5 (l.length+l2.length) bytes=true)[GA t x (.own i ver)][HB h i (.row ver e T l)][GA t z (.bs T l2)][RT P at_ e n bytes][EncOf T enc][HS h i (.row (ver+1) e T (l++l2)) h'][PA t d (.own i (ver+1)) t'](hk:Ck P C ops K rest ⟨t',h'⟩)(hs:T.size=n:=by exact rfl):Ck P C ops K (⟨d,.call {callee:=.builtin .append,args:=#[x,z],argTypes:=#[at_,at_]},ty,ps,af,none⟩::rest) ⟨t,h⟩:=Ao rfl (Aa1 rfl GA.e HB.e GA.e hs hb (by rw[HS.e (h:=h) (i:=i) (b:=.row (ver+1) e T (l++l2)) (h':=h'),PA.e (t:=t) (d:=d) (r:=.own i (ver+1)) (t':=t')];exact hk))
theorem dS(n:Nat)(hm:P.follows .mixedOrders=true:=by kernel_rfl)(hB:Yy l.toArray n=true:=by kernel_rfl)(h1:l.take n=l1:=by(simp only[List.take_succ_cons,List.take_zero,List.drop_succ_cons,List.drop_zero,List.take_nil,List.drop_nil];exact rfl))(h2:l.drop n=l2:=by(simp only[List.take_succ_cons,List.take_zero,List.drop_succ_cons,List.drop_zero,List.take_nil,List.drop_nil];exact rfl))
 (hq:aQ P C l.toArray h (fun t=>Ck P C l.toArray (fun s=>Awp P C y Q s) l2 ⟨t,h⟩) l1 t):Awp P C (.seq (.region id l.toArray true) y) Q ⟨t,h⟩:=by
 subst h1 h2;exact Ac fun _ hK=>OG n hm hB (Ya (fun _ hx=>C3 (fun s e=>hK _ e) hx) hq)
theorem dSE(n:Nat)(hm:P.follows .mixedOrders=true:=by kernel_rfl)(hB:Yy l.toArray n=true:=by kernel_rfl)(h1:l.take n=l1:=by(simp only[List.take_succ_cons,List.take_zero,List.drop_succ_cons,List.drop_zero,List.take_nil,List.drop_nil];exact rfl))(h2:l.drop n=l2:=by(simp only[List.take_succ_cons,List.take_zero,List.drop_succ_cons,List.drop_zero,List.take_nil,List.drop_nil];exact rfl))
 (hq:aQ P C l.toArray h (fun t=>Ck P C l.toArray (Q .normal) l2 ⟨t,h⟩) l1 t):Awp P C (.region id l.toArray true) Q ⟨t,h⟩:=by
 subst h1 h2;exact OG n hm hB hq
end
end Mu
end
section
namespace Mu
open Go Go.RowKit
section
variable{P:Program}{C:Ctx}{t:List AV}{h:List ABlk}{o:Oper}
def Api(P:Program)(C:Ctx)(o:Oper)(s:St)(K:St→Prop):Prop:=
 ∀(Q':Exit→Act→World→Prop),¬LetsOut Q'→∀a w,s.rel C a w→o.wpIn (fnc C.rd) 4 P a w (fun a' w'=>∃s',K s'∧s'.rel C a' w') Q'
theorem Api.op{s:St}{K:St→Prop}(h:AOp P C o s K):Api P C o s K:=fun Q' hQ a w H=>Oj (h Q' a w H).1 hQ (h Q' a w H).2
def GO(P:Program)(C:Ctx)(ops:Array Oper)(K:St→Prop):List Oper→St→Prop
 | [],s=>K s
 |o::rest,s=>∃b,gA ops s.t o=some b∧(b=true→Api P C o s (GO P C ops K rest))∧(b=false→GO P C ops K rest ⟨AJ s.t o.dst (.lit undef),s.h⟩)
theorem CS{rd:Option Nat}(hrd:C.rd=rd){ops:Array Oper}{K:St→Prop}{Q':Exit→Act→World→Prop}(hlo:¬LetsOut Q')(hQ:∀s a w,K s→s.rel C a w→Q' .normal a w):∀(l:List Oper) (s:St) (a:Act) (w:World),GO P C ops K l s→s.rel C a w→wpListIn (fnc rd) 4 P ops Q' l a w
 | [],s,a,w,h,H=>hQ s a w h H
 |o::rest,s,a,w,h,H=>by
  obtain⟨b,hg,ht,hf⟩:=h;obtain⟨_,S,ψ,_,hl⟩:=id H;have hw:=CZ hg hl;unfold wpListIn;rw[hw];cases b with
  |true=>
   rw[if_pos rfl];subst hrd;have key:=ht rfl Q' hlo a w H;exact Oper.wpIn_mono (fun a' w' ⟨s',h1,h2⟩=>CS rfl hlo hQ rest s' a' w' h1 h2) key
  |false=>
   rw[if_neg (by simp)];exact⟨fun _ _=>P1 _ _,CS hrd hlo hQ rest _ _ w (hf rfl) (Ej H o.dst)⟩
theorem Mo{id:Nat}{l:List Oper}{Q:Exit→St→Prop}{s:St}(h:GO P C l.toArray (Q .normal) l s):Awp P C (.region id l.toArray false) Q s:=fun a w H=>
 wpIn_mono (wpIn_region_lit (CS rfl (Q':=fun e a' w'=>e= .normal∧∃s',Q e s'∧s'.rel C a' w') (fun⟨_,_,h⟩=>by cases h.1) (fun s a w h H=>⟨rfl,s,h,H⟩) l s a w h H)) fun _ _ _ h=>h.2
theorem I7{ops:Array Oper}{K:St→Prop}{s:St}(h:K s):GO P C ops K [] s:=h
theorem Ou{ops:Array Oper}{K:St→Prop}{rest:List Oper}{s:St}(hg:gA ops s.t o=some true)(hq:AOp P C o s (GO P C ops K rest)):GO P C ops K (o::rest) s:=⟨true,hg,fun _=>Api.op hq,fun h=>by cases h⟩
theorem R7{ops:Array Oper}{K:St→Prop}{rest:List Oper}{s:St}(hg:gA ops s.t o=some true)(hq:Api P C o s (GO P C ops K rest)):GO P C ops K (o::rest) s:=⟨true,hg,fun _=>hq,fun h=>by cases h⟩
theorem I6{ops:Array Oper}{K:St→Prop}{l:List Oper}{t t':List AV}{h h':List ABlk}(ht:t=t')(hh:h=h')(hk:GO P C ops K l ⟨t',h'⟩):GO P C ops K l ⟨t,h⟩:=by subst ht hh;exact hk
def Acj{ι:Type}(P:Program)(l:Nat)(S0:Nat→Prop)(n0:Nat)(R:Res)(xs:List AV)(b:Bool)(Rs:ι→Res):Prop:=
 ∀(w:World) (S:Nat→Prop) (vs:List Value),(∀k,S0 k→S k)→(∀k,S k→S0 k∨n0≤k)→(∀k,S k→k < w.heap.size∧¬R.F k)→(∀g,R.F g→g < w.heap.size)→R.R w S→Ad w S [] ψ0 xs vs→
  YieldAt Fence.wide 2 P l vs.toArray w fun e w'=>e= .returned (.bool b)∧Turns w S R.F Rs (fun _=>.bool b) (.bool b) w'
theorem Sp{ι:Type}{b:Bool}{Rs:ι→Res}{i l:Nat}{R:Res}{x:Operand}{args:Array Operand}{tys:Array TypeId}{xs:List AV}{K:St→Prop}(hrd:C.rd=none)(hi:h[i]? =some (.res R))(hm:∀p,(Rs p).mrk=R.mrk)
 (ho:o.op= .call {callee:=.value x,args:=args,argTypes:=tys}) (hx:evA t x= .lit (.func (.yield l) #[] #[])) (hxs:args.toList.map (evA t)=xs) (hc:AZ xs=true)
 (hY:Acj P l C.S0 C.w0.heap.size R xs b Rs) (hK:∀p,K ⟨AJ t o.dst (.lit (.bool b)),h.set i (.res (Rs p))⟩):Api P C o ⟨t,h⟩ K:=by
 rintro Q' hQ a w ⟨hd,S,ψ,H,hl⟩;have hB:=H.blk i _ hi;have h1:=Ba hl x;rw[hx]at h1;unfold AV.rel at h1;have h2:Ad w S h ψ xs (args.toList.map a.eval):=by
  rw[←hxs];exact BY fun x _=>Ba hl x
 obtain⟨fn,tmps,assign,body,hy,hR⟩:=hY w S (args.toList.map a.eval) H.sub H.new (fun k hk=>⟨H.lt k hk,fun hf=>(hB.1 k hf).2.1 hk⟩) (fun g hg=>(hB.1 g hg).2.2) hB.2 (AQ _ _ hc h2);have hdf:∀c,o.op≠.defer c:=fun c e=>by rw[ho]at e;cases e
 have hrun:(execOp a.eval o).run P w= .ok (.round l fn tmps assign body) w:=by
  have e:(args.map a.eval)=(args.toList.map a.eval).toArray:=by rw[←Array.toList_map]
  simp only[execOp,ho,resolve,h1];simp[Deferred.ofValue,invoke];rw[e,hy]
 rw[hrd];refine⟨fun _ _=>P1 _ _,?_⟩;rw[Oper.semAt_eq _ _ _ hdf,hrun];refine⟨fun h=>(by cases h),?_⟩;have hR':RoundIn Fence.wide 3 P l fn tmps assign body w _:=⟨hR.1,fun c cs _=>hR.2 c cs (room_wide _)⟩
 refine RoundIn.mono hR' ?_;rintro e w' ⟨rfl,hT⟩;obtain⟨p,_,hRp,hF⟩:=hT.some;have hblk:∀k,S k→w'.heap[k]? =w.heap[k]?:=fun k hk=>hT.gr.block k (H.lt k hk) fun hf=>(hB.1 k hf).2.1 hk
 have X:Ext w S h ψ w' S (h.set i (.res (Rs p))) (Bk ψ i (ψ i)):=Ext.set hblk hi (fun c' hc=>by simp[ABlk.ver]at hc) fun h=>by simp[AN]at h
 have hBn:Ho C.N w' S (h.set i (.res (Rs p))) (Bk ψ i (ψ i)) (ψ i) (.res (Rs p)):=⟨fun g hg=>by
  obtain⟨h1,h2⟩:=hF g hg;rcases h1 with h1|h1
  ·exact⟨(hB.1 g h1).1,(hB.1 g h1).2.1,h2⟩
  ·exact⟨fun hn=>by have:=H.nlt g hn;have:=H.bel.size;omega,fun hs=>by have:=H.lt g hs;omega,h2⟩,hRp⟩
 exact⟨_,hK p,JZ (s:=⟨t,h⟩) hi hd hl (H.set hi rfl hT.gr X hBn fun g hg=>(hF g hg).1) X (by unfold AV.rel;rfl) (by show(Rs p).mrk.map Hs=R.mrk.map Hs;rw[hm p])⟩
def Yc{ι:Type}(P:Program)(l:Nat)(S0:Nat→Prop)(n0:Nat)(R:Res)(xs:List AV)(Rs:ι→Res):Prop:=Acj P l S0 n0 R xs true Rs
theorem Api.yield{ι:Type}{Rs:ι→Res}{i l:Nat}{R:Res}{x:Operand}{args:Array Operand}{tys:Array TypeId}{xs:List AV}{K:St→Prop}(hrd:C.rd=none)(hi:h[i]? =some (.res R))(hm:∀p,(Rs p).mrk=R.mrk)
 (ho:o.op= .call {callee:=.value x,args:=args,argTypes:=tys}) (hx:evA t x= .lit (.func (.yield l) #[] #[])) (hxs:args.toList.map (evA t)=xs) (hc:AZ xs=true)
 (hY:Yc P l C.S0 C.w0.heap.size R xs Rs) (hK:∀p,K ⟨AJ t o.dst (.lit (.bool true)),h.set i (.res (Rs p))⟩):Api P C o ⟨t,h⟩ K:=Sp hrd hi hm ho hx hxs hc hY hK
end
theorem Gx{w:World}{S:Nat→Prop}{h:List ABlk}{ψ:Nat→Value}:∀l:List Value,Ad w S h ψ (l.map .lit) l
 | []=>by unfold Ad;rfl
 |v::l=>by
  simp only[List.map_cons];unfold Ad;exact⟨v,l,rfl,by unfold AV.rel;rfl,Gx l⟩
def Aap{κ:Type}(P:Program)(gf:FuncId)(lb:List Value)(RB:Res)(st:κ→List AV→κ→Prop)(k0:κ)(fin:κ→Prop):Prop:=
 Bw P gf=true∧∀(w:World) (S:Nat→Prop) (ι:Type) (l:Nat) (Jr:κ→ι→Res),(∀k p,(Jr k p).mrk= [])→(∀k es k',st k es k'→∀p,Yc P l S w.heap.size (Jr k p) es (Jr k'))→
  ∀p,(∀k,S k→k < w.heap.size∧¬(Jr k0 p).F k∧¬RB.F k)→(∀g,(Jr k0 p).F g→g < w.heap.size∧¬RB.F g)→(∀g,RB.F g→g < w.heap.size)→(Jr k0 p).R w S→RB.R w S→
   CallsIn Fence.wide 3 P gf (#[Value.func (.yield l) #[] #[]]++lb.toArray) w fun e w'=>(∃v,e= .returned v)∧Gr (fun g=>(Jr k0 p).F g∨RB.F g) w w'∧∃kN q S',fin kN∧(∀k,S k→S' k)∧(Jr kN q).R w' S'∧(∀k,S' k→k < w'.heap.size∧¬(Jr kN q).F k)∧(∀k,S' k→S k∨w.heap.size≤k)∧∀g,(Jr kN q).F g→((Jr k0 p).F g∨RB.F g∨w.heap.size≤g)∧g < w'.heap.size
def Aq1{κ ι:Type}(fin:κ→Prop)(Jr:κ→ι→Res):Exit→St→Prop:=fun e s=>(e= .normal∨e= .ret)∧∃kN,fin kN∧∃q,s.h[0]? =some (.res (Jr kN q))∧mkD s.h= []
theorem Kj{P:Program}{gf:FuncId}{fn:Go.Func}{c:Code}{lb:List Value}{RB:Res}{κ:Type}{st:κ→List AV→κ→Prop}{k0:κ}{fin:κ→Prop}{n:Nat}(hf:P.funcs[gf]? =some fn)(hb:fn.body=some c)(hE:Bw P gf=true)(hres:fn.results= #[])(hn:fn.ntmps=n)(hmB:RB.mrk= [])
 (h:∀(C:Ctx),C.rd=none→∀(ι:Type) (l:Nat) (Jr:κ→ι→Res),(∀k p,(Jr k p).mrk= [])→(∀k es k',st k es k'→∀p,Yc P l C.S0 C.w0.heap.size (Jr k p) es (Jr k'))→∀p,
  Awp P C c (Aq1 fin Jr) ⟨(.lit (.func (.yield l) #[] #[])::lb.map .lit)++List.replicate (n - (lb.length+1)) (.lit undef),[.res (Jr k0 p),.res RB]⟩):Aap P gf lb RB st k0 fin:=by
 refine⟨hE,fun w S ι l Jr hm hY p hS hF hB hR hRB=>callsIn_of_wp hf hb trivial ?_⟩;rw[hn];let N0:Nat→Prop:=fun k=>k < w.heap.size∧¬(Jr k0 p).F k∧¬RB.F k
 have hH:HRel ⟨w,S,N0,none⟩ [.res (Jr k0 p),.res RB] S ψ0 w:=by
  refine⟨Kp.refl _ _,fun k hk=>hk.1,fun k hk=>(hS k hk).1,fun _ h=>h,fun _ h=>.inl h,fun i b hi=>?_,fun i j hij hi hj g h1 h2=>?_⟩
  ·rcases i with _|_|i
   ·have:b= .res (Jr k0 p):=by simpa using hi.symm
    subst this;exact⟨fun g hg=>⟨fun hn=>hn.2.1 hg,fun hs=>(hS g hs).2.1 hg,(hF g hg).1⟩,hR⟩
   ·have:b= .res RB:=by simpa using hi.symm
    subst this;exact⟨fun g hg=>⟨fun hn=>hn.2.2 hg,fun hs=>(hS g hs).2.2 hg,hB g hg⟩,hRB⟩
   ·simp at hi
  ·rcases i with _|_|i
   ·rcases j with _|_|j
    ·exact hij rfl
    ·exact(hF g h1).2 h2
    ·simp[ABlk.live]at hj
   ·rcases j with _|_|j
    ·exact(hF g h2).2 h1
    ·exact hij rfl
    ·simp[ABlk.live]at hj
   ·simp[ABlk.live]at hi
 have hst:St.rel ⟨w,S,N0,none⟩ ⟨(.lit (.func (.yield l) #[] #[])::lb.map .lit)++List.replicate (n - (lb.length+1)) (.lit undef),[.res (Jr k0 p),.res RB]⟩ {tmps:=(#[Value.func (.yield l) #[] #[]]++lb.toArray)++Array.replicate (n - (#[Value.func (.yield l) #[] #[]]++lb.toArray).size) undef,defers:=[]} w:=by
  refine⟨?_,S,ψ0,hH,?_⟩
  ·show []=mkD _;simp[mkD,ABlk.mrk,hm k0 p,hmB]
  ·have e:((#[Value.func (.yield l) #[] #[]]++lb.toArray)++Array.replicate (n - (#[Value.func (.yield l) #[] #[]]++lb.toArray).size) undef).toList=(Value.func (.yield l) #[] #[]::lb)++List.replicate (n - (lb.length+1)) undef:=by
    simp[Nat.add_comm 1 lb.length]
   rw[e,show(AV.lit (.func (.yield l) #[] #[])::lb.map .lit)=((Value.func (.yield l) #[] #[]::lb).map AV.lit)from rfl,show List.replicate (n - (lb.length+1)) (AV.lit undef)=(List.replicate (n - (lb.length+1)) undef).map AV.lit by simp];exact BK (Gx _) (Gx _)
 have hw:=h ⟨w,S,N0,none⟩ rfl ι l Jr hm hY p _ w hst;refine wpIn_mono (Afy (m:=3) hw) ?_;rintro e a' w' ⟨s,⟨he,kN,hfN,q,h0,hmk⟩,hd,S1,ψ,H,hl⟩;rw[hmk]at hd;have hq:=H.blk 0 _ h0;have hfin:(∃v,Ending.returned (.tuple #[])= .returned v)∧Gr (fun g=>(Jr k0 p).F g∨RB.F g) w w'∧∃kN q S',fin kN∧(∀k,S k→S' k)∧(Jr kN q).R w' S'∧(∀k,S' k→k < w'.heap.size∧¬(Jr kN q).F k)∧(∀k,S' k→S k∨w.heap.size≤k)∧∀g,(Jr kN q).F g→((Jr k0 p).F g∨RB.F g∨w.heap.size≤g)∧g < w'.heap.size:=by
  refine⟨⟨_,rfl⟩,⟨H.bel.os,H.bel.tape,H.bel.output,H.bel.size,fun k hk hno=>H.bel.block k ⟨hk,fun h=>hno (.inl h),fun h=>hno (.inr h)⟩⟩,kN,q,S1,hfN,H.sub,hq.2,fun k hk=>⟨H.lt k hk,fun hf=>(hq.1 k hf).2.1 hk⟩,H.new,fun g hg=>⟨?_,(hq.1 g hg).2.2⟩⟩;have h1:=(hq.1 g hg).1;by_cases hlt:g < w.heap.size
  ·by_cases h2:(Jr k0 p).F g
   ·exact .inl h2
   ·by_cases h3:RB.F g
    ·exact .inr (.inl h3)
    ·exact absurd ⟨hlt,h2,h3⟩ h1
  ·exact .inr (.inr (by show w.heap.size≤g;omega))
 rcases he with rfl|rfl
 ·exact⟨hd,_,results_none hres _ _ _,hfin⟩
 ·exact⟨hd,_,results_none hres _ _ _,hfin⟩
def Yh(P:Program)(gf:FuncId)(lb:List Value)(RB:Res)(encs:Nat→List AV)(N:Nat):Prop:=Aap P gf lb RB (fun k es k'=>k < N∧es=encs k∧k'=k+1) 0 (· =N)
def Apc{ι:Type}(Rs:ι→Res):Exit→St→Prop:=fun e s=>(e= .normal∨e= .ret)∧∃q,s.h[0]? =some (.res (Rs q))∧mkD s.h= []
theorem Ki{P:Program}{gf:FuncId}{fn:Go.Func}{c:Code}{lb:List Value}{RB:Res}{encs:Nat→List AV}{N n:Nat}(hf:P.funcs[gf]? =some fn)(hb:fn.body=some c)(hE:Bw P gf=true)(hres:fn.results= #[])(hn:fn.ntmps=n)(hmB:RB.mrk= [])
 (h:∀(C:Ctx),C.rd=none→∀(ι:Type) (l:Nat) (Jr:Nat→ι→Res),(∀k p,(Jr k p).mrk= [])→(∀k p,k < N→Yc P l C.S0 C.w0.heap.size (Jr k p) (encs k) (Jr (k+1)))→∀p,
  Awp P C c (Apc (Jr N)) ⟨(.lit (.func (.yield l) #[] #[])::lb.map .lit)++List.replicate (n - (lb.length+1)) (.lit undef),[.res (Jr 0 p),.res RB]⟩):Yh P gf lb RB encs N:=
 Kj hf hb hE hres hn hmB fun C hC ι l Jr hm hY p=>(h C hC ι l Jr hm (fun k p hk=>hY k _ _ ⟨hk,rfl,rfl⟩ p) p).mono fun _ _ ⟨h1,q⟩=>⟨h1,N,rfl,q⟩
theorem QB{P:Program}{gf:FuncId}{lb:List Value}{R:Res}{encs:Nat→List AV}{N:Nat}(hE:Bw P gf=true)
 (hit:∀w S,(∀k,S k→k < w.heap.size)→(∀k,R.F k→k < w.heap.size)→R.R w S→Apg P gf lb.toArray (fun k=>S k∨R.F k) w (fun k vs=>Ad w S [] ψ0 (encs k) vs) N):Yh P gf lb R encs N:=by
 refine⟨hE,fun w S ι l Jr hm hY p hS hF hB hR hRB=>?_⟩;have hS0:∀{k q g} {W:World},S g→(∀g,(Jr k q).F g→((Jr 0 p).F g∨w.heap.size≤g)∧g < W.heap.size)→¬(Jr k q).F g:=fun hg hF' hf=>by
  rcases(hF' _ hf).1 with h|h
  ·exact(hS _ hg).2.1 h
  ·have:=(hS _ hg).1;omega
 refine(hit w S (fun k hk=>(hS k hk).1) hB hRB l (fun k W=>Gr (Jr 0 p).F w W∧∃q,(Jr k q).R W S∧∀g,(Jr k q).F g→((Jr 0 p).F g∨w.heap.size≤g)∧g < W.heap.size) w .refl ?_ ⟨⟨rfl,rfl,rfl,Nat.le_refl _,fun _ _ _=>rfl⟩,p,hR,fun g hg=>⟨.inl hg,(hF g hg).1⟩⟩).mono ?_
 ·rintro k vs W hk he ⟨hgr,q,hq,hqF⟩;have hS1:∀g,S g→W.heap[g]? =w.heap[g]?:=fun g hg=>hgr.block g (hS g hg).1 (hS g hg).2.1
  obtain⟨fn,tmps,assign,body,hy,hr⟩:=hY k _ _ ⟨hk,rfl,rfl⟩ q W S vs (fun _ h=>h) (fun _ h=>.inl h) (fun g hg=>⟨Nat.lt_of_lt_of_le (hS g hg).1 hgr.size,hS0 hg hqF⟩) (fun g hg=>(hqF g hg).2) hq (Al (Ext.grow [] ψ0 hS1 fun _ h=>h) _ _ he);refine⟨fn,tmps,assign,body,hy,hr.mono ?_⟩;rintro e W' ⟨rfl,hg2,q',_,hq',hqF'⟩;have hb:∀g,g < w.heap.size→¬(Jr 0 p).F g→W'.heap[g]? =W.heap[g]?:=fun g h1 h2=>hg2.block g (Nat.lt_of_lt_of_le h1 hgr.size) fun hf=>by
   rcases(hqF g hf).1 with h|h
   ·exact h2 h
   ·omega
  have hs:=hgr.size;refine⟨rfl,⟨⟨hg2.os.trans hgr.os,hg2.tape.trans hgr.tape,hg2.output.trans hgr.output,Nat.le_trans hs hg2.size,fun g h1 h2=>(hb g h1 h2).trans (hgr.block g h1 h2)⟩,q',hq',fun g hg=>⟨?_,(hqF' g hg).2⟩⟩,hg2.size,fun g hg=>?_⟩
  ·rcases(hqF' g hg).1 with h|h
   ·exact(hqF g h).1
   ·exact .inr (by omega)
  ·rcases hg with hg|hg
   ·exact hb g (hS g hg).1 (hS g hg).2.1
   ·exact hb g (hB g hg) fun hf=>(hF g hf).2 hg
 ·rintro e W' ⟨hv,hgr,q,hq,hqF⟩;refine⟨hv,⟨hgr.os,hgr.tape,hgr.output,hgr.size,fun g h1 h2=>hgr.block g h1 fun h=>h2 (.inl h)⟩,N,q,S,rfl,fun _ h=>h,hq,fun k hk=>⟨Nat.lt_of_lt_of_le (hS k hk).1 hgr.size,hS0 hk hqF⟩,fun _ h=>.inl h,fun g hg=>⟨?_,(hqF g hg).2⟩⟩;rcases(hqF g hg).1 with h|h
  ·exact .inl h
  ·exact .inr (.inr h)
theorem HRel.widen{C:Ctx}{h:List ABlk}{S S':Nat→Prop}{ψ:Nat→Value}{W:World}(H:HRel C h S ψ W)(hs:∀k,S k→S' k)(hl:∀k,S' k→k < W.heap.size∧¬owns h ψ k)(N':Nat→Prop)(hN:∀k,N' k→k < W.heap.size∧¬owns h ψ k)(rd:Option Nat):HRel ⟨W,S',N',rd⟩ h S' ψ W:=by
 have H1:=H.re (W':=W) (fun _ _=>rfl) (fun _ _=>rfl) N' hN rd;refine⟨Kp.refl _ _,fun k hk=>(hN k hk).1,fun k hk=>(hl k hk).1,fun _ h=>h,fun _ h=>.inl h,fun i b hi=>?_,H.dis⟩;by_cases hlv:ABlk.live (some b)=true
 ·exact(H1.blk i b hi).keep (Ext.grow h ψ (fun _ _=>rfl) hs) fun g hg=>⟨rfl,fun _ hs'=>(hl g hs').2 ⟨i,by rw[hi];exact hlv,by rw[hi];exact hg⟩⟩
 ·cases b <;> simp[ABlk.live]at hlv
  trivial
def Wb{J:Type}(jump:Option Nat)(h':J→List ABlk):Exit→St→Prop:=fun e s=>e=(match jump with|none=>.normal|some id=>.exit id)∧∃j,Drops s.h (h' j)
def MN(P:Program){J:Type}(body:Code)(jump:Option Nat)(h':J→List ABlk)(s1:St):Prop:=∀C':Ctx,TC C'→Awp P C' body (Wb jump h') s1
structure BetY(d:Nat)(S own0:Nat→Prop)(w:World)(rec_:Loop)(hk:List ABlk)(Sk:Nat→Prop)(ψk:Nat→Value)(X:Nat→Prop)(W:World)(SI:Nat→Prop):Prop where
 loop:W.heap[w.heap.size+d]? =some (.loop rec_)
 dfr:∀i,i < d→W.heap[w.heap.size+i]? =some (.deferred (some []))
 size:w.heap.size+d < W.heap.size
 same:∀g,S g→W.heap[g]? =w.heap[g]?
 st:HRel ⟨W,Sk,fun _=>False,none⟩ hk Sk ψk W
 sub:∀g,S g→Sk g
 new:∀g,Sk g→S g∨w.heap.size+d < g
 old:∀g,owns hk ψk g→own0 g∨w.heap.size+d < g
 cover:∀g,Sk g→X g∨SI g
abbrev Akd:=(Nat→Prop)×(Nat→Value)×(Nat→Prop)
def Ao5(d:Nat)(w:World)(hk:List ABlk)(p:Akd)(g:Nat):Prop:=(w.heap.size≤g∧g≤w.heap.size+d)∨owns hk p.2.1 g∨p.2.2 g
def Aqu(d:Nat)(S own0:Nat→Prop)(w:World)(rec_:Loop)(hk:List ABlk)(p:Akd):Res:=⟨[],Ao5 d w hk p,fun W SI=>BetY d S own0 w rec_ hk p.1 p.2.1 p.2.2 W SI,by
 intro W W' SI SI' H hF hS hsub;have hSk:∀g,p.1 g→W'.heap[g]? =W.heap[g]?:=fun g hg=>by
  rcases H.cover g hg with h1|h1
  ·exact hF g (.inr (.inr h1))
  ·exact hS g h1
 have hl:=(hF _ (.inl ⟨Nat.le_add_right _ _,Nat.le_refl _⟩)).trans H.loop;exact⟨hl,fun i hi=>(hF _ (.inl ⟨by omega,by omega⟩)).trans (H.dfr i hi),(Array.getElem?_eq_some_iff.1 hl).1,fun g hg=>(hSk g (H.sub g hg)).trans (H.same g hg),H.st.re hSk (fun k hk=>hF k (.inr (.inl hk))) _ (fun _ h=>h.elim) none,H.sub,H.new,H.old,fun g hg=>(H.cover g hg).imp id (hsub g)⟩⟩
theorem YV{J:Type}{d:Nat}{P:Program}{own0 S SI:Nat→Prop}{w W:World}{t es:List AV}{hk:List ABlk}{hk1:J→List ABlk}{ps:Array Tmp}{vs:List Value}{tmps:Array Value}{assign body:Code}{fn:FuncId}{rec_:LoopState→Option Code→Loop}{p:Akd}(jump:Option Nat)
 (hst:∀x z y,({rec_ x z with state:=y}:Loop)=rec_ y z) (hrst:∀z,(rec_ .ready z).state= .ready) (hen:∀x z y u,({rec_ x z with state:=y,pending:=u}:Loop)=rec_ y u)
 (ho0:∀g,own0 g→g < w.heap.size) (hS0:∀g,S g→g < w.heap.size)
 (ht:AZ t=true) (hes:AZ es=true) (htr:Ad w S [] ψ0 t tmps.toList) (hev:Ad W SI [] ψ0 es vs) (hm:mkD hk= [])
 (hI1:∀g,S g→SI g) (hI2:∀g,SI g→S g∨w.heap.size+d < g) (hI3:∀g,SI g→g < W.heap.size∧¬Ao5 d w hk p g)
 (hB:BetY d S own0 w (rec_ .ready none) hk p.1 p.2.1 p.2.2 W SI)
 (hA:∀C':Ctx,TC C'→Awp P C' assign (JK (MN P body jump hk1) (fun _ _=>False)) ⟨Pu t ps.toList es,hk⟩):
 RoundIn Fence.wide 2 P (w.heap.size+d) fn ((ps.toList.zip vs).foldl (fun t p=>t.setIfInBounds p.1 p.2) tmps) assign body W fun e W'=>e= .returned (.bool jump.isNone)∧Turns W SI (Ao5 d w hk p) (fun q:J×Akd=>Aqu d S own0 w (rec_ (if jump.isNone then .ready else .done) (jump.map Code.exit)) (hk1 q.1) q.2) (fun _=>.bool jump.isNone) (.bool jump.isNone) W':=by
 obtain⟨Sk,ψk,X⟩:=p;obtain⟨hl,hD,hsz,hsame,H,hs1,hs2,hs3,hcov⟩:=hB;dsimp only at H hs1 hs2 hs3 hcov;obtain⟨l,hle⟩:∃l,l=w.heap.size+d:=⟨_,rfl⟩
 rw[←hle]at hl hsz hs2 hs3 hI2;rw[←hle];have hF:∀g,Ao5 d w hk (Sk,ψk,X) g↔((w.heap.size≤g∧g≤w.heap.size+d)∨owns hk ψk g∨X g):=fun g=>Iff.rfl
 have neS:∀{g},S g∨l < g→g≠l:=fun h=>by
  rcases h with h|h
  ·have:=hS0 _ h;omega
  ·omega
 have neO:∀{g},own0 g∨l < g→g≠l∧¬(w.heap.size≤g∧g≤l):=fun h=>by
  rcases h with h|h
  ·have:=ho0 _ h;omega
  ·omega
 let S1:Nat→Prop:=fun g=>Sk g∨SI g
 have hS1o:∀g,S1 g→g < W.heap.size∧¬owns hk ψk g:=fun g hg=>by
  rcases hg with hg|hg
  ·exact⟨H.lt g hg,fun ho=>(H.own_lt ho).2.2 hg⟩
  ·exact⟨(hI3 g hg).1,fun ho=>(hI3 g hg).2 (.inr (.inl ho))⟩
 have hS1n:∀g,S1 g→S g∨l < g:=fun g hg=>hg.elim (hs2 g) (hI2 g)
 let N1:Nat→Prop:=fun g=>g < W.heap.size∧¬owns hk ψk g
 have hlD:∀g,w.heap.size≤g∧g≤l→N1 g:=fun g hg=>⟨by omega,fun ho=>(neO (hs3 g ho)).2 hg⟩
 have hll:=hlD l ⟨by omega,Nat.le_refl _⟩;have H1:=H.widen (S':=S1) (fun k hk=>.inl hk) hS1o N1 (fun _ h=>h) (some l);refine roundIn_of_wpIn trivial ?_;have r1:St.rel ⟨W,S1,N1,some l⟩ ⟨Pu t ps.toList es,hk⟩ {tmps:=(ps.toList.zip vs).foldl (fun t p=>t.setIfInBounds p.1 p.2) tmps,defers:=[]} W:=by
  refine⟨hm.symm,S1,ψk,H1,MS _ _ _ _ _ ?_ ?_⟩
  ·exact AQ _ _ hes (Al (Ext.grow [] ψ0 (fun _ _=>rfl) fun k hk=>.inr hk) _ _ hev)
  ·exact AQ _ _ ht (Al (Ext.grow [] ψ0 hsame fun k hk=>.inl (hs1 k hk)) _ _ htr)
 refine wpIn_mono (Afy (hA ⟨W,S1,N1,some l⟩ ⟨_,_,rfl,hll,hl⟩ _ _ r1)) ?_;rintro e a1 Wa ⟨s1,q1,hd1,Sa,ψa,Ha,hla⟩;cases e with
 |normal=>
  have hka:=Ha.bel;have hla1:Wa.heap[l]? =some (.loop (rec_ .ready none)):=(hka.block _ hll).trans hl;have hSa2:∀g,Sa g→S1 g∨W.heap.size≤g:=Ha.new;have hoa:∀g,owns s1.h ψa g→owns hk ψk g∨W.heap.size≤g:=fun g hg=>by
   by_cases hgW:g < W.heap.size
   ·exact .inl (Classical.not_not.1 fun h2=>(Ha.own_lt hg).1 ⟨hgW,h2⟩)
   ·right;omega
  have far:∀{g} {A B:Prop},(A→B∨l < g)→A∨W.heap.size≤g→B∨l < g:=fun h1 h2=>h2.elim h1 fun h=>.inr (by omega)
  have hneS:∀g,Sa g→g≠l:=fun g hg=>neS (far (hS1n g) (hSa2 g hg))
  have hneO:∀g,owns s1.h ψa g→g≠l:=fun g hg=>(neO (far (hs3 g) (hoa g hg))).1
  refine⟨_,run_beginRound hla1 (hrst _),?_⟩;rw[hst];obtain⟨W2,hW2⟩:∃W2,W2=Wa.putObj l (.loop (rec_ .busy none)):=⟨_,rfl⟩
  rw[←hW2];have hot:∀g,g≠l→W2.heap[g]? =Wa.heap[g]?:=fun g hg=>by rw[hW2];exact World.putObj_heap_other hg
  have hsz2:W2.heap.size=Wa.heap.size:=by rw[hW2];simp
  let N2:Nat→Prop:=fun g=>g < W2.heap.size∧¬owns s1.h ψa g
  have H2:=Ha.re (W':=W2) (fun k hk=>hot k (hneS k hk)) (fun k hk=>hot k (hneO k hk)) N2 (fun _ h=>h) (some l);have hla2:W2.heap[l]? =some (.loop (rec_ .busy none)):=by rw[hW2];exact World.putObj_heap_same (Array.getElem?_eq_some_iff.1 hla1).1
  have hWa:W.heap.size≤Wa.heap.size:=hka.size;have hN12:∀g,N1 g→N2 g:=fun g hg=>⟨by have:=hg.1;omega,fun ho=>(hoa g ho).elim hg.2 fun h1=>by have:=hg.1;omega⟩
  have r2:St.rel ⟨W2,Sa,N2,some l⟩ s1 a1 W2:=⟨hd1,Sa,ψa,H2,Al (Ext.grow s1.h ψa (fun k hk=>hot k (hneS k hk)) fun _ h=>h) _ _ hla⟩
  refine wpIn_mono (Afy (q1 ⟨W2,Sa,N2,some l⟩ ⟨_,_,rfl,hN12 _ hll,hla2⟩ _ _ r2)) ?_;rintro e a3 W3 ⟨s2,⟨he,jj,hdr⟩,hd2,S3,ψ3,H3,hl3⟩;have hk3:=H3.bel;have hl31:W3.heap[l]? =some (.loop (rec_ .busy none)):=(hk3.block _ (hN12 _ hll)).trans hla2;have H4:=H3.cut hdr.cut hdr.bd;have hk3s:W2.heap.size≤W3.heap.size:=hk3.size;have hS3:∀g,S3 g→S1 g∨W.heap.size≤g:=fun g hg=>(H3.new g hg).elim (hSa2 g) fun h1=>.inr (by have:W2.heap.size≤g:=h1;omega)
  have ho3:∀g,owns (hk1 jj) ψ3 g→owns hk ψk g∨W.heap.size≤g:=fun g hg=>by
   by_cases hgW:g < W2.heap.size
   ·exact hoa g (Classical.not_not.1 fun h2=>(H3.own_lt (Zb hdr.cut hg)).1 ⟨hgW,h2⟩)
   ·right;omega
  have hS3n:∀g,S3 g→S g∨l < g:=fun g hg=>far (hS1n g) (hS3 g hg)
  have ho3n:∀g,owns (hk1 jj) ψ3 g→own0 g∨l < g:=fun g hg=>far (hs3 g) (ho3 g hg)
  have hr:=run_endRound (P:=P) (jump.map Code.exit) hl31;rw[hen,show(jump.map Code.exit).isNone=jump.isNone by cases jump <;> rfl]at hr;obtain⟨W4,hW4⟩:∃W4,W4=W3.putObj l (.loop (rec_ (if jump.isNone then .ready else .done) (jump.map Code.exit))):=⟨_,rfl⟩
  rw[←hW4]at hr;have hot4:∀g,g≠l→W4.heap[g]? =W3.heap[g]?:=fun g hg=>by rw[hW4];exact World.putObj_heap_other hg
  have hsz4:W4.heap.size=W3.heap.size:=by rw[hW4];simp
  have hN1:∀g,N1 g→g≠l→W4.heap[g]? =W.heap[g]?:=fun g hg hne=>by
   rw[hot4 g hne,hk3.block g (hN12 g hg)];exact(hot g hne).trans (hka.block g hg)
  have fin:∃v W5,(Instr.endRound l (jump.map Code.exit)).run P W3= .ok v W5∧(Ending.returned v= .returned (.bool jump.isNone)∧Turns W SI (Ao5 d w hk (Sk,ψk,X)) (fun q:J×Akd=>Aqu d S own0 w (rec_ (if jump.isNone then .ready else .done) (jump.map Code.exit)) (hk1 q.1) q.2) (fun _=>.bool jump.isNone) (.bool jump.isNone) W5):=?fin
  ·cases jump with
   |none=>subst he;exact fin
   |some id=>subst he;exact fin
  refine⟨_,_,hr,rfl,⟨?_,?_,?_,by omega,fun g hg hno=>?_⟩,(jj,S3,ψ3,fun g=>S3 g∧¬SI g),rfl,?_,fun g hg=>?_⟩
  ·rw[hW4];exact hk3.os.trans (show W2.os=W.os by rw[hW2];exact hka.os)
  ·rw[hW4];exact hk3.tape.trans (show W2.tape=W.tape by rw[hW2];exact hka.tape)
  ·rw[hW4];exact hk3.output.trans (show W2.output=W.output by rw[hW2];exact hka.output)
  ·exact hN1 g ⟨hg,fun ho=>hno (.inr (.inl ho))⟩ fun e=>hno (.inl ⟨by omega,by omega⟩)
  ·show BetY d S own0 w _ (hk1 jj) S3 ψ3 (fun g=>S3 g∧¬SI g) W4 SI;refine⟨by rw[hW4,←hle];exact World.putObj_heap_same (Array.getElem?_eq_some_iff.1 hl31).1,fun i hi=>(hN1 _ (hlD _ ⟨by omega,by omega⟩) (by omega)).trans (hD i hi),by omega,fun g hg=>?_,?_,fun g hg=>H3.sub g (Ha.sub g (.inl (hs1 g hg))),by rw[←hle];exact hS3n,by rw[←hle];exact ho3n,fun g hg=>?_⟩
   ·have hlt:=hS0 g hg;exact(hN1 g ⟨by omega,fun ho=>(H.own_lt ho).2.2 (hs1 g hg)⟩ (by omega)).trans (hsame g hg)
   ·exact H4.re (fun k hk=>hot4 k (neS (hS3n k hk))) (fun k hk=>hot4 k (neO (ho3n k hk)).1) _ (fun _ h=>h.elim) none
   ·by_cases h1:SI g
    ·exact .inr h1
    ·exact .inl ⟨hg,h1⟩
  ·have hg:(w.heap.size≤g∧g≤w.heap.size+d)∨owns (hk1 jj) ψ3 g∨(S3 g∧¬SI g):=hg;rcases hg with hg|hg|hg
   ·exact⟨.inl (.inl hg),by omega⟩
   ·exact⟨(ho3 g hg).imp (fun h1=>.inr (.inl h1)) id,by rw[hsz4];exact(H4.own_lt hg).2.1⟩
   ·refine⟨?_,by rw[hsz4];exact H4.lt g hg.1⟩;rcases hS3 g hg.1 with(h1|h1)|h1
    ·exact .inl (.inr (.inr ((hcov g h1).resolve_right hg.2)))
    ·exact absurd h1 hg.2
    ·exact .inr h1
 |_=>exact q1.elim
section
variable{P:Program}
theorem JS{C:Ctx}{g:Operand}{ps:Array Tmp}{assign body:Code}{Q:Exit→St→Prop}{t:List AV}{h:List ABlk}{gf:FuncId}{lb:List Value}{RB:Res}{ds:List Nat}{κ:Type}{st:κ→List AV→κ→Prop}{k0:κ}{fin:κ→Prop}{J:Type}(i im:Nat)(σ:κ→J→List ABlk)(j0:J)
 (hrd:C.rd=none) (hg:evA t g= .lit (.func (.func gf) #[] lb.toArray)) (hne:i≠im) (hi:h[i]? =some (.res RB)) (hmi:h[im]? =some (.res (Bq ds))) (hmk:mkD h=ds.map Hs)
 (h0:Drops h (σ k0 j0)) (h0i:(σ k0 j0)[i]? =some .dead) (hσm:∀k j,(σ k j)[im]? =some .dead) (hmσ:∀k j,mkD (σ k j)= []) (ht:AZ t=true) (hes:∀k es k',st k es k'→AZ es=true∧es.length=ps.size)
 (hit:Aap P gf lb RB st k0 fin)
 (hround:∀k j es k',st k es k'→∀C':Ctx,TC C'→Awp P C' assign (JK (MN P body none (σ k')) (fun _ _=>False)) ⟨Pu t ps.toList es,σ k j⟩)
 (hdone:∀kN,fin kN→∀j D,Q .normal ⟨t,(σ kN j).set im (.res (Bq (D::ds)))⟩):Awp P C (.rangeFunc g ps assign body) Q ⟨t,h⟩:=fun a w ⟨hd,S,ψ,H,hl⟩=>by
 rw[hrd];show(Code.rangeFunc g ps assign body).wpIn Fence.wide 4 P _ a w;have H0:=H.cut h0.cut h0.bd;have hBi:=H.blk i _ hi;have hBm:=H.blk im _ hmi;have hgv:=Ba hl g;rw[hg]at hgv;unfold AV.rel at hgv;have hlit:Ad w S [] ψ0 t a.tmps.toList:=AQ _ _ ht hl;obtain⟨own0,hown0⟩:∃o,o=owns (σ k0 j0) ψ:=⟨_,rfl⟩
 have ho0:∀g,own0 g→g < w.heap.size:=fun g hg=>by rw[hown0]at hg;exact(H0.own_lt hg).2.1
 have hdead:∀(j:Nat) (R':Res),h[j]? =some (.res R')→(σ k0 j0)[j]? =some .dead→∀g,R'.F g→¬own0 g:=fun j R' hj hjd g hF ho=>by
  rw[hown0]at ho;obtain⟨j',h1,h2⟩:=ho;have hne:j'≠j:=fun e=>by subst e;rw[hjd]at h1;cases h1
  rw[h0.cut.same h1]at h2;exact H.dis j' j hne (h0.cut.live h1) (by rw[hj];rfl) g h2 (by rw[hj];exact hF)
 have hSo:∀g,S g→¬own0 g:=fun g hg ho=>by rw[hown0]at ho;exact(H0.own_lt ho).2.2 hg
 have hRlt:∀g,RB.F g→g < w.heap.size:=fun g hg=>(hBi.1 g hg).2.2
 refine wpIn_rangeFunc fun fn _=>?_
 obtain⟨rec_,hrec⟩:∃rec_:LoopState→Option Code→Loop,rec_=fun st pe=>{state:=st,pending:=pe,fn,tmps:=a.tmps,params:=ps,assign,body,defers:=w.heap.size}:=⟨_,rfl⟩
 have hst:∀x z y,({rec_ x z with state:=y}:Loop)=rec_ y z:=fun x z y=>by rw[hrec]
 have hrst:∀z,(rec_ .ready z).state= .ready:=fun z=>by rw[hrec]
 have hen:∀x z y u,({rec_ x z with state:=y,pending:=u}:Loop)=rec_ y u:=fun x z y u=>by rw[hrec]
 obtain⟨W1,hW1⟩:∃W1,W1=(w.alloc (.deferred (some []))).alloc (.loop (rec_ .ready none)):=⟨_,rfl⟩
 have hW1s:W1.heap.size=w.heap.size+2:=by rw[hW1];simp
 have hL1:W1.heap[w.heap.size+1]? =some (.loop (rec_ .ready none)):=by
  rw[hW1];have:=heap_alloc_new (w.alloc (.deferred (some []))) (.loop (rec_ .ready none));rwa [World.size_alloc]at this
 have hD1:W1.heap[w.heap.size]? =some (.deferred (some [])):=by
  rw[hW1];exact(Below.heap_alloc _ _ _ (by simp)).trans (heap_alloc_new w _)
 have hb1:Below w.heap.size w W1:=by rw[hW1];exact((Below.refl _ w).alloc (Nat.le_refl _) _).alloc (by simp) _
 have hJ0:BetY 1 S own0 w (rec_ .ready none) (σ k0 j0) S ψ (fun _=>False) W1 S:=by
  refine⟨hL1,fun i hi=>Nat.lt_one_iff.1 hi▸hD1,by omega,fun g hg=>hb1.block g (H.lt g hg),?_,fun _ h=>h,fun _ h=>.inl h,fun g hg=>.inl (by rw[hown0];exact hg),fun _ h=>.inr h⟩;exact H0.re (fun k hk=>hb1.block k (H.lt k hk)) (fun k hk=>hb1.block k (H0.own_lt hk).2.1) _ (fun _ h=>h.elim) none
 refine⟨w.heap.size+1,[Hs w.heap.size],W1,{target:=.fn (.func gf) lb.toArray,args:=#[.func (.yield (w.heap.size+1)) #[] #[]]},W1,gf,#[.func (.yield (w.heap.size+1)) #[] #[]]++lb.toArray,W1,?_,?_,fun _ _=>trivial,?_,fun _=>by omega,?_⟩
 ·rw[hW1,hrec];exact run_enterLoop_outer _ _ _ _ _
 ·simp only[resolve,hgv];simp[go_sem]
 ·simp[invoke,go_sem,RL hit.1]
 ·have key:=hit.2 W1 S (J×Akd) (w.heap.size+1) (fun k p=>Aqu 1 S own0 w (rec_ .ready none) (σ k p.1) p.2) (fun _ _=>rfl) ?_ (j0,S,ψ,fun _=>False) (fun k hk=>⟨by have:=H.lt k hk;omega,?_,fun hf=>(hBi.1 k hf).2.1 hk⟩) (fun g hg=>?_) (fun g hg=>by have:=hRlt g hg;omega) hJ0 (RB.keep hBi.2 (fun k hk=>hb1.block k (hRlt k hk)) (fun k hk=>hb1.block k (H.lt k hk)) fun _ h=>h)
  ·refine key.mono ?_;rintro e W' ⟨⟨v,rfl⟩,hgr,kN,q,S',hfN,hSS,hJ,hS'lt,hS'new,hFq⟩;have hJ:BetY 1 S own0 w (rec_ .ready none) (σ kN q.1) q.2.1 q.2.2.1 q.2.2.2 W' S':=hJ;have hend:=run_endLoop (P:=P) hJ.loop (by rw[hrst];simp);rw[show(rec_ .ready none).pending=none by rw[hrec]]at hend;refine⟨none,_,hend,⟨t,(σ kN q.1).set im (.res (Bq (w.heap.size::ds)))⟩,hdone kN hfN q.1 _,?_⟩;obtain⟨hlp,hdf0,hsz,hsame,Hk,hs1,hs2,hs3,_⟩:=hJ;have hdf:=hdf0 0 (by omega);suffices key:∀(W5:World) (ob:Obj),W5=W'.putObj (w.heap.size+1) ob→St.rel C ⟨t,(σ kN q.1).set im (.res (Bq (w.heap.size::ds)))⟩ {a with defers:=[Hs w.heap.size]++a.defers} W5 from key _ _ rfl
   intro W5 ob hW5;have hot:∀g,g≠w.heap.size+1→W5.heap[g]? =W'.heap[g]?:=fun g hg=>by rw[hW5];exact World.putObj_heap_other hg
   have hsz5:W5.heap.size=W'.heap.size:=by rw[hW5];simp
   have hSne:∀g,q.2.1 g→g≠w.heap.size+1:=fun g hg=>by
    rcases hs2 g hg with h1|h1
    ·have:=H.lt g h1;omega
    ·omega
   have hOne:∀g,owns (σ kN q.1) q.2.2.1 g→g≠w.heap.size+1:=fun g hg=>by
    rcases hs3 g hg with h1|h1
    ·have:=ho0 g h1;omega
    ·omega
   have hkeep:∀g,g < w.heap.size→¬own0 g→¬RB.F g→W5.heap[g]? =w.heap[g]?:=fun g h1 h2 h3=>by
    rw[hot g (by omega),hgr.block g (by omega) ?_,hb1.block g h1];rintro(h4|h4)
    ·have h4:(w.heap.size≤g∧g≤w.heap.size+1)∨owns (σ k0 j0) ψ g∨False:=h4;rcases h4 with h4|h4|h4
     ·omega
     ·exact h2 (by rw[hown0];exact h4)
     ·exact h4
    ·exact h3 h4
   have hH5:=Hk.re (W':=W5) (fun k hk=>hot k (hSne k hk)) (fun k hk=>hot k (hOne k hk)) (fun _=>False) (fun _ h=>h.elim) none;have hkp5:Kp C.N w W5:=⟨by rw[hW5];exact hgr.os.trans hb1.os,by rw[hW5];exact hgr.tape.trans hb1.tape,by rw[hW5];exact hgr.output.trans hb1.output,by omega,fun k hk=>hkeep k (Nat.lt_of_lt_of_le (H.nlt k hk) H.bel.size) (fun ho=>by rw[hown0]at ho;exact(H0.own_lt ho).1 hk) fun hf=>(hBi.1 k hf).1 hk⟩
   have hH6:HRel C (σ kN q.1) q.2.1 q.2.2.1 W5:=hH5.to (H.bel.trans hkp5) H.nlt (fun k hk=>hs1 k (H.sub k hk)) (fun k hk=>by
    rcases hs2 k hk with h1|h1
    ·exact H.new k h1
    ·right;have:=H.bel.size;omega) fun g hg hn=>by
     rcases hs3 g hg with h1|h1
     ·rw[hown0]at h1;exact(H0.own_lt h1).1 hn
     ·have:=H.nlt g hn;have:=H.bel.size;omega
   have hdP:∀g,g∈ds→¬own0 g:=fun g hg=>hdead im _ hmi (hσm k0 j0) g hg
   have hdB:∀g,g∈ds→¬RB.F g:=fun g hg hf=>H.dis i im hne (by rw[hi];rfl) (by rw[hmi];rfl) g (by rw[hi];exact hf) (by rw[hmi];exact hg)
   refine⟨?_,q.2.1,q.2.2.1,hH6.rise (hσm kN q.1) ⟨List.nodup_cons.2 ⟨fun hm=>by have:=(hBm.1 _ hm).2.2;omega,hBm.2.1⟩,fun d hd=>?_⟩ fun g hg=>?_,?_⟩
   ·show [Hs w.heap.size]++a.defers=mkD ((σ kN q.1).set im _);rw[Zt (hσm kN q.1) (hmσ kN q.1),hd,hmk];rfl
   ·rcases List.mem_cons.1 hd with rfl|hd
    ·exact(hot _ (by omega)).trans hdf
    ·exact(hkeep d (hBm.1 d hd).2.2 (hdP d hd) (hdB d hd)).trans (hBm.2.2 d hd)
   ·rcases List.mem_cons.1 hg with rfl|hg
    ·refine⟨fun hn=>by have:=H.nlt _ hn;have:=H.bel.size;omega,fun hs=>?_,by omega,fun ho=>?_⟩
     ·rcases hs2 _ hs with h1|h1
      ·have:=H.lt _ h1;omega
      ·omega
     ·rcases hs3 _ ho with h1|h1
      ·have:=ho0 _ h1;omega
      ·omega
    ·have hlt:=(hBm.1 g hg).2.2;refine⟨(hBm.1 g hg).1,fun hs=>?_,by omega,fun ho=>?_⟩
     ·rcases hs2 _ hs with h1|h1
      ·exact(hBm.1 g hg).2.1 h1
      ·omega
     ·rcases hs3 _ ho with h1|h1
      ·exact hdP g hg h1
      ·omega
   ·exact AQ _ _ ht (Al (Ext.grow [] ψ0 (fun k hk=>(hot k (by have:=H.lt k hk;omega)).trans (hsame k hk)) hs1) _ _ hlit)
  ·intro k es k' hkN p W SI vs hI1 hI2 hI3 hFlt hB hev;have hB:BetY 1 S own0 w (rec_ .ready none) (σ k p.1) p.2.1 p.2.2.1 p.2.2.2 W SI:=hB;have hvl:vs.length=ps.size:=by rw[AW hev,(hes k es k' hkN).2]
   have hy:=run_yield (P:=P) (args:=vs.toArray) hB.loop (by rw[hrec];simpa using hvl);have hR:=YV (P:=P) (fn:=fn) (ps:=ps) (tmps:=a.tmps) (body:=body) (p:=p.2) none hst hrst hen ho0 H.lt ht (hes k es k' hkN).1 hlit hev (hmσ k p.1) hI1 (fun g hg=>by have:=hI2 g hg;rw[hW1s]at this;exact this) hI3 hB (hround k p.1 es k' hkN);have e1:((rec_ .ready none).params.zip vs.toArray).foldl (fun tmps (t,a)=>tmps.setIfInBounds t a) (rec_ .ready none).tmps=(ps.toList.zip vs).foldl (fun t p=>t.setIfInBounds p.1 p.2) a.tmps:=by
    rw[hrec,←Array.foldl_toList,Array.toList_zip]
   rw[e1]at hy;rw[show(rec_ .ready none).fn=fn by rw[hrec],show(rec_ .ready none).assign=assign by rw[hrec],show(rec_ .ready none).body=body by rw[hrec]]at hy;exact⟨fn,_,assign,body,hy,hR⟩
  ·intro hf;have hf:(w.heap.size≤k∧k≤w.heap.size+1)∨owns (σ k0 j0) ψ k∨False:=hf;have:=H.lt k hk;rcases hf with hf|hf|hf
   ·omega
   ·exact hSo k hk (by rw[hown0];exact hf)
   ·exact hf
  ·have hg:(w.heap.size≤g∧g≤w.heap.size+1)∨owns (σ k0 j0) ψ g∨False:=hg;rcases hg with hg|hg|hg
   ·exact⟨by omega,fun hf=>by have:=hRlt g hf;omega⟩
   ·exact⟨by have:=(H0.own_lt hg).2.1;omega,fun hf=>hdead i _ hi h0i g hf (by rw[hown0];exact hg)⟩
   ·exact hg.elim
theorem FN{C:Ctx}{g:Operand}{ps:Array Tmp}{assign body:Code}{Q:Exit→St→Prop}{t:List AV}{h:List ABlk}{gf:FuncId}{lb:List Value}{RB:Res}{ds:List Nat}{N:Nat}{encs:Nat→List AV}(i im:Nat)(σ:Nat→List ABlk)
 (hrd:C.rd=none) (hg:evA t g= .lit (.func (.func gf) #[] lb.toArray)) (hne:i≠im) (hi:h[i]? =some (.res RB)) (hmi:h[im]? =some (.res (Bq ds))) (hmk:mkD h=ds.map Hs)
 (h0:Drops h (σ 0)) (h0i:(σ 0)[i]? =some .dead) (hσm:∀k,(σ k)[im]? =some .dead) (hmσ:∀k,mkD (σ k)= []) (ht:AZ t=true) (hes:∀k,AZ (encs k)=true) (hps:∀k,(encs k).length=ps.size)
 (hit:Yh P gf lb RB encs N)
 (hround:∀k,k < N→∀C':Ctx,C'.rd.isSome=true→Awp P C' assign (JK (Wc P body (σ (k+1))) (fun _ _=>False)) ⟨Pu t ps.toList (encs k),σ k⟩)
 (hdone:∀D,Q .normal ⟨t,(σ N).set im (.res (Bq (D::ds)))⟩):Awp P C (.rangeFunc g ps assign body) Q ⟨t,h⟩:=
 JS (J:=Unit) i im (fun k _=>σ k) () hrd hg hne hi hmi hmk h0 h0i (fun k _=>hσm k) (fun k _=>hmσ k) ht (fun k _ _ ⟨_,h,_⟩=>by subst h;exact⟨hes k,hps k⟩) hit
  (fun k _ _ _ ⟨hk,h1,h2⟩ C' hC'=>by
   subst h1 h2;exact(hround k hk C' hC'.some).mono fun e s h=>by
    cases e with
    |normal=>exact fun C2 h2=>(h C2 h2.some).mono fun _ _ q=>⟨q.1,(),q.2⟩
    |_=>exact h.elim)
  fun kN h _ D=>by subst h;exact hdone D
end
section
variable{C:Ctx}{t:List AV}{h:List ABlk}
theorem Gc{i:Nat}{R R1 R2:Res}(hi:h[i]? =some (.res R))(h0:R.mrk= [])(h1:R1.mrk= [])(h2:R2.mrk= [])(hF:∀g,R1.F g∨R2.F g→R.F g)
 (hR:∀w S,R.R w S→R1.R w S∧R2.R w S∧∀g,R1.F g→¬R2.F g):St.le C ⟨t,h⟩ ⟨t,h.set i (.res R1)++[.res R2]⟩:=fun a w ⟨hd,S,ψ,H,hl⟩=>by
 have hB:=H.blk i _ hi;have hil:=(List.getElem?_eq_some_iff.1 hi).1;obtain⟨r1,r2,hdis⟩:=hR w S hB.2;have hget:∀k b,(h.set i (.res R1)++[.res R2])[k]? =some b→(k=i∧b= .res R1)∨(k=h.length∧b= .res R2)∨(k≠i∧k≠h.length∧h[k]? =some b):=fun k b hb=>by
  by_cases hkl:k < h.length
  ·rw[List.getElem?_append_left (by simpa using hkl)]at hb;by_cases hki:k=i
   ·subst hki;rw[List.getElem?_set_self hil]at hb;cases hb;exact .inl ⟨rfl,rfl⟩
   ·rw[List.getElem?_set_ne (Ne.symm hki)]at hb;exact .inr (.inr ⟨hki,by omega,hb⟩)
  ·rw[List.getElem?_append_right (by simpa using hkl)]at hb;have:k - (h.set i (ABlk.res R1)).length=0:=by
    rcases Nat.eq_zero_or_pos (k - (h.set i (ABlk.res R1)).length)with e|e
    ·exact e
    ·rw[List.getElem?_eq_none (show 1≤_ from e)]at hb;cases hb
   rw[this]at hb;cases hb;simp only[List.length_set]at this;exact .inr (.inl ⟨by omega,rfl⟩)
 have X:Ext w S h ψ w S (h.set i (.res R1)++[.res R2]) ψ:=by
  refine⟨fun _ _=>rfl,fun _ h=>h,by simp,fun k c' hk hv=>?_,fun k hk hv=>?_⟩
  ·rw[List.getElem?_append_left (by simpa using hk)]at hv⊢;by_cases hki:k=i
   ·subst hki;rw[List.getElem?_set_self hil]at hv;simp[ABlk.ver]at hv
   ·rw[List.getElem?_set_ne (Ne.symm hki)]at hv⊢;exact⟨c',hv,Nat.le_refl _,fun _=>⟨rfl,rfl⟩⟩
  ·rw[List.getElem?_append_left (by simpa using hk)]at hv;by_cases hki:k=i
   ·subst hki;rw[List.getElem?_set_self hil]at hv;simp[AN]at hv
   ·rw[List.getElem?_set_ne (Ne.symm hki)]at hv;exact⟨hv,rfl⟩
 refine⟨?_,S,ψ,⟨H.bel,H.nlt,H.lt,H.sub,H.new,fun k b hb=>?_,fun k q hkq hk hq g g1 g2=>?_⟩,Al X _ _ hl⟩
 ·rw[hd];show mkD h=_;rw[F5,Do hi (by show R1.mrk.map Hs=R.mrk.map Hs;rw[h0,h1])];show _=R2.mrk.map Hs++_;rw[h2];rfl
 ·rcases hget k b hb with⟨rfl,rfl⟩|⟨rfl,rfl⟩|⟨_,_,hb⟩
  ·exact⟨fun g hg=>hB.1 g (hF g (.inl hg)),r1⟩
  ·exact⟨fun g hg=>hB.1 g (hF g (.inr hg)),r2⟩
  ·exact(H.blk k b hb).keep X fun g _=>⟨rfl,fun h=>h⟩
 ·have key:∀k,ABlk.live (h.set i (.res R1)++[.res R2])[k]? =true→ftp (h.set i (.res R1)++[.res R2])[k]? (ψ k) g→(k=i∧R1.F g)∨(k=h.length∧R2.F g)∨(k≠i∧k≠h.length∧ABlk.live h[k]? =true∧ftp h[k]? (ψ k) g):=fun k k1 k2=>by
   obtain⟨b,hb⟩:=DM k1;rw[hb]at k1 k2;rcases hget k b hb with⟨rfl,rfl⟩|⟨rfl,rfl⟩|⟨q1,q2,hb'⟩
   ·exact .inl ⟨rfl,k2⟩
   ·exact .inr (.inl ⟨rfl,k2⟩)
   ·exact .inr (.inr ⟨q1,q2,by rw[hb'];exact k1,by rw[hb'];exact k2⟩)
  have no:∀k,k≠i→ABlk.live h[k]? =true→ftp h[k]? (ψ k) g→(R1.F g∨R2.F g)→False:=fun k q1 q3 q4 q5=>
   H.dis k i q1 q3 (by rw[hi];rfl) g q4 (by rw[hi];exact hF g q5)
  rcases key k hk g1 with⟨e1,f1⟩|⟨e1,f1⟩|⟨a1,a2,a3,a4⟩ <;> rcases key q hq g2 with⟨e2,f2⟩|⟨e2,f2⟩|⟨b1,b2,b3,b4⟩
  ·exact hkq (e1.trans e2.symm)
  ·exact hdis g f1 f2
  ·exact no q b1 b3 b4 (.inl f1)
  ·exact hdis g f2 f1
  ·exact hkq (e1.trans e2.symm)
  ·exact no q b1 b3 b4 (.inr f1)
  ·exact no k a1 a3 a4 (.inl f2)
  ·exact no k a1 a3 a4 (.inr f2)
  ·exact H.dis k q hkq a3 b3 g a4 b4
end
section
variable{P:Program}{C:Ctx}{t:List AV}{h:List ABlk}{o:Oper}{K:St→Prop}
theorem Gf{ty:TypeId}{x y:Operand}{i:Nat}{v:Value}{e:TypeId}{bytes:Nat}{α:Type}{T:Ty α}{l l2:List α}(ho:o.op= .call {callee:=.builtin .append,args:=#[x,y],argTypes:=#[ty,ty]})(hT:Hm P ty=some (e,T.size,bytes))
 (hx:evA t x= .lit v) (hi:h[i]? =some (.res (rowR v e T l))) (hy:evA t y= .bs T l2) (h1T:QW T) (hlen:l.length+l2.length≤maxLen) (hbytes:(l.length+l2.length) * bytes≤140737488355328)
 (hK:∀v',K ⟨AJ t o.dst (.lit v'),h.set i (.res (rowR v' e T (l++l2)))⟩):AOp P C o ⟨t,h⟩ K:=by
 refine AOp.turn (ι:=Value) (Rs:=fun v'=>rowR v' e T (l++l2)) (val:=fun v'=>v') hi (fun _=>rfl) (fun S ψ w ρ H hRw hlt hρ=>?_) hK;have hx':=hρ x (by rw[ho];exact Array.mem_append.2 (.inr (by simp)));have hy':=hρ y (by rw[ho];exact Array.mem_append.2 (.inr (by simp)));rw[hx]at hx';rw[hy]at hy';unfold AV.rel at hx' hy';have hdisS:∀k,S k→¬(rowR v e T l).F k:=fun k hk hf=>((H.blk i _ hi).1 k hf).2.1 hk
 obtain⟨cells,hown,h0,hR⟩:=hRw;obtain⟨h1,ti,z,h2,h3,h4,h5,h6⟩:=Ec hT;obtain⟨A,c,hyv⟩:=BB hy';rw[hyv]at hy';obtain⟨news,hnl,hsrc,hnR,hn1⟩:=Gp hy' fun cs d hcs=>h1T _ _ _ _ hcs
 obtain⟨v',w',hrun,hown',hgr,hb'⟩:=KA (P:=P) (ty:=o.type) (t:=ty) (c:=c) h1 h2 h3 h4 h5 h6 h0 hown (hsrc w fun _ _=>rfl) hn1 hlen hbytes (Nat.zero_le _);have he:(execOp ρ o).run P w= .ok (.value v') w':=by
  unfold execOp;simp only[ho,resolve,invoke,builtin,Sem.run_bind,Sem.run_pure,Result.andThen_ok,List.map_toArray,List.map_cons,List.map_nil,hx',hyv,hrun]
 rw[he];have hbv:∀g,BX v'=some g→v'.ownBlock=some g:=fun g hg=>by
  rcases hown'.2 with⟨e1,_⟩|⟨g',cap,cur,e1,_⟩
  ·rw[e1]at hg;simp[BX]at hg
  ·rw[e1]at hg⊢;simpa[BX,Value.ownBlock]using hg
 have hbψ:v.ownBlock=BX v:=by
  rcases hown.2 with⟨e1,_⟩|⟨g',cap,cur,e1,_⟩ <;> rw[e1] <;> rfl
 rw[hbψ]at hgr hb';have hblk:∀k,S k→w'.heap[k]? =w.heap[k]?:=fun k hk=>hgr.block k (H.lt k hk) fun e=>hdisS k hk e.symm
 refine⟨BC hgr,v',rfl,⟨cells++news,by rw[List.length_append];exact hown',h0,fun j d hj=>?_⟩,fun g hg=>⟨?_,(World.ownsRow.lt hown' g (hbv g hg)).2⟩⟩
 ·by_cases hjl:j < l.length
  ·rw[List.getElem?_append_left hjl]at hj;rw[LE hown.1 hjl];exact T.keepS (hR j d hj) hblk fun _ h=>h
  ·rw[List.getElem?_append_right (by omega)]at hj;obtain⟨m,rfl⟩:∃m,j=l.length+m:=⟨j - l.length,by omega⟩
   rw[G4 hown.1];exact T.keepS (hnR m d (by simpa using hj)) hblk fun _ h=>h
 ·have hg':=hbv g hg;rcases hb' with e1|e1
  ·left;rw[e1]at hg';exact hg'
  ·right;rw[e1]at hg';cases hg';exact Nat.le_refl _
theorem JM(e:TypeId){α:Type}(T:Ty α)(h0:0 < T.size):St.le C ⟨t,h⟩ ⟨t,h++[.res (rowR (.slice none 0 0) e T [])]⟩:=fun a w ⟨hd,S,ψ,H,hl⟩=>by
 have X:Ext w S h ψ w S (h++[.res (rowR (.slice none 0 0) e T [])]) (Bk ψ h.length undef):=Ext.push _ _ fun _ _=>rfl
 have hB:Ho C.N w S (h++[.res (rowR (.slice none 0 0) e T [])]) (Bk ψ h.length undef) undef (.res (rowR (.slice none 0 0) e T [])):=
  ⟨fun g hg=>by have hg:BX (.slice none 0 0)=some g:=hg;simp[BX]at hg,[],World.ownsRow_nil _ _ _ _,h0,fun i d hi=>by simp at hi⟩
 exact⟨by rw[hd];show mkD h=mkD (h++[_]);rw[F5];rfl,S,_,H.push (Below.refl _ _) hB (fun g hg=>by have hg:BX (.slice none 0 0)=some g:=hg;simp[BX]at hg),Al X _ _ hl⟩
end
theorem Aao{h:List ABlk}{i:Nat}{v:Value}{e:TypeId}{α:Type}{T:Ty α}{l:List α}(hi:h[i]? =some (.res (rowR v e T l))):One h (.lit v):=fun C S ψ w u H hv=>by
 unfold AV.rel at hv;subst hv;obtain⟨cells,hown,_⟩:=(H.blk i _ hi).2;rcases hown.2 with⟨rfl,_⟩|⟨_,_,_,rfl,_⟩ <;> rfl
def Aq2{ι:Type}(t:Tmp)(Rs:ι→Res)(val:ι→Value):Exit→St→Prop:=fun e s=>(e= .normal∨e= .ret)∧∃ds j p,s.h[0]? =some (.res (Bq ds))∧mkD s.h=ds.map Hs∧j≠0∧s.h[j]? =some (.res (Rs p))∧evA s.t (.tmp t)= .lit (val p)
theorem OD{P:Program}{f:FuncId}{fn:Go.Func}{c:Code}{args:List AV}{ι:Type}{Rs:ι→Res}{val:ι→Value}{t:Tmp}{n:Nat}(hf:P.funcs[f]? =some fn)(hb:fn.body=some c)(hE:Bw P f=true)(hres:fn.results= #[.tmp t])(hn:fn.ntmps=n)
 (hS:∀p w S S',(Rs p).R w S→(Rs p).R w S')
 (h:∀C:Ctx,C.std→C.rd=none→Awp P C c (Aq2 t Rs val) ⟨args++List.replicate (n - args.length) (.lit undef),[.res (Bq [])]⟩):QE P f args Rs val:=by
 refine⟨hE,fun w S vs hSl hr=>(callsIn_wide (n:=4)).1 (callsIn_of_wp_marks hf hb trivial ?_)⟩;rw[hn];have hst:St.rel ⟨w,S,fun k=>k < w.heap.size,none⟩ ⟨args++List.replicate (n - args.length) (.lit undef),[.res (Bq [])]⟩ {tmps:=vs.toArray++Array.replicate (n - vs.toArray.size) undef,defers:=[]} w:=by
  obtain⟨hd,S1,ψ,H,hl⟩:=Em (n:=n) hSl hr;have X:=Ext.push (w:=w) (w':=w) (S:=S1) (h:=[]) (ψ:=ψ) (.res (Bq [])) undef fun _ _=>rfl
  exact⟨rfl,S1,_,H.push (b:=.res (Bq [])) (v:=undef) (Below.refl _ _) (show Ho _ _ _ _ _ _ (.res (Bq []))from⟨fun g hg=>(List.not_mem_nil hg).elim,show([]:List Nat).Nodup∧∀d∈([]:List Nat),w.heap[d]? =some (.deferred (some []))from⟨List.nodup_nil,fun d hd=>(List.not_mem_nil hd).elim⟩⟩) (fun g hg=>(List.not_mem_nil hg).elim),Al X _ _ hl⟩
 have hw:=h ⟨w,S,fun k=>k < w.heap.size,none⟩ (fun _ h=>h) rfl _ w hst;refine wpIn_mono hw ?_;rintro e a' w' ⟨s,⟨he,ds,j,p,h0,hm,hj0,hj,hx⟩,hd,S1,ψ,H,hl⟩;have hv:=Ba hl (.tmp t);rw[hm]at hd;have key:=KK (P:=P) (C:=⟨w,S,fun k=>k < w.heap.size,none⟩) (fn:=fn) (tmps:=a'.tmps) (R:=fun e w'=>∃v,e= .returned v∧Turns w S (fun _=>False) Rs val v w') (n:=4) (x:=evA s.t (.tmp t)) (v:=a'.eval (.tmp t)) (fun W=>results_tmp hres _ _ _) ds w' s.h S1 ψ (fun W S2 ψ2 h1 h2=>by
  rw[hx]at h2;unfold AV.rel at h2;have hB:=h1.blk j (.res (Rs p)) (by rw[List.getElem?_set_ne (Ne.symm hj0)];exact hj);refine⟨_,rfl,⟨h1.bel.os,h1.bel.tape,h1.bel.output,h1.bel.size,fun k hk _=>h1.bel.block k hk⟩,p,h2,hS p _ _ _ hB.2,fun k hk=>?_⟩;obtain⟨k1,k2,k3⟩:=hB.1 k hk;exact⟨.inr (Nat.le_of_not_lt k1),k3⟩) h0 H hv
 rcases he with rfl|rfl
 ·show LeavesInM Fence.wide 4 P fn a'.tmps _ a'.defers .returning w';rw[hd];exact key
 ·show LeavesInM Fence.wide 4 P fn a'.tmps _ a'.defers .returning w';rw[hd];exact key
end Mu
end
section
namespace Mu
open Go Go.RowKit Go.Proofs
section
variable{P:Program}{C:Ctx}{o:Oper}{t:List AV}{h:List ABlk}{ι:Type}{Rs:ι→Res}{val:ι→Value}
end
theorem AOp.le{P:Program}{C:Ctx}{o:Oper}{s s':St}{K:St→Prop}(h:St.le C s s')(k:AOp P C o s' K):AOp P C o s K:=fun Q' a w hr=>k Q' a w (h a w hr)
section
variable{P:Program}{f:FuncId}{fn:Go.Func}{c:Code}{args:List AV}{ι:Type}{R:Res}{Rs:ι→Res}{val:ι→Value}{t:Tmp}{n:Nat}
theorem MF{w:World}{S:Nat→Prop}{vs:List Value}(hm:R.mrk= [])(hSl:∀k,S k→k < w.heap.size∧¬R.F k)(hF:∀g,R.F g→g < w.heap.size)(hR:R.R w S)(hr:Ad w S [] ψ0 args vs):
 St.rel ⟨w,S,fun k=>k < w.heap.size∧¬R.F k,none⟩ ⟨args++List.replicate (n - args.length) (.lit undef),[.res R]⟩ {tmps:=vs.toArray++Array.replicate (n - vs.toArray.size) undef,defers:=[]} w:=by
 obtain⟨_,S1,ψ,_,hl⟩:=Em (n:=n) (fun k hk=>(hSl k hk).1) hr;refine⟨by show []=mkD [.res R];simp[mkD,ABlk.mrk,hm],S,ψ0,⟨Kp.refl _ _,fun k hk=>hk.1,fun k hk=>(hSl k hk).1,fun _ h=>h,fun _ h=>.inl h,fun i b hi=>?_,fun i j hij hi hj=>?_⟩,?_⟩
 ·cases i with
  |zero=>
   simp only[List.getElem?_cons_zero,Option.some.injEq]at hi;subst hi;exact⟨fun g hg=>⟨fun hc=>hc.2 hg,fun hs=>(hSl g hs).2 hg,hF g hg⟩,hR⟩
  |succ i=>simp at hi
 ·cases i with
  |zero=>cases j with
   |zero=>exact absurd rfl hij
   |succ j=>simp[ABlk.live]at hj
  |succ i=>simp[ABlk.live]at hi
 ·simp only[Array.toList_append,Array.toList_replicate,List.size_toArray];have X:Ext w S [] ψ0 w S [.res R] ψ0:=⟨fun _ _=>rfl,fun _ h=>h,by simp,fun i c' hi=>by simp at hi,fun i hi=>by simp at hi⟩
  refine BK (Al X _ _ hr) (Dm (by simp[AW hr]) fun i x v hx hv=>?_);rw[List.getElem?_replicate]at hx hv;split at hx <;> cases hx
  split at hv <;> cases hv
  unfold AV.rel;rfl
theorem SD{w:World}{S:Nat→Prop}{p:ι}{h':List ABlk}{i:Nat}{S1:Nat→Prop}{ψ:Nat→Value}{w':World}(hS:∀p w S S',(Rs p).R w S→(Rs p).R w S')(H:HRel ⟨w,S,fun k=>k < w.heap.size∧¬R.F k,none⟩ h' S1 ψ w')(hi:h'[i]? =some (.res (Rs p))):Turns w S R.F Rs val (val p) w':=by
 have hB:=H.blk i _ hi;refine⟨⟨H.bel.os,H.bel.tape,H.bel.output,H.bel.size,fun k hk hn=>H.bel.block k ⟨hk,hn⟩⟩,p,rfl,hS p _ _ _ hB.2,fun k hk=>?_⟩;obtain⟨k1,_,k3⟩:=hB.1 k hk;refine⟨?_,k3⟩;by_cases hc:R.F k
 ·exact .inl hc
 ·exact .inr (Nat.le_of_not_lt fun hlt=>k1 ⟨hlt,hc⟩)
def Ape(R:Res)(Rs:ι→Res):Exit→St→Prop:=fun e s=>(e= .normal∨e= .ret)∧∃p,mkD s.h=R.mrk.map Hs∧s.h[0]? =some (.res (Rs p))
theorem My(hf:P.funcs[f]? =some fn)(hb:fn.body=some c)(hE:Bw P f=true)(hres:fn.results= #[])(hn:fn.ntmps=n)
 (hm:R.mrk= []) (hS:∀p w S S',(Rs p).R w S→(Rs p).R w S')
 (h:∀C:Ctx,Awp P C c (Ape R Rs) ⟨args++List.replicate (n - args.length) (.lit undef),[.res R]⟩):Gh P f R args Rs (fun _=>.tuple #[]):=by
 refine⟨hE,fun w S vs hSl hF hR hr=>calls_of_wp hf hb ?_⟩;rw[hn];refine wp_mono ((h ⟨w,S,fun k=>k < w.heap.size∧¬R.F k,none⟩).wp rfl (MF hm hSl hF hR hr)) ?_;rintro x a' w' ⟨s,⟨hx,p,hmk,hi⟩,hd,S1,ψ,H,hl⟩;rw[hmk,hm]at hd;have hfin:∃v,Ending.returned (.tuple #[])= .returned v∧Turns w S R.F Rs (fun _=>.tuple #[]) v w':=⟨_,rfl,SD (val:=fun _=>.tuple #[]) hS H hi⟩
 rcases hx with rfl|rfl
 ·exact⟨hd,_,results_none hres _ _ _,hfin⟩
 ·exact⟨hd,_,results_none hres _ _ _,hfin⟩
def Apd(t:Tmp)(Rs:ι→Res)(val:ι→Value):Exit→St→Prop:=fun e s=>(e= .normal∨e= .ret)∧∃ds j p,s.h[0]? =some (.res (Bq ds))∧mkD s.h=ds.map Hs∧j≠0∧s.h[j]? =some (.res (Rs p))∧evA s.t (.tmp t)= .lit (val p)
theorem DH(hf:P.funcs[f]? =some fn)(hb:fn.body=some c)(hE:Bw P f=true)(hres:fn.results= #[.tmp t])(hn:fn.ntmps=n)
 (hm:R.mrk= []) (hS:∀p w S S',(Rs p).R w S→(Rs p).R w S')
 (h:∀C:Ctx,C.rd=none→Awp P C c (Apd t Rs val) ⟨args++List.replicate (n - args.length) (.lit undef),[.res (Bq []),.res R]⟩):Gh P f R args Rs val:=by
 refine⟨hE,fun w S vs hSl hF hR hr=>(callsIn_wide (n:=4)).1 (callsIn_of_wp_marks hf hb trivial ?_)⟩;rw[hn];have hst:St.rel ⟨w,S,fun k=>k < w.heap.size∧¬R.F k,none⟩ ⟨args++List.replicate (n - args.length) (.lit undef),[.res (Bq []),.res R]⟩ {tmps:=vs.toArray++Array.replicate (n - vs.toArray.size) undef,defers:=[]} w:=by
  obtain⟨_,S1,ψ,_,hl⟩:=Em (n:=n) (fun k hk=>(hSl k hk).1) hr;refine⟨by show []=mkD [.res (Bq []),.res R];simp[mkD,ABlk.mrk,hm,Bq],S,ψ0,⟨Kp.refl _ _,fun k hk=>hk.1,fun k hk=>(hSl k hk).1,fun _ h=>h,fun _ h=>.inl h,fun i b hi=>?_,fun i j hij hi hj=>?_⟩,?_⟩
  ·rcases i with _|_|i
   ·simp only[List.getElem?_cons_zero,Option.some.injEq]at hi;subst hi;exact⟨fun g hg=>(List.not_mem_nil hg).elim,show([]:List Nat).Nodup∧∀d∈([]:List Nat),w.heap[d]? =some (.deferred (some []))from⟨List.nodup_nil,fun d hd=>(List.not_mem_nil hd).elim⟩⟩
   ·simp only[List.getElem?_cons_succ,List.getElem?_cons_zero,Option.some.injEq]at hi;subst hi;exact⟨fun g hg=>⟨fun hc=>hc.2 hg,fun hs=>(hSl g hs).2 hg,hF g hg⟩,hR⟩
   ·simp at hi
  ·rcases i with _|_|i
   ·exact fun g h1=>(List.not_mem_nil h1).elim
   ·rcases j with _|_|j
    ·exact fun g _ h2=>(List.not_mem_nil h2).elim
    ·exact absurd rfl hij
    ·simp[ABlk.live]at hj
   ·simp[ABlk.live]at hi
  ·simp only[Array.toList_append,Array.toList_replicate,List.size_toArray];have X:Ext w S [] ψ0 w S [.res (Bq []),.res R] ψ0:=⟨fun _ _=>rfl,fun _ h=>h,by simp,fun i c' hi=>by simp at hi,fun i hi=>by simp at hi⟩
   refine BK (Al X _ _ hr) (Dm (by simp[AW hr]) fun i x v hx hv=>?_);rw[List.getElem?_replicate]at hx hv;split at hx <;> cases hx
   split at hv <;> cases hv
   unfold AV.rel;rfl
 have hw:=h ⟨w,S,fun k=>k < w.heap.size∧¬R.F k,none⟩ rfl _ w hst;refine wpIn_mono hw ?_;rintro e a' w' ⟨s,⟨he,ds,j,p,h0,hmk,hj0,hj,hx⟩,hd,S1,ψ,H,hl⟩;have hv:=Ba hl (.tmp t);rw[hmk]at hd;have key:=KK (P:=P) (C:=⟨w,S,fun k=>k < w.heap.size∧¬R.F k,none⟩) (fn:=fn) (tmps:=a'.tmps) (R:=fun e w'=>∃v,e= .returned v∧Turns w S R.F Rs val v w') (n:=4) (x:=evA s.t (.tmp t)) (v:=a'.eval (.tmp t)) (fun W=>results_tmp hres _ _ _) ds w' s.h S1 ψ (fun W S2 ψ2 h1 h2=>by
  rw[hx]at h2;unfold AV.rel at h2;refine⟨_,rfl,?_⟩;rw[h2];exact SD (i:=j) hS h1 (by rw[List.getElem?_set_ne (Ne.symm hj0)];exact hj)) h0 H hv
 rcases he with rfl|rfl
 ·show LeavesInM Fence.wide 4 P fn a'.tmps _ a'.defers .returning w';rw[hd];exact key
 ·show LeavesInM Fence.wide 4 P fn a'.tmps _ a'.defers .returning w';rw[hd];exact key
end
end Mu
end
section
namespace Mu
open Go Go.RowKit
def Res.and(A B:Res):Res:=⟨[],fun g=>A.F g∨B.F g,fun w S=>A.R w S∧B.R w S∧∀g,A.F g→¬B.F g,fun h hk hb hs=>⟨A.keep h.1 (fun k e=>hk k (.inl e)) hb hs,B.keep h.2.1 (fun k e=>hk k (.inr e)) hb hs,h.2.2⟩⟩
section
variable{C:Ctx}{t:List AV}{h:List ABlk}{A B:Res}
theorem Awp.upto{P:Program}{c:Code}{Q:Exit→St→Prop}{s:St}(H:Awp P C c (fun e s=>∃s',Q e s'∧St.le C s s') s):Awp P C c Q s:=fun a w Hr=>wpIn_mono (H a w Hr) fun _ a' w' ⟨_,⟨s2,h1,h2⟩,r⟩=>⟨s2,h1,h2 a' w' r⟩
theorem upE{Q:Exit→St→Prop}{e:Exit}{s s':St}(h:St.le C s s')(q:Q e s'):∃s',Q e s'∧St.le C s s':=⟨s',q,h⟩
theorem U7(i:Nat)(hi:h[i]? =some (.res (A.and B)))(h1:A.mrk= []:=by rfl)(h2:B.mrk= []:=by rfl):St.le C ⟨t,h⟩ ⟨t,h.set i (.res A)++[.res B]⟩:=Gc hi rfl h1 h2 (fun _ e=>e) fun _ _ e=>e
end
end Mu
end
section
namespace Mu
open Go Go.RowKit Go.Proofs
class FB(h:List ABlk)(g:Nat)(i:outParam Nat)(cells:outParam (List AV)):Prop where
 e:h[i]? =some (.res (Bn g cells))
instance Alv{b:ABlk}{h:List ABlk}{g i:Nat}{cells:List AV}[FB h g i cells]:FB (b::h) g (i+1) cells:=⟨by rw[List.getElem?_cons_succ];exact FB.e⟩
instance Alu{h:List ABlk}{g:Nat}{cells:List AV}:FB (.res (Bn g cells)::h) g 0 cells:=⟨rfl⟩
class CA(x:AV):Prop where
 e:AV.cl x=true
instance Alt{v:Value}:CA (.lit v):=⟨rfl⟩
instance Als{α:Type}{T:Ty α}{l:List α}:CA (.bs T l):=⟨rfl⟩
instance Alr{h:List ABlk}{m:Option Nat}:OneI h (.lit (.map m)):=⟨One.lit rfl⟩
section
variable{P:Program}{C:Ctx}{t t':List AV}{h h':List ABlk}{g:Bool}
instance Alq{ty:TypeId}{x:Operand}{n i b off:Nat}{cells:List AV}{r:AV}[AG P ty false n][GA t x (.lit (.pointer (some ⟨b,off,none⟩)))][FB h b i cells][LD cells off r][CA r]:QI P C t h (.load ty x) r:=⟨fun _ _ _ _=>By rfl GA.e (FB.e (i:=i)) (by rw[←LD.e (l:=cells) (k:=off) (x:=r),List.getElem?_drop,Nat.add_zero]) CA.e⟩
instance Alp{st:TypeId}{x:Operand}{j n b off m:Nat}[FO P st j n][GA t x (.lit (.pointer (some ⟨b,off,none⟩)))][AD off n m]:QI P C t h (.fieldAddr st x j) (.lit (.pointer (some ⟨b,m,none⟩))):=⟨fun _ _ _ _=>by rw[←AD.e (a:=off) (b:=n) (c:=m)];exact Jd rfl GA.e⟩
instance Alo{ty:TypeId}{x:Operand}{n i b off:Nat}{cells:List AV}{r:AV}[AG P ty false n][GX g t x (.lit (.pointer (some ⟨b,off,none⟩)))][FB h b i cells][LD cells off r][CA r]:QG P C t h (.load ty x) g r:=⟨fun _ _ _ _ _ hg=>By rfl (GX.e hg) (FB.e (i:=i)) (by rw[←LD.e (l:=cells) (k:=off) (x:=r),List.getElem?_drop,Nat.add_zero]) CA.e⟩
instance Aln{st:TypeId}{x:Operand}{j n b off m:Nat}[FO P st j n][GX g t x (.lit (.pointer (some ⟨b,off,none⟩)))][AD off n m]:QG P C t h (.fieldAddr st x j) g (.lit (.pointer (some ⟨b,m,none⟩))):=⟨fun _ _ _ _ _ hg=>by rw[←AD.e (a:=off) (b:=n) (c:=m)];exact Jd rfl (GX.e hg)⟩
variable{ops:Array Oper}{rest l l1 l2:List Oper}{d:Option Nat}{ty:TypeId}{ps:String}{af:Array Go.Edge}{K:St→Prop}{y:Code}{Q:Exit→St→Prop}{id j:Nat}{o:Oper}{s:St}
theorem Arm{st:TypeId}{x z:Operand}{ik:IntKind}{m:Int}{n:Nat}{α:Type}[Inhabited α]{T:Ty α}{l:List α}(hg:gA ops t ⟨d,.indexAddr st x z,ty,ps,af,some (j,false)⟩=some (g ==false))(hz:(!!g||EJ l m)=true)[GX (!g) t x (.bs T l)][GX (!g) t z (.lit (.int ik m))][ES P st n][PA t d (cond (!g) (.bp T (ixD l m) 0) (.lit undef)) t'](hk:Ck P C ops K rest ⟨t',h⟩)(hs:T.size=n:=by exact rfl):Ck P C ops K (⟨d,.indexAddr st x z,ty,ps,af,some (j,false)⟩::rest) ⟨t,h⟩:=sG (hg:=ZJ hg) (hq:=fun hg=>FI rfl (GX.e hg) (GX.e hg) hs (S8 hz hg)) (ht:=PA.e) (hk:=hk)
theorem yS(hx:Ck P C ops (fun s=>GO P C ops K rest s) [o] s):GO P C ops K (o::rest) s:=by
 obtain⟨b,h1,h2,h3⟩:=hx;exact⟨b,h1,fun e=>Api.op (h2 e),h3⟩
theorem Aqb:∀{l1:List Oper} {s:St},Ck P C ops (fun s=>GO P C ops K l2 s) l1 s→GO P C ops K (l1++l2) s
 | [],_,h=>h
 |_::_,_,⟨b,h1,h2,h3⟩=>⟨b,h1,fun e=>Api.op ((h2 e).weak fun _ h=>Aqb h),fun e=>Aqb (h3 e)⟩
theorem wY(n:Nat)(hx:∀K:St→Prop,(∀s',Awp P C y Q s'→K s')→Ck P C l.toArray (fun s=>GO P C l.toArray K l2 s) l1 s)
 (h1:l.take n=l1:=by(simp only[List.take_succ_cons,List.take_zero];exact rfl)) (h2:l.drop n=l2:=by(simp only[List.drop_succ_cons,List.drop_zero];exact rfl)):Awp P C (.seq (.region id l.toArray false) y) Q s:=by
 subst h1 h2;refine Ac fun _ hK=>Mo ?_
 have:=Aqb (hx _ hK);rwa [List.take_append_drop]at this
end
def Res.emp:Res:=⟨[],fun _=>False,fun _ _=>True,fun _ _ _ _=>trivial⟩
def Res.all(l:List Res):Res:=⟨[],fun g=>∃A∈l,A.F g,fun w S=>(∀A∈l,A.R w S)∧∀(i j:Nat) (A B:Res),i≠j→l[i]? =some A→l[j]? =some B→∀g,A.F g→¬B.F g,fun h hk hb hs=>⟨fun A hA=>A.keep (h.1 A hA) (fun k e=>hk k ⟨A,hA,e⟩) hb hs,h.2⟩⟩
section
variable{C:Ctx}{t:List AV}{h:List ABlk}{l:List Res}{R:Res}
theorem Nj(i k:Nat)(hi:h[i]? =some (.res (.all l)))(hk:l[k]? =some R)(hm:R.mrk= []:=by rfl):St.le C ⟨t,h⟩ ⟨t,h.set i (.res (.all (l.set k .emp)))++[.res R]⟩:=by
 have hkl:=(List.getElem?_eq_some_iff.1 hk).1;have hset:∀(i:Nat) (A:Res),(l.set k .emp)[i]? =some A→(i=k∧A= .emp)∨(i≠k∧l[i]? =some A):=fun i A hA=>by
  by_cases e:i=k
  ·subst e;rw[List.getElem?_set_self hkl]at hA;exact .inl ⟨rfl,(Option.some.inj hA).symm⟩
  ·rw[List.getElem?_set_ne (Ne.symm e)]at hA;exact .inr ⟨e,hA⟩
 refine Gc hi rfl rfl hm (fun g hg=>?_) fun w S ⟨h1,h2⟩=>⟨⟨fun A hA=>?_,fun i j A B hij hA hB g hg=>?_⟩,h1 R (List.mem_of_getElem? hk),fun g hg hR=>?_⟩
 ·rcases hg with⟨A,hA,hg⟩|hg
  ·rcases List.mem_or_eq_of_mem_set hA with hA|rfl
   ·exact⟨A,hA,hg⟩
   ·exact hg.elim
  ·exact⟨R,List.mem_of_getElem? hk,hg⟩
 ·rcases List.mem_or_eq_of_mem_set hA with hA|rfl
  ·exact h1 A hA
  ·trivial
 ·rcases hset i A hA with⟨_,rfl⟩|⟨_,hA⟩
  ·exact hg.elim
  ·rcases hset j B hB with⟨_,rfl⟩|⟨_,hB⟩
   ·exact fun h=>h
   ·exact h2 i j A B hij hA hB g hg
 ·obtain⟨A,hA,hg⟩:=hg;obtain⟨i,hA⟩:=List.getElem?_of_mem hA;rcases hset i A hA with⟨_,rfl⟩|⟨hne,hA⟩
  ·exact hg
  ·exact h2 i k A R hne hA hk g hg hR
theorem L9(i j k:Nat)(hij:i≠j)(hi:h[i]? =some (.res (.all l)))(hj:h[j]? =some (.res R))(hk:l[k]? =some .emp)(hm:R.mrk= []:=by rfl):St.le C ⟨t,h⟩ ⟨t,(h.set j .dead).set i (.res (.all (l.set k R)))⟩:=by
 have hkl:=(List.getElem?_eq_some_iff.1 hk).1;have hset:∀(i:Nat) (A:Res),(l.set k R)[i]? =some A→(i=k∧A=R)∨(i≠k∧l[i]? =some A):=fun i A hA=>by
  by_cases e:i=k
  ·subst e;rw[List.getElem?_set_self hkl]at hA;exact .inl ⟨rfl,(Option.some.inj hA).symm⟩
  ·rw[List.getElem?_set_ne (Ne.symm e)]at hA;exact .inr ⟨e,hA⟩
 refine C8 hij hi hj rfl hm rfl (fun g ⟨A,hA,hg⟩=>?_) fun w S ⟨h1,h2⟩ h3 h4=>⟨fun A hA=>?_,fun i j A B hij hA hB g hg=>?_⟩
 ·rcases List.mem_or_eq_of_mem_set hA with hA|rfl
  ·exact .inl ⟨A,hA,hg⟩
  ·exact .inr hg
 ·rcases List.mem_or_eq_of_mem_set hA with hA|rfl
  ·exact h1 A hA
  ·exact h3
 ·rcases hset i A hA with⟨rfl,rfl⟩|⟨hi,hA⟩
  ·rcases hset j B hB with⟨e,_⟩|⟨_,hB⟩
   ·exact absurd e.symm hij
   ·exact fun hb=>h4 g ⟨B,List.mem_of_getElem? hB,hb⟩ hg
  ·rcases hset j B hB with⟨_,e⟩|⟨_,hB⟩
   ·rw[e];exact h4 g ⟨A,List.mem_of_getElem? hA,hg⟩
   ·exact h2 i j A B hij hA hB g hg
theorem Ef(i j:Nat)(hij:i≠j)(hi:h[i]? =some (.res (.all l)))(hj:h[j]? =some (.res R))(hm:R.mrk= []:=by rfl):St.le C ⟨t,h⟩ ⟨t,(h.set j .dead).set i (.res (.all (l++[R])))⟩:=by
 have hget:∀(i:Nat) (A:Res),(l++[R])[i]? =some A→(i < l.length∧l[i]? =some A)∨(i=l.length∧A=R):=fun i A hA=>by
  by_cases e:i < l.length
  ·rw[List.getElem?_append_left e]at hA;exact .inl ⟨e,hA⟩
  ·rw[List.getElem?_append_right (Nat.le_of_not_lt e)]at hA;have:=(List.getElem?_eq_some_iff.1 hA).1;have e2:i=l.length:=by simp at this;omega
   subst e2;rw[Nat.sub_self]at hA;exact .inr ⟨rfl,(Option.some.inj hA).symm⟩
 refine C8 hij hi hj rfl hm rfl (fun g ⟨A,hA,hg⟩=>?_) fun w S ⟨h1,h2⟩ h3 h4=>⟨fun A hA=>?_,fun i j A B hij hA hB g hg=>?_⟩
 ·rcases List.mem_append.1 hA with hA|hA
  ·exact .inl ⟨A,hA,hg⟩
  ·rw[List.mem_singleton.1 hA]at hg;exact .inr hg
 ·rcases List.mem_append.1 hA with hA|hA
  ·exact h1 A hA
  ·rw[List.mem_singleton.1 hA];exact h3
 ·rcases hget i A hA with⟨_,hA⟩|⟨hi,rfl⟩
  ·rcases hget j B hB with⟨_,hB⟩|⟨_,e⟩
   ·exact h2 i j A B hij hA hB g hg
   ·rw[e];exact h4 g ⟨A,List.mem_of_getElem? hA,hg⟩
  ·rcases hget j B hB with⟨_,hB⟩|⟨hj,_⟩
   ·exact fun hb=>h4 g ⟨B,List.mem_of_getElem? hB,hb⟩ hg
   ·omega
theorem Ma(i:Nat)(hi:h[i]? =some (.res R))(hm:R.mrk= []:=by rfl):St.le C ⟨t,h⟩ ⟨t,h.set i (.res (.all [R]))⟩:=
 DS hi (fun g ⟨A,hA,hg⟩=>by rw[List.mem_singleton.1 hA]at hg;exact hg) (fun w S h=>⟨fun A hA=>by rw[List.mem_singleton.1 hA];exact h,fun i j A B hij hA hB=>by
  have h1:=(List.getElem?_eq_some_iff.1 hA).1;have h2:=(List.getElem?_eq_some_iff.1 hB).1;simp at h1 h2;omega⟩) (by rw[hm];rfl)
end
abbrev Ik(g c:Nat)(e:TypeId){α:Type}(T:Ty α)(l:List α):Res:=rowR (.slice (some ⟨g,0,none⟩) l.length c) e T l
theorem Fx{g c:Nat}{e:TypeId}{α:Type}{T:Ty α}{l:List α}{w:World}{S:Nat→Prop}(h:(Ik g c e T l).R w S):∃cur,w.heap[g]? =some (.cells cur e (0,0))∧l.length≤c∧c≤maxLen∧cur.size=c * T.size∧0 < T.size∧∀i d,l[i]? =some d→T.RS w S ((cur.toList.drop (i * T.size)).take T.size) d:=by
 obtain⟨cells,hown,h0,hR⟩:=h;rcases hown.2 with⟨e3,_⟩|⟨g',cap,cur,e3,hb0,hg,hnc,hcm,hsz,htk⟩
 ·cases e3
 simp only[Value.slice.injEq,Option.some.injEq,Addr.mk.injEq]at e3;obtain⟨⟨rfl,-,-⟩,-,rfl⟩:=e3;refine⟨cur,hg,hnc,hcm,hsz,h0,fun i d hd=>?_⟩;have h1:=hR i d hd;have hi:=(List.getElem?_eq_some_iff.1 hd).1;have hmul:(i+1) * T.size≤l.length * T.size:=Nat.mul_le_mul_right _ hi;rw[Nat.add_mul,Nat.one_mul]at hmul;rw[←htk,List.drop_take,List.take_take,show min T.size (l.length * T.size - i * T.size)=T.size by omega]at h1;exact h1
theorem Lg{g c:Nat}{e:TypeId}{α:Type}{T:Ty α}{l:List α}{w:World}{S:Nat→Prop}{cur:Array Value}(hg:w.heap[g]? =some (.cells cur e (0,0)))(hnc:l.length≤c)(hcm:c≤maxLen)(hsz:cur.size=c * T.size)(h0:0 < T.size)
 (hE:∀i d,l[i]? =some d→T.RS w S ((cur.toList.drop (i * T.size)).take T.size) d):(Ik g c e T l).R w S:=by
 have hcap:l.length * T.size≤c * T.size:=Nat.mul_le_mul_right _ hnc;refine⟨cur.toList.take (l.length * T.size),⟨by rw[List.length_take,Nat.min_eq_left (by show _≤cur.size;rw[hsz];exact hcap)],.inr ⟨g,c,cur,rfl,Nat.zero_le _,hg,hnc,hcm,hsz,rfl⟩⟩,h0,fun i d hd=>?_⟩;have hi:=(List.getElem?_eq_some_iff.1 hd).1;have hmul:(i+1) * T.size≤l.length * T.size:=Nat.mul_le_mul_right _ hi;rw[Nat.add_mul,Nat.one_mul]at hmul;rw[List.drop_take,List.take_take,show min T.size (l.length * T.size - i * T.size)=T.size by omega];exact hE i d hd
section
variable{P:Program}{C:Ctx}{t:List AV}{h:List ABlk}{o:Oper}{K:St→Prop}{α:Type}{T:Ty α}{enc:α→List AV}[EncOf T enc]{l:List α}{d:α}{i g c k j off n:Nat}{e ty:TypeId}{x y:Operand}
theorem Rh{w:World}{S:Nat→Prop}(hR:(Ik g c e T l).R w S)(hk:l[k]? =some d){r:AV}(hr:(enc d)[j]? =some r):∃u,w.cell? ⟨g,k * T.size+j,none⟩=some u∧AV.rel w S [] ψ0 r u:=by
 obtain⟨cur,hg,hnc,hcm,hsz,h0,hE⟩:=Fx hR;obtain⟨u,h3,h4⟩:=Bl (EncOf.ok (T:=T) (enc:=enc) w S [] ψ0 _ d (hE k d hk)) hr;rw[List.getElem?_take]at h3;split at h3
 ·rw[List.getElem?_drop]at h3;exact⟨u,by simpa[World.cell?,hg]using h3,h4⟩
 ·cases h3
theorem D9(d':α)[SZ P ty n](ho:o.op= .store ty x y)(hx:evA t x= .lit (.pointer (some ⟨g,off,none⟩)))(hi:h[i]? =some (.res (Ik g c e T l)))(hk:l[k]? =some d)(hoff:off=k * T.size+j)(hu:Nn h T d j (evA t y) n d')
 (hK:K ⟨AJ t o.dst (.lit undef),h.set i (.res (Ik g c e T (l.set k d')))⟩):AOp P C o ⟨t,h⟩ K:=by
 refine AOp.turn (ι:=Unit) (Rs:=fun _=>Ik g c e T (l.set k d')) (val:=fun _=>undef) hi (fun _=>rfl) (fun S ψ w ρ H hR hlt hρ=>?_) fun _=>hK
 subst hoff;have hx':=hρ x (by rw[ho];simp[Op.operands]);have hy':=hρ y (by rw[ho];simp[Op.operands]);rw[hx]at hx';unfold AV.rel at hx';have hgS:¬S g:=((H.blk i _ hi).1 g rfl).2.1;obtain⟨cur,hg,hnc,hcm,hsz,h0,hE⟩:=Fx hR;obtain⟨hn,hle,h1,hnew⟩:=hu C S ψ w _ _ H hy' (hE k d hk);have hkl:k < l.length:=(List.getElem?_eq_some_iff.1 hk).1;have hmul:(k+1) * T.size≤c * T.size:=Nat.mul_le_mul_right _ (by omega);rw[Nat.add_mul,Nat.one_mul]at hmul;have hr:=FV (P:=P) (ty:=ty) (v:=ρ y) (off:=k * T.size+j) (w:=w) (by rw[SZ.eq (P:=P) (ty:=ty) (n:=n),hn]) hg (by rw[hn,hsz];omega) h1;rw[hn]at hr;obtain⟨vs,hvs⟩:∃vs:List Value,vs=(ρ y).cells.toList:=⟨_,rfl⟩
 rw[←hvs]at hn h1 hnew hr;have hex:(execOp ρ o).run P w= .ok .skip (w.setRow g (cur.toList.take (k * T.size+j)++vs++cur.toList.drop (k * T.size+j+n)).toArray):=by
  simp only[execOp,ho,hx',Sem.run_bind,hr,Result.andThen_ok,Sem.run_pure]
 rw[hex];have hgr:=DP w g (cur.toList.take (k * T.size+j)++vs++cur.toList.drop (k * T.size+j+n)).toArray;have hblk:∀q,S q→(w.setRow g (cur.toList.take (k * T.size+j)++vs++cur.toList.drop (k * T.size+j+n)).toArray).heap[q]? =w.heap[q]?:=fun q hq=>setRow_other _ _ _ _ fun e=>hgS (by rw[←e];exact hq)
 refine⟨⟨hgr.os,hgr.tape,hgr.output,hgr.size,fun q hq hno=>hgr.block q hq fun e=>hno (by injection e with e;exact congrArg some e.symm)⟩,(),rfl,?_,fun q hq=>⟨.inl hq,Nat.lt_of_lt_of_le (hlt q hq) hgr.size⟩⟩;show(rowR (.slice (some ⟨g,0,none⟩) (l.set k d').length c) e T (l.set k d')).R _ _;refine Lg (setRow_heap w g _ _ e _ hg) (by rw[List.length_set];exact hnc) hcm (by simp[hn,hsz];omega) h0 fun q d1 hq=>?_
 by_cases hqk:q=k
 ·subst hqk;rw[List.getElem?_set_self hkl]at hq;cases hq;rw[List.toList_toArray,OZ hn hle (by simp[hsz];omega)];exact T.keepS hnew hblk fun _ h=>h
 ·rw[List.getElem?_set_ne (Ne.symm hqk)]at hq;rw[List.toList_toArray,OY hn hle (by simp[hsz];omega) hqk];exact T.keepS (hE q d1 hq) hblk fun _ h=>h
end
theorem XS:∀{l:List AV},AZ l=true↔∀x∈l,AV.cl x=true
 | []=>by unfold AZ;simp
 |x::l=>by
  unfold AZ;rw[Bool.and_eq_true,XS];simp
inductive Cl
 |v (x:Value)
 |is (l:List Int)
 |xs (l:List Ins)
 |bs (l:List Block)
@[reducible] def Cl.av:Cl→AV
 | .v x=>.lit x
 | .is l=>.bs tInt l
 | .xs l=>.bs Dj l
 | .bs l=>.bs Bs l
theorem Cl.cl(x:Cl):AV.cl x.av=true:=by cases x <;> rfl
theorem Acl(l:List Cl):AZ (l.map Cl.av)=true:=XS.2 fun x hx=>by
 obtain⟨y,_,rfl⟩:=List.mem_map.1 hx;exact y.cl
def tCl(m:Nat):Ty (List Cl) where
 size:=m+1
 bulk:=fun _=>1
 RS:=fun w S cs l=>l.length=m+1∧Ad w S [] ψ0 (l.map Cl.av) cs∧∀u∈cs,u.oneCell'=true
 len:=fun⟨h1,h2,_⟩=>by rw[AW h2,List.length_map,h1]
 keepS:=fun⟨h1,h3,h4⟩ hb hS=>⟨h1,Al (Ext.grow [] ψ0 hb hS) _ _ h3,h4⟩
instance Alg{m:Nat}:EncOf (tCl m) fun l=>l.map Cl.av:=⟨fun w S h ψ cs d ⟨_,hr,_⟩=>AQ _ _ (Acl d) hr,fun w S cs d h=>h.2.2,Nat.succ_pos m⟩
section
variable{P:Program}{C:Ctx}{t:List AV}{h:List ABlk}
theorem Nn.cl{m j:Nat}{d:List Cl}(y:Cl)(h1:One h y.av)(hj:j < m+1):Nn h (tCl m) d j y.av 1 (d.set j y):=fun C S ψ w v cs H hv hd=>by
 obtain⟨hl,hr,h1'⟩:=hd;have hv1:=h1 C S ψ w v H hv;have e:v.cells.toList= [v]:=by rw[CM hv1]
 have hlen:=AW hr;rw[List.length_map]at hlen;have e2:cs.take j++[v]++cs.drop (j+1)=cs.set j v:=by
  rw[List.set_eq_take_append_cons_drop,if_pos (by omega),List.append_assoc];rfl
 rw[e,e2];refine⟨rfl,hj,fun u hu=>by rw[List.mem_singleton.1 hu];exact hv1,by rw[List.length_set];exact hl,?_,fun u hu=>?_⟩
 ·rw[List.map_set];exact DE hr j (Br _ _ y.cl hv)
 ·rcases List.mem_or_eq_of_mem_set hu with hu|rfl
  ·exact h1' u hu
  ·exact hv1
end
theorem En{α:Type}{l:List α}{j:Nat}{v:α}(hv:l[j]? =some v):l.set j v=l:=by
 refine List.ext_getElem? fun q=>?_
 rw[List.getElem?_set];split
 ·rename_i hq;subst hq;rw[if_pos (List.getElem?_eq_some_iff.1 hv).1,hv]
 ·rfl
theorem EB{C:Ctx}{t:List AV}{h:List ABlk}(i j:Nat){b:ABlk}{x y:AV}(hi:h[i]? =some b)(hm:b.mrk= [])(hv:ABlk.live (some b)=true)(hj:t[j]? =some x)
 (hn:∀S ψ w,HRel C h S ψ w→∀k,ftp (some b) (ψ i) k→C.w0.heap.size≤k)
 (hx:∀S ψ w v,HRel C h S ψ w→AV.rel w S h ψ x v→AV.rel w (fun k=>S k∨ftp (some b) (ψ i) k) (h.set i .dead) ψ y v):St.le C ⟨t,h⟩ ⟨t.set j y,h.set i .dead⟩:=fun a w ⟨hd,S,ψ,H,hl⟩=>by
 have hil:=(List.getElem?_eq_some_iff.1 hi).1;obtain⟨B,hBe⟩:∃B:Nat→Prop,B=ftp (some b) (ψ i):=⟨_,rfl⟩
 have hB:∀k,B k→¬C.N k∧k < w.heap.size∧¬S k:=by rw[hBe];exact(H.blk i _ hi).lt hv
 have hS:∀k,S k→(S k∨B k):=fun k hk=>.inl hk
 have X1:Ext w S h ψ w S (h.set i .dead) (Bk ψ i (ψ i)):=Ext.set (fun _ _=>rfl) hi (fun c' hc=>by simp[ABlk.ver]at hc) fun h=>by simp[AN]at h
 rw[FP]at X1;have X2:Ext w S (h.set i .dead) ψ w (fun k=>S k∨B k) (h.set i .dead) ψ:=Ext.grow _ _ (fun _ _=>rfl) hS;have hl2:=Al X2 _ _ (Al X1 _ _ hl);have hlive:∀j,ABlk.live (h.set i .dead)[j]? =true→j≠i∧(h.set i .dead)[j]? =h[j]?:=fun j hj=>by
  by_cases e:j=i
  ·subst e;rw[List.getElem?_set_self hil]at hj;simp[ABlk.live]at hj
  ·exact⟨e,List.getElem?_set_ne (Ne.symm e)⟩
 refine⟨hd.trans (Do (b':=.dead) hi (by rw[show ABlk.mrk .dead= []from rfl,hm])).symm,fun k=>S k∨B k,ψ,⟨H.bel,H.nlt,fun k hk=>?_,fun k hk=>.inl (H.sub k hk),fun k hk=>?_,fun j c hjb=>?_,fun j k hjk hj hk g h1 h2=>?_⟩,?_⟩
 ·rcases hk with hk|hk
  ·exact H.lt k hk
  ·exact(hB k hk).2.1
 ·rcases hk with hk|hk
  ·exact H.new k hk
  ·exact .inr (hn S ψ w H k (by rw[←hBe];exact hk))
 ·by_cases hji:j=i
  ·subst hji;rw[List.getElem?_set_self hil]at hjb;cases hjb;trivial
  ·rw[List.getElem?_set_ne (Ne.symm hji)]at hjb;have hBj:=H.blk j c hjb;have hdis:ABlk.live (some c)=true→∀q,ftp (some c) (ψ j) q→¬B q:=fun hlv q hq hF=>H.dis j i hji (by rw[hjb];exact hlv) (by rw[hi];exact hv) q (by rw[hjb];exact hq) (by rw[hi,←hBe];exact hF)
   cases c with
   |dead=>trivial
   |box cells'=>
    obtain⟨g',cs',e',k1,k2,k3,k4,k5⟩:=hBj;exact⟨g',cs',e',k1,k2,fun hk=>hk.elim k3 (hdis rfl g' (by rw[k1];rfl)),k4,Al X2 _ _ (Al X1 _ _ k5)⟩
   |row v' e' T' l'=>
    obtain⟨cells',k1,k2,k3,k4⟩:=hBj;exact⟨cells',k1,k2,fun i d hd=>T'.keepS (k3 i d hd) (fun _ _=>rfl) hS,fun q hq=>⟨(k4 q hq).1,fun hk=>hk.elim (k4 q hq).2 (hdis rfl q (AR hq))⟩⟩
   |res R=>
    obtain⟨k1,k2⟩:=hBj;exact⟨fun q hq=>⟨(k1 q hq).1,fun hk=>hk.elim (k1 q hq).2.1 (hdis rfl q hq),(k1 q hq).2.2⟩,R.keep k2 (fun _ _=>rfl) (fun _ _=>rfl) hS⟩
 ·obtain⟨_,e1⟩:=hlive j hj;obtain⟨_,e2⟩:=hlive k hk;rw[e1]at hj h1;rw[e2]at hk h2;exact H.dis j k hjk hj hk g h1 h2
 ·obtain⟨v,hv,hr⟩:=Bl hl hj;have e:a.tmps.toList.set j v=a.tmps.toList:=En hv;have key:=DE hl2 j (x:=y) (v:=v) (by rw[hBe];exact hx S ψ w v H hr);rw[e]at key;exact key
theorem PY{C:Ctx}(hC:C.std){h:List ABlk}{i:Nat}{b:ABlk}(hi:h[i]? =some b)(hv:ABlk.live (some b)=true)(S:Nat→Prop)(ψ:Nat→Value)(w:World)(H:HRel C h S ψ w)(k:Nat)(hk:ftp (some b) (ψ i) k):C.w0.heap.size≤k:=Nat.le_of_not_lt fun hlt=>((H.blk i _ hi).lt hv k hk).1 (hC k hlt)
structure TurnsS{ι:Type}(w:World)(S:Nat→Prop)(F:Nat→Prop)(Rs:ι→Res)(rs:ι→AV)(v:Value)(w':World):Prop where
 gr:Gr F w w'
 some:∃(p:ι) (S':Nat→Prop),(∀k,S k→S' k)∧(∀k,S' k→S k∨w.heap.size≤k)∧(∀k,S' k→k < w'.heap.size)∧AV.rel w' S' [] ψ0 (rs p) v∧(Rs p).R w' S'∧∀k,(Rs p).F k→(F k∨w.heap.size≤k)∧k < w'.heap.size∧¬S' k
def AE{ι:Type}(P:Program)(f:FuncId)(R:Res)(args:List AV)(Rs:ι→Res)(rs:ι→AV):Prop:=
 Bw P f=true∧∀(w:World) (S:Nat→Prop) (vs:List Value),(∀k,S k→k < w.heap.size∧¬R.F k)→(∀g,R.F g→g < w.heap.size)→R.R w S→Ad w S [] ψ0 args vs→
  Calls P f vs.toArray w fun e w'=>∃v,e= .returned v∧TurnsS w S R.F Rs rs v w'
def Res.raw(F:Nat→Prop):Res:=⟨[],F,fun _ _=>True,fun _ _ _ _=>trivial⟩
theorem HRel.wide{C:Ctx}{h:List ABlk}{S S':Nat→Prop}{ψ:Nat→Value}{w:World}(H:HRel C h S ψ w)(hs:∀k,S k→S' k)(hn:∀k,S' k→S k∨C.w0.heap.size≤k)(hl:∀k,S' k→k < w.heap.size∧¬owns h ψ k):HRel C h S' ψ w:=by
 refine⟨H.bel,H.nlt,fun k hk=>(hl k hk).1,fun k hk=>hs k (H.sub k hk),fun k hk=>?_,fun i b hi=>?_,H.dis⟩
 ·rcases hn k hk with h1|h1
  ·exact H.new k h1
  ·exact .inr h1
 ·by_cases hlv:ABlk.live (some b)=true
  ·exact(H.blk i b hi).keep (Ext.grow h ψ (fun _ _=>rfl) hs) fun g hg=>⟨rfl,fun _ hs'=>(hl g hs').2 ⟨i,by rw[hi];exact hlv,by rw[hi];exact hg⟩⟩
  ·cases b <;> simp[ABlk.live]at hlv
   trivial
section
variable{P:Program}{C:Ctx}{t:List AV}{h:List ABlk}{o:Oper}{ι:Type}{Rs:ι→Res}{rs:ι→AV}{K:St→Prop}
theorem NH{i:Nat}{R:Res}{a:Act}{w w':World}{S S2:Nat→Prop}{ψ:Nat→Value}{v:Value}(hi:h[i]? =some (.res R))(hm:∀p,(Rs p).mrk=R.mrk)(hc:∀p,AV.cl (rs p)=true)(hd:a.defers=mkD h)(H:HRel C h S ψ w)(hl:Ad w S h ψ t a.tmps.toList)
 (h2:∀k,S2 k→k < w.heap.size) (hT:TurnsS w S2 R.F Rs rs v w') (hS2:S2=S∨((∀p w S S',(Rs p).R w S→(Rs p).R w S')∧(∀p w S S' v,AV.rel w S [] ψ0 (rs p) v→AV.rel w S' [] ψ0 (rs p) v)∧∀k,S k→S2 k)):∃p,St.rel C ⟨AJ t o.dst (rs p),h.set i (.res (Rs p))⟩ (a.put o.dst v) w':=by
 obtain⟨hgr,p,S1,k1,k2,k3,k4,k5,k6⟩:=hT;have hB:=H.blk i _ hi;have hil:=(List.getElem?_eq_some_iff.1 hi).1;obtain⟨S',q1,q2,q3,q4,q5,q6⟩:∃S':Nat→Prop,(∀k,S k→S' k)∧(∀k,S' k→S k∨w.heap.size≤k)∧(∀k,S' k→k < w'.heap.size)∧AV.rel w' S' [] ψ0 (rs p) v∧(Rs p).R w' S'∧∀k,(Rs p).F k→(R.F k∨w.heap.size≤k)∧k < w'.heap.size∧¬S' k:=by
  rcases hS2 with e|⟨e1,e2,e3⟩
  ·subst e;exact⟨S1,k1,k2,k3,k4,k5,k6⟩
  ·refine⟨S,fun _ h=>h,fun _ h=>.inl h,fun k hk=>k3 k (k1 k (e3 k hk)),e2 p w' _ _ v k4,e1 p w' _ _ k5,fun k hk=>⟨(k6 k hk).1,(k6 k hk).2.1,fun hs=>(k6 k hk).2.2 (k1 k (e3 k hs))⟩⟩
 have hblk:∀k,S k→w'.heap[k]? =w.heap[k]?:=fun k hk=>hgr.block k (H.lt k hk) fun hf=>(hB.1 k hf).2.1 hk
 have X1:Ext w S h ψ w' S (h.set i (.res (Res.raw (Rs p).F))) (Bk ψ i (ψ i)):=Ext.set hblk hi (fun c' hc=>by simp[ABlk.ver]at hc) fun h=>by simp[AN]at h
 have H1:=H.set (b':=.res (Res.raw (Rs p).F)) (v':=ψ i) hi rfl hgr X1 ⟨fun g hg=>by
  obtain⟨h1,h2,h3⟩:=q6 g hg;rcases h1 with h1|h1
  ·exact⟨(hB.1 g h1).1,(hB.1 g h1).2.1,h2⟩
  ·exact⟨fun hn=>by have:=H.nlt g hn;have:=H.bel.size;omega,fun hs=>by have:=H.lt g hs;omega,h2⟩,trivial⟩ fun g hg=>(q6 g hg).1
 rw[FP]at H1 X1;have hown:∀k,S' k→¬owns (h.set i (.res (Res.raw (Rs p).F))) ψ k:=fun k hk ⟨j,hj1,hj2⟩=>by
  by_cases hji:j=i
  ·subst hji;rw[List.getElem?_set_self hil]at hj2;exact(q6 k hj2).2.2 hk
  ·rcases q2 k hk with h1|h1
   ·exact(H1.own_lt ⟨j,hj1,hj2⟩).2.2 h1
   ·rw[List.getElem?_set_ne (Ne.symm hji)]at hj1 hj2;have:=(H.own_lt ⟨j,hj1,hj2⟩).2.1;omega
 have H2:HRel C (h.set i (.res (Res.raw (Rs p).F))) S' ψ w':=H1.wide q1 (fun k hk=>(q2 k hk).imp id fun h1=>Nat.le_trans H.bel.size h1) fun k hk=>⟨q3 k hk,hown k hk⟩
 have X2:Ext w' S (h.set i (.res (Res.raw (Rs p).F))) ψ w' S' (h.set i (.res (Res.raw (Rs p).F))) ψ:=Ext.grow _ _ (fun _ _=>rfl) q1;have hi2:(h.set i (.res (Res.raw (Rs p).F)))[i]? =some (.res (Res.raw (Rs p).F)):=List.getElem?_set_self hil;have X3:Ext w' S' (h.set i (.res (Res.raw (Rs p).F))) ψ w' S' ((h.set i (.res (Res.raw (Rs p).F))).set i (.res (Rs p))) (Bk ψ i (ψ i)):=Ext.set (fun _ _=>rfl) hi2 (fun c' hc=>by simp[ABlk.ver]at hc) fun h=>by simp[AN]at h
 have H3:=H2.set (b':=.res (Rs p)) (v':=ψ i) hi2 rfl ⟨rfl,rfl,rfl,Nat.le_refl _,fun _ _ _=>rfl⟩ X3 ⟨fun g hg=>(H2.blk i _ hi2).1 g hg,q5⟩ fun g hg=>.inl hg
 rw[FP]at H3 X3;rw[List.set_set]at H3 X3;exact⟨p,by rw[put_defers];show a.defers=_;rw[hd];exact(Do hi (by show(Rs p).mrk.map Hs=R.mrk.map Hs;rw[hm p])).symm,S',ψ,H3,F0 (Al X3 _ _ (Al X2 _ _ (Al X1 _ _ hl))) o.dst (Br _ _ (hc p) q4)⟩
theorem Be{i:Nat}{R:Res}{f:FuncId}{args:Array Operand}{tys:Array TypeId}{xs:List AV}(hi:h[i]? =some (.res R))
 (ho:o.op= .call {callee:=.value (.func f),args:=args,argTypes:=tys}) (hF:AE P f R xs Rs rs) (hm:∀p,(Rs p).mrk=R.mrk) (hx:args.toList.map (evA t)=xs) (hc:AZ xs=true) (hr:∀p,AV.cl (rs p)=true)
 (hK:∀p,K ⟨AJ t o.dst (rs p),h.set i (.res (Rs p))⟩):AOp P C o ⟨t,h⟩ K:=by
 rintro Q' a w ⟨hd,S,ψ,H,hl⟩;refine⟨fun c e=>(by rw[ho]at e;cases e),?_⟩;have h2:Ad w S h ψ xs (args.toList.map a.eval):=by
  rw[←hx];exact BY fun x _=>Ba hl x
 unfold Oper.wp;rw[CJ ho hF.1 a.eval w rfl];simp only[Oper.upon];rw[show(args.map a.eval)=(args.toList.map a.eval).toArray from(by rw[←Array.toList_map])];refine(hF.2 w S (args.toList.map a.eval) (fun k hk=>⟨H.lt k hk,fun hf=>((H.blk i _ hi).1 k hf).2.1 hk⟩) (fun g hg=>((H.blk i _ hi).1 g hg).2.2) (H.blk i _ hi).2 (AQ _ _ hc h2)).mono ?_;rintro e w' ⟨v,rfl,hT⟩;obtain⟨p,hp⟩:=NH (o:=o) hi hm hr hd H hl H.lt hT (.inl rfl);exact⟨_,hK p,hp⟩
end
def Ctx.turn(C:Ctx)(R:Res):Prop:=∀k,k < C.w0.heap.size→¬R.F k→C.N k
def Hv{ι:Type}(R:Res)(Rs:ι→Res)(rs:ι→AV)(Qr:St→AV→Prop):Exit→St→Prop:=fun e s=>(e= .normal∨e= .ret)∧∃p,mkD s.h=R.mrk.map Hs∧s.h[0]? =some (.res (Rs p))∧Qr s (rs p)
section
variable{P:Program}{f:FuncId}{fn:Go.Func}{c:Code}{args:List AV}{ι:Type}{R:Res}{Rs:ι→Res}{rs:ι→AV}{n:Nat}
theorem BP(Qr:St→AV→Prop)(hf:P.funcs[f]? =some fn)(hb:fn.body=some c)(hE:Bw P f=true)(hn:fn.ntmps=n)(hm:R.mrk= [])
 (hres:∀(C:Ctx) (s:St) (a:Act) (w:World) (r:AV) S ψ,Qr s r→HRel C s.h S ψ w→Ad w S s.h ψ s.t a.tmps.toList→∃v,(results fn a.tmps).run P w= .ok v w∧AV.rel w S [] ψ0 r v)
 (h:∀C:Ctx,C.turn R→Awp P C c (Hv R Rs rs Qr) ⟨args++List.replicate (n - args.length) (.lit undef),[.res R]⟩):AE P f R args Rs rs:=by
 refine⟨hE,fun w S vs hSl hF hR hr=>calls_of_wp hf hb ?_⟩;rw[hn];refine wp_mono ((h ⟨w,S,fun k=>k < w.heap.size∧¬R.F k,none⟩ fun k h1 h2=>⟨h1,h2⟩).wp rfl (MF hm hSl hF hR hr)) ?_;rintro x a' w' ⟨s,⟨hx,p,hmk,hi,hq⟩,hd,S1,ψ,H,hl⟩;rw[hmk,hm]at hd;obtain⟨v,hv1,hv2⟩:=hres _ s a' w' _ S1 ψ hq H hl;have hB:=H.blk 0 _ hi;have hfin:∃v',Ending.returned v= .returned v'∧TurnsS w S R.F Rs rs v' w':=⟨_,rfl,⟨H.bel.os,H.bel.tape,H.bel.output,H.bel.size,fun k hk hn=>H.bel.block k ⟨hk,hn⟩⟩,p,S1,H.sub,H.new,H.lt,hv2,hB.2,fun k hk=>by
  obtain⟨k1,k2,k3⟩:=hB.1 k hk;refine⟨?_,k3,k2⟩;by_cases hc:R.F k
  ·exact .inl hc
  ·exact .inr (Nat.le_of_not_lt fun hlt=>k1 ⟨hlt,hc⟩)⟩
 rcases hx with rfl|rfl
 ·exact⟨hd,_,hv1,hfin⟩
 ·exact⟨hd,_,hv1,hfin⟩
theorem AS{t:Tmp}(hf:P.funcs[f]? =some fn)(hb:fn.body=some c)(hE:Bw P f=true)(hres:fn.results= #[.tmp t])(hn:fn.ntmps=n)(hm:R.mrk= [])
 (h:∀C:Ctx,Awp P C c (Hv R Rs rs fun s r=>evA s.t (.tmp t)=r∧AV.cl r=true) ⟨args++List.replicate (n - args.length) (.lit undef),[.res R]⟩):AE P f R args Rs rs:=
 BP _ hf hb hE hn hm (fun C s a w r S ψ ⟨h1,h2⟩ H hl=>⟨_,results_tmp hres _ _ _,by
  have:=Ba hl (.tmp t);rw[h1]at this;exact Br _ _ h2 this⟩) fun C _=>h C
theorem Mn{t u:Tmp}(hf:P.funcs[f]? =some fn)(hb:fn.body=some c)(hE:Bw P f=true)(hres:fn.results= #[.tmp t,.tmp u])(hn:fn.ntmps=n)(hm:R.mrk= [])
 (h:∀C:Ctx,Awp P C c (Hv R Rs rs fun s r=>.tup [evA s.t (.tmp t),evA s.t (.tmp u)]=r∧AV.cl r=true) ⟨args++List.replicate (n - args.length) (.lit undef),[.res R]⟩):AE P f R args Rs rs:=
 BP _ hf hb hE hn hm (fun C s a w r S ψ ⟨h1,h2⟩ H hl=>⟨.tuple #[a.eval (.tmp t),a.eval (.tmp u)],by
  have e1:(a.tmps[t]?).getD undef=a.eval (.tmp t):=by rw[←Array.getD_eq_getD_getElem?];rfl
  have e2:(a.tmps[u]?).getD undef=a.eval (.tmp u):=by rw[←Array.getD_eq_getD_getElem?];rfl
  simp[results,hres,e1,e2],by
  subst h1;refine Br (h:=s.h) (ψ:=ψ) _ _ h2 ?_;unfold AV.rel;refine⟨[a.eval (.tmp t),a.eval (.tmp u)],rfl,?_⟩;unfold Ad;refine⟨_,_,rfl,Ba hl (.tmp t),?_⟩;unfold Ad;refine⟨_,_,rfl,Ba hl (.tmp u),?_⟩;unfold Ad;rfl⟩) fun C _=>h C
theorem GR{t:Tmp}{ty:TypeId}{m:Nat}(hf:P.funcs[f]? =some fn)(hb:fn.body=some c)(hE:Bw P f=true)(hres:fn.results= #[.cell t ty])(ha:OO P ty=some (true,m))(hn:fn.ntmps=n)(hm:R.mrk= [])
 (h:∀C:Ctx,Awp P C c (Hv R Rs rs fun s r=>∃i cells,evA s.t (.tmp t)= .ptr i 0∧s.h[i]? =some (.box cells)∧cells.length=m∧AZ cells=true∧.agg cells=r) ⟨args++List.replicate (n - args.length) (.lit undef),[.res R]⟩):AE P f R args Rs rs:=
 BP _ hf hb hE hn hm (fun C s a w r S ψ ⟨i,cells,hev,hi,hlen,hcl,hr⟩ H hl=>by
  have hv:=Ba hl (.tmp t);rw[hev]at hv;unfold AV.rel at hv;obtain⟨g,h1,h2⟩:=hv.2 (by rw[hi];rfl);obtain⟨g',cs,e',h3,_,_,h4,h5⟩:=H.blk i _ hi;rw[h1]at h3;cases h3;have hc:∀j u,cs[j]? =some u→w.cell? ⟨g,0+j,none⟩=some u:=fun j u hu=>by simp[World.cell?,h4,hu]
  have hload:=ET (P:=P) (ty:=ty) (b:=g) (off:=0) ha (by rw[AW h5];exact hlen) hc;refine⟨.agg cs.toArray,?_,?_⟩
  ·have e1:(a.tmps[t]?).getD undef= .pointer (some ⟨g,0,none⟩):=by rw[←Array.getD_eq_getD_getElem?];exact h2
   unfold Instr.loadAt Instr.sureAddr at hload;simp only[Sem.run_bind,Sem.run_pure,Result.andThen_ok]at hload;simp[results,hres,e1,asAddr,hload]
  ·subst hr;unfold AV.rel;exact⟨cs,rfl,AQ _ _ hcl h5⟩) fun C _=>h C
theorem AI(hf:P.funcs[f]? =some fn)(hb:fn.body=some c)(hE:Bw P f=true)(hres:fn.results= #[])(hn:fn.ntmps=n)(hm:R.mrk= [])(hr:∀p,rs p= .lit (.tuple #[]))
 (h:∀C:Ctx,Awp P C c (Hv R Rs rs fun _ _=>True) ⟨args++List.replicate (n - args.length) (.lit undef),[.res R]⟩):AE P f R args Rs rs:=
 BP (fun _ r=>r= .lit (.tuple #[])) hf hb hE hn hm (fun C s a w r S ψ h1 H hl=>⟨_,results_none hres _ _ _,by
  rw[h1];unfold AV.rel;rfl⟩) fun C _=>(h C).mono fun e s ⟨k1,p,k2,k3,_⟩=>⟨k1,p,k2,k3,hr p⟩
theorem Kv(hf:P.funcs[f]? =some fn)(hb:fn.body=some c)(hE:Bw P f=true)(hres:fn.results= #[])(hn:fn.ntmps=n)(hm:R.mrk= [])(hr:∀p,rs p= .lit (.tuple #[]))
 (h:∀C:Ctx,C.turn R→Awp P C c (Hv R Rs rs fun _ _=>True) ⟨args++List.replicate (n - args.length) (.lit undef),[.res R]⟩):AE P f R args Rs rs:=
 BP (fun _ r=>r= .lit (.tuple #[])) hf hb hE hn hm (fun C s a w r S ψ h1 H hl=>⟨_,results_none hres _ _ _,by
  rw[h1];unfold AV.rel;rfl⟩) fun C hC=>(h C hC).mono fun e s ⟨k1,p,k2,k3,_⟩=>⟨k1,p,k2,k3,hr p⟩
theorem Ye{C:Ctx}{R R':Res}(hC:C.turn R){t:List AV}{h:List ABlk}(i j s:Nat)(hij:i≠j){ver:Nat}{e:TypeId}{α:Type}{T:Ty α}{l:List α}(hi:h[i]? =some (.res R'))(hF:∀g,R.F g→R'.F g)(hj:h[j]? =some (.row ver e T l))(hs:t[s]? =some (.own j ver)):St.le C ⟨t,h⟩ ⟨t.set s (.bs T l),h.set j .dead⟩:=
 EB j s hj rfl rfl hs (fun S ψ w H k hk=>Nat.le_of_not_lt fun hlt=>by
  by_cases hR:R.F k
  ·exact H.dis i j hij (by rw[hi];rfl) (by rw[hj];rfl) k (by rw[hi];exact hF k hR) (by rw[hj];exact hk)
  ·exact((H.blk j _ hj).lt rfl k hk).1 (hC k hlt hR)) fun S ψ w v H hr=>by
  unfold AV.rel at hr⊢;have hv:=(hr.2 _ (by rw[hj];rfl)).2 rfl;subst hv;obtain⟨cells,k1,k0,k2,k3⟩:=H.blk _ _ hj;exact Ch k1 (fun i d hd=>Ty.keepS _ (k2 i d hd) (fun _ _=>rfl) fun _ h=>.inl h) fun g hg=>.inr (AR hg)
end
section
variable{P:Program}{C:Ctx}{t:List AV}{h:List ABlk}{o:Oper}{K:St→Prop}{l:List Res}{A:Res}
theorem AOp.post{s s':St}(hK:K s')(ha:AOp P C o s fun s2=>St.le C s2 s'):AOp P C o s K:=fun Q' a w H=>
 let ⟨h1,h2⟩:=ha Q' a w H
 ⟨h1,Oper.wp_mono (fun a' w' ⟨s2,k1,k2⟩=>⟨s',hK,k1 a' w' k2⟩) h2⟩
theorem Ms{ι:Type}{F:ι→St}{s:St}(hK:∀p,K (F p))(ha:AOp P C o s fun s2=>∃p,St.le C s2 (F p)):AOp P C o s K:=fun Q' a w H=>
 let ⟨h1,h2⟩:=ha Q' a w H
 ⟨h1,Oper.wp_mono (fun a' w' ⟨s2,⟨p,k1⟩,k2⟩=>⟨F p,hK p,k1 a' w' k2⟩) h2⟩
theorem CR{ι:Type}{t':ι→List AV}{A':ι→Res}(i k:Nat)(tl:List ABlk)(hi:h[i]? =some (.res (.all l)))(hk:l[k]? =some A)(hm:A.mrk= [])(hm':∀p,(A' p).mrk= [])
 (hop:∀(h1:List ABlk) (K':St→Prop),h1[h.length]? =some (.res A)→h1.length=h.length+1→(∀p,K' ⟨t' p,h1.set h.length (.res (A' p))++tl⟩)→AOp P C o ⟨t,h1⟩ K')
 (hK:∀p,K ⟨t' p,h.set i (.res (.all (l.set k (A' p))))++.dead::tl⟩):AOp P C o ⟨t,h⟩ K:=by
 have hil:=(List.getElem?_eq_some_iff.1 hi).1;have hkl:=(List.getElem?_eq_some_iff.1 hk).1;have hlen:∀X:ABlk,(h.set i X).length=h.length:=fun _=>List.length_set
 have hlast:∀X Y:ABlk,(h.set i X++[Y])[h.length]? =some Y:=fun X Y=>by rw[List.getElem?_append_right (by rw[hlen];exact Nat.le_refl _),hlen,Nat.sub_self];rfl
 have hset:∀(X Y Z:ABlk) (tl:List ABlk),(h.set i X++Y::tl).set h.length Z=h.set i X++Z::tl:=fun X Y Z tl=>by rw[List.set_append_right _ _ (by rw[hlen];exact Nat.le_refl _),hlen,Nat.sub_self];rfl
 refine Ms (F:=fun p=>⟨t' p,h.set i (.res (.all (l.set k (A' p))))++.dead::tl⟩) hK (AOp.le (Nj i k hi hk hm) (hop _ _ (hlast _ _) (by simp) fun p=>⟨p,?_⟩));rw[hset];have:=L9 (C:=C) (t:=t' p) (h:=h.set i (.res (.all (l.set k .emp)))++.res (A' p)::tl) (l:=l.set k .emp) (R:=A' p) i h.length k (by omega) (by rw[List.getElem?_append_left (by rw[hlen];exact hil),List.getElem?_set_self hil]) (by rw[List.getElem?_append_right (by rw[hlen];exact Nat.le_refl _),hlen,Nat.sub_self];rfl) (List.getElem?_set_self hkl) (hm' p);rw[hset,List.set_append_left _ _ (by rw[hlen];exact hil),List.set_set,List.set_set]at this;rw[List.append_assoc];exact this
end
theorem I8{C:Ctx}{t:List AV}{h:List ABlk}{A B:Res}(i:Nat)(hi:h[i]? =some (.res (.all [A,B])))(hA:A.mrk= [])(hB:B.mrk= []):St.le C ⟨t,h⟩ ⟨t,h.set i (.res A)++[.res B]⟩:=
 Gc hi rfl hA hB (fun g hg=>hg.elim (fun h=>⟨A,by simp,h⟩) fun h=>⟨B,by simp,h⟩) fun w S ⟨h1,h2⟩=>⟨h1 A (by simp),h1 B (by simp),fun g hg=>h2 0 1 A B (by decide) rfl rfl g hg⟩
theorem Hf{P:Program}{C:Ctx}{t:List AV}{h:List ABlk}{o:Oper}{K:St→Prop}{ι:Type}{A B:ι→Res}{rs:ι→AV}{i:Nat}{R:Res}{f:FuncId}{args:Array Operand}{tys:Array TypeId}{xs:List AV}(hi:h[i]? =some (.res R))
 (ho:o.op= .call {callee:=.value (.func f),args:=args,argTypes:=tys}) (hF:AE P f R xs (fun p=>.all [A p,B p]) rs) (hm:R.mrk= []) (hA:∀p,(A p).mrk= []) (hB:∀p,(B p).mrk= []) (hx:args.toList.map (evA t)=xs) (hc:AZ xs=true) (hr:∀p,AV.cl (rs p)=true)
 (hK:∀p,K ⟨AJ t o.dst (rs p),h.set i (.res (A p))++[.res (B p)]⟩):AOp P C o ⟨t,h⟩ K:=
 Ms hK (Be hi ho hF (fun _=>hm.symm) hx hc hr fun p=>⟨p,by
  have:=I8 (C:=C) (t:=AJ t o.dst (rs p)) (h:=h.set i (.res (.all [A p,B p]))) i (List.getElem?_set_self (List.getElem?_eq_some_iff.1 hi).1) (hA p) (hB p);rwa [List.set_set]at this⟩)
theorem GU{w w':World}{S S':Nat→Prop}:∀{us:List Value} {cs:List Value},Ad w S [] ψ0 (us.map AV.lit) cs→Ad w' S' [] ψ0 (us.map AV.lit) cs
 | [],cs,h=>by
  rw[List.map_nil]at h⊢;unfold Ad at h⊢;exact h
 |u::us,cs,h=>by
  rw[List.map_cons]at h⊢;unfold Ad at h⊢;obtain⟨v,vs,e,h1,h2⟩:=h;exact⟨v,vs,e,by unfold AV.rel at h1⊢;exact h1,GU h2⟩
theorem Mc{C:Ctx}{t:List AV}{h:List ABlk}:St.le C ⟨t,h⟩ ⟨t,h++[.res .emp]⟩:=fun a w ⟨hd,S,ψ,H,hl⟩=>by
 have X:Ext w S h ψ w S (h++[.res .emp]) (Bk ψ h.length undef):=Ext.push _ _ fun _ _=>rfl
 have hB:Ho C.N w S (h++[.res .emp]) (Bk ψ h.length undef) undef (.res .emp):=⟨fun g hg=>hg.elim,trivial⟩
 refine⟨?_,S,_,H.push (Below.refl _ _) hB (fun g hg=>hg.elim),Al X _ _ hl⟩;rw[hd];show mkD h=mkD (h++[_]);rw[F5];rfl
theorem Aqd{P:Program}{ty:TypeId}(h:GH P ty=true):∃e,P.underlying ty=some (.slice e):=by
 unfold GH at h;split at h
 ·exact⟨_,by assumption⟩
 ·cases h
section
variable{P:Program}{C:Ctx}{t:List AV}{h:List ABlk}{o:Oper}{K:St→Prop}{ι:Type}{Rs:ι→Res}{rs:ι→AV}
theorem C6{f:FuncId}{args:Array Operand}{tys:Array TypeId}{xs:List AV}
 (ho:o.op= .call {callee:=.value (.func f),args:=args,argTypes:=tys}) (hF:AE P f .emp xs Rs rs) (hm:∀p,(Rs p).mrk= []) (hx:args.toList.map (evA t)=xs) (hc:AZ xs=true) (hr:∀p,AV.cl (rs p)=true)
 (hK:∀p,K ⟨AJ t o.dst (rs p),h++[.res (Rs p)]⟩):AOp P C o ⟨t,h⟩ K:=
 AOp.le Mc (Be (i:=h.length) (by rw[List.getElem?_append_right (Nat.le_refl _),Nat.sub_self];rfl) ho hF hm hx hc hr fun p=>by
  rw[List.set_append_right _ _ (Nat.le_refl _),Nat.sub_self];exact hK p)
end
def Ty.sliceP{α:Type}(T:Ty α):Ty (List α) where
 size:=1
 bulk:=T.slice.bulk
 RS:=fun w S cs ds=>T.slice.RS w S cs ds∧cs≠[.slice none 0 0]
 len:=fun h=>T.slice.len h.1
 keepS:=fun h hb hS=>⟨T.slice.keepS h.1 hb hS,h.2⟩
section
variable{P:Program}{C:Ctx}{t:List AV}{h:List ABlk}{o:Oper}{α:Type}{T:Ty α}{l:List α}{c:Code}{Q:Exit→St→Prop}
theorem Li{w:World}{S:Nat→Prop}{ψ:Nat→Value}{vs:List Value}(hl:Ad w S h ψ t vs){j:Nat}{v:Value}{y:AV}(hv:vs[j]? =some v)(hy:AV.rel w S h ψ y v):Ad w S h ψ (t.set j y) vs:=by
 have:=DE hl j hy;rwa [show vs.set j v=vs from List.ext_getElem? fun k=>by
  by_cases hk:j=k
  ·subst hk;rw[List.getElem?_set_self (List.getElem?_eq_some_iff.1 hv).1,hv]
  ·rw[List.getElem?_set_ne hk]]at this
theorem DT(j:Nat)(hj:t[j]? =some (.tv T.sliceP l)):St.le C ⟨t,h⟩ ⟨t.set j (.bs T l),h⟩:=fun a w ⟨hd,S,ψ,H,hl⟩=>by
 obtain⟨v,hv,hr⟩:=Bl hl hj;refine⟨hd,S,ψ,H,Li hl hv ?_⟩;unfold AV.rel at hr⊢;exact hr.1
theorem CO{xt yt:TypeId}{x y:Operand}[SL P xt](ho:o.op= .binOp .eql xt x y yt)(hx:evA t x= .tv T.sliceP l)(hy:evA t y= .lit (.slice none 0 0)):Av P C t h o (.lit (.bool false)):=
 Ap fun S ψ w ρ _ hρ=>by
  have h1:=hρ x (by simp[ho,Op.operands]);have h2:=hρ y (by simp[ho,Op.operands]);rw[hx]at h1;rw[hy]at h2;unfold AV.rel at h1 h2;obtain⟨h1,h3⟩:=h1;obtain⟨A,n,hv⟩:=BB h1;cases A with
  |none=>
   rw[hv]at h1;obtain⟨e1,e2,e3⟩:=ER h1;rw[e2,e3]at hv;exact absurd (by rw[hv]) h3
  |some ad=>
   obtain⟨e,he⟩:=Aqd (SL.eq (P:=P) (ty:=xt));refine⟨.bool false,?_,by unfold AV.rel;rfl⟩;simp[execOp,ho,hv,h2,eqGuard,binOp,run_equal_slice_nil _ _ _ _ _ _ he]
theorem Kf{xt yt:TypeId}{x y:Operand}{g n m:Nat}[SL P xt](ho:o.op= .binOp .eql xt x y yt)(hx:evA t x= .lit (.slice (some ⟨g,0,none⟩) n m))(hy:evA t y= .lit (.slice none 0 0)):Av P C t h o (.lit (.bool false)):=
 Ap fun S ψ w ρ _ hρ=>by
  have h1:=hρ x (by simp[ho,Op.operands]);have h2:=hρ y (by simp[ho,Op.operands]);rw[hx]at h1;rw[hy]at h2;unfold AV.rel at h1 h2;obtain⟨e,he⟩:=Aqd (SL.eq (P:=P) (ty:=xt));refine⟨.bool false,?_,by unfold AV.rel;rfl⟩;simp[execOp,ho,h1,h2,eqGuard,binOp,run_equal_slice_nil _ _ _ _ _ _ he]
theorem CP{xt yt:TypeId}{x y:Operand}[SL P xt](ho:o.op= .binOp .eql xt x y yt)(hx:evA t x= .lit (.slice none 0 0))(hy:evA t y= .lit (.slice none 0 0)):Av P C t h o (.lit (.bool true)):=
 Ap fun S ψ w ρ _ hρ=>by
  have h1:=hρ x (by simp[ho,Op.operands]);have h2:=hρ y (by simp[ho,Op.operands]);rw[hx]at h1;rw[hy]at h2;unfold AV.rel at h1 h2;obtain⟨e,he⟩:=Aqd (SL.eq (P:=P) (ty:=xt));refine⟨.bool true,?_,by unfold AV.rel;rfl⟩;simp[execOp,ho,h1,h2,eqGuard,binOp,run_equal_slice_nil _ _ _ _ _ _ he]
theorem Ge{K:St→Prop}{ty e:TypeId}{bytes m:Nat}[RT P ty e m bytes](ho:o.op= .buildSlice ty 0 #[])(h0:0 < T.size)(hK:∀g:Nat,K ⟨AJ t o.dst (.lit (.slice (some ⟨g,0,none⟩) 0 0)),h++[.res (rowR (.slice (some ⟨g,0,none⟩) 0 0) e T [])]⟩):AOp P C o ⟨t,h⟩ K:=by
 refine Cj (ι:=Nat) (Rs:=fun g=>rowR (.slice (some ⟨g,0,none⟩) 0 0) e T []) (val:=fun g=>.slice (some ⟨g,0,none⟩) 0 0) (fun _=>rfl) (fun S ψ w ρ H hρ=>?_) hK;have ho':o.op= .buildSlice ty ([]:List Operand).length (DF []):=ho;have hrun:=FW (P:=P) (ρ:=ρ) (w:=w) ho';rw[NN (RT.eq (P:=P) (ty:=ty) (e:=e) (n:=m) (bytes:=bytes)) (by simp) (fun v hv=>by cases hv)]at hrun;have hb:Below w.heap.size w (w.alloc (.cells (([].map ρ).flatMap fun v=>v.cells.toList).toArray e)):=(Below.refl _ _).alloc (Nat.le_refl _) _;have hown:(w.alloc (.cells (([].map ρ).flatMap fun v=>v.cells.toList).toArray e)).ownsRow w.heap.size e T.size (.slice (some ⟨w.heap.size,0,none⟩) 0 0) 0 []:=
  ⟨by simp,.inr ⟨w.heap.size,0,#[],rfl,Nat.le_refl _,heap_alloc_new w _,Nat.le_refl _,Nat.zero_le _,by simp,by simp⟩⟩
 rw[hrun];refine⟨⟨hb.os,hb.tape,hb.output,hb.size,fun k hk _=>hb.block k hk⟩,w.heap.size,rfl,⟨[],hown.mono (Nat.zero_le _),h0,fun i d hd=>by simp at hd⟩,fun k hk=>?_⟩;have hk:some w.heap.size=some k:=hk;cases hk;exact⟨.inr (Nat.le_refl _),by simp⟩
theorem Dc{K:St→Prop}{ty:TypeId}{x y:Operand}{i g n c:Nat}{e:TypeId}{bytes:Nat}{l2:List α}(ho:o.op= .call {callee:=.builtin .append,args:=#[x,y],argTypes:=#[ty,ty]})(hT:Hm P ty=some (e,T.size,bytes))
 (hx:evA t x= .lit (.slice (some ⟨g,0,none⟩) n c)) (hi:h[i]? =some (.res (rowR (.slice (some ⟨g,0,none⟩) n c) e T l))) (hy:evA t y= .bs T l2) (h1T:QW T) (hlen:l.length+l2.length≤maxLen) (hbytes:(l.length+l2.length) * bytes≤140737488355328)
 (hK:∀g' c',K ⟨AJ t o.dst (.lit (.slice (some ⟨g',0,none⟩) (l++l2).length c')),h.set i (.res (rowR (.slice (some ⟨g',0,none⟩) (l++l2).length c') e T (l++l2)))⟩):AOp P C o ⟨t,h⟩ K:=by
 refine AOp.turn (ι:=Nat×Nat) (Rs:=fun q=>rowR (.slice (some ⟨q.1,0,none⟩) (l++l2).length q.2) e T (l++l2)) (val:=fun q=>.slice (some ⟨q.1,0,none⟩) (l++l2).length q.2) hi (fun _=>rfl) (fun S ψ w ρ H hRw hlt hρ=>?_) fun q=>hK q.1 q.2
 have hx':=hρ x (by rw[ho];exact Array.mem_append.2 (.inr (by simp)));have hy':=hρ y (by rw[ho];exact Array.mem_append.2 (.inr (by simp)));rw[hx]at hx';rw[hy]at hy';unfold AV.rel at hx' hy';have hdisS:∀k,S k→¬(rowR (.slice (some ⟨g,0,none⟩) n c) e T l).F k:=fun k hk hf=>((H.blk i _ hi).1 k hf).2.1 hk
 obtain⟨cells,hown,h0,hR⟩:=hRw;obtain⟨h1,ti,z,h2,h3,h4,h5,h6⟩:=Ec hT;obtain⟨A,c2,hyv⟩:=BB hy';rw[hyv]at hy';obtain⟨news,hnl,hsrc,hnR,hn1⟩:=Gp hy' fun cs d hcs=>h1T _ _ _ _ hcs
 obtain⟨v',w',hrun,hown',hgr,hb'⟩:=KA (P:=P) (ty:=o.type) (t:=ty) (c:=c2) h1 h2 h3 h4 h5 h6 h0 hown (hsrc w fun _ _=>rfl) hn1 hlen hbytes (Nat.zero_le _);have he:(execOp ρ o).run P w= .ok (.value v') w':=by
  unfold execOp;simp only[ho,resolve,invoke,builtin,Sem.run_bind,Sem.run_pure,Result.andThen_ok,List.map_toArray,List.map_cons,List.map_nil,hx',hyv,hrun]
 rw[he];obtain⟨g',cap,hv'⟩:∃g' cap,v'= .slice (some ⟨g',0,none⟩) (l++l2).length cap:=by
  rcases hown'.2 with⟨e1,_⟩|⟨g',cap,cur,e1,_⟩
  ·rw[e1]at hb';rcases hb' with e2|e2 <;> cases e2
  ·exact⟨g',cap,by rw[e1,List.length_append]⟩
 subst hv';have hblk:∀k,S k→w'.heap[k]? =w.heap[k]?:=fun k hk=>hgr.block k (H.lt k hk) fun e=>hdisS k hk e.symm
 refine⟨BC hgr,(g',cap),rfl,⟨cells++news,by rw[List.length_append]at hown'⊢;exact hown',h0,fun j d hj=>?_⟩,fun k hk=>⟨?_,(World.ownsRow.lt hown' k hk).2⟩⟩
 ·by_cases hjl:j < l.length
  ·rw[List.getElem?_append_left hjl]at hj;rw[LE hown.1 hjl];exact T.keepS (hR j d hj) hblk fun _ h=>h
  ·rw[List.getElem?_append_right (by omega)]at hj;obtain⟨m,rfl⟩:∃m,j=l.length+m:=⟨j - l.length,by omega⟩
   rw[G4 hown.1];exact T.keepS (hnR m d (by simpa using hj)) hblk fun _ h=>h
 ·have hk:some g'=some k:=hk;cases hk;rcases hb' with e1|e1
  ·left;exact e1.symm
  ·right;have e1:some g'=some w.heap.size:=e1;cases e1;exact Nat.le_refl _
theorem GP(i:Nat)(e:TypeId)(hi:h[i]? =some (.res .emp))(h0:0 < T.size):St.le C ⟨t,h⟩ ⟨t,h.set i (.res (rowR (.slice none 0 0) e T []))⟩:=
 DS hi (fun g hg=>by
  have hg:BX (.slice none 0 0)=some g:=hg;cases hg) (fun w S _=>⟨[],⟨by simp,.inl ⟨rfl,rfl⟩⟩,h0,fun i d hd=>by simp at hd⟩) rfl
theorem Df{R:Res}(i j:Nat)(hij:i≠j)(hi:h[i]? =some (.res .emp))(hj:h[j]? =some (.res R))(hm:R.mrk= []:=by rfl):St.le C ⟨t,h⟩ ⟨t,(h.set j .dead).set i (.res R)⟩:=
 C8 hij hi hj rfl hm hm (fun g hg=>.inr hg) fun w S _ h2 _=>h2
end
section
variable{P:Program}{f:FuncId}{α:Type}{T:Ty α}{l:List α}{R:Res}{ι κ:Type}{Rs:ι→Res}{rs:ι→AV}
theorem Gd{rest:List AV}(hE:Bw P f=true)(hN:l= []→AE P f R (.lit (.slice none 0 0)::rest) Rs rs)(hP:AE P f R (.tv T.sliceP l::rest) Rs rs):AE P f R (.bs T l::rest) Rs rs:=⟨hE,fun w S vs a b c hr=>by
 unfold Ad at hr;obtain⟨v,us,rfl,h1,h2⟩:=hr;have h1':=h1;unfold AV.rel at h1;obtain⟨A,cc,rfl⟩:=BB h1;cases A with
 |none=>
  obtain⟨e1,e2,e3⟩:=ER h1;refine(hN e1).2 w S _ a b c ?_;unfold Ad;exact⟨_,_,rfl,by unfold AV.rel;rw[e2,e3],h2⟩
 |some ad=>
  refine hP.2 w S _ a b c ?_;unfold Ad;exact⟨_,_,rfl,by unfold AV.rel;exact⟨h1,fun e=>by cases e⟩,h2⟩⟩
theorem AE.reidx{Rs':κ→Res}{rs':κ→AV}{xs:List AV}(k:ι→κ)(h1:∀p,Rs' (k p)=Rs p)(h2:∀p,rs' (k p)=rs p)(h:AE P f R xs Rs rs):AE P f R xs Rs' rs':=⟨h.1,fun w S vs a b c hr=>(h.2 w S vs a b c hr).mono fun e w' ⟨v,he,hT⟩=>⟨v,he,hT.gr,by
 obtain⟨p,S',k1,k2,k3,k4,k5,k6⟩:=hT.some;exact⟨k p,S',k1,k2,k3,by rw[h2];exact k4,by rw[h1];exact k5,fun g hg=>k6 g (by rw[h1]at hg;exact hg)⟩⟩⟩
end
end Mu
end
section
namespace Mu
open Go
structure Fr where
 f:Nat
 b:Nat
 i:Nat
 regs:List Int
structure Mdl where
 heap:List Int
 out:List Int
 ch:List Int
 ths:List (List Fr)
 at_:Nat
 kind:Int
 v:Int
def BS(p:Prog)(k:Nat):Func:=p.funcs.getD k default
def ON(p:Prog)(r:Fr):List Ins:=((BS p r.f).blocks.getD r.b default).ins
def Cu(p:Prog)(r:Fr):Ins:=(ON p r).getD r.i default
def thA(s:Mdl):List Fr:=s.ths.getD s.at_ []
def QT(s:Mdl):Fr:=(thA s).getLastD ⟨0,0,0,[]⟩
def IA(s:Mdl)(l:List Fr):Mdl:={s with ths:=s.ths.set s.at_ l}
def De(s:Mdl)(r:Fr):Mdl:=IA s ((thA s).dropLast++[r])
def DN(s:Mdl):List Nat:=(List.range s.ths.length).filter fun t=>!(s.ths.getD t []).isEmpty
def Fa(s:Mdl):Mdl:={s with ch:=s.ch.tail,at_:=(DN s).getD ((s.ch.headD 0).toNat % (DN s).length) 0}
def regA(r:Fr)(k:Int):Int:=r.regs.getD k.toNat 0
def newFr(p:Prog)(f:Nat)(args:List Int):Fr:=⟨f,0,0,args.take (BS p f).regs.toNat++List.replicate ((BS p f).regs.toNat - args.length) 0⟩
def nextF(r:Fr)(l:List Int):Fr:=⟨r.f,r.b,r.i+1,l⟩
def M7(s:Mdl)(why:Int):Mdl:={s with kind:=2,v:=why}
def Q7(dw:Int→Int→Int→Option Int)(p:Prog)(s:Mdl)(r:Fr)(x:Ins):Mdl:=
 if x.op=0 then De s (nextF r <|r.regs.set x.d.toNat x.n)
 else if x.op=1 then
  match dw x.n (regA r x.a) (regA r x.b)with
  |some w=>De s (nextF r <|r.regs.set x.d.toNat w)
  |none=>M7 s 1
 else if x.op=2 then De s (nextF r <|r.regs.set x.d.toNat (regA r x.a))
 else if x.op=3 then if(regA r x.a).toNat < s.heap.length then De s (nextF r <|r.regs.set x.d.toNat (s.heap.getD (regA r x.a).toNat 0))else M7 s 2
 else if x.op=4 then if(regA r x.a).toNat < s.heap.length then{De s (nextF r r.regs)with heap:=s.heap.set (regA r x.a).toNat (regA r x.b)}else M7 s 2
 else if x.op=5 then IA s (thA s++[newFr p x.f.toNat (x.args.map (regA r))])
 else if x.op=6 then{De s (nextF r r.regs)with out:=s.out++[regA r x.a]}
 else if x.op=7 then Fa (De s (nextF r r.regs))
 else if x.op=8 then De s ⟨r.f,x.l1.toNat,0,r.regs⟩
 else if x.op=9 then De s ⟨r.f,if regA r x.a=0 then x.l2.toNat else x.l1.toNat,0,r.regs⟩
 else
  match(thA s).dropLast.getLast? with
  |some up=>IA s ((thA s).dropLast.dropLast++[⟨up.f,up.b,up.i+1,up.regs.set (Cu p up).d.toNat (regA r x.a)⟩])
  |none=>if s.at_=0 then{IA s []with kind:=1,v:=regA r x.a}else Fa (IA s [])
def PE(dw:Int→Int→Int→Option Int)(p:Prog)(s:Mdl):Mdl:=Q7 dw p s (QT s) (Cu p (QT s))
structure InsOk(p:Prog)(f:Func)(x:Ins):Prop where
 op:0≤x.op∧x.op≤10
 reads:∀r∈readsC x,0≤r∧r < f.regs
 dst:Az x=true→0≤x.d∧x.d < f.regs
 call:x.op=5→0≤x.f∧x.f.toNat < p.funcs.length∧(x.args.length:Int)=(BS p x.f.toNat).args
 l1:x.op=8∨x.op=9→0≤x.l1∧x.l1.toNat < f.blocks.length
 l2:x.op=9→0≤x.l2∧x.l2.toNat < f.blocks.length
structure FuncOk(p:Prog)(f:Func):Prop where
 args:0≤f.args∧f.args≤f.regs
 blocks:f.blocks≠[]
 ins:∀b∈f.blocks,b.ins≠[]∧(∀x∈b.ins,InsOk p f x)∧∀(i:Nat) (x:Ins),b.ins[i]? =some x→(8≤x.op↔i+1=b.ins.length)
structure ProgOk(p:Prog):Prop where
 funcs:∀f∈p.funcs,FuncOk p f
 threads:p.threads≠[]∧∀t∈p.threads,0≤t∧t.toNat < p.funcs.length∧(BS p t.toNat).args=0
structure FrOk(p:Prog)(r:Fr):Prop where
 f:r.f < p.funcs.length
 b:r.b < (BS p r.f).blocks.length
 i:r.i < (ON p r).length
 regs:r.regs.length=(BS p r.f).regs.toNat
def Kw(p:Prog):List Fr→Prop
 | []=>True
 | [_]=>True
 |r::u::l=>((Cu p r).op=5∧(Cu p r).f=(u.f:Int))∧Kw p (u::l)
theorem Jh{p:Prog}:∀{l:List Fr} {r u:Fr} {m:List Fr},Kw p (l++r::u::m)→(Cu p r).op=5∧(Cu p r).f=(u.f:Int)
 | [],_,_,_,h=>h.1
 | [_],_,_,_,h=>h.2.1
 |_::b::l,r,u,m,h=>Jh (l:=b::l) (r:=r) (u:=u) (m:=m) h.2
theorem Ny{p:Prog}:∀{l m:List Fr},Kw p (l++m)→Kw p l
 | [],_,_=>trivial
 | [_],_,_=>trivial
 |_::b::l,m,h=>⟨h.1,Ny (l:=b::l) (m:=m) h.2⟩
theorem JQ{p:Prog}:∀{l:List Fr} {r r':Fr},Kw p (l++[r])→r'.f=r.f→Kw p (l++[r'])
 | [],_,_,_,_=>trivial
 | [_],r,r',h,e=>⟨⟨h.1.1,by rw[h.1.2,e]⟩,trivial⟩
 |_::b::l,r,r',h,e=>⟨h.1,JQ (l:=b::l) h.2 e⟩
theorem Kw.push{p:Prog}:∀{l:List Fr} {r u:Fr},Kw p (l++[r])→(Cu p r).op=5→(Cu p r).f=(u.f:Int)→Kw p (l++[r,u])
 | [],_,_,_,h1,h2=>⟨⟨h1,h2⟩,trivial⟩
 | [_],r,u,h,h1,h2=>⟨h.1,⟨h1,h2⟩,trivial⟩
 |_::b::l,r,u,h,h1,h2=>⟨h.1,Kw.push (l:=b::l) h.2 h1 h2⟩
structure MOk(p:Prog)(s:Mdl):Prop where
 len:s.ths.length=p.threads.length
 frs:∀(t:Nat) (l:List Fr),s.ths[t]? =some l→(∀r∈l,FrOk p r)∧Kw p l∧∀r,l.head? =some r→p.threads[t]? =some (r.f:Int)
 zero:s.kind=0→s.ths.getD 0 []≠[]
 run:s.kind=0→s.at_ < s.ths.length∧thA s≠[]
theorem VN{s:Mdl}(h:s.at_ < s.ths.length):s.ths[s.at_]? =some (thA s):=by
 unfold thA;rw[List.getD_eq_getElem?_getD,List.getElem?_eq_getElem h];rfl
theorem NX{s:Mdl}{l l':List Fr}{t:Nat}(hl:s.at_ < s.ths.length)(h:(IA s l).ths[t]? =some l'):(t=s.at_∧l'=l)∨(t≠s.at_∧s.ths[t]? =some l'):=by
 unfold IA at h;by_cases e:t=s.at_
 ·subst e;rw[List.getElem?_set_self hl]at h;exact .inl ⟨rfl,(Option.some.inj h).symm⟩
 ·rw[List.getElem?_set_ne (Ne.symm e)]at h;exact .inr ⟨e,h⟩
theorem Ll{s:Mdl}{l:List Fr}(h0:s.ths.getD 0 []≠[])(hl:l≠[]∨s.at_≠0):(IA s l).ths.getD 0 []≠[]:=by
 unfold IA;rw[List.getD_eq_getElem?_getD,List.getElem?_set];split
 ·split
  ·rename_i e _;rcases hl with hl|hl
   ·exact hl
   ·exact absurd e hl
  ·rename_i e h1;rw[List.getD_eq_getElem?_getD,←e,List.getElem?_eq_none (Nat.le_of_not_lt h1)]at h0;exact absurd rfl h0
 ·rw[List.getD_eq_getElem?_getD]at h0;exact h0
theorem MOk.of{p:Prog}{s s':Mdl}(h:MOk p s)(h1:s'.ths=s.ths)(h2:s'.kind=0→s.kind=0∧s'.at_=s.at_):MOk p s' where
 len:=by rw[h1];exact h.len
 frs:=by rw[h1];exact h.frs
 zero:=fun e=>by rw[h1];exact h.zero (h2 e).1
 run:=fun e=>by
  obtain⟨e1,e2⟩:=h2 e;unfold thA;rw[h1,e2];exact h.run e1
theorem MOk.put{p:Prog}{s:Mdl}(h:MOk p s)(hk:s.kind=0){l:List Fr}(hl:l≠[])(h1:∀r∈l,FrOk p r)(h2:Kw p l)(h3:∀r,l.head? =some r→∃r0,(thA s).head? =some r0∧r.f=r0.f):MOk p (IA s l):=by
 obtain⟨ha,_⟩:=h.run hk;have e:=VN ha;refine⟨by unfold IA;rw[List.length_set];exact h.len,fun t l' ht=>?_,fun _=>Ll (h.zero hk) (.inl hl),fun _=>⟨by unfold IA;rw[List.length_set];exact ha,?_⟩⟩
 ·rcases NX ha ht with⟨rfl,rfl⟩|⟨_,ht⟩
  ·refine⟨h1,h2,fun r hr=>?_⟩;obtain⟨r0,hr0,e0⟩:=h3 r hr;rw[e0];exact(h.frs _ _ e).2.2 r0 hr0
  ·exact h.frs t l' ht
 ·have:thA (IA s l)=l:=by
   unfold thA IA;simp only;rw[List.getD_eq_getElem?_getD,List.getElem?_set_self ha];rfl
  rw[this];exact hl
theorem GG{s:Mdl}{t:Nat}:t∈DN s↔t < s.ths.length∧s.ths.getD t []≠[]:=by
 unfold DN;rw[List.mem_filter,List.mem_range];simp
theorem MOk.choose{p:Prog}{s:Mdl}(h1:s.ths.length=p.threads.length)(h2:∀(t:Nat) (l:List Fr),s.ths[t]? =some l→(∀r∈l,FrOk p r)∧Kw p l∧∀r,l.head? =some r→p.threads[t]? =some (r.f:Int))(h0:s.ths.getD 0 []≠[]):MOk p (Fa s):=by
 have hlt:0 < s.ths.length:=by
  rcases Nat.eq_zero_or_pos s.ths.length with e|e
  ·rw[List.getD_eq_getElem?_getD,List.getElem?_eq_none (by omega)]at h0;exact absurd rfl h0
  ·exact e
 have hm:0∈DN s:=GG.2 ⟨hlt,h0⟩;have hn:0 < (DN s).length:=List.length_pos_of_mem hm;have hi:=Nat.mod_lt (s.ch.headD 0).toNat hn;have hat:=GG.1 (List.getElem_mem hi);have e:(Fa s).at_=(DN s)[(s.ch.headD 0).toNat % (DN s).length]:=by
  show(DN s).getD _ 0=_;rw[List.getD_eq_getElem?_getD,List.getElem?_eq_getElem hi];rfl
 refine⟨h1,h2,fun _=>h0,fun _=>?_⟩;unfold thA;rw[e];exact hat
theorem Ka{p:Prog}(hp:ProgOk p){r:Fr}(hr:FrOk p r):FuncOk p (BS p r.f)∧InsOk p (BS p r.f) (Cu p r)∧(8≤(Cu p r).op↔r.i+1=(ON p r).length):=by
 have hf:BS p r.f∈p.funcs:=by
  unfold BS;rw[List.getD_eq_getElem?_getD,List.getElem?_eq_getElem hr.f];exact List.getElem_mem hr.f
 have hF:=hp.funcs _ hf;have hb:(BS p r.f).blocks.getD r.b default∈(BS p r.f).blocks:=by
  rw[List.getD_eq_getElem?_getD,List.getElem?_eq_getElem hr.b];exact List.getElem_mem hr.b
 obtain⟨_,h2,h3⟩:=hF.ins _ hb;have hx:(ON p r)[r.i]? =some (Cu p r):=by
  unfold Cu;rw[List.getD_eq_getElem?_getD,List.getElem?_eq_getElem hr.i];rfl
 exact⟨hF,h2 _ (List.mem_of_getElem? hx),h3 _ _ hx⟩
theorem LM{p:Prog}(hp:ProgOk p){k:Nat}(hk:k < p.funcs.length):FuncOk p (BS p k):=hp.funcs _ (by
 unfold BS;rw[List.getD_eq_getElem?_getD,List.getElem?_eq_getElem hk];exact List.getElem_mem hk)
theorem Aky{p:Prog}(hp:ProgOk p){k:Nat}(hk:k < p.funcs.length){args:List Int}(ha:(args.length:Int)≤(BS p k).regs):FrOk p (newFr p k args):=by
 have hF:=LM hp hk;have hb:0 < (BS p k).blocks.length:=List.length_pos_iff.2 hF.blocks;have hm:(BS p k).blocks.getD 0 default∈(BS p k).blocks:=by
  rw[List.getD_eq_getElem?_getD,List.getElem?_eq_getElem hb];exact List.getElem_mem hb
 refine⟨hk,hb,List.length_pos_iff.2 (hF.ins _ hm).1,?_⟩;show(args.take (BS p k).regs.toNat++List.replicate ((BS p k).regs.toNat - args.length) 0).length=(BS p k).regs.toNat;rw[List.length_append,List.length_take,List.length_replicate];omega
theorem MOk.one{dw:Int→Int→Int→Option Int}{p:Prog}(hp:ProgOk p){s:Mdl}(h:MOk p s)(hk:s.kind=0):MOk p (PE dw p s):=by
 obtain⟨ha,hne⟩:=h.run hk;obtain⟨hfr,hch,hhd⟩:=h.frs _ _ (VN ha);obtain⟨l0,r,hl⟩:∃l0 r,thA s=l0++[r]:=⟨_,_,(List.dropLast_concat_getLast hne).symm⟩
 have htop:QT s=r:=by
  unfold QT;rw[hl];simp
 have hdl:(thA s).dropLast=l0:=by rw[hl];simp
 rw[hl]at hfr hch;have hr:=hfr r (by simp);obtain⟨hF,hx,hend⟩:=Ka hp hr;have hhead:∀(r':Fr) (m:List Fr),r'.f=r.f→∀q,(l0++r'::m).head? =some q→∃r0,(thA s).head? =some r0∧q.f=r0.f:=fun r' m e q hq=>by
  rw[hl];cases l0 with
  |nil=>
   simp only[List.nil_append,List.head?_cons,Option.some.injEq]at hq;exact⟨r,rfl,by rw[←hq,e]⟩
  |cons a l=>
   simp only[List.cons_append,List.head?_cons,Option.some.injEq]at hq;exact⟨a,rfl,by rw[←hq]⟩
 have hset:∀r':Fr,FrOk p r'→r'.f=r.f→MOk p (De s r'):=fun r' h1 h2=>by
  unfold De;rw[hdl];refine h.put hk (by simp) (fun q hq=>?_) (JQ hch h2) (hhead r' [] h2);rcases List.mem_append.1 hq with hq|hq
  ·exact hfr q (by simp[hq])
  ·rw[List.mem_singleton.1 hq];exact h1
 have hnx:(Cu p r).op < 8→∀l:List Int,l.length=r.regs.length→MOk p (De s (nextF r l)):=fun h8 l hll=>hset _ ⟨hr.f,hr.b,by
  have:=hr.i;show r.i+1 < (ON p r).length;have h1:¬r.i+1=(ON p r).length:=fun e=>by have:=hend.2 e;omega
  omega,by show l.length=_;rw[hll];exact hr.regs⟩ rfl
 unfold PE;rw[htop];generalize hX:Cu p r=x at hx hend hnx⊢;unfold Q7;by_cases e0:x.op=0
 ·rw[if_pos e0];exact hnx (by omega) _ (by simp)
 rw[if_neg e0];by_cases e1:x.op=1
 ·rw[if_pos e1];cases dw x.n (regA r x.a) (regA r x.b)with
  |some w=>exact hnx (by omega) _ (by simp)
  |none=>exact h.of rfl fun e=>by cases e
 rw[if_neg e1];by_cases e2:x.op=2
 ·rw[if_pos e2];exact hnx (by omega) _ (by simp)
 rw[if_neg e2];by_cases e3:x.op=3
 ·rw[if_pos e3];by_cases hh:(regA r x.a).toNat < s.heap.length
  ·rw[if_pos hh];exact hnx (by omega) _ (by simp)
  ·rw[if_neg hh];exact h.of rfl fun e=>by cases e
 rw[if_neg e3];by_cases e4:x.op=4
 ·rw[if_pos e4];by_cases hh:(regA r x.a).toNat < s.heap.length
  ·rw[if_pos hh];exact(hnx (by omega) r.regs rfl).of rfl fun e=>⟨e,rfl⟩
  ·rw[if_neg hh];exact h.of rfl fun e=>by cases e
 rw[if_neg e4];by_cases h5:x.op=5
 ·rw[if_pos h5];obtain⟨c1,c2,c3⟩:=hx.call h5;have hG:=LM hp c2;rw[hl,List.append_assoc];refine h.put hk (by simp) (fun q hq=>?_) (Kw.push hch (by rw[hX];exact h5) (by rw[hX];show x.f=((x.f.toNat:Nat):Int);omega)) (hhead r _ rfl);rcases List.mem_append.1 hq with hq|hq
  ·exact hfr q (by simp[hq])
  ·rcases List.mem_cons.1 hq with rfl|hq
   ·exact hr
   ·rw[List.mem_singleton.1 hq];exact Aky hp c2 (by rw[List.length_map,c3];exact hG.args.2)
 rw[if_neg h5];by_cases e6:x.op=6
 ·rw[if_pos e6];exact(hnx (by omega) r.regs rfl).of rfl fun e=>⟨e,rfl⟩
 rw[if_neg e6];by_cases e7:x.op=7
 ·rw[if_pos e7];have hm:=hnx (by omega) r.regs rfl;exact MOk.choose hm.len hm.frs (hm.zero hk)
 rw[if_neg e7];have hgo:∀k:Nat,k < (BS p r.f).blocks.length→FrOk p ⟨r.f,k,0,r.regs⟩:=fun k hk=>⟨hr.f,hk,by
  have hm:(BS p r.f).blocks.getD k default∈(BS p r.f).blocks:=by
   rw[List.getD_eq_getElem?_getD,List.getElem?_eq_getElem hk];exact List.getElem_mem hk
  exact List.length_pos_iff.2 (hF.ins _ hm).1,hr.regs⟩
 by_cases h8:x.op=8
 ·rw[if_pos h8];exact hset _ (hgo _ (hx.l1 (.inl h8)).2) rfl
 rw[if_neg h8];by_cases h9:x.op=9
 ·rw[if_pos h9];refine hset _ (hgo _ ?_) rfl;by_cases hz:regA r x.a=0
  ·rw[if_pos hz];exact(hx.l2 h9).2
  ·rw[if_neg hz];exact(hx.l1 (.inr h9)).2
 rw[if_neg h9];rw[hdl];cases hup:l0.getLast? with
 |some up=>
  obtain⟨l1,rfl⟩:∃l1,l0=l1++[up]:=by
   obtain⟨l1,e⟩:=List.getLast?_eq_some_iff.1 hup;exact⟨l1,e⟩
  have hc:=Jh (l:=l1) (r:=up) (u:=r) (m:=[]) (by simpa using hch);have hu:=hfr up (by simp);obtain⟨_,_,he⟩:=Ka hp hu;rw[List.dropLast_concat];refine h.put hk (by simp) (fun q hq=>?_) (JQ (r:=up) (Ny (m:=[r]) hch) rfl) fun q hq=>?_
  ·rcases List.mem_append.1 hq with hq|hq
   ·exact hfr q (by simp[hq])
   ·rw[List.mem_singleton.1 hq];refine⟨hu.f,hu.b,?_,by rw[←hu.regs];simp⟩;have h1:¬up.i+1=(ON p up).length:=fun e=>by have:=he.2 e;omega
    have h2:=hu.i;show up.i+1 < (ON p up).length;omega
  ·rw[hl];cases l1 with
   |nil=>
    simp only[List.nil_append,List.head?_cons,Option.some.injEq]at hq;exact⟨up,rfl,by rw[←hq]⟩
   |cons a l=>
    simp only[List.cons_append,List.head?_cons,Option.some.injEq]at hq;exact⟨a,rfl,by rw[←hq]⟩
 |none=>
  have hg:∀(t:Nat) (l:List Fr),(IA s []).ths[t]? =some l→(∀r∈l,FrOk p r)∧Kw p l∧∀r,l.head? =some r→p.threads[t]? =some (r.f:Int):=fun t l ht=>by
   rcases NX ha ht with⟨_,rfl⟩|⟨_,ht⟩
   ·exact⟨fun _ hq=>(by cases hq),trivial,fun _ hq=>by cases hq⟩
   ·exact h.frs t l ht
  have hlen:(IA s []).ths.length=p.threads.length:=by
   unfold IA;rw[List.length_set];exact h.len
  show MOk p (if s.at_=0 then _ else _);by_cases h0:s.at_=0
  ·rw[if_pos h0];exact⟨hlen,hg,fun e=>(by cases e),fun e=>by cases e⟩
  ·rw[if_neg h0];exact MOk.choose hlen hg (Ll (h.zero hk) (.inr h0))
end Mu
end
section
namespace Mu
open Go Go.RowKit
section
variable{P:Program}{C:Ctx}
theorem wRK{l:List Oper}{y:Code}{id:Nat}{Q:Exit→St→Prop}{s:St}(hx:∀K:St→Prop,(∀s',Awp P C y Q s'→K s')→Ck P C l.toArray K l s):Awp P C (.seq (.region id l.toArray false) y) Q s:=Ac fun _ hK=>Awp.region (hx _ hK)
end
end Mu
end
section
namespace Mu
open Go Go.RowKit Go.ChangeShapes Go.WideShapes
section
variable{P:Program}{C:Ctx}{t:List AV}{h:List ABlk}{o:Oper}
def Mx(P:Program)(ty:TypeId):Option (Nat×Nat):=
 match P.underlying ty with
 |some (.array n e)=>(P.info? e).map fun i=>(n,i.size)
 |_=>none
theorem Gv{ty:TypeId}{b off n sz k:Nat}{ik:IntKind}{w:World}(hs:Mx P ty=some (n,sz))(hk:k < n):(Instr.indexAt ty (.pointer (some ⟨b,off,none⟩)) (.int ik (k:Int))).run P w= .ok (.pointer (some ⟨b,off+k * sz,none⟩)) w:=by
 unfold Mx at hs;split at hs <;> try(cases hs;done)
 rename_i n' e h1;cases h2:P.info? e with
 |none=>rw[h2]at hs;cases hs
 |some i=>
  rw[h2]at hs;simp only[Option.map_some,Option.some.injEq,Prod.mk.injEq]at hs;obtain⟨rfl,rfl⟩:=hs;have h3:(0:Int)≤(k:Int)∧(k:Int) < (n':Int):=by omega
  simp[Instr.indexAt,asIntOf,underlying,h1,Instr.sureAddr,Go.sizeOf,typeInfo,h2,add_plain,hk]
theorem BE{ty:TypeId}{x y:Operand}{ik:IntKind}{i off n k:Nat}{cells:List AV}(hs:Mx P ty=some (n,1))(ho:o.op= .indexAddr ty x y)(hx:evA t x= .ptr i off)(hi:h[i]? =some (.box cells))(hy:evA t y= .lit (.int ik (k:Int)))(hk:k < n):Av P C t h o (.ptr i (off+k)):=
 Ap fun S ψ w ρ H hρ=>by
  have h1:=hρ x (by simp[ho,Op.operands]);have h2:=hρ y (by simp[ho,Op.operands]);rw[hx]at h1;rw[hy]at h2;unfold AV.rel at h1 h2;obtain⟨g,h3,h4⟩:=h1.2 (by rw[hi];rfl);have hr:=Gv (P:=P) (w:=w) (b:=g) (off:=off) (ik:=ik) hs hk;refine⟨.pointer (some ⟨g,off+k * 1,none⟩),by simp[execOp,ho,h4,h2,hr],?_⟩;unfold AV.rel;exact⟨h1.1,fun _=>⟨g,h3,by rw[Nat.mul_one]⟩⟩
def Es:List AV→List (Nat×AV)→Option (List AV)
 |cs,[]=>some cs
 |cs,(j,x)::ps=>if j < cs.length then Es (cs.set j x) ps else none
theorem Te{w:World}{S:Nat→Prop}{h:List ABlk}{ψ:Nat→Value}:∀(ps:List (Nat×AV)) (cs rs:List AV) (vs:List (Nat×Value)) (us:List Value),Es cs ps=some rs→Ad w S h ψ cs us→
 vs.map (·.1)=ps.map (·.1)→(∀(j:Nat) (p:Nat×AV) (v:Nat×Value),ps[j]? =some p→vs[j]? =some v→AV.rel w S h ψ p.2 v.2∧v.2.oneCell'=true)→
 ∃us',Instr.fill (fun i=>some (i * 1,1)) us.toArray vs=some us'.toArray∧Ad w S h ψ rs us'
 | [],cs,rs,vs,us,hp,hr,hv,_=>by
  cases hp;have:vs= []:=by simpa using hv
  subst this;exact⟨us,rfl,hr⟩
 |(j,x)::ps,cs,rs,vs,us,hp,hr,hv,hrel=>by
  cases vs with
  |nil=>simp at hv
  |cons v vs=>
   simp only[List.map_cons,List.cons.injEq]at hv;obtain⟨hv1,hv2⟩:=hv;unfold Es at hp;split at hp <;> try(cases hp;done)
   rename_i hoff;obtain⟨h1,h2⟩:=hrel 0 _ _ rfl rfl;have hul:=AW hr;obtain⟨us',h3,h4⟩:=Te ps (cs.set j x) rs vs (us.set j v.2) hp (DE hr j h1) hv2 fun j p v hp hv=>hrel (j+1) p v (by simpa using hp) (by simpa using hv)
   refine⟨us',?_,h4⟩;obtain⟨i,v⟩:=v;dsimp only at hv1 h1 h2 h3;subst hv1;unfold Instr.fill;simp only[Nat.mul_one,CM h2];have hc:¬((decide ((#[v]:Array Value).size≠1)||decide (i+(#[v]:Array Value).size > us.toArray.size))=true):=by
    simp;omega
   rw[if_neg hc];simpa using h3
theorem Nw{ty:TypeId}{parts:Array (Nat×Operand)}{zs:List Value}{n:Nat}{rs:List AV}(ho:o.op= .build ty parts)(hz:Bj P ty=some zs)(hs:Mx P ty=some (n,1))
 (hr:Es (zs.map .lit) (parts.toList.map fun p=>(p.1,evA t p.2))=some rs) (h1:(parts.toList.all fun p=>Us (evA t p.2))=true):Av P C t h o (.agg rs):=
 Ap fun S ψ w ρ H hρ=>by
  unfold Bj at hz;obtain⟨z,hz1,rfl⟩:=Option.map_eq_some_iff.1 hz;obtain⟨i,hi,hz2⟩:=Option.bind_eq_some_iff.1 hz1;unfold Mx at hs;split at hs <;> try(cases hs;done)
  rename_i n' e hu;cases h2:P.info? e with
  |none=>rw[h2]at hs;cases hs
  |some ie=>
   rw[h2]at hs;simp only[Option.map_some,Option.some.injEq,Prod.mk.injEq]at hs;obtain⟨rfl,he1⟩:=hs;have hmem:∀p∈parts.toList,AV.rel w S h ψ (evA t p.2) (ρ p.2):=fun p hp=>hρ p.2 (by rw[ho];exact List.mem_toArray.2 (List.mem_map.2 ⟨p,hp,rfl⟩))
   obtain⟨us',h3,h4⟩:=Te (w:=w) (S:=S) (h:=h) (ψ:=ψ) _ _ rs (parts.toList.map fun p=>(p.1,ρ p.2)) z.cells.toList hr (DK _) (by simp) fun j p v hp hv=>by
    rw[List.getElem?_map]at hp hv;obtain⟨q,hq,rfl⟩:=Option.map_eq_some_iff.1 hp;rw[hq]at hv;cases hv;have hqm:=List.mem_of_getElem? hq;exact⟨hmem q hqm,Jf (List.all_eq_true.1 h1 q hqm) C S ψ w _ H (hmem q hqm)⟩
   refine⟨.agg us'.toArray,?_,by unfold AV.rel;exact⟨us',rfl,h4⟩⟩;have hf:Instr.fill (fun i=>some (i * 1,1)) z.cells (parts.map fun p=>(p.1,ρ p.2)).toList=some us'.toArray:=by simpa using h3
   simp only[execOp,ho,Instr.build,zeroValue,typeInfo,underlying,Go.sizeOf,Sem.run_bind,run_program,Result.andThen_ok,hi,hz2,Sem.run_pure,hu,h2,he1,hf]
end
end Mu
end
section
namespace Mu
open Go Go.RowKit Go.Proofs
def M6(P:Program):List Field→Nat→List Bool→Bool
 | [],_,[]=>true
 |f::fs,j,b::bs=>f.name != "_" &&f.offset ==j&&(match P.underlying f.type with|some (.int _)=>b|some .bool=>!b|_=>false)&&M6 P fs (j+1) bs
 |_,_,_=>false
def T4:List Bool→List Value→List Value→Option Bool
 | [],[],[]=>some true
 |true::bs,.int k a::vs,.int k' b::ws=>if k=k' then(T4 bs vs ws).map fun r=>a ==b&&r else none
 |false::bs,.bool a::vs,.bool b::ws=>(T4 bs vs ws).map fun r=>a ==b&&r
 |_,_,_=>none
def Apm(P:Program)(ty:TypeId)(bs:List Bool):Bool:=
 (match P.underlying ty with
  |some (.struct fs)=>M6 P fs.toList 0 bs
  |_=>false)&&!P.stoodInHeld ty&&!P.eqGuardType P.depth ty
section
variable{P:Program}{w:World}
theorem Gu{e:TypeId}{k:IntKind}{xs:Array Value}{off:Nat}{v:Value}(he:P.underlying e=some (.int k))(hx:xs[off]? =some v):(part e xs off).run P w= .ok v w:=by
 simp[part,isAgg,run_underlying he,hx]
theorem J1{e:TypeId}{xs:Array Value}{off:Nat}{v:Value}(he:P.underlying e=some .bool)(hx:xs[off]? =some v):(part e xs off).run P w= .ok v w:=by
 simp[part,isAgg,run_underlying he,hx]
theorem V4{b:Bool}{bs:List Bool}{vs ws:List Value}{r:Bool}(h:T4 (b::bs) vs ws=some r):
 (∃k a c vs' ws' r',b=true∧vs= .int k a::vs'∧ws= .int k c::ws'∧T4 bs vs' ws'=some r'∧r=(a ==c&&r'))∨
 (∃a c vs' ws' r',b=false∧vs= .bool a::vs'∧ws= .bool c::ws'∧T4 bs vs' ws'=some r'∧r=(a ==c&&r')):=by
 cases vs with
 |nil=>cases b <;> simp[T4]at h
 |cons v vs=>
  cases ws with
  |nil=>cases b <;> cases v <;> simp[T4]at h
  |cons u ws=>
   cases b <;> cases v <;> cases u <;> simp only[T4,reduceCtorEq]at h
   ·obtain⟨r',hr',rfl⟩:=Option.map_eq_some_iff.1 h;exact .inr ⟨_,_,_,_,r',rfl,rfl,rfl,hr',rfl⟩
   ·split at h
    ·rename_i hk;subst hk;obtain⟨r',hr',rfl⟩:=Option.map_eq_some_iff.1 h;exact .inl ⟨_,_,_,_,_,r',rfl,rfl,rfl,hr',rfl⟩
    ·cases h
theorem NP{d:Nat}{xs ys:Array Value}:∀(fs:List Field) (j:Nat) (bs:List Bool) (vs ws:List Value) (r:Bool),M6 P fs j bs=true→T4 bs vs ws=some r→(∀i,xs[j+i]? =vs[i]?)→(∀i,ys[j+i]? =ws[i]?)→(Op.eqFields (d+1) xs ys fs).run P w= .ok r w
 | [],j,bs,vs,ws,r,h,hr,hx,hy=>by
  cases bs with
  |nil=>
   cases vs <;> cases ws <;> simp[T4]at hr
   subst hr;rfl
  |cons b bs=>simp[M6]at h
 |f::fs,j,bs,vs,ws,r,h,hr,hx,hy=>by
  cases bs with
  |nil=>simp[M6]at h
  |cons b bs=>
   simp only[M6,Bool.and_eq_true,bne_iff_ne,ne_eq,beq_iff_eq]at h;obtain⟨⟨⟨hn,ho⟩,ht⟩,hrest⟩:=h;have shift:∀{zs:Array Value} {u:Value} {us:List Value},(∀i,zs[j+i]? =(u::us)[i]?)→zs[f.offset]? =some u∧∀i,zs[j+1+i]? =us[i]?:=fun hz=>by
    refine⟨by rw[ho];simpa using hz 0,fun i=>?_⟩;have:=hz (i+1);rw[List.getElem?_cons_succ]at this;rw[←this];congr 1;omega
   rcases V4 hr with⟨k,a,c,vs',ws',r',rfl,rfl,rfl,hr',rfl⟩|⟨a,c,vs',ws',r',rfl,rfl,rfl,hr',rfl⟩
   ·obtain⟨hx0,hx1⟩:=shift hx;obtain⟨hy0,hy1⟩:=shift hy;have ih:=NP (d:=d) (xs:=xs) (ys:=ys) fs (j+1) bs vs' ws' r' hrest hr' hx1 hy1;cases hu:P.underlying f.type with
    |none=>rw[hu]at ht;cases ht
    |some td=>
     rw[hu]at ht;cases td <;> simp at ht
     rename_i ik;have q:(Op.equalIn (d+1) f.type (.int k a) (.int k c)).run P w= .ok (a ==c) w:=run_equalIn_int (P:=P) w d f.type k ik a c hu;simp only[Op.eqFields,hn,ne_eq,not_false_eq_true,if_true,Sem.run_bind];rw[Gu hu hx0,Result.andThen_ok,Gu hu hy0,Result.andThen_ok,q,Result.andThen_ok];cases(a ==c)
     ·rfl
     ·simpa using ih
   ·obtain⟨hx0,hx1⟩:=shift hx;obtain⟨hy0,hy1⟩:=shift hy;have ih:=NP (d:=d) (xs:=xs) (ys:=ys) fs (j+1) bs vs' ws' r' hrest hr' hx1 hy1;cases hu:P.underlying f.type with
    |none=>rw[hu]at ht;cases ht
    |some td=>
     rw[hu]at ht;cases td <;> simp at ht
     have q:(Op.equalIn (d+1) f.type (.bool a) (.bool c)).run P w= .ok (a ==c) w:=run_equalIn_bool' (P:=P) w d f.type a c hu;simp only[Op.eqFields,hn,ne_eq,not_false_eq_true,if_true,Sem.run_bind];rw[J1 hu hx0,Result.andThen_ok,J1 hu hy0,Result.andThen_ok,q,Result.andThen_ok];cases(a ==c)
     ·rfl
     ·simpa using ih
theorem Pg{ty:TypeId}{bs:List Bool}{vs ws:List Value}{r:Bool}(h:Apm P ty bs=true)(hr:T4 bs vs ws=some r):(Op.equalIn 10000 ty (.agg vs.toArray) (.agg ws.toArray)).run P w= .ok r w∧P.eqGuardType P.depth ty=false:=by
 unfold Apm at h;simp only[Bool.and_eq_true,Bool.not_eq_true']at h;obtain⟨⟨h1,h2⟩,h3⟩:=h;refine⟨?_,h3⟩;split at h1
 ·rename_i fs hfs;have hF:P.fieldsOf ty=fs:=by unfold Program.fieldsOf;rw[hfs]
  rw[show(10000:Nat)=9999+1 from rfl,run_equalIn_struct w 9999 ty _ _ (by rw[hF];exact hfs) h2,hF];exact NP (d:=9998) fs.toList 0 bs vs ws r h1 hr (fun i=>by simp) (fun i=>by simp)
 ·cases h1
end
theorem Gw{w:World}{S:Nat→Prop}{h:List ABlk}{ψ:Nat→Value}:∀(vs:List Value) {us:List Value},Ad w S h ψ (vs.map .lit) us→us=vs
 | [],us,H=>by
  unfold Ad at H;exact H
 |v::vs,us,H=>by
  unfold List.map Ad at H;obtain⟨u,us',rfl,h1,h2⟩:=H;unfold AV.rel at h1;rw[h1,Gw vs h2]
section
variable{P:Program}{C:Ctx}{t:List AV}{h:List ABlk}{o:Oper}
theorem Sj{xt yt:TypeId}{x y:Operand}{bs:List Bool}{vs ws:List Value}{r:Bool}(hT:Apm P xt bs=true)(ho:o.op= .binOp .eql xt x y yt)(hx:evA t x= .agg (vs.map .lit))(hy:evA t y= .agg (ws.map .lit))(hr:T4 bs vs ws=some r):Av P C t h o (.lit (.bool r)):=
 Ap fun S ψ w ρ _ hρ=>by
  have h1:=hρ x (by simp[ho,Op.operands]);have h2:=hρ y (by simp[ho,Op.operands]);rw[hx]at h1;rw[hy]at h2;unfold AV.rel at h1 h2;obtain⟨us,h1,h3⟩:=h1;obtain⟨us',h2,h4⟩:=h2;rw[Gw _ h3]at h1;rw[Gw _ h4]at h2;obtain⟨e1,e2⟩:=Pg (w:=w) hT hr;refine⟨_,?_,by unfold AV.rel;rfl⟩;simp only[execOp,ho,h1,h2,Sem.run_bind];rw[run_eqGuard_agg w .eql xt x y _ _ e2,Result.andThen_ok,run_eql_struct,e1,Result.andThen_ok];rfl
end
end Mu
end
section
namespace Mu
open Go Go.RowKit Go.Proofs Go.ChangeShapes Go.WideShapes
section
variable{P:Program}{C:Ctx}{t:List AV}{h:List ABlk}{o:Oper}
def Apq(k:IntKind)(ds:List Int):List AV:=ds.map fun d=>.lit (.int k d)
theorem Pk{w:World}{S:Nat→Prop}{h:List ABlk}{ψ:Nat→Value}{k:IntKind}:∀{ds:List Int} {cs:List Value},Ad w S h ψ (Apq k ds) cs→cs=ds.map (Value.int k)
 | [],cs,H=>by unfold Apq at H;simp only[List.map_nil,Ad]at H;simpa using H
 |d::ds,cs,H=>by
  unfold Apq at H;simp only[List.map_cons,Ad,AV.rel]at H;obtain⟨v,vs,rfl,rfl,h2⟩:=H;rw[List.map_cons,Pk (ds:=ds) h2]
def Are(P:Program)(ty:TypeId):Option IntKind:=
 match P.underlying ty with
 |some (.array _ e)=>match P.underlying e with|some (.int k)=>some k|_=>none
 |_=>none
theorem Vj{ty:TypeId}{x y:Operand}{k ik:IntKind}{ds:List Int}{z:Int}{n:Nat}(ho:o.op= .index ty x y)(ha:Mx P ty=some (n,1))(hn:ds.length=n)(hk:Are P ty=some k)(hx:evA t x= .agg (Apq k ds))(hy:evA t y= .lit (.int ik z))(hz:EJ ds z=true):Av P C t h o (.lit (.int k (ixD ds z))):=
 Ap fun S ψ w ρ H hρ=>by
  have h1:=hρ x (by simp[ho,Op.operands]);have h2:=hρ y (by simp[ho,Op.operands]);rw[hx]at h1;rw[hy]at h2;unfold AV.rel at h1 h2;obtain⟨cs,e1,hl⟩:=h1;have ecs:=Pk hl;subst ecs;subst hn;obtain⟨h0,hlt⟩:=B8.1 hz;have hg:=BJ hz;unfold Mx at ha;split at ha <;> try(cases ha;done)
  rename_i n' e hu;cases hi:P.info? e with
  |none=>rw[hi]at ha;cases ha
  |some i=>
   rw[hi]at ha;simp only[Option.map_some,Option.some.injEq,Prod.mk.injEq]at ha;obtain⟨rfl,he1⟩:=ha;have hb:(0:Int)≤z∧z < (ds.length:Int):=by omega
   refine⟨.int k (ixD ds z),?_,by unfold AV.rel;rfl⟩;have hke:P.underlying e=some (.int k):=by
    unfold Are at hk;rw[hu]at hk;simp only at hk;split at hk
    ·rename_i q he;cases hk;exact he
    ·cases hk
   have hp:=Gu (P:=P) (w:=w) (e:=e) (k:=k) (xs:=(ds.map (Value.int k)).toArray) (off:=z.toNat) (v:=.int k (ixD ds z)) hke (by simp[hg]);simp[execOp,ho,e1,h2,Instr.index,asIntOf,underlying,hu,hb,Go.sizeOf,typeInfo,hi,he1,hp]
theorem OE{α:Type}{T:Ty α}{enc:α→List AV}{x:α}(hp:∀w S cs ψ,Ad w S h ψ (enc x) cs→T.RS w S cs x):Fit h T (.agg (enc x)) x:=fun C S ψ w v H hv=>by
 unfold AV.rel at hv;obtain⟨cs,rfl,hl⟩:=hv;exact hp w S cs ψ hl
theorem Mf{xt yt:TypeId}{x y:Operand}{bs:List Bool}{vs ws:List Value}{r:Bool}(hT:Apm P xt bs=true)(ho:o.op= .binOp .neq xt x y yt)(hx:evA t x= .agg (vs.map .lit))(hy:evA t y= .agg (ws.map .lit))(hr:T4 bs vs ws=some r):Av P C t h o (.lit (.bool (!r))):=
 Ap fun S ψ w ρ _ hρ=>by
  have h1:=hρ x (by simp[ho,Op.operands]);have h2:=hρ y (by simp[ho,Op.operands]);rw[hx]at h1;rw[hy]at h2;unfold AV.rel at h1 h2;obtain⟨us,h1,h3⟩:=h1;obtain⟨us',h2,h4⟩:=h2;rw[Gw _ h3]at h1;rw[Gw _ h4]at h2;obtain⟨e1,e2⟩:=Pg (w:=w) hT hr;refine⟨_,?_,by unfold AV.rel;rfl⟩;simp only[execOp,ho,h1,h2,Sem.run_bind];rw[run_eqGuard_agg w .neq xt x y _ _ e2,Result.andThen_ok,run_neq_struct,e1,Result.andThen_ok];rfl
end
end Mu
end
