/-
  Own texts laid together, part 3: MuDrawG, MuLiftG, MuRaw, MuRawB, MuRowsO, MuFlatR, MuTokM, MuFlatT, MuDrawH, MuFlatO, MuFlatN, MuFlatC, MuFlatD, MuFlatE, MuFlatH, MuFlatF, MuFlatG, MuCloneN, MuLend, MuThru, MuMeet, MuShLift, MuSure, MuName, MuTwice.
  Conditions: as each part says.
-/
import Derived.Test.YtlamjpneghjbgaaGreatSm2
import Derived.Deep.AppendSrc
import Derived.Lib.SliceRun
import Derived.Laws.Pointers
import Derived.Laws.CopyRow
set_option maxRecDepth 100000
set_option maxHeartbeats 4000000
set_option linter.unusedSimpArgs false
set_option linter.unusedVariables false
section
namespace Mu
open Go Go.RowKit
section
variable{P:Program}{C:Ctx}
def upd(b:Nat→Bool)(i:Nat):Nat→Bool:=fun j=>if j=i then true else b j
def U1(b:Nat→Bool)(o:Oper):Prop:=∀(k:Nat) (e:Go.Edge),o.after[k]? =some e→Region.binds .any e=true→b e.on=true
def XP(ops:Array Oper)(b:Nat→Bool):Prop:=∀(j:Nat) (o:Oper),ops[j]? =some o→b j=true→U1 b o
def gS(P:Program)(C:Ctx)(F:(Nat→Bool)→St)(ops:Array Oper):Nat→List Oper→Prop
 |_,[]=>True
 |k,o::rest=>(∀b,b k=false→U1 b o→XP ops b→AOp P C o (F b) fun s=>St.le C s (F (upd b k)))∧gS P C F ops (k+1) rest
theorem Ab7{F:(Nat→Bool)→St}{ops:Array Oper}:∀{l:List Oper} {k j:Nat} {o:Oper},gS P C F ops k l→l[j]? =some o→∀b,b (k+j)=false→U1 b o→XP ops b→AOp P C o (F b) fun s=>St.le C s (F (upd b (k+j)))
 | [],_,_,_,_,hj=>by simp at hj
 |o'::l,k,0,o,h,hj=>by
  simp at hj;subst hj;exact h.1
 |o'::l,k,j+1,o,h,hj=>by
  have:=Ab7 (l:=l) (k:=k+1) (j:=j) h.2 (by simpa using hj);rwa [show k+1+j=k+(j+1)by omega]at this
def Aot(ops:Array Oper):Bool:=(List.range ops.size).all fun i=>match ops[i]? with
 |none=>true
 |some o=>o.guard.isNone&&o.after.all fun e=>!Region.binds .any e||decide (e.on < i)
theorem Oi{ops:Array Oper}(hf:Aot ops=true){i:Nat}{o:Oper}(ho:ops[i]? =some o):o.guard=none∧∀e∈o.after,Region.binds .any e=true→e.on < i:=by
 have h1:=List.all_eq_true.1 hf i (List.mem_range.2 (Array.getElem?_eq_some_iff.1 ho).1);simp only[ho,Bool.and_eq_true]at h1;refine⟨by simpa using h1.1,fun e he hb=>?_⟩;have h2:=Array.all_eq_true_iff_forall_mem.1 h1.2 e he;rw[hb]at h2;simpa using h2
theorem I4{b:Nat→Bool}{i:Nat}{o:Oper}(h:U1 b o):U1 (upd b i) o:=fun k e he hb=>by
 unfold upd;split
 ·rfl
 ·exact h k e he hb
theorem Ab5{listed:Array Bool}{j:Nat}(h:listed.getD j false=true):listed.getD j true=true:=by
 rcases Nat.lt_or_ge j listed.size with h'|h'
 ·simp[h']at h⊢;exact h
 ·simp[Array.getElem?_eq_none h']at h
theorem NF{listed:Array Bool}{i:Nat}(hi:i < listed.size):(fun j=>(listed.setIfInBounds i true).getD j true)=upd (fun j=>listed.getD j true) i:=by
 funext j;unfold upd;by_cases h:j=i
 ·subst h;rw[if_pos rfl];simp[Array.getD_eq_getD_getElem?,hi]
 ·rw[if_neg h,getD_set_ne true (Ne.symm h)]
theorem TO{ops:Array Oper}{F:(Nat→Bool)→St}{Q':Exit→Act→World→Prop}(hf:Aot ops=true)
 (hs:∀(j:Nat) (o:Oper),ops[j]? =some o→∀b,b j=false→U1 b o→XP ops b→AOp P C o (F b) fun s=>St.le C s (F (upd b j)))
 (hQ:∀a w,(F fun _=>true).rel C a w→Q' .normal a w):
 ∀(f:Nat) (listed:Array Bool) (a:Act) (w:World),listed.size=ops.size→listed.toList.count false=f→XP ops (fun j=>listed.getD j true)→(F fun j=>listed.getD j true).rel C a w→wpAny P .any ops Q' f listed a w:=by
 intro f;induction f with
 |zero=>
  intro listed a w hsz hc hcl H;have hall:∀j,listed.getD j true=true:=fun j=>by
   rcases Nat.lt_or_ge j listed.size with h'|h'
   ·have hm:=List.count_eq_zero.1 hc;simp only[Array.getD_eq_getD_getElem?,Array.getElem?_eq_getElem h',Option.getD_some];rcases hx:listed[j]with _|_
    ·exact absurd (by rw[←hx];simp) hm
    ·rfl
   ·simp[Array.getD_eq_getD_getElem?,Array.getElem?_eq_none h']
  refine⟨List.eq_nil_iff_forall_not_mem.2 fun i hi=>?_,hQ a w ?_⟩
  ·have:=(mem_ready.1 hi).1;rw[hall i]at this;cases this
  ·have e:(fun j=>listed.getD j true)=fun _=>true:=funext hall
   rwa [e]at H
 |succ f ih=>
  intro listed a w hsz hc hcl H;refine⟨fun h0=>?_,fun i hi=>?_⟩
  ·exfalso;have hex:∃j,listed.getD j true=false:=by
    have hm:false∈listed.toList:=List.count_pos_iff.1 (by omega);obtain⟨j,hj,he⟩:=List.getElem_of_mem hm;exact⟨j,by simp only[Array.length_toList]at hj;simp only[Array.getElem_toList]at he;simp[Array.getD_eq_getD_getElem?,hj,he]⟩
   obtain⟨j,hj,hmin⟩:=F7 hex;have hjs:j < ops.size:=by
    rcases Nat.lt_or_ge j listed.size with h'|h'
    ·omega
    ·simp[Array.getElem?_eq_none h']at hj
   have hmem:j∈Region.ready .any ops listed:=mem_ready.2 ⟨hj,_,Array.getElem?_eq_getElem hjs,fun e he hb=>by
    have hlt:=(Oi hf (Array.getElem?_eq_getElem hjs)).2 e he hb;cases hx:listed.getD e.on false with
    |true=>rfl
    |false=>
     have hin:e.on < listed.size:=by omega
     have:=hmin e.on (getD_in hin hx);omega⟩
   rw[h0]at hmem;cases hmem
  ·obtain⟨hun,o,ho,hall⟩:=mem_ready.1 hi;have his:i < listed.size:=by rw[hsz];exact(Array.getElem?_eq_some_iff.1 ho).1
   obtain⟨hg,hfw⟩:=Oi hf ho;have haft:U1 (fun j=>listed.getD j true) o:=fun k e he hb=>Ab5 (hall e (Array.mem_of_getElem? he) hb)
   have hcnt:(listed.setIfInBounds i true).toList.count false=f:=by
    have hfalse:listed.toList[i]'(by simpa using his)=false:=by
     have:=hun;simp[Array.getD_eq_getD_getElem?,his]at this;simpa using this
    rw[Array.toList_setIfInBounds,List.count_set (by simpa using his),hfalse,hc];simp
   unfold wpOp;simp only[ho];have hw:Region.wanted o (yielded ops a.tmps)=true:=by unfold Region.wanted;rw[hg]
   rw[hw,if_pos rfl];refine .inl (Oper.wp_mono (fun a' w' ⟨s',hle,hr⟩=>?_) (hs i o ho _ hun haft hcl Q' a w H).2);refine ih _ a' w' (by simpa using hsz) hcnt ?_ ?_
   ·rw[NF his];intro j o' hj hbj;by_cases hji:j=i
    ·subst hji;rw[ho]at hj;cases hj;exact I4 haft
    ·exact I4 (hcl j o' hj (by unfold upd at hbj;rwa [if_neg hji]at hbj))
   ·rw[NF his];exact hle a' w' hr
theorem Yq{id n:Nat}{l:List Oper}{Q:Exit→St→Prop}(F:(Nat→Bool)→St)(hn:l.length=n)(hm:P.follows .mixedOrders=true)(hB:(Region.noSelect l.toArray&&GC l.toArray&&Aot l.toArray)=true)
 (hs:gS P C F l.toArray 0 l) (hQ:Q .normal (F fun _=>true)):Awp P C (.region id l.toArray true) Q (F fun j=>decide (n≤j)):=fun a w H=>by
 simp only[Bool.and_eq_true]at hB;obtain⟨⟨hsel,hnd⟩,hf⟩:=hB;refine Dw hm hnd ?_;have e0:(fun j=>(Array.replicate l.toArray.size false).getD j true)=fun j=>decide (n≤j):=by
  funext j;simp only[Array.getD_eq_getD_getElem?,Array.getElem?_replicate,List.size_toArray,hn];by_cases h:j < n
  ·rw[if_pos h,decide_eq_false (by omega)];rfl
  ·rw[if_neg h,decide_eq_true (by omega)];rfl
 refine TO (Q':=fun e a' w'=>e= .normal∧∃s',Q e s'∧s'.rel C a' w') hf (fun j o ho b h1 h2 h3=>?_) (fun a' w' h=>⟨rfl,_,hQ,h⟩) _ _ a _ (by simp) (by simp) ?_ ?_
 ·have:=Ab7 (l:=l) (k:=0) (j:=j) hs (by simpa using ho) b (by rwa [Nat.zero_add]) h2 h3;rwa [Nat.zero_add]at this
 ·intro j o ho hb;have hj:j < l.toArray.size:=(Array.getElem?_eq_some_iff.1 ho).1;have:(Array.replicate l.toArray.size false).getD j true=true:=hb;rw[Array.getD_eq_getD_getElem?,Array.getElem?_replicate,if_pos hj]at this;cases this
 ·rw[e0];obtain⟨hd,S,ψ,hh',hl⟩:=H;have hb:Below w.heap.size w {w with drawn:=w.drawn+1}:=⟨rfl,rfl,rfl,Nat.le_refl _,fun _ _=>rfl⟩
  exact⟨hd,S,ψ,hh'.grow hb (fun _ h=>h) (fun _ h=>.inl h) hh'.lt,Al (show Ext w S _ ψ {w with drawn:=w.drawn+1} S _ ψ from Ext.grow _ ψ (fun k hk=>rfl) fun _ h=>h) _ _ hl⟩
theorem Adi{p:Nat}:CQ p []=true:=rfl
theorem N6{p:Nat}{x:AV}{l:List AV}(hx:EH p x=true)(hl:CQ p l=true):CQ p (x::l)=true:=by unfold CQ;rw[hx,hl];rfl
theorem Arq{p:Nat}{c:Bool}{x y:AV}(hx:EH p x=true)(hy:EH p y=true):EH p (bif c then x else y)=true:=by cases c;exact hy;exact hx
theorem Arp{p:Nat}{c:Bool}{x y:AV}(hc:c=false)(hy:EH p y=true):EH p (bif c then x else y)=true:=by subst hc;exact hy
theorem Adj{p:Nat}:List.all [] (nrB p)=true:=rfl
theorem KI{p:Nat}{x:ABlk}{l:List ABlk}(hx:nrB p x=true)(hl:l.all (nrB p)=true):(x::l).all (nrB p)=true:=by rw[List.all_cons,hx,hl];rfl
theorem Ui{p:Nat}{c:Bool}{x y:ABlk}(hx:nrB p x=true)(hy:nrB p y=true):nrB p (bif c then x else y)=true:=by cases c;exact hy;exact hx
theorem Aa3{o:Oper}{t:List AV}{h:List ABlk}{elem:TypeId}{zs:List Value}{K:St→Prop}[ZC P elem zs](p:Nat)(ho:o.op= .alloc elem)(hp:h[p]? =some .dead)(hn:h.all (nrB p)=true)(hnt:CQ p t=true)(hK:K ⟨AJ t o.dst (.ptr p 0),h.set p (.box (zs.map .lit))⟩):AOp P C o ⟨t,h⟩ K:=by
 rintro Q' a w ⟨hd,S,ψ,hh',hl⟩;refine⟨fun c e=>(by rw[ho]at e;cases e),?_⟩;have hz:Bj P elem=some zs:=ZC.eq;unfold Bj at hz;obtain⟨z,hz1,rfl⟩:=Option.map_eq_some_iff.1 hz;obtain⟨ti,hti,hz2⟩:=Option.bind_eq_some_iff.1 hz1;have hrun:(execOp a.eval o).run P w= .ok (.value (.pointer (some ⟨w.heap.size,0,none⟩))) (w.alloc (.cells z.cells elem)):=by
  simp[execOp,ho,Instr.alloc,zeroValue,typeInfo,hti,hz2,Go.newVar,Go.newRow]
 unfold Oper.wp;rw[hrun];have hb:Below w.heap.size w (w.alloc (.cells z.cells elem)):=(Below.refl _ _).alloc (Nat.le_refl _) _;have hB:Ho C.N (w.alloc (.cells z.cells elem)) S (h.set p (.box (z.cells.toList.map .lit))) (Bk ψ p (.pointer (some ⟨w.heap.size,0,none⟩))) (.pointer (some ⟨w.heap.size,0,none⟩)) (.box (z.cells.toList.map .lit)):=
  ⟨w.heap.size,z.cells.toList,elem,rfl,fun hN=>by have:=hh'.nlt _ hN;have:=hh'.bel.size;omega,fun hS=>by have:=hh'.lt _ hS;omega,by simpa using heap_alloc_new w (.cells z.cells elem),DK _⟩
 have H1:=hh'.revive hp hn hb hB fun g hg=>by simp[ftp,BX]at hg;omega
 have hl1:=Al (Ext.grow h ψ (fun k hk=>hb.block k (hh'.lt k hk)) fun _ h=>h) _ _ hl;have hl2:=Di (b:=.box (z.cells.toList.map .lit)) (ψ':=Bk ψ p (.pointer (some ⟨w.heap.size,0,none⟩))) (fun i hi=>BH hi) _ _ hnt hl1;refine⟨_,hK,by rw[put_defers,hd];exact(Do (b':=.box (z.cells.toList.map .lit)) hp rfl).symm,S,_,H1,F0 hl2 o.dst ?_⟩;unfold AV.rel;exact⟨by simpa using(List.getElem?_eq_some_iff.1 hp).1,fun _=>⟨w.heap.size,Bi,rfl⟩⟩
theorem Vr{o:Oper}{t:List AV}{h:List ABlk}{ty:TypeId}{x y:Operand}{i off n:Nat}{v:AV}{cells new:List AV}{K:St→Prop}[SZ P ty n](ho:o.op= .store ty x y)(hx:evA t x= .ptr i off)(hi:h[i]? =some (.box cells))(hy:evA t y=v)(hp:OC h v new)(hs:n=new.length)(hle:off+new.length≤cells.length)
 (hK:K ⟨AJ t o.dst (.lit undef),h.set i (.box (cells.take off++new++cells.drop (off+new.length)))⟩):AOp P C o ⟨t,h⟩ K:=by
 subst hy;exact Dt ho hx hi hp hs hle hK
theorem Se{t:List AV}{h h':List ABlk}(k:Nat)(e:h++List.replicate k .dead=h'):St.le C ⟨t,h⟩ ⟨t,h'⟩:=by
 subst e;induction k with
 |zero=>simpa using St.le.refl
 |succ k ih=>
  refine ih.trans ?_;have:=Nl (C:=C) (t:=t) (h:=h++List.replicate k .dead);rwa [List.append_assoc,←List.replicate_succ']at this
theorem Ao4{b:Bool}(h:b=true)(x y:ABlk):(bif b then x else y)=x:=by subst h;rfl
theorem Ol{b:Bool}(h:b=false)(x y:ABlk):(bif b then x else y)=y:=by subst h;rfl
theorem Ib{F:(Nat→Bool)→St}{ops:Array Oper}{k:Nat}{o:Oper}{rest:List Oper}(h1:∀b,b k=false→U1 b o→XP ops b→AOp P C o (F b) fun s=>St.le C s (F (upd b k)))(h2:gS P C F ops (k+1) rest):gS P C F ops k (o::rest):=⟨h1,h2⟩
theorem Aoq{F:(Nat→Bool)→St}{ops:Array Oper}{k:Nat}:gS P C F ops k []:=trivial
theorem G2{ops:Array Oper}{b:Nat→Bool}(hc:XP ops b){i j k:Nat}{o:Oper}{e:Go.Edge}(hj:ops[j]? =some o)(hk:o.after[k]? =some e)(hb:Region.binds .any e=true)(he:e.on=i)(hi:b i=false):b j=false:=by
 cases h:b j with
 |false=>rfl
 |true=>
  have:=hc j o hj h k e hk hb;rw[he,hi]at this;cases this
end
end Mu
end
section
namespace Mu
open Go Go.RowKit Go.Proofs
section
variable{P:Program}{C:Ctx}
variable{t:List AV}{h:List ABlk}{o:Oper}
theorem Nq{x:Operand}{g off:Nat}(ho:o.op= .nilCheck x)(hx:evA t x= .lit (.pointer (some ⟨g,off,none⟩))):Av P C t h o (.lit (.pointer (some ⟨g,off,none⟩))):=
 Ap fun S ψ w ρ _ hρ=>by
  have h1:=hρ x (by simp[ho,Op.operands]);rw[hx]at h1;unfold AV.rel at h1;exact⟨.pointer (some ⟨g,off,none⟩),by simp[execOp,ho,h1],by unfold AV.rel;rfl⟩
end
section
variable{P:Program}{C:Ctx}{t:List AV}{h:List ABlk}{o:Oper}
end
theorem qVia{Q:Exit→St→Prop}{s:St}(s':St)(e:s=s')(h:Q .normal s'):Q .normal s:=by rw[e];exact h
theorem Arr{x y:AV}{l l':List AV}(h1:x=y)(h2:l=l'):x::l=y::l':=by rw[h1,h2]
theorem Yk{h:List ABlk}{α:Type}{T:Ty α}{x y:AV}{d:α}(e:x=y)(hf:Fit h T y d):Fit h T x d:=by rw[e];exact hf
section
variable{G:World→Prop}{P:Program}{f:FuncId}{fn:Go.Func}{c:Code}{args:List AV}{ι:Type}{R:Res}{Rs:ι→Res}{val:ι→Value}{t:Tmp}{n:Nat}
end
section
variable{G:World→Prop}{P:Program}{C:Ctx}{o:Oper}{t:List AV}{h:List ABlk}{ι:Type}{Rs:ι→Res}{val:ι→Value}
end
end Mu
end
section
namespace Mu
open Go Go.RowKit Go.ChangeShapes Go.WideShapes Go.Proofs
def Agy(g sz cap l m:Nat):Value:=.slice (if cap=l then some ⟨g,0,none⟩else some ⟨g,l * sz,none⟩) (m - l) (cap - l)
section
variable{P:Program}{C:Ctx}{t:List AV}{h:List ABlk}{o:Oper}{K:St→Prop}
theorem Sh{ty:TypeId}{x:Operand}{lo hi:Option Operand}{g n cap l m sz:Nat}[ES P ty sz](ho:o.op= .slice ty x lo hi none)(hx:evA t x= .lit (.slice (some ⟨g,0,none⟩) n cap))(hl:Agr t 0 lo l)(hm:Agr t n hi m)(h1:l≤m)(h2:m≤cap):
 Av P C t h o (.lit (Agy g sz cap l m)):=
 Ap fun S ψ w ρ H hρ=>by
  have hx':=hρ x (by rw[ho];simp[Op.operands]);have hlo:=hl.val (h:=h) (w:=w) (S:=S) (ψ:=ψ) (ρ:=ρ) fun y hy=>hρ y (by rw[ho,hy];simp[Op.operands])
  have hhi:=hm.val (h:=h) (w:=w) (S:=S) (ψ:=ψ) (ρ:=ρ) fun y hy=>hρ y (by rw[ho,hy];simp[Op.operands])
  rw[hx]at hx';unfold AV.rel at hx';have hr:=SK (P:=P) (w:=w) (a:=some ⟨g,0,none⟩) (len:=n) (cap:=cap) (ES.eq (P:=P) (ty:=ty) (n:=sz)) hlo hhi h1 h2;have e:(Value.slice (if cap=l then some ⟨g,0,none⟩else(some (⟨g,0,none⟩:Addr)).map (·.add (l * sz))) (m - l) (cap - l))=Agy g sz cap l m:=by
   unfold Agy;split <;> simp[add_plain]
  rw[e]at hr;refine⟨Agy g sz cap l m,by simp[execOp,ho,hx',hr],?_⟩;unfold AV.rel;rfl
theorem Si{ty:TypeId}{x:Operand}{hi:Option Operand}{g n cap m sz:Nat}[ES P ty sz](ho:o.op= .slice ty x none hi none)(hx:evA t x= .lit (.slice (some ⟨g,0,none⟩) n cap))(hm:Agr t n hi m)(h2:m≤cap):
 Av P C t h o (.lit (.slice (some ⟨g,0,none⟩) m cap)):=by
 have e:Agy g sz cap 0 m= .slice (some ⟨g,0,none⟩) m cap:=by
  unfold Agy;split <;> simp
 rw[←e];exact Sh ho hx rfl hm (Nat.zero_le _) h2
end
section
variable{P:Program}{C:Ctx}{t:List AV}{h:List ABlk}{c:Code}{Q:Exit→St→Prop}
end
section
variable{C:Ctx}{h:List ABlk}{S:Nat→Prop}{ψ:Nat→Value}{w:World}{t t':List AV}
end
section
variable{α0:Type}{P:Program}{C:Ctx}{t:List AV}{h:List ABlk}{o:Oper}{K:St→Prop}
def Agn(h:List ABlk)(x x':AV):Prop:=∀(C:Ctx) (S:Nat→Prop) (ψ:Nat→Value) (w:World) (v:Value),HRel C h S ψ w→AV.rel w S h ψ x v→AV.rel w (fun k=>k < w.heap.size) [] ψ0 x' v
inductive LendWs (h:List ABlk):List AV→List AV→Prop
 |nil:LendWs h [] []
 |cons {x x':AV} {l l':List AV} (hx:Agn h x x') (hl:LendWs h l l'):LendWs h (x::l) (x'::l')
theorem LendWs.rel{w:World}{S:Nat→Prop}{ψ:Nat→Value}(H:HRel C h S ψ w){l l':List AV}(hl:LendWs h l l'):∀{vs:List Value},Ad w S h ψ l vs→Ad w (fun k=>k < w.heap.size) [] ψ0 l' vs:=by
 induction hl with
 |nil=>intro vs hr;unfold Ad at hr⊢;exact hr
 |cons hx _ ih=>
  intro vs hr;unfold Ad at hr⊢;obtain⟨v,vs',e,h1,h2⟩:=hr;exact⟨v,vs',e,hx C S ψ w v H h1,ih h2⟩
theorem Agn.of{x x':AV}(hl:LendV h x x'):Agn h x x':=fun _ _ _ _ _ H hr=>LendV.rel H hl hr
theorem Agn.cl{x:AV}(hx:AV.cl x=true):Agn h x x:=.of (.cl hx)
theorem QQ{f:FuncId}{args:Array Operand}{tys:Array TypeId}{xs:List AV}{e:TypeId}{α:Type}{T:Ty α}{l:List α}
 (ho:o.op= .call {callee:=.value (.func f),args:=args,argTypes:=tys}) (hF:Agq P f xs e T l) (h0:0 < T.size) (hfl:∀w S S' cs d,T.RS w S cs d→T.RS w S' cs d) (hx:LendWs h (args.toList.map (evA t)) xs)
 (hK:K ⟨AJ t o.dst (.own h.length 0),h++[.row 0 e T l]⟩):AOp P C o ⟨t,h⟩ K:=by
 rintro Q' a w ⟨hd,S,ψ,H,hl⟩;refine⟨fun c e=>(by rw[ho]at e;cases e),?_⟩;have h2:Ad w S h ψ (args.toList.map (evA t)) (args.toList.map a.eval):=BY fun x _=>Ba hl x
 unfold Oper.wp;rw[CJ ho hF.1 a.eval w rfl];simp only[Oper.upon];rw[show(args.map a.eval)=(args.toList.map a.eval).toArray from(by rw[←Array.toList_map])];refine(hF.2 w _ (args.toList.map a.eval) (fun _ h=>h) (hx.rel H h2)).mono ?_;rintro r w' ⟨v,cells,rfl,hb,hown,hR⟩;have X:Ext w S h ψ w' S (h++[.row 0 e T l]) (Bk ψ h.length v):=Ext.push _ _ fun k hk=>hb.block k (H.lt k hk)
 have hB:Ho C.N w' S (h++[.row 0 e T l]) (Bk ψ h.length v) v (.row 0 e T l):=
  ⟨cells,hown.mono (Nat.zero_le _),h0,fun i d hd=>hfl _ _ _ _ _ (hR i d hd),fun g hg=>by
   have hlt:=hown.lt g hg;exact⟨fun hN=>by have:=H.nlt _ hN;have:=H.bel.size;omega,fun hS=>by have:=H.lt _ hS;omega⟩⟩
 refine⟨_,hK,NK (s:=⟨t,h⟩) hd hl (H.push hb hB (Afx hown)) X ?_⟩;unfold AV.rel;refine⟨by simp,fun c' hc'=>?_⟩;rw[List.getElem?_append_right (Nat.le_refl _)]at hc';simp[ABlk.ver]at hc';exact⟨by omega,fun _=>Bi.symm⟩
theorem QR{f:FuncId}{args:Array Operand}{tys:Array TypeId}{xs:List AV}{e:TypeId}{α:Type}{T:Ty α}{l:List α}(i:Nat)(hi:h.length=i)
 (ho:o.op= .call {callee:=.value (.func f),args:=args,argTypes:=tys}) (hF:Agq P f xs e T l) (h0:0 < T.size) (hfl:∀w S S' cs d,T.RS w S cs d→T.RS w S' cs d) (hx:LendWs h (args.toList.map (evA t)) xs)
 (hK:K ⟨AJ t o.dst (.own i 0),h++[.row 0 e T l]⟩):AOp P C o ⟨t,h⟩ K:=by
 subst hi;exact QQ ho hF h0 hfl hx hK
end
end Mu
end
section
namespace Mu
open Go Go.RowKit Go.Proofs
theorem Ks.keepB{w w':World}{base:Nat}{v:Value}{l:List Int}(h:Ks w base v l)(hk:∀g,v.ownBlock=some g→w'.heap[g]? =w.heap[g]?):Ks w' base v l:=by
 obtain⟨h1,h2⟩:=h;refine⟨h1,?_⟩;rcases h2 with h2|⟨g,cap,cur,hv,hg,hh,r⟩
 ·exact .inl h2
 ·exact .inr ⟨g,cap,cur,hv,hg,(hk g (by rw[hv];rfl)).trans hh,r⟩
structure RowsH(e:TypeId)(O n:Nat)(cv vs:List Value)(ls:List (List Int))(w:World):Prop where
 blk:w.heap[O]? =some (.cells cv.toArray e (0,0))
 lc:cv.length=ls.length
 ln:ls.length=n
 lm:n≤maxLen
 lv:vs.length=ls.length
 row:∀(k:Nat) (v:Value) (l:List Int),vs[k]? =some v→ls[k]? =some l→Ks w 0 v l∧Bo l
 dis:∀(j k:Nat) (v v':Value) (g:Nat),j≠k→vs[j]? =some v→vs[k]? =some v'→v.ownBlock=some g→v'.ownBlock≠some g
 out:∀(k:Nat) (v:Value),vs[k]? =some v→v.ownBlock≠some O
theorem RowsH.cell{e:TypeId}{O n:Nat}{cv vs:List Value}{ls:List (List Int)}{w:World}(H:RowsH e O n cv vs ls w){k:Nat}{v:Value}(hk:cv[k]? =some v):w.cell? ⟨O,k,none⟩=some v:=by
 simp[World.cell?,H.blk,hk]
def EK(e:TypeId)(O n:Nat)(cv vs:List Value)(ls:List (List Int)):Res where
 mrk:=[]
 F:=fun g=>g=O∨∃v∈vs,v.ownBlock=some g
 R:=fun w _=>RowsH e O n cv vs ls w
 keep:=fun H hk _ _=>⟨(hk O (.inl rfl)).trans H.blk,H.lc,H.ln,H.lm,H.lv,fun k v l h1 h2=>⟨(H.row k v l h1 h2).1.keepB fun g hg=>hk g (.inr ⟨v,List.mem_of_getElem? h1,hg⟩),(H.row k v l h1 h2).2⟩,H.dis,H.out⟩
theorem E8{α:Type}{l:List α}{k:Nat}{d:α}(h:k < l.length):l[k]? =some (l.getD k d):=by rw[List.getD_eq_getElem?_getD,List.getElem?_eq_getElem h];rfl
section
variable{P:Program}{C:Ctx}{o:Oper}{t:List AV}{h:List ABlk}{K:St→Prop}
def inZ(n:Nat)(z:Int):Bool:=decide (0≤z)&&decide (z.toNat < n)
theorem Cs{ty:TypeId}{x y:Operand}{ik:IntKind}{g n c:Nat}{z:Int}[ES P ty 1](ho:o.op= .indexAddr ty x y)(hx:evA t x= .lit (.slice (some ⟨g,0,none⟩) n c))(hy:evA t y= .lit (.int ik z))(hz:inZ n z=true):
 Av P C t h o (.lit (.pointer (some ⟨g,z.toNat,none⟩))):=by
 unfold inZ at hz;simp only[Bool.and_eq_true,decide_eq_true_eq]at hz;have e:z=(z.toNat:Int):=by omega
 have:=Ja (P:=P) (n:=1) (C:=C) (h:=h) (k:=z.toNat) ho hx (by rw[hy,←e]) hz.2;rwa [show 0+z.toNat * 1=z.toNat by omega]at this
theorem Su{ty:TypeId}{x y:Operand}{k k':IntKind}{z:Int}{e:TypeId}{bytes:Nat}(ho:o.op= .makeSlice ty x y)(hz:E2 P ty=some (e,.slice none 0 0,bytes))
 (hx:evA t x= .lit (.int k z)) (hy:evA t y= .lit (.int k' z)) (hb:Aqo z bytes=true)
 (hK:∀O:Nat,K ⟨AJ t o.dst (.lit (.slice (some ⟨O,0,none⟩) z.toNat z.toNat)),h++[.res (EK e O z.toNat (List.replicate z.toNat (.slice none 0 0)) (List.replicate z.toNat (.slice none 0 0)) (List.replicate z.toNat []))]⟩):AOp P C o ⟨t,h⟩ K:=by
 refine Cj (ι:=Nat) (Rs:=fun O=>EK e O z.toNat (List.replicate z.toNat (.slice none 0 0)) (List.replicate z.toNat (.slice none 0 0)) (List.replicate z.toNat [])) (val:=fun O=>.slice (some ⟨O,0,none⟩) z.toNat z.toNat) (fun _=>rfl) (fun S ψ w ρ H hρ=>?_) hK;unfold Aqo at hb;simp only[Bool.and_eq_true,decide_eq_true_eq]at hb;obtain⟨⟨h0,h1⟩,h2⟩:=hb;have hx':=hρ x (by simp[ho,Op.operands]);have hy':=hρ y (by simp[ho,Op.operands]);rw[hx]at hx';rw[hy]at hy';unfold AV.rel at hx' hy';unfold E2 at hz;split at hz <;> try(cases hz;done)
 rename_i e' hu;obtain⟨i,hi,hz2⟩:=Option.bind_eq_some_iff.1 hz;obtain⟨z',hz',hz3⟩:=Option.bind_eq_some_iff.1 hz2;split at hz3 <;> try(cases hz3;done)
 rename_i h4;cases hz3;have hzn:z=((z.toNat:Nat):Int):=by omega
 have hrun:=run_make_row' (P:=P) ty e (.slice none 0 0) i.bytes hu (by rw[hi];simp[hz',h4.1]) rfl k k' z.toNat h2 (by unfold maxLen at h1;omega) w;rw[←hzn,IL]at hrun;have hex:(execOp ρ o).run P w= .ok (.value (.slice (some ⟨w.heap.size,0,none⟩) z.toNat z.toNat)) (w.alloc (.cells (List.replicate z.toNat (Value.slice none 0 0)).toArray e)):=by
  simp[execOp,ho,hx',hy',hrun]
 rw[hex];have hnil:∀(k:Nat) (v:Value),(List.replicate z.toNat (Value.slice none 0 0))[k]? =some v→v= .slice none 0 0:=fun k v hv=>(List.mem_replicate.1 (List.mem_of_getElem? hv)).2
 refine⟨⟨rfl,rfl,rfl,by simp,fun k hk _=>heap_alloc_old w _ hk⟩,w.heap.size,rfl,⟨heap_alloc_new w _,by simp,by simp,h1,by simp,fun k v l hv hl=>?_,fun j k v v' g _ hv _ hg=>?_,fun k v hv=>?_⟩,fun g hg=>?_⟩
 ·rw[hnil k v hv,(List.mem_replicate.1 (List.mem_of_getElem? hl)).2];exact⟨Ks.nil _ _,fun x hx=>by cases hx⟩
 ·rw[hnil j v hv]at hg;cases hg
 ·rw[hnil k v hv];exact fun e=>by cases e
 ·rcases hg with hg|⟨v,hv,hg⟩
  ·subst hg;exact⟨.inr (Nat.le_refl _),by simp⟩
  ·rw[(List.mem_replicate.1 hv).2]at hg;cases hg
theorem OB{ty e:TypeId}{x:Operand}{i O n:Nat}{cv vs:List Value}{ls:List (List Int)}{z:Int}[AG P ty false 1](ho:o.op= .load ty x)(hx:evA t x= .lit (.pointer (some ⟨O,z.toNat,none⟩)))(hi:h[i]? =some (.res (EK e O n cv vs ls)))(hz:EJ ls z=true):Av P C t h o (.lit (cv.getD z.toNat undef)):=
 BQ ho hx hi rfl fun w S hR=>by
  have H:RowsH e O n cv vs ls w:=hR;have hk:=(B8.1 hz).2;rw[←H.lc]at hk;exact⟨cv.getD z.toNat undef,H.cell (E8 hk),by unfold AV.rel;rfl⟩
theorem QS{ty e:TypeId}{x y:Operand}{i O n bytes:Nat}{vs:List Value}{ls:List (List Int)}{l2:List Int}{z:Int}(ho:o.op= .call {callee:=.builtin .append,args:=#[x,y],argTypes:=#[ty,ty]})(hT:Hm P ty=some (3,1,bytes))
 (hx:evA t x= .lit (vs.getD z.toNat undef)) (hi:h[i]? =some (.res (EK e O n vs vs ls))) (hy:evA t y= .bs tInt l2) (hz:EJ ls z=true) (hb:H5 ((ixD ls z).length+l2.length) bytes=true)
 (hK:∀v':Value,K ⟨AJ t o.dst (.lit v'),h.set i (.res (EK e O n vs (vs.set z.toNat v') (ls.set z.toNat (ixD ls z++l2))))⟩):AOp P C o ⟨t,h⟩ K:=by
 refine AOp.turn (ι:=Value) (Rs:=fun v'=>EK e O n vs (vs.set z.toNat v') (ls.set z.toNat (ixD ls z++l2))) (val:=fun v'=>v') hi (fun _=>rfl) (fun S ψ w ρ H hR hlt hρ=>?_) hK;have HR:RowsH e O n vs vs ls w:=hR;have hxv:=hρ x (by rw[ho];exact Array.mem_append.2 (.inr (by simp)));have hyv:=hρ y (by rw[ho];exact Array.mem_append.2 (.inr (by simp)));rw[hx]at hxv;rw[hy]at hyv;unfold AV.rel at hxv hyv;have hzl:=(B8.1 hz).2;have hk:z.toNat < vs.length:=by rw[HR.lv];exact hzl
 have hv:=E8 (d:=undef) hk;have hl:=BJ hz;obtain⟨hown,hok⟩:=HR.row _ _ _ hv hl;obtain⟨h1,ti,zz,h2,h3,h4,h5,h6⟩:=Ec hT;obtain⟨A,c,hyf⟩:=BB hyv;rw[hyf]at hyv;obtain⟨news,hnl,hsrc,hnR,hn1⟩:=Gp hyv fun cs d hcs=>N3 _ _ _ _ hcs
 have hnews:news=l2.map (Value.int .i64)∧Bo l2:=by
  have hl2:news.length=l2.length:=by rw[hnl];exact Nat.mul_one _
  have hg:∀j d,l2[j]? =some d→news[j]? =some (Value.int .i64 d)∧wfI .i64 d:=fun j d hd=>by
   have:=hnR j d hd;rw[show tInt.size=1 from rfl,Nat.mul_one,List.take_one,List.head?_drop]at this;have hjl:j < news.length:=by rw[hl2];exact(List.getElem?_eq_some_iff.1 hd).1
   rw[List.getElem?_eq_getElem hjl]at this⊢;obtain⟨h7,h8⟩:=JX.1 this;exact⟨by simpa using h7,h8⟩
  refine⟨List.ext_getElem? fun j=>?_,fun r hr=>?_⟩
  ·rw[List.getElem?_map];cases hd:l2[j]? with
   |none=>rw[List.getElem?_eq_none (by rw[hl2];exact List.getElem?_eq_none_iff.1 hd)];rfl
   |some d=>exact(hg j d hd).1
  ·obtain⟨j,hj⟩:=List.getElem?_of_mem hr;exact(hg j r hj).2
 have hrb:=hb;unfold H5 at hrb;simp only[Bool.and_eq_true,decide_eq_true_eq]at hrb;obtain⟨v',w',hrun,hown',hgr,hb'⟩:=KA (P:=P) (ty:=o.type) (c:=c) (base:=0) h1 h2 h3 h4 h5 h6 (Nat.zero_lt_one) hown (hsrc w fun _ _=>rfl) hn1 hrb.1 hrb.2 (Nat.zero_le _);have hex:(execOp ρ o).run P w= .ok (.value v') w':=by
  unfold execOp;simp only[ho,resolve,invoke,builtin,Sem.run_bind,Sem.run_pure,Result.andThen_ok,List.map_toArray,List.map_cons,List.map_nil,hxv,hyf,hrun]
 rw[hex];have hown2:Ks w' 0 v' (ixD ls z++l2):=Ks.of (n:=(ixD ls z).length+l2.length) hown' (by simp) (by rw[List.map_append,hnews.1]);have hFb:∀g,(vs.getD z.toNat undef).ownBlock=some g→g=O∨∃v∈vs,v.ownBlock=some g:=fun g hg=>.inr ⟨_,List.mem_of_getElem? hv,hg⟩
 have hOl:O < w.heap.size:=hlt O (.inl rfl);have hnewB:∀g,v'.ownBlock=some g→(vs.getD z.toNat undef).ownBlock=some g∨g=w.heap.size:=fun g hg=>by
  rcases hb' with e1|e1
  ·exact .inl (e1▸hg)
  ·rw[e1]at hg;cases hg;exact .inr rfl
 have hset:∀(k:Nat) (v:Value),(vs.set z.toNat v')[k]? =some v→(k=z.toNat∧v=v')∨(k≠z.toNat∧vs[k]? =some v):=fun k v hkv=>by
  by_cases e:k=z.toNat
  ·subst e;rw[List.getElem?_set_self hk]at hkv;exact .inl ⟨rfl,(Option.some.inj hkv).symm⟩
  ·rw[List.getElem?_set_ne (Ne.symm e)]at hkv;exact .inr ⟨e,hkv⟩
 refine⟨⟨hgr.os,hgr.tape,hgr.output,hgr.size,fun k hk hn=>hgr.block k hk fun e=>hn (hFb k e.symm)⟩,v',rfl,⟨?_,?_,by rw[List.length_set];exact HR.ln,HR.lm,?_,fun k v l hkv hkl=>?_,fun j k v v2 g hjk hj hk2 hg=>?_,fun k v hkv=>?_⟩,fun g hg=>?_⟩
 ·exact(hgr.block O hOl fun e=>HR.out _ _ hv e.symm).trans HR.blk
 ·rw[List.length_set];exact HR.lc
 ·rw[List.length_set,List.length_set];exact HR.lv
 ·rcases hset k v hkv with⟨rfl,rfl⟩|⟨hne,hkv⟩
  ·rw[List.getElem?_set_self hzl]at hkl;cases hkl;exact⟨hown2,fun r hr=>(List.mem_append.1 hr).elim (hok r) (hnews.2 r)⟩
  ·rw[List.getElem?_set_ne (Ne.symm hne)]at hkl;obtain⟨h7,h8⟩:=HR.row k v l hkv hkl;exact⟨h7.keepB fun g hg=>hgr.block g (h7.lt g hg).2 fun e=>HR.dis k z.toNat v _ g hne hkv hv hg e.symm,h8⟩
 ·rcases hset j v hj with⟨rfl,rfl⟩|⟨hj1,hj2⟩
  ·rcases hset k v2 hk2 with⟨rfl,_⟩|⟨hk1,hk2⟩
   ·exact absurd rfl hjk
   ·rcases hnewB g hg with e1|e1
    ·exact HR.dis _ _ _ _ g (Ne.symm hk1) hv hk2 e1
    ·intro e2;obtain⟨l',hl'⟩:∃l',ls[k]? =some l':=⟨_,List.getElem?_eq_getElem (by rw[←HR.lv];exact(List.getElem?_eq_some_iff.1 hk2).1)⟩
     have:=((HR.row k v2 l' hk2 hl').1.lt g e2).2;omega
  ·rcases hset k v2 hk2 with⟨rfl,rfl⟩|⟨hk1,hk2⟩
   ·intro e2;rcases hnewB g e2 with e1|e1
    ·exact HR.dis _ _ _ _ g hj1 hj2 hv hg e1
    ·obtain⟨l',hl'⟩:∃l',ls[j]? =some l':=⟨_,List.getElem?_eq_getElem (by rw[←HR.lv];exact(List.getElem?_eq_some_iff.1 hj2).1)⟩
     have:=((HR.row j v l' hj2 hl').1.lt g hg).2;omega
   ·exact HR.dis j k v v2 g hjk hj2 hk2 hg
 ·rcases hset k v hkv with⟨rfl,rfl⟩|⟨_,hkv⟩
  ·intro e2;rcases hnewB O e2 with e1|e1
   ·exact HR.out _ _ hv e1
   ·omega
  ·exact HR.out k v hkv
 ·have hwl:w.heap.size≤w'.heap.size:=hgr.size;rcases hg with hg|⟨v,hvm,hg⟩
  ·subst hg;exact⟨.inl (.inl rfl),by omega⟩
  ·obtain⟨k,hk2⟩:=List.getElem?_of_mem hvm;rcases hset k v hk2 with⟨rfl,rfl⟩|⟨_,hk2⟩
   ·have hgl:=(hown2.lt g hg).2;rcases hnewB g hg with e1|e1
    ·exact⟨.inl (hFb g e1),hgl⟩
    ·exact⟨.inr (by omega),hgl⟩
   ·exact⟨.inl (.inr ⟨v,List.mem_of_getElem? hk2,hg⟩),by have:=hlt g (.inr ⟨v,List.mem_of_getElem? hk2,hg⟩);omega⟩
theorem Sq{ty e:TypeId}{x y:Operand}{i O n:Nat}{cv vs0:List Value}{ls:List (List Int)}{z:Int}{v':Value}[SZ P ty 1](ho:o.op= .store ty x y)(hx:evA t x= .lit (.pointer (some ⟨O,z.toNat,none⟩)))(hy:evA t y= .lit v')(hi:h[i]? =some (.res (EK e O n cv (vs0.set z.toNat v') ls)))(hz:EJ ls z=true)
 (hK:K ⟨AJ t o.dst (.lit undef),h.set i (.res (EK e O n (cv.set z.toNat v') (vs0.set z.toNat v') ls))⟩):AOp P C o ⟨t,h⟩ K:=by
 refine AOp.turn (ι:=Unit) (Rs:=fun _=>EK e O n (cv.set z.toNat v') (vs0.set z.toNat v') ls) (val:=fun _=>undef) hi (fun _=>rfl) (fun S ψ w ρ H hR hlt hρ=>?_) (fun _=>hK);have h1:=hρ x (by simp[ho,Op.operands]);have h2:=hρ y (by simp[ho,Op.operands]);rw[hx]at h1;rw[hy]at h2;unfold AV.rel at h1 h2;have HR:RowsH e O n cv (vs0.set z.toNat v') ls w:=hR;have hzl:=(B8.1 hz).2;have hk:z.toNat < cv.length:=by rw[HR.lc];exact hzl
 have hv:(vs0.set z.toNat v')[z.toNat]? =some v':=List.getElem?_set_self (by have:=HR.lv;rw[List.length_set]at this;omega);obtain⟨l,hl⟩:∃l,ls[z.toNat]? =some l:=⟨_,List.getElem?_eq_getElem hzl⟩
 have hown:=(HR.row _ _ _ hv hl).1;have hc1:v'.cells= #[v']∧v'.oneCell'=true:=by
  rcases hown.2 with⟨rfl,_⟩|⟨g,cap,cur,rfl,_⟩
  ·exact⟨rfl,rfl⟩
  ·exact⟨rfl,rfl⟩
 have hcell:w.cell? ⟨O,z.toNat,none⟩=some (cv.getD z.toNat undef):=HR.cell (E8 hk);have hfz:w.frozen? ⟨O,z.toNat,none⟩=false:=by
  simp only[World.frozen?,HR.blk];simp
 have hsz:(P.info? ty).map (·.size)=some 1:=SZ.eq (P:=P) (ty:=ty) (n:=1);obtain⟨inf,hi',hsi⟩:=Option.map_eq_some_iff.1 hsz;have hst:(store ⟨O,z.toNat,none⟩ v' .plain).run P w= .ok () (w.setCell ⟨O,z.toNat,none⟩ v'):=by
  rw[run_store P w _ _ _ hc1.2,hcell];simp[hfz]
 have hrun:(execOp ρ o).run P w= .ok .skip (w.setCell ⟨O,z.toNat,none⟩ v'):=by
  simp[execOp,ho,h1,h2,Instr.storeAt,Instr.sureAddr,storeVar,Go.sizeOf,typeInfo,hi',hsi,storeCells,hc1.1,Addr.add];rw[hst];rfl
 rw[hrun];have hblk:∀k,k≠O→(w.setCell ⟨O,z.toNat,none⟩ v').heap[k]? =w.heap[k]?:=fun k hk=>by simp[World.setCell,Array.getElem?_modify,Ne.symm hk]
 refine⟨⟨rfl,rfl,rfl,by simp[World.setCell],fun k hk hn=>hblk k fun e=>hn (.inl e)⟩,(),rfl,⟨?_,by rw[List.length_set];exact HR.lc,HR.ln,HR.lm,HR.lv,fun k v l hkv hkl=>?_,HR.dis,HR.out⟩,fun g hg=>?_⟩
 ·simp[World.setCell,Array.getElem?_modify,HR.blk]
 ·obtain⟨h7,h8⟩:=HR.row k v l hkv hkl;exact⟨h7.keepB fun g hg=>hblk g fun e=>HR.out k v hkv (by rw[←e];exact hg),h8⟩
 ·exact⟨.inl hg,by have:=hlt g hg;simpa[World.setCell]using this⟩
end
theorem T5{e:TypeId}{O n:Nat}{vs:List Value}{ls:List (List Int)}{w:World}{S:Nat→Prop}(H:RowsH e O n vs vs ls w)(hO:S O)(hS:∀v∈vs,∀g,v.ownBlock=some g→S g):tInt.slice.slice.RS w S [.slice (some ⟨O,0,none⟩) n n] ls:=by
 have hm:=H.lm;have hn:=H.ln;subst hn;refine⟨some ⟨O,0,none⟩,ls.length,rfl,Nat.le_refl _,⟨hm,fun e=>by cases e⟩,fun k l hl=>⟨O,0,rfl,hO,?_⟩⟩;have hk:k < vs.length:=by rw[H.lv];exact(List.getElem?_eq_some_iff.1 hl).1
 have hv:=E8 (d:=undef) hk;obtain⟨h1,h2⟩:=H.row k _ l hv hl;refine⟨[vs.getD k undef],Ch (T:=tInt) h1 (fun j d hd=>?_) fun g hg=>hS _ (List.mem_of_getElem? hv) g hg,fun j u hj=>?_⟩
 ·show tInt.RS w S (((l.map (Value.int .i64)).drop (j * 1)).take 1) d;have hi:(l.map (Value.int .i64))[j]? =some (.int .i64 d):=by rw[List.getElem?_map,hd];rfl
  rw[Nat.mul_one,List.take_one,List.head?_drop,hi];exact JX.2 ⟨rfl,h2 d (List.mem_of_getElem? hd)⟩
 ·cases j with
  |zero=>
   simp only[List.getElem?_cons_zero,Option.some.injEq]at hj;subst hj;have e:0+k * tInt.slice.size+0=k:=by show 0+k * 1+0=k;omega
   rw[e];exact H.cell hv
  |succ j=>simp at hj
theorem Sb{C:Ctx}(hC:C.std){t:List AV}{h:List ABlk}(i j:Nat){e:TypeId}{O n:Nat}{vs:List Value}{ls:List (List Int)}(hi:h[i]? =some (.res (EK e O n vs vs ls)))(hj:t[j]? =some (.lit (.slice (some ⟨O,0,none⟩) n n))):St.le C ⟨t,h⟩ ⟨t.set j (.bs tInt.slice ls),h.set i .dead⟩:=
 EB i j hi rfl rfl hj (PY hC hi rfl) fun S ψ w v H hr=>by
  unfold AV.rel at hr⊢;subst hr;exact T5 (H.blk i _ hi).2 (.inr (.inl rfl)) fun v hv g hg=>.inr (.inr ⟨v,hv,hg⟩)
structure FrA where
 fr:Fr
 rg:Nat
structure ThA where
 cv:Value
 fv:Value
 l:List FrA
structure MdA where
 g:Nat
 hg:Nat
 oc:Value
 ov:Value
 tc:Value
 tv:Value
 heap:List Int
 out:List Int
 ch:List Int
 ths:List ThA
 at_:Nat
 kind:Int
 v:Int
def MdA.abs(m:MdA):Mdl:=⟨m.heap,m.out,m.ch,m.ths.map fun t=>t.l.map FrA.fr,m.at_,m.kind,m.v⟩
abbrev tW:Ty Int:=Ty.int .u32
@[reducible] def slV(g n c:Nat):Value:=.slice (some ⟨g,0,none⟩) n c
@[reducible] def ptV(g off:Nat):Value:=.pointer (some ⟨g,off,none⟩)
@[reducible] def frC(q:FrA):List Cl:=[.v (.int .i64 (q.fr.f:Int)),.v (.int .i64 (q.fr.b:Int)),.v (.int .i64 (q.fr.i:Int)),.v (slV q.rg q.fr.regs.length q.fr.regs.length)]
@[reducible] def frA(q:FrA):List AV:=[.lit (.int .i64 (q.fr.f:Int)),.lit (.int .i64 (q.fr.b:Int)),.lit (.int .i64 (q.fr.i:Int)),.lit (slV q.rg q.fr.regs.length q.fr.regs.length)]
@[reducible] def mdC(p:Prog)(m:MdA):List AV:=[.lit (.int .i64 p.heap),.bs tInt p.threads,.bs B4 p.funcs,.lit (slV m.hg m.heap.length m.heap.length),.lit m.oc,.lit m.tc,.lit (.int .i64 (m.at_:Int)),.bs tW m.ch,.lit (.int .u8 m.kind),.lit (.int .u32 m.v)]
def rgR(q:FrA):Res:=Ik q.rg q.fr.regs.length 38 tW q.fr.regs
def thL(t:ThA):List Res:=rowR t.fv 91 (tCl 3) (t.l.map frC)::t.l.map rgR
def thR(t:ThA):Res:=.all (thL t)
def Kq(p:Prog)(m:MdA):List Res:=Bn m.g (mdC p m)::Ik m.hg m.heap.length 38 tW m.heap::rowR m.ov 38 tW m.out::rowR m.tv 97 (tCl 0) (m.ths.map fun t=>[Cl.v t.cv])::m.ths.map thR
def modR(p:Prog)(m:MdA):Res:=.all (Kq p m)
def Res.pin(R:Res)(w0:World):Res:=⟨R.mrk,R.F,fun w S=>R.R w S∧∀g,R.F g→w.heap[g]? =w0.heap[g]?,fun⟨h1,h2⟩ hb hS hs=>⟨R.keep h1 hb hS hs,fun g hg=>(hb g hg).trans (h2 g hg)⟩⟩
structure MdA.Nrm(m:MdA):Prop where
 out:m.oc=m.ov
 tv:m.tc=m.tv
 tg:∃tg c,m.tv=slV tg m.ths.length c
 th:∀t∈m.ths,t.cv=t.fv∧∃fg c,t.fv=slV fg t.l.length c
@[reducible] def MdA.upT(m:MdA)(ti:Nat)(t:ThA):MdA:={m with ths:=m.ths.set ti t}
@[reducible] def ThA.upF(t:ThA)(k:Nat)(q:FrA):ThA:={t with l:=t.l.set k q}
@[reducible] def MdA.upF(m:MdA)(ti:Nat)(t:ThA)(k:Nat)(q:FrA):MdA:=m.upT ti (t.upF k q)
class TV(m:MdA)(tg:Nat):Prop where
 e:∃c,m.tv=slV tg m.ths.length c
class TI(m:MdA)(j:Nat)(t:outParam ThA):Prop where
 e:m.ths[j]? =some t
class TG(m:MdA)(fg:Nat)(ti:outParam Nat)(t:outParam ThA):Prop where
 e:m.ths[ti]? =some t∧∃c,t.fv=slV fg t.l.length c
class QK(t:ThA)(k:Nat)(q:outParam FrA):Prop where
 e:t.l[k]? =some q
class OFF(off m:Nat)(k j:outParam Nat):Prop where
 e:off=k * m+j
instance Ajs{k m:Nat}:OFF (k * m) m k 0:=⟨rfl⟩
instance Ajr{k m j:Nat}:OFF (k * m+j) m k j:=⟨rfl⟩
class MC(R:Res)(b off:Nat)(r:outParam AV):Prop where
 c:AV.cl r=true
 e:∀w S,R.R w S→∃u,w.cell? ⟨b,off,none⟩=some u∧AV.rel w S [] ψ0 r u
class FM(h:List ABlk)(i:outParam Nat)(p:outParam Prog)(m:outParam MdA):Prop where
 e:∃R:Res,h[i]? =some (.res R)∧∀w S,R.R w S→(modR p m).R w S
instance Ajq{h:List ABlk}{p:Prog}{m:MdA}:FM (.res (modR p m)::h) 0 p m:=⟨_,rfl,fun _ _ h=>h⟩
instance Ajp{h:List ABlk}{p:Prog}{m:MdA}{w0:World}:FM (.res ((modR p m).pin w0)::h) 0 p m:=⟨_,rfl,fun _ _ h=>h.1⟩
instance Ajo{b:ABlk}{h:List ABlk}{p:Prog}{m:MdA}{i:Nat}[FM h i p m]:FM (b::h) (i+1) p m:=⟨by rw[List.getElem?_cons_succ];exact FM.e⟩
section
variable{p:Prog}{m:MdA}{t:ThA}{q:FrA}{w:World}{S:Nat→Prop}{ti k:Nat}
theorem Ado(H:(modR p m).R w S):(Bn m.g (mdC p m)).R w S:=H.1 _ (by unfold Kq;simp)
theorem SW(H:(modR p m).R w S):(Ik m.hg m.heap.length 38 tW m.heap).R w S:=H.1 _ (by unfold Kq;simp)
theorem Adn(H:(modR p m).R w S):(rowR m.ov 38 tW m.out).R w S:=H.1 _ (by unfold Kq;simp)
theorem WL(H:(modR p m).R w S):(rowR m.tv 97 (tCl 0) (m.ths.map fun t=>[Cl.v t.cv])).R w S:=H.1 _ (by unfold Kq;simp)
theorem WM(H:(modR p m).R w S)(ht:m.ths[ti]? =some t):(thR t).R w S:=H.1 _ (by
 unfold Kq;exact List.mem_cons_of_mem _ (List.mem_cons_of_mem _ (List.mem_cons_of_mem _ (List.mem_cons_of_mem _ (List.mem_map.2 ⟨t,List.mem_of_getElem? ht,rfl⟩)))))
theorem RD(H:(modR p m).R w S)(ht:m.ths[ti]? =some t):(rowR t.fv 91 (tCl 3) (t.l.map frC)).R w S:=(WM H ht).1 _ (by unfold thL;simp)
theorem SV(H:(modR p m).R w S)(ht:m.ths[ti]? =some t)(hq:t.l[k]? =some q):(rgR q).R w S:=(WM H ht).1 _ (by
 unfold thL;exact List.mem_cons_of_mem _ (List.mem_map.2 ⟨q,List.mem_of_getElem? hq,rfl⟩))
theorem Jq{α:Type}{T:Ty α}{enc:α→List AV}[EncOf T enc]{g n c k j:Nat}{e:TypeId}{v:Value}{l:List α}{d:α}(hv:v=slV g n c)(hR:(rowR v e T l).R w S)(hk:l[k]? =some d){r:AV}(hr:(enc d)[j]? =some r):∃u,w.cell? ⟨g,k * T.size+j,none⟩=some u∧AV.rel w S [] ψ0 r u:=by
 subst hv;have hn:n=l.length:=by
  obtain⟨cells,hown,_⟩:=hR;rcases hown.2 with⟨e3,_⟩|⟨g',cap,cur,e3,_⟩
  ·cases e3
  ·simp only[slV,Value.slice.injEq]at e3;exact e3.2.1
 subst hn;exact Rh (T:=T) (enc:=enc) hR hk hr
end
instance Ajn{p:Prog}{m:MdA}{off:Nat}{r:AV}[LD (mdC p m) off r][CA r]:MC (modR p m) m.g off r:=⟨CA.e,fun w S H=>by
 obtain⟨cs,e,h1,h2⟩:=Ado H;obtain⟨u,h3,h4⟩:=Bl h2 (by rw[←LD.e (l:=mdC p m) (k:=off) (x:=r),List.getElem?_drop,Nat.add_zero]:(mdC p m)[off]? =some r);exact⟨u,by simp[World.cell?,h1,h3],h4⟩⟩
instance Ajm{p:Prog}{m:MdA}{tg j:Nat}{t:ThA}[TV m tg][TI m j t]:MC (modR p m) tg j (.lit t.cv):=⟨rfl,fun w S H=>by
 obtain⟨c,hv⟩:=TV.e (m:=m) (tg:=tg);have:=Jq (T:=tCl 0) (enc:=fun l=>l.map Cl.av) (k:=j) (j:=0) hv (WL H) (by rw[List.getElem?_map,TI.e (m:=m) (j:=j) (t:=t)];rfl) (show([Cl.v t.cv].map Cl.av)[0]? =some (.lit t.cv)from rfl);rwa [show j *(tCl 0).size+0=j by show j * 1+0=j;omega]at this⟩
instance Ajl{p:Prog}{m:MdA}{t:ThA}{q:FrA}{fg off ti k j:Nat}{r:AV}[OFF off 4 k j][TG m fg ti t][QK t k q][LD (frA q) j r][CA r]:MC (modR p m) fg off r:=⟨CA.e,fun w S H=>by
 obtain⟨ht,c,hv⟩:=TG.e (m:=m) (fg:=fg) (ti:=ti) (t:=t);have e:=OFF.e (off:=off) (m:=4) (k:=k) (j:=j);subst e;have h1:((frC q).map Cl.av)[j]? =some r:=by
  show(frA q)[j]? =some r;rw[←LD.e (l:=frA q) (k:=j) (x:=r),List.getElem?_drop,Nat.add_zero]
 exact Jq (T:=tCl 3) (enc:=fun l=>l.map Cl.av) hv (RD H ht) (by rw[List.getElem?_map,QK.e (t:=t) (k:=k) (q:=q)];rfl) h1⟩
instance Ajk{m:MdA}{t:ThA}{fg ti k:Nat}{q:FrA}[TG m fg ti t]:TG (m.upT ti (t.upF k q)) fg ti (t.upF k q):=⟨by
 obtain⟨h1,c,h2⟩:=TG.e (m:=m) (fg:=fg) (ti:=ti) (t:=t);exact⟨by unfold MdA.upT;exact List.getElem?_set_self (List.getElem?_eq_some_iff.1 h1).1,c,by show t.fv=slV fg (t.l.set k q).length c;rw[List.length_set];exact h2⟩⟩
instance Afe{t:ThA}{k:Nat}{q q':FrA}[QK t k q]:QK (t.upF k q') k q':=⟨List.getElem?_set_self (List.getElem?_eq_some_iff.1 (QK.e (t:=t) (k:=k) (q:=q))).1⟩
section
variable{P:Program}{C:Ctx}{t:List AV}{h:List ABlk}{o:Oper}{K:St→Prop}
instance Afd{ty:TypeId}{x:Operand}{n i b off:Nat}{p:Prog}{m:MdA}{r:AV}[AG P ty false n][GA t x (.lit (.pointer (some ⟨b,off,none⟩)))][FM h i p m][MC (modR p m) b off r]:QI P C t h (.load ty x) r:=⟨fun _ _ _ _=>by
 obtain⟨R,h1,h2⟩:=FM.e (h:=h) (i:=i) (p:=p) (m:=m);exact BQ rfl GA.e h1 (MC.c (modR p m) b off) fun w S H=>MC.e (R:=modR p m) (b:=b) (off:=off) w S (h2 w S H)⟩
instance Afc{ty:TypeId}{x:Operand}{n i b off:Nat}{p:Prog}{m:MdA}{r:AV}{g:Bool}[AG P ty false n][GX g t x (.lit (.pointer (some ⟨b,off,none⟩)))][FM h i p m][MC (modR p m) b off r]:QG P C t h (.load ty x) g r:=⟨fun _ _ _ _ _ hg=>by
 obtain⟨R,h1,h2⟩:=FM.e (h:=h) (i:=i) (p:=p) (m:=m);exact BQ rfl (GX.e hg) h1 (MC.c (modR p m) b off) fun w S H=>MC.e (R:=modR p m) (b:=b) (off:=off) w S (h2 w S H)⟩
theorem Rg{v:Value}{e:TypeId}{l:List Int}{w:World}{S:Nat→Prop}(H:(rowR v e tW l).R w S){j:Nat}{x:Int}(hj:l[j]? =some x):wfI .u32 x:=by
 obtain⟨cells,_,_,h2⟩:=H;exact(h2 j x hj).2
theorem Qw{ty:TypeId}{x:Operand}{i b n:Nat}{p:Prog}{m:MdA}{l:List Int}{z:Int}{e:TypeId}{c:Nat}[AG P ty false n](ho:o.op= .load ty x)(hx:evA t x= .lit (ptV b z.toNat))(hi:h[i]? =some (.res (modR p m)))(hR:∀w S,(modR p m).R w S→(Ik b c e tW l).R w S)(hz:z.toNat < l.length):Av P C t h o (.lit (.int .u32 (l.getD z.toNat 0))):=
 BQ ho hx hi rfl fun w S H=>by
  have h1:=E8 (d:=(0:Int)) hz;have:=Rh (T:=tW) (enc:=fun d=>[.lit (.int .u32 d)]) (k:=z.toNat) (j:=0) (hR w S H) h1 rfl;rwa [show z.toNat * tW.size+0=z.toNat by show z.toNat * 1+0=z.toNat;omega]at this
theorem Ia{p:Prog}{m:MdA}{ti:Nat}{t0:ThA}(ht:m.ths[ti]? =some t0):(Kq p m)[4+ti]? =some (thR t0):=by
 unfold Kq;rw[Nat.add_comm];show(m.ths.map thR)[ti]? =_;rw[List.getElem?_map,ht];rfl
theorem N9{p:Prog}{m:MdA}{ti:Nat}{t0 t':ThA}(ht:m.ths[ti]? =some t0)(hc:t'.cv=t0.cv):(Kq p m).set (4+ti) (thR t')=Kq p (m.upT ti t'):=by
 have h1:(m.ths.set ti t').map (fun t=>[Cl.v t.cv])=m.ths.map fun t=>[Cl.v t.cv]:=by
  rw[List.map_set,hc];exact En (by rw[List.getElem?_map,ht];rfl)
 unfold Kq MdA.upT;rw[Nat.add_comm];show _::_::_::_::(m.ths.map thR).set ti (thR t')=_::_::_::rowR m.tv 97 (tCl 0) ((m.ths.set ti t').map fun t=>[Cl.v t.cv])::(m.ths.set ti t').map thR;rw[h1,List.map_set]
theorem He{ty:TypeId}{x y:Operand}{i off n:Nat}{new:List AV}{p:Prog}{m:MdA}(m':MdA)[SZ P ty n](ho:o.op= .store ty x y)(hx:evA t x= .lit (ptV m.g off))(hi:h[i]? =some (.res (modR p m)))(hp:∀h1,OC h1 (evA t y) new)(hc:AZ new=true)(hs:n=new.length)(hle:off+new.length≤(mdC p m).length)
 (hm:(Kq p m).set 0 (Bn m.g ((mdC p m).take off++new++(mdC p m).drop (off+new.length)))=Kq p m') (hK:K ⟨AJ t o.dst (.lit undef),h.set i (.res (modR p m'))++[.dead]⟩):AOp P C o ⟨t,h⟩ K:=
 CR (ι:=Unit) (t':=fun _=>AJ t o.dst (.lit undef)) (A':=fun _=>Bn m.g ((mdC p m).take off++new++(mdC p m).drop (off+new.length))) i 0 [] hi rfl rfl (fun _=>rfl)
  (fun h1 K' hi1 _ hK'=>Mr ho hx hi1 (hp h1) hc hs hle (by have:=hK' ();rwa [List.append_nil]at this)) fun _=>by rw[hm];exact hK
theorem TM{ι:Type}{A:Res}{t':ι→List AV}{A':ι→Res}{i ti k:Nat}{p:Prog}{m:MdA}{t0:ThA}(t1:ι→ThA)(hi:h[i]? =some (.res (modR p m)))(ht:m.ths[ti]? =some t0)(hk:(thL t0)[k]? =some A)(hm:A.mrk= [])(hm':∀q,(A' q).mrk= [])(hc:∀q,(t1 q).cv=t0.cv)
 (e:∀q,(thL t0).set k (A' q)=thL (t1 q))
 (hop:∀(h1:List ABlk) (K':St→Prop) (n:Nat),h1[n]? =some (.res A)→(∀q,K' ⟨t' q,h1.set n (.res (A' q))⟩)→AOp P C o ⟨t,h1⟩ K')
 (hK:∀q,K ⟨t' q,h.set i (.res (modR p (m.upT ti (t1 q))))++[.dead,.dead]⟩):AOp P C o ⟨t,h⟩ K:=
 CR (ι:=ι) (t':=t') (A':=fun q=>thR (t1 q)) i (4+ti) [.dead] hi (Ia ht) rfl (fun _=>rfl)
  (fun h1 K1 hi1 _ hK1=>CR (ι:=ι) (t':=t') (A':=A') h.length k [] hi1 hk hm hm' (fun h2 K2 hi2 _ hK2=>hop h2 K2 h1.length hi2 fun q=>by have:=hK2 q;rwa [List.append_nil]at this) fun q=>by
   have:=hK1 q;rw[e q];exact this) fun q=>by rw[N9 ht (hc q)];exact hK q
theorem DI{ty:TypeId}{x y:Operand}{i off ti k j fg:Nat}{p:Prog}{m:MdA}{t0:ThA}{q:FrA}{u:Value}(q':FrA)[SZ P ty 1](ho:o.op= .store ty x y)(hx:evA t x= .lit (ptV fg off))(hy:evA t y= .lit u)(hi:h[i]? =some (.res (modR p m)))(hT:TG m fg ti t0)(hq:t0.l[k]? =some q)(hoff:off=k * 4+j)(h1:u.oneCell'=true)
 (hj:j < 4) (hq':(frC q).set j (.v u)=frC q') (hrg:rgR q'=rgR q) (hK:K ⟨AJ t o.dst (.lit undef),h.set i (.res (modR p (m.upF ti t0 k q')))++[.dead,.dead]⟩):AOp P C o ⟨t,h⟩ K:=by
 obtain⟨ht,c,hv⟩:=hT.e;refine TM (ι:=Unit) (A:=rowR t0.fv 91 (tCl 3) (t0.l.map frC)) (t':=fun _=>AJ t o.dst (.lit undef)) (A':=fun _=>rowR t0.fv 91 (tCl 3) ((t0.l.map frC).set k (frC q'))) (k:=0) (fun _=>t0.upF k q') hi ht rfl rfl (fun _=>rfl) (fun _=>rfl) (fun _=>?_) (fun h1' K' n hn hK'=>?_) fun _=>hK
 ·show rowR t0.fv 91 (tCl 3) ((t0.l.map frC).set k (frC q'))::t0.l.map rgR=rowR t0.fv 91 (tCl 3) ((t0.l.set k q').map frC)::(t0.l.set k q').map rgR;rw[List.map_set,List.map_set,hrg,En (by rw[List.getElem?_map,hq];rfl:(t0.l.map rgR)[k]? =some (rgR q))]
 ·have hlen:t0.l.length=(t0.l.map frC).length:=(List.length_map _).symm;rw[hv,hlen]at hn;have hK2:=hK' ();rw[hv]at hK2;refine D9 (T:=tCl 3) (k:=k) (j:=j) (d:=frC q) ((frC q).set j (.v u)) ho hx hn (by rw[List.getElem?_map,hq];rfl) hoff (by rw[hy];exact Nn.cl (.v u) (One.lit h1) hj) ?_;rw[hq'];unfold Ik;rw[List.length_set,←hlen];exact hK2
theorem Akf{h:List ABlk}{d u:Int}(hu:wfI .u32 u):Nn h tW d 0 (.lit (.int .u32 u)) 1 u:=Hc (T:=tW) (Fit.int hu) (Ct (enc:=fun d=>[.lit (.int .u32 d)]) EncOf.ok fun d x hx=>by rw[List.mem_singleton.1 hx];exact .inl ⟨_,rfl,rfl⟩)
theorem Ji{ty:TypeId}{x y:Operand}{i ti k:Nat}{z u:Int}{p:Prog}{m:MdA}{t0:ThA}{q:FrA}[SZ P ty 1](ho:o.op= .store ty x y)(hx:evA t x= .lit (ptV q.rg z.toNat))(hy:evA t y= .lit (.int .u32 u))(hi:h[i]? =some (.res (modR p m)))(ht:m.ths[ti]? =some t0)(hq:t0.l[k]? =some q)(hz:z.toNat < q.fr.regs.length)(hu:wfI .u32 u)
 (hK:K ⟨AJ t o.dst (.lit undef),h.set i (.res (modR p (m.upF ti t0 k {q with fr:={q.fr with regs:=q.fr.regs.set z.toNat u}})))++[.dead,.dead]⟩):AOp P C o ⟨t,h⟩ K:=by
 obtain⟨q',hq'⟩:∃q':FrA,q'= {q with fr:={q.fr with regs:=q.fr.regs.set z.toNat u}}:=⟨_,rfl⟩
 rw[←hq']at hK;have hl:q'.fr.regs=q.fr.regs.set z.toNat u:=by rw[hq']
 have hf:frC q'=frC q:=by
  unfold frC;rw[hl,List.length_set,hq']
 refine TM (ι:=Unit) (A:=rgR q) (t':=fun _=>AJ t o.dst (.lit undef)) (A':=fun _=>rgR q') (k:=k+1) (fun _=>t0.upF k q') hi ht ?_ rfl (fun _=>rfl) (fun _=>rfl) (fun _=>?_) (fun h1' K' n hn hK'=>?_) fun _=>hK
 ·show(t0.l.map rgR)[k]? =_;rw[List.getElem?_map,hq];rfl
 ·show rowR t0.fv 91 (tCl 3) (t0.l.map frC)::(t0.l.map rgR).set k (rgR q')=rowR t0.fv 91 (tCl 3) ((t0.l.set k q').map frC)::(t0.l.set k q').map rgR;rw[List.map_set,List.map_set,hf,En (by rw[List.getElem?_map,hq];rfl:(t0.l.map frC)[k]? =some (frC q))]
 ·have hK2:=hK' ();refine D9 (T:=tW) (k:=z.toNat) (j:=0) (d:=q.fr.regs[z.toNat]) u ho hx hn (List.getElem?_eq_getElem hz) (by show _=z.toNat * 1+0;omega) (by rw[hy];exact Akf hu) ?_;rw[show rgR q'=Ik q.rg q.fr.regs.length 38 tW (q.fr.regs.set z.toNat u)by unfold rgR;rw[hl,List.length_set,hq']]at hK2;exact hK2
theorem Aav{ty:TypeId}{x y:Operand}{i:Nat}{z u:Int}{p:Prog}{m:MdA}[SZ P ty 1](ho:o.op= .store ty x y)(hx:evA t x= .lit (ptV m.hg z.toNat))(hy:evA t y= .lit (.int .u32 u))(hi:h[i]? =some (.res (modR p m)))(hz:z.toNat < m.heap.length)(hu:wfI .u32 u)
 (hK:K ⟨AJ t o.dst (.lit undef),h.set i (.res (modR p {m with heap:=m.heap.set z.toNat u}))++[.dead]⟩):AOp P C o ⟨t,h⟩ K:=by
 refine CR (ι:=Unit) (t':=fun _=>AJ t o.dst (.lit undef)) (A':=fun _=>Ik m.hg m.heap.length 38 tW (m.heap.set z.toNat u)) i 1 [] hi rfl rfl (fun _=>rfl) (fun h1 K' hi1 _ hK'=>?_) fun _=>?_
 ·have hK2:=hK' ();rw[List.append_nil]at hK2;exact D9 (T:=tW) (k:=z.toNat) (j:=0) (d:=m.heap[z.toNat]) u ho hx hi1 (List.getElem?_eq_getElem hz) (by show _=z.toNat * 1+0;omega) (by rw[hy];exact Akf hu) hK2
 ·have e:(Kq p m).set 1 (Ik m.hg m.heap.length 38 tW (m.heap.set z.toNat u))=Kq p {m with heap:=m.heap.set z.toNat u}:=by
   unfold Kq mdC;simp only[List.length_set,List.set_cons_succ,List.set_cons_zero]
  rw[e];exact hK
theorem Aa2{ty:TypeId}{x y:Operand}{i bytes:Nat}{p:Prog}{m:MdA}{l2:List Int}(ho:o.op= .call {callee:=.builtin .append,args:=#[x,y],argTypes:=#[ty,ty]})(hT:Hm P ty=some (38,tW.size,bytes))(hx:evA t x= .lit m.ov)(hy:evA t y= .bs tW l2)(hi:h[i]? =some (.res (modR p m)))
 (hb:H5 (m.out.length+l2.length) bytes=true) (hK:∀v',K ⟨AJ t o.dst (.lit v'),h.set i (.res (modR p {m with ov:=v',out:=m.out++l2}))++[.dead]⟩):AOp P C o ⟨t,h⟩ K:=by
 unfold H5 at hb;simp only[Bool.and_eq_true,decide_eq_true_eq]at hb;exact CR (ι:=Value) (t':=fun v'=>AJ t o.dst (.lit v')) (A':=fun v'=>rowR v' 38 tW (m.out++l2)) i 2 [] hi rfl rfl (fun _=>rfl)
  (fun h1 K' hi1 _ hK'=>Gf ho hT hx hi1 hy (Ct (enc:=fun d=>[.lit (.int .u32 d)]) EncOf.ok fun d x hx=>by rw[List.mem_singleton.1 hx];exact .inl ⟨_,rfl,rfl⟩) hb.1 hb.2 fun v'=>by have:=hK' v';rwa [List.append_nil]at this) hK
end
theorem Aqn{p:Prog}{m:MdA}{ti k:Nat}{t0:ThA}{q q':FrA}(ht:m.ths[ti]? =some t0)(hq:t0.l[k]? =some q)(hr:q'.rg=q.rg){g:Nat}(h:(modR p m).F g):(modR p (m.upF ti t0 k q')).F g:=by
 obtain⟨A,hA,hg⟩:=h;have htl:=(List.getElem?_eq_some_iff.1 ht).1;have hql:=(List.getElem?_eq_some_iff.1 hq).1;unfold Kq at hA;rcases List.mem_cons.1 hA with rfl|hA
 ·exact⟨_,List.mem_cons_self ..,hg⟩
 rcases List.mem_cons.1 hA with rfl|hA
 ·exact⟨_,List.mem_cons_of_mem _ (List.mem_cons_self ..),hg⟩
 rcases List.mem_cons.1 hA with rfl|hA
 ·exact⟨_,List.mem_cons_of_mem _ (List.mem_cons_of_mem _ (List.mem_cons_self ..)),hg⟩
 rcases List.mem_cons.1 hA with rfl|hA
 ·exact⟨_,List.mem_cons_of_mem _ (List.mem_cons_of_mem _ (List.mem_cons_of_mem _ (List.mem_cons_self ..))),hg⟩
 obtain⟨t,htm,rfl⟩:=List.mem_map.1 hA;obtain⟨i,hi⟩:=List.getElem?_of_mem htm;by_cases e:i=ti
 ·subst e;obtain rfl:=Option.some.inj (hi.symm.trans ht);refine⟨thR (t.upF k q'),List.mem_of_getElem? (Ia (ti:=i) (List.getElem?_set_self htl)),?_⟩;obtain⟨B,hB,hg⟩:=hg;rcases List.mem_cons.1 hB with rfl|hB
  ·exact⟨_,List.mem_cons_self ..,hg⟩
  ·obtain⟨q2,hqm,rfl⟩:=List.mem_map.1 hB;obtain⟨j,hj⟩:=List.getElem?_of_mem hqm;by_cases ej:j=k
   ·subst ej;obtain rfl:=Option.some.inj (hj.symm.trans hq);refine⟨rgR q',List.mem_cons_of_mem _ (List.mem_map.2 ⟨q',List.mem_of_getElem? (List.getElem?_set_self hql),rfl⟩),?_⟩;have hg:some q2.rg=some g:=hg;show some q'.rg=some g;rw[hr];exact hg
   ·exact⟨rgR q2,List.mem_cons_of_mem _ (List.mem_map.2 ⟨q2,List.mem_of_getElem? (i:=j) (by show(t.l.set k q')[j]? =_;rw[List.getElem?_set_ne (Ne.symm ej)];exact hj),rfl⟩),hg⟩
 ·refine⟨thR t,List.mem_of_getElem? (Ia (ti:=i) ?_),hg⟩;show(m.ths.set ti _)[i]? =_;rw[List.getElem?_set_ne (Ne.symm e)];exact hi
class PN(P:Program)(ty:TypeId):Prop where
 e:P.underlying ty=some (.pointer (P.pointee ty))
section
variable{P:Program}{C:Ctx}{t t':List AV}{h h':List ABlk}{o:Oper}{K:St→Prop}
theorem Nu{xt yt:TypeId}{x y:Operand}{a:Option Addr}[PN P xt](ho:o.op= .binOp .eql xt x y yt)(hx:evA t x= .lit (.pointer a))(hy:evA t y= .lit (.pointer none)):Av P C t h o (.lit (.bool a.isNone)):=
 Ap fun S ψ w ρ _ hρ=>by
  have h1:=hρ x (by simp[ho,Op.operands]);have h2:=hρ y (by simp[ho,Op.operands]);rw[hx]at h1;rw[hy]at h2;unfold AV.rel at h1 h2;refine⟨.bool a.isNone,?_,by unfold AV.rel;rfl⟩;simp[execOp,ho,h1,h2,eqGuard,run_eql_pointer_nil _ _ _ (PN.e (P:=P) (ty:=xt))]
theorem Ve{xt yt:TypeId}{x y:Operand}{a:Option Addr}[PN P xt](ho:o.op= .binOp .neq xt x y yt)(hx:evA t x= .lit (.pointer a))(hy:evA t y= .lit (.pointer none)):Av P C t h o (.lit (.bool (!a.isNone))):=
 Ap fun S ψ w ρ _ hρ=>by
  have h1:=hρ x (by simp[ho,Op.operands]);have h2:=hρ y (by simp[ho,Op.operands]);rw[hx]at h1;rw[hy]at h2;unfold AV.rel at h1 h2;refine⟨.bool (!a.isNone),?_,by unfold AV.rel;rfl⟩;simp[execOp,ho,h1,h2,eqGuard,run_neq_pointer_nil _ _ _ (PN.e (P:=P) (ty:=xt))]
instance Alm{xt yt:TypeId}{x y:Operand}{a:Option Addr}[PN P xt][GA t x (.lit (.pointer a))][GA t y (.lit (.pointer none))]:QI P C t h (.binOp .eql xt x y yt) (.lit (.bool a.isNone)):=⟨fun _ _ _ _=>Nu rfl GA.e GA.e⟩
instance All{xt yt:TypeId}{x y:Operand}{a:Option Addr}[PN P xt][GA t x (.lit (.pointer a))][GA t y (.lit (.pointer none))]:QI P C t h (.binOp .neq xt x y yt) (.lit (.bool (!a.isNone))):=⟨fun _ _ _ _=>Ve rfl GA.e GA.e⟩
instance Alk{x:Operand}{g off:Nat}[GA t x (.lit (.pointer (some ⟨g,off,none⟩)))]:QI P C t h (.nilCheck x) (.lit (.pointer (some ⟨g,off,none⟩))):=⟨fun _ _ _ _=>Nq rfl GA.e⟩
instance Alj{x:Operand}{g off:Nat}{q:Bool}[GX q t x (.lit (.pointer (some ⟨g,off,none⟩)))]:QG P C t h (.nilCheck x) q (.lit (.pointer (some ⟨g,off,none⟩))):=⟨fun _ _ _ _ _ hg=>Nq rfl (GX.e hg)⟩
instance Ali{ty:TypeId}{x:Operand}{a:Option Addr}{n c:Nat}[SL P ty][GA t x (.lit (.slice a n c))]:QI P C t h (.call {callee:=.builtin .len,args:=#[x],argTypes:=#[ty]}) (.lit (.int .i64 (n:Int))):=⟨fun _ _ _ _=>C5 rfl GA.e⟩
instance Alh{ty:TypeId}{x:Operand}{a:Option Addr}{n c:Nat}{q:Bool}[SL P ty][GX q t x (.lit (.slice a n c))]:QG P C t h (.call {callee:=.builtin .len,args:=#[x],argTypes:=#[ty]}) q (.lit (.int .i64 (n:Int))):=⟨fun _ _ _ _ _ hg=>C5 rfl (GX.e hg)⟩
variable{ops:Array Oper}{rest l:List Oper}{d:Option Nat}{ty:TypeId}{ps:String}{af:Array Go.Edge}{L:List AV→Prop}{y:Code}{Q:Exit→St→Prop}{id j:Nat}{s:St}
theorem sH{op:Op}{r:AV}(hq:Av P C t h ⟨d,op,ty,ps,af,none⟩ r)[PA t d r t'](hk:Ck P C ops K rest ⟨t',h⟩):Ck P C ops K (⟨d,op,ty,ps,af,none⟩::rest) ⟨t,h⟩:=sA (hg:=rfl) (hq:=hq) (ht:=PA.e) (hk:=hk)
theorem qH{op:Op}{r:AV}(hq:Av P C t h ⟨d,op,ty,ps,af,none⟩ r)[PA t d r t'](hk:aQ P C ops h L rest t'):aQ P C ops h L (⟨d,op,ty,ps,af,none⟩::rest) t:=qA (hg:=rfl) (hq:=hq) (ht:=PA.e) (hk:=hk)
theorem sI{st:TypeId}{x z:Operand}{ik:IntKind}{m:Int}{b n c:Nat}(hz:inZ n m=true)[GA t x (.lit (.slice (some ⟨b,0,none⟩) n c))][GA t z (.lit (.int ik m))][ES P st 1][PA t d (.lit (.pointer (some ⟨b,m.toNat,none⟩))) t'](hk:Ck P C ops K rest ⟨t',h⟩):Ck P C ops K (⟨d,.indexAddr st x z,ty,ps,af,none⟩::rest) ⟨t,h⟩:=sA (hg:=rfl) (hq:=Cs rfl GA.e GA.e hz) (ht:=PA.e) (hk:=hk)
theorem qI{st:TypeId}{x z:Operand}{ik:IntKind}{m:Int}{b n c:Nat}(hz:inZ n m=true)[GA t x (.lit (.slice (some ⟨b,0,none⟩) n c))][GA t z (.lit (.int ik m))][ES P st 1][PA t d (.lit (.pointer (some ⟨b,m.toNat,none⟩))) t'](hk:aQ P C ops h L rest t'):aQ P C ops h L (⟨d,.indexAddr st x z,ty,ps,af,none⟩::rest) t:=qA (hg:=rfl) (hq:=Cs rfl GA.e GA.e hz) (ht:=PA.e) (hk:=hk)
theorem Agv{dT sT e:TypeId}{x y:Operand}{i g n c:Nat}{α:Type}{T:Ty α}{l l2:List α}(hT:T.size=1)(h1T:QW T)(hu:P.underlying dT=some (.slice e))(hs:(P.info? e).map (·.size)=some 1)(ho:o.op= .call {callee:=.builtin .copy,args:=#[x,y],argTypes:=#[dT,sT]})
 (hx:evA t x= .lit (.slice (some ⟨g,0,none⟩) n c)) (hy:evA t y= .bs T l2) (hi:h[i]? =some (.res (rowR (.slice (some ⟨g,0,none⟩) n c) e T l))) (hn:l.length=n) (hl:l2.length≤n)
 (hK:K ⟨AJ t o.dst (.lit (.int .i64 (l2.length:Int))),h.set i (.res (rowR (.slice (some ⟨g,0,none⟩) n c) e T (l2++l.drop l2.length)))⟩):AOp P C o ⟨t,h⟩ K:=by
 subst hn;refine AOp.turn (ι:=Unit) (Rs:=fun _=>rowR (.slice (some ⟨g,0,none⟩) l.length c) e T (l2++l.drop l2.length)) (val:=fun _=>.int .i64 (l2.length:Int)) hi (fun _=>rfl) (fun S ψ w ρ H hR hlt hρ=>?_) fun _=>hK
 have hx':=hρ x (by rw[ho];exact Array.mem_append.2 (.inr (by simp)));have hy':=hρ y (by rw[ho];exact Array.mem_append.2 (.inr (by simp)));rw[hx]at hx';rw[hy]at hy';unfold AV.rel at hx' hy';have hgS:¬S g:=((H.blk i _ hi).1 g rfl).2.1;obtain⟨cur,hg,hnc,hcm,hsz,h0,hE⟩:=Fx hR;rw[hT,Nat.mul_one]at hsz;obtain⟨A,c2,hyf⟩:=BB hy';rw[hyf]at hy';obtain⟨news,hnl,hsrc,hnR,hn1⟩:=Gp hy' fun cs d hcs=>h1T _ _ _ _ hcs
 rw[hT,Nat.mul_one]at hnl;have hS:=hsrc w fun _ _=>rfl
 obtain⟨w',hw'⟩:∃w',w'=w.setRow g (news++cur.toList.drop news.length).toArray:=⟨_,rfl⟩
 have hrun:(execOp ρ o).run P w= .ok (.value (.int .i64 (l2.length:Int))) w':=by
  rw[hw'];cases A with
  |none=>
   have e0:l2.length=0:=by
    rcases Nat.eq_zero_or_pos l2.length with e|e
    ·exact e
    ·obtain⟨ad,ha,_⟩:=hS.cells 0 news[0] (List.getElem?_eq_getElem (by omega));cases ha
   have e1:news= []:=List.eq_nil_of_length_eq_zero (by omega);have hc2:c2=0:=by
    obtain⟨A',c',e,_,hc,_⟩:=hy';cases e;exact hc.2 rfl
   rw[e1,e0];have:=run_copy_nil P w dT sT o.type e ⟨g,0,none⟩ l.length c hu (by rw[hs];rfl);rw[e0]at hyf;subst hc2;simp[execOp,ho,resolve,invoke,builtin,hx',hyf,this];rw[setRow_self w g cur e (0,0) hg];exact⟨rfl,rfl⟩
  |some a=>
   have:=run_copy_row P w dT sT o.type e g 0 l.length c a l2.length c2 cur e news hu hs hg (by rw[hnl];exact(Nat.min_eq_left hl).symm) (fun j v hj=>by
    obtain⟨ad,ha,hc⟩:=hS.cells j v hj;cases ha;exact hc) (by omega) hn1
   rw[List.take_zero,List.nil_append,Nat.zero_add]at this;simp[execOp,ho,resolve,invoke,builtin,hx',hyf,this];rw[←hnl];rfl
 rw[hrun];have hgr:=DP w g (news++cur.toList.drop news.length).toArray;rw[←hw']at hgr;have hblk:∀q,S q→w'.heap[q]? =w.heap[q]?:=fun q hq=>by
  rw[hw'];exact setRow_other _ _ _ _ fun e=>hgS (by rw[←e];exact hq)
 refine⟨⟨hgr.os,hgr.tape,hgr.output,hgr.size,fun q hq hno=>hgr.block q hq fun e=>hno (by injection e with e;exact congrArg some e.symm)⟩,(),rfl,?_,fun q hq=>⟨.inl hq,Nat.lt_of_lt_of_le (hlt q hq) hgr.size⟩⟩;have hlen:l.length=(l2++l.drop l2.length).length:=by
  rw[List.length_append,List.length_drop];omega
 show(rowR (.slice (some ⟨g,0,none⟩) l.length c) e T (l2++l.drop l2.length)).R _ _;have key:=Lg (g:=g) (c:=c) (e:=e) (T:=T) (l:=l2++l.drop l2.length) (w:=w') (S:=S) (cur:=(news++cur.toList.drop news.length).toArray) (by rw[hw'];exact setRow_heap w g _ _ e _ hg) (by rw[←hlen];exact hnc) hcm (by rw[hT,Nat.mul_one];simp;omega) h0 fun q d hq=>by
  rw[hT,Nat.mul_one,List.toList_toArray];by_cases hql:q < l2.length
  ·rw[List.getElem?_append_left hql]at hq;have h5:=hnR q d hq;rw[hT,Nat.mul_one]at h5;rw[List.drop_append_of_le_length (by omega),List.take_append_of_le_length (by rw[List.length_drop];omega)];exact T.keepS h5 hblk fun _ h=>h
  ·rw[List.getElem?_append_right (by omega),List.getElem?_drop,show l2.length+(q - l2.length)=q by omega]at hq;have h5:=hE q d hq;rw[hT,Nat.mul_one]at h5;rw[List.drop_append,List.drop_eq_nil_of_le (by omega:news.length≤q),List.nil_append,List.drop_drop,show news.length+(q - news.length)=q by omega];exact T.keepS h5 hblk fun _ h=>h
 unfold Ik at key;rw[←hlen]at key;exact key
end
instance Ajj:AG Tryz.prog 26 false 1:=⟨by kernel_rfl⟩
instance Aji:SZ Tryz.prog 26 1:=⟨by kernel_rfl⟩
instance Ajh:ES Tryz.prog 26 1:=⟨by kernel_rfl⟩
instance Ajg:SL Tryz.prog 26:=⟨by kernel_rfl⟩
instance Ajf:RT Tryz.prog 26 38 1 4:=⟨by kernel_rfl⟩
instance Aje:AG Tryz.prog 87 false 1:=⟨by kernel_rfl⟩
instance Ajd:SZ Tryz.prog 87 1:=⟨by kernel_rfl⟩
instance Ajc:ES Tryz.prog 87 1:=⟨by kernel_rfl⟩
instance Ajb:SL Tryz.prog 87:=⟨by kernel_rfl⟩
instance Afb:RT Tryz.prog 87 97 1 24:=⟨by kernel_rfl⟩
instance Afa:FO Tryz.prog 89 0 0:=⟨by kernel_rfl⟩
instance Ae9:FO Tryz.prog 89 1 3:=⟨by kernel_rfl⟩
instance Ae8:FO Tryz.prog 89 2 4:=⟨by kernel_rfl⟩
instance Ae7:FO Tryz.prog 89 3 5:=⟨by kernel_rfl⟩
instance Ae6:FO Tryz.prog 89 4 6:=⟨by kernel_rfl⟩
instance Ae5:FO Tryz.prog 89 5 7:=⟨by kernel_rfl⟩
instance Ae4:FO Tryz.prog 89 6 8:=⟨by kernel_rfl⟩
instance Ae3:FO Tryz.prog 91 0 0:=⟨by kernel_rfl⟩
instance Ae2:FO Tryz.prog 91 1 1:=⟨by kernel_rfl⟩
instance Ae1:FO Tryz.prog 91 2 2:=⟨by kernel_rfl⟩
instance Ae0:FO Tryz.prog 91 3 3:=⟨by kernel_rfl⟩
instance Aez:FO Tryz.prog 97 0 0:=⟨by kernel_rfl⟩
instance Aey:FO Tryz.prog 95 0 0:=⟨by kernel_rfl⟩
instance Aex:FO Tryz.prog 60 0 0:=⟨by kernel_rfl⟩
instance Aew:SZ Tryz.prog 60 2:=⟨by kernel_rfl⟩
instance Aev:ZC Tryz.prog 60 [.int .u8 0,.int .u32 0]:=⟨by kernel_rfl⟩
instance Aeu:AG Tryz.prog 91 true 4:=⟨by kernel_rfl⟩
instance Aet:SZ Tryz.prog 91 4:=⟨by kernel_rfl⟩
instance Aes:ZC Tryz.prog 91 [.int .i64 0,.int .i64 0,.int .i64 0,.slice none 0 0]:=⟨by kernel_rfl⟩
instance Aer:AG Tryz.prog 93 false 1:=⟨by kernel_rfl⟩
instance Aeq:SZ Tryz.prog 93 1:=⟨by kernel_rfl⟩
instance Aep:ES Tryz.prog 93 4:=⟨by kernel_rfl⟩
instance Aeo:SL Tryz.prog 93:=⟨by kernel_rfl⟩
instance Aen:RT Tryz.prog 93 91 4 48:=⟨by kernel_rfl⟩
instance Aem:PN Tryz.prog 29:=⟨by kernel_rfl⟩
instance Ael:PN Tryz.prog 135:=⟨by kernel_rfl⟩
instance Aek:PN Tryz.prog 214:=⟨by kernel_rfl⟩
instance Aej:IntT Tryz.prog 38 .u32:=⟨by kernel_rfl⟩
instance Aei:IntT Tryz.prog 237 .u64:=⟨by kernel_rfl⟩
instance Aeh:IntT Tryz.prog 5 .u8:=⟨by kernel_rfl⟩
instance Aeg:IntT Tryz.prog 3 .i64:=⟨by kernel_rfl⟩
theorem KU{z:Int}(h:wfI .u32 z):0≤z∧z≤4294967295:=by simpa[wfI,Lit.wf,IntKind.min,IntKind.max,IntKind.signed,IntKind.bits]using h
theorem Kx{z:Int}(h0:0≤z)(h1:z≤9223372036854775807):IntKind.u64.wrap z=z:=by
 have e:IntKind.u64.wrap z=z % 18446744073709551616:=by simp[IntKind.wrap,IntKind.signed,IntKind.bits]
 omega
theorem Abf:Cf Tryz.prog 60=some [(0,1),(1,1)]:=by kernel_rfl
theorem Th(p:Prog)(m:MdA)(why:Int):AE Tryz.prog 163 (modR p m) [.lit (ptV m.g 0),.lit (.int .u32 why)] (fun _:Unit=>modR p {m with kind:=2,v:=why}) (fun _=>.lit (.tuple #[])):=by
 refine AI Tryz.func163 rfl (by kernel_rfl) rfl Tryz.ntmps163 rfl (fun _=>rfl) fun C=>?_
 refine nS ?_;refine wSE (sT (sT ?_));refine sH (B9 (rs:=[.lit (.int .u8 2),.lit (.int .u32 why)]) rfl Abf rfl rfl) (sT (sT ?_));refine Ao rfl (He (i:=0) {m with kind:=2,v:=why} rfl rfl rfl (fun _=>Eh rfl) rfl rfl (Nat.le_of_ble_eq_true rfl) rfl ?_);exact wN ⟨.inl rfl,(),rfl,rfl,trivial⟩
theorem XU(p:Prog)(m:MdA)(z:Int)(hw:wfI .u32 z)(hz:z.toNat < m.heap.length)(hh:m.heap.length≤4294967296):AE Tryz.prog 164 (modR p m) [.lit (ptV m.g 0),.lit (.int .u32 z)] (fun _:Unit=>modR p m) (fun _=>.lit (ptV m.hg z.toNat)):=by
 have h0:=KU hw;refine AS Tryz.func164 rfl (by kernel_rfl) rfl Tryz.ntmps164 rfl fun C=>?_
 refine nS ?_;refine wS (sT (wN ?_));refine Ac fun K2 h2=>?_
 refine wS (sT ?_);refine sH (Av.cv rfl rfl (Kx h0.1 (by omega))) (sT (sT (sT (sT (sT ?_)))));refine sH (Av.cv rfl rfl (Kx (by omega) (by omega))) (sT (wN ?_));refine Ae rfl (fun hb=>?_) (fun _=>?_)
 ·have:=of_decide_eq_true hb;omega
 refine Ag (h2 _ ?_);refine wS (sT (sT (sT (sT (sT ?_)))));refine sI (by unfold inZ;simp;omega) (sT (wN ?_));exact Aj ⟨.inr rfl,(),rfl,rfl,rfl,rfl⟩
theorem To(p:Prog)(m:MdA)(z:Int)(hw:wfI .u32 z)(hz:¬z.toNat < m.heap.length):AE Tryz.prog 164 (modR p m) [.lit (ptV m.g 0),.lit (.int .u32 z)] (fun _:Unit=>modR p {m with kind:=2,v:=2}) (fun _=>.lit (.pointer none)):=by
 have h0:=KU hw;refine AS Tryz.func164 rfl (by kernel_rfl) rfl Tryz.ntmps164 rfl fun C=>?_
 refine nS ?_;refine wS (sT (wN ?_));refine Ac fun K2 h2=>?_
 refine wS (sT ?_);refine sH (Av.cv rfl rfl (Kx h0.1 (by omega))) (sT (sT (sT (sT (sT ?_)))));refine sH (Av.cv rfl rfl (Kx (by omega) (by omega))) (sT (wN ?_));refine Ae rfl (fun _=>?_) (fun hb=>?_)
 ·refine wS (sT ?_);refine Ao rfl (Be (i:=0) rfl rfl (Th p m 2) (fun _=>rfl) rfl rfl (fun _=>rfl) fun _=>?_);refine sNt (hk:=wN ?_);refine wS (sT (wN ?_));exact Aj ⟨.inr rfl,(),rfl,rfl,rfl,rfl⟩
 ·have:=of_decide_eq_false hb;omega
def topA(t:ThA)(fg:Nat):Option Addr:=if t.l.length=0 then none else some ⟨fg,(t.l.length - 1) * 4,none⟩
@[reducible] def MH(t:ThA)(fg:Nat):Value:=.pointer (topA t fg)
theorem Ns{P:Program}{C:Ctx}{t:List AV}{h:List ABlk}{o:Oper}{ty:TypeId}{x y:Operand}{ik:IntKind}{g n c k:Nat}{z:Int}[ES P ty 4](ho:o.op= .indexAddr ty x y)(hx:evA t x= .lit (slV g n c))(hy:evA t y= .lit (.int ik z))(hz:z=(k:Int))(hk:k < n):Av P C t h o (.lit (ptV g (k * 4))):=by
 subst hz;have:=Ja (P:=P) (n:=4) (C:=C) (h:=h) (k:=k) ho hx hy hk;rwa [Nat.zero_add]at this
theorem MG(p:Prog)(m:MdA)(tg ti:Nat)(t0:ThA)(fg c:Nat)(hv:TV m tg)(ht:m.ths[ti]? =some t0)(hc:t0.cv=slV fg t0.l.length c)(hl:t0.l.length≤4611686018427387904):AE Tryz.prog 84 (modR p m) [.lit (ptV tg ti)] (fun _:Unit=>modR p m) (fun _=>.lit (MH t0 fg)):=by
 haveI hT:TI m ti t0:=⟨ht⟩
 refine AS Tryz.func84 rfl (by kernel_rfl) rfl Tryz.ntmps84 rfl fun C=>?_
 refine nS ?_;refine wS (sT (wN ?_));refine Ac fun K2 h2=>?_
 refine wS (sT (sT (sT (sT ?_))));rw[hc];refine sT (sT (wN ?_));refine Ae rfl (fun hb=>?_) (fun hb=>?_)
 ·refine wS (sT (wN ?_));refine Aj ⟨.inr rfl,(),rfl,rfl,?_,?_⟩
  ·have:t0.l.length=0:=by simpa using hb
   unfold MH topA;rw[if_pos this];rfl
  ·rfl
 ·have hne:t0.l.length≠0:=by simpa using hb
  have hw:IntKind.i64.wrap ((t0.l.length:Int) - 1)=((t0.l.length - 1:Nat):Int):=by rw[IntWalk.i64_in _ (by omega)];omega
  refine Ag (h2 _ ?_);refine dS 12 (hq:=qT (qT (qT (qT ?_))));rw[hc];refine qT (qT (qT (qT ?_)));rw[hc];refine qT (qT ?_);refine qH (Ns rfl rfl rfl hw (by omega)) (qT (qN (wN ?_)));refine Aj ⟨.inr rfl,(),rfl,rfl,?_,rfl⟩;unfold MH topA;rw[if_neg hne];rfl
theorem Aad{l:List Res}{k:Nat}{A A':Res}(hk:l[k]? =some A)(hF:∀g,A'.F g→A.F g)(hR:∀w S,A.R w S→A'.R w S):(∀g,(Res.all (l.set k A')).F g→(Res.all l).F g)∧∀w S,(Res.all l).R w S→(Res.all (l.set k A')).R w S:=by
 have hkl:=(List.getElem?_eq_some_iff.1 hk).1;have hset:∀(i:Nat) (B:Res),(l.set k A')[i]? =some B→∃B0,l[i]? =some B0∧(∀g,B.F g→B0.F g)∧∀w S,B0.R w S→B.R w S:=fun i B hB=>by
  by_cases e:i=k
  ·subst e;rw[List.getElem?_set_self hkl]at hB;cases hB;exact⟨A,hk,hF,hR⟩
  ·rw[List.getElem?_set_ne (Ne.symm e)]at hB;exact⟨B,hB,fun _ h=>h,fun _ _ h=>h⟩
 refine⟨fun g ⟨B,hB,hg⟩=>?_,fun w S ⟨h1,h2⟩=>⟨fun B hB=>?_,fun i j B1 B2 hij h3 h4 g hg=>?_⟩⟩
 ·obtain⟨i,hi⟩:=List.getElem?_of_mem hB;obtain⟨B0,k1,k2,_⟩:=hset i B hi;exact⟨B0,List.mem_of_getElem? k1,k2 g hg⟩
 ·obtain⟨i,hi⟩:=List.getElem?_of_mem hB;obtain⟨B0,k1,_,k3⟩:=hset i B hi;exact k3 w S (h1 B0 (List.mem_of_getElem? k1))
 ·obtain⟨C1,a1,a2,_⟩:=hset i B1 h3;obtain⟨C2,b1,b2,_⟩:=hset j B2 h4;exact fun hg2=>h2 i j C1 C2 hij a1 b1 g (a2 g hg) (b2 g hg2)
theorem Ac3{g n c:Nat}{e:TypeId}{α:Type}{T:Ty α}{l:List α}{w:World}{S:Nat→Prop}(hn:l.length=n)(H:(rowR (slV g n c) e T l).R w S):(rowR (slV g (n - 1) c) e T l.dropLast).R w S:=by
 subst hn;obtain⟨cur,hg,hnc,hcm,hsz,h0,hE⟩:=Fx H;have:=Lg (g:=g) (c:=c) (e:=e) (T:=T) (l:=l.dropLast) hg (by rw[List.length_dropLast];omega) hcm hsz h0 fun i d hd=>hE i d (by
  rw[List.getElem?_dropLast]at hd;split at hd
  ·exact hd
  ·cases hd)
 unfold Ik at this;rw[List.length_dropLast]at this;exact this
def ThA.pop(t0:ThA)(fg c:Nat):ThA:=⟨slV fg (t0.l.length - 1) c,slV fg (t0.l.length - 1) c,t0.l.dropLast⟩
theorem U6{C:Ctx}{t:List AV}{h:List ABlk}{i ti fg c:Nat}{p:Prog}{m:MdA}{t0:ThA}(hi:h[i]? =some (.res (modR p m)))(ht:m.ths[ti]? =some t0)(hc:t0.cv=slV fg (t0.l.length - 1) c)(hv:t0.fv=slV fg t0.l.length c):St.le C ⟨t,h⟩ ⟨t,h.set i (.res (modR p (m.upT ti (t0.pop fg c))))⟩:=by
 have hm:=Aad (A':=thR (t0.pop fg c)) (Ia (p:=p) ht) (fun g ⟨A,hA,hg⟩=>?_) fun w S ⟨h1,h2⟩=>⟨fun A hA=>?_,fun i j A B hij hA hB g hg=>?_⟩
 ·rw[N9 ht (by rw[hc];rfl)]at hm;exact DS hi hm.1 hm.2 rfl
 ·rcases List.mem_cons.1 hA with rfl|hA
  ·refine⟨_,List.mem_cons_self ..,?_⟩;show BX t0.fv=some g;rw[hv];exact hg
  ·obtain⟨q,hq,rfl⟩:=List.mem_map.1 hA;exact⟨rgR q,List.mem_cons_of_mem _ (List.mem_map.2 ⟨q,List.dropLast_subset _ hq,rfl⟩),hg⟩
 ·rcases List.mem_cons.1 hA with rfl|hA
  ·have:=h1 _ (List.mem_cons_self ..);rw[hv]at this;have:=Ac3 (n:=t0.l.length) (by rw[List.length_map]) this;show(rowR (slV fg (t0.l.length - 1) c) 91 (tCl 3) (t0.l.dropLast.map frC)).R w S;rw[List.map_dropLast];exact this
  ·obtain⟨q,hq,rfl⟩:=List.mem_map.1 hA;exact h1 _ (List.mem_cons_of_mem _ (List.mem_map.2 ⟨q,List.dropLast_subset _ hq,rfl⟩))
 ·have key:∀(i:Nat) (A:Res),(thL (t0.pop fg c))[i]? =some A→∃A0,(thL t0)[i]? =some A0∧∀g,A.F g→A0.F g:=fun i A hA=>by
   cases i with
   |zero=>
    cases hA;refine⟨_,rfl,fun g hg=>?_⟩;show BX t0.fv=some g;rw[hv];exact hg
   |succ i=>
    refine⟨A,?_,fun _ h=>h⟩;have hA:(t0.l.dropLast.map rgR)[i]? =some A:=hA;show(t0.l.map rgR)[i]? =some A;rw[List.getElem?_map,List.getElem?_dropLast]at hA;rw[List.getElem?_map];split at hA
    ·exact hA
    ·cases hA
  obtain⟨A0,a1,a2⟩:=key i A hA;obtain⟨B0,b1,b2⟩:=key j B hB;exact fun hg2=>h2 i j A0 B0 hij a1 b1 g (a2 g hg) (b2 g hg2)
section
variable{P:Program}{C:Ctx}{t:List AV}{h:List ABlk}{o:Oper}{K:St→Prop}
theorem TF{ty:TypeId}{x y:Operand}{i ti tg:Nat}{p:Prog}{m:MdA}{t0:ThA}{u:Value}[SZ P ty 1](ho:o.op= .store ty x y)(hx:evA t x= .lit (ptV tg ti))(hy:evA t y= .lit u)(hi:h[i]? =some (.res (modR p m)))(hT:TV m tg)(ht:m.ths[ti]? =some t0)(h1:u.oneCell'=true)
 (hK:K ⟨AJ t o.dst (.lit undef),h.set i (.res (modR p (m.upT ti {t0 with cv:=u})))++[.dead]⟩):AOp P C o ⟨t,h⟩ K:=by
 obtain⟨c,hv⟩:=hT.e;have hlen:m.ths.length=(m.ths.map fun t=>[Cl.v t.cv]).length:=(List.length_map _).symm;refine CR (ι:=Unit) (t':=fun _=>AJ t o.dst (.lit undef)) (A':=fun _=>rowR m.tv 97 (tCl 0) ((m.ths.map fun t=>[Cl.v t.cv]).set ti [.v u])) i 3 [] hi rfl rfl (fun _=>rfl) (fun h1' K' hn _ hK'=>?_) fun _=>?_
 ·have hK2:=hK' ();rw[List.append_nil,hv]at hK2;rw[hv,hlen]at hn;refine D9 (T:=tCl 0) (k:=ti) (j:=0) (d:=[Cl.v t0.cv]) [.v u] ho hx hn (by rw[List.getElem?_map,ht];rfl) (by show _=ti * 1+0;omega) (by rw[hy];exact Nn.cl (d:=[Cl.v t0.cv]) (.v u) (One.lit h1) (by decide)) ?_;unfold Ik;rw[List.length_set,←hlen];exact hK2
 ·have e:(Kq p m).set 3 (rowR m.tv 97 (tCl 0) ((m.ths.map fun t=>[Cl.v t.cv]).set ti [.v u]))=Kq p (m.upT ti {t0 with cv:=u}):=by
   unfold Kq MdA.upT;show _::_::_::_::m.ths.map thR=_::_::_::rowR m.tv 97 (tCl 0) ((m.ths.set ti {t0 with cv:=u}).map fun t=>[Cl.v t.cv])::(m.ths.set ti {t0 with cv:=u}).map thR;rw[List.map_set,List.map_set,show thR {t0 with cv:=u}=thR t0 from rfl,En (by rw[List.getElem?_map,ht];rfl:(m.ths.map thR)[ti]? =some (thR t0))]
  rw[e];exact hK
theorem Aaz{ty:TypeId}{x y:Operand}{i ti tg fg c:Nat}{p:Prog}{m:MdA}{t0:ThA}[SZ P ty 1](ho:o.op= .store ty x y)(hx:evA t x= .lit (ptV tg ti))(hy:evA t y= .lit (slV fg (t0.l.length - 1) c))(hi:h[i]? =some (.res (modR p m)))(hT:TV m tg)(ht:m.ths[ti]? =some t0)(hf:t0.fv=slV fg t0.l.length c)
 (hK:K ⟨AJ t o.dst (.lit undef),h.set i (.res (modR p (m.upT ti (t0.pop fg c))))++[.dead]⟩):AOp P C o ⟨t,h⟩ K:=by
 have htl:=(List.getElem?_eq_some_iff.1 ht).1;have hil:=(List.getElem?_eq_some_iff.1 hi).1;refine AOp.post hK (TF ho hx hy hi hT ht rfl ?_);have e:m.upT ti (t0.pop fg c)=(m.upT ti {t0 with cv:=slV fg (t0.l.length - 1) c}).upT ti (ThA.pop {t0 with cv:=slV fg (t0.l.length - 1) c} fg c):=by
  unfold MdA.upT;rw[List.set_set];rfl
 have:=U6 (C:=C) (t:=AJ t o.dst (.lit undef)) (h:=h.set i (.res (modR p (m.upT ti {t0 with cv:=slV fg (t0.l.length - 1) c})))++[.dead]) (i:=i) (ti:=ti) (fg:=fg) (c:=c) (t0:={t0 with cv:=slV fg (t0.l.length - 1) c}) (by rw[List.getElem?_append_left (by simpa using hil),List.getElem?_set_self hil]) (by unfold MdA.upT;exact List.getElem?_set_self htl) rfl hf;rw[←e,List.set_append_left _ _ (by simpa using hil),List.set_set]at this;exact this
end
theorem Wm(p:Prog)(m:MdA)(tg ti:Nat)(t0:ThA)(fg c:Nat)(hv:TV m tg)(ht:m.ths[ti]? =some t0)(hc:t0.cv=slV fg t0.l.length c)(hf:t0.fv=slV fg t0.l.length c)(hn:t0.l≠[])(hlc:t0.l.length≤c)(hl:t0.l.length≤4611686018427387904):AE Tryz.prog 166 (modR p m) [.lit (ptV tg ti)] (fun _:Unit=>modR p (m.upT ti (t0.pop fg c))) (fun _=>.lit (.tuple #[])):=by
 haveI hT:TI m ti t0:=⟨ht⟩
 have hpos:=List.length_pos_iff.2 hn;have hw:IntKind.i64.wrap ((t0.l.length:Int) - 1)=((t0.l.length - 1:Nat):Int):=by rw[IntWalk.i64_in _ (by omega)];omega
 refine AI Tryz.func166 rfl (by kernel_rfl) rfl Tryz.ntmps166 rfl (fun _=>rfl) fun C=>?_
 refine nS ?_;refine dSE 14 (hq:=qT (qT (qT (qT (qT ?_)))));rw[hc];refine qT (qT (qT (qT ?_)));rw[hc];refine qT (qT ?_);refine qH (Si (m:=t0.l.length - 1) rfl rfl ⟨.i64,by show AV.lit (.int .i64 (IntKind.i64.wrap ((t0.l.length:Int) - 1)))=_;rw[hw]⟩ (by omega)) (qT (qT (qN ?_)));refine Ao rfl (Aaz (i:=0) rfl rfl rfl rfl hv ht hf ?_);exact wN ⟨.inl rfl,(),rfl,rfl,trivial⟩
section
variable{P:Program}{C:Ctx}{t t':List AV}{h:List ABlk}{ops:Array Oper}{rest:List Oper}{d:Option Nat}{ty:TypeId}{ps:String}{af:Array Go.Edge}{gd:Option (Nat×Bool)}{K:St→Prop}
theorem sTg{op:Op}{r:AV}[QG P C t h op true r][PA t d r t'](hk:Ck P C ops K rest ⟨t',h⟩)(hg:gA ops t ⟨d,op,ty,ps,af,gd⟩=some true:=by rfl):Ck P C ops K (⟨d,op,ty,ps,af,gd⟩::rest) ⟨t,h⟩:=sA (hg:=hg) (hq:=QG.e d ty ps af gd rfl) (ht:=PA.e) (hk:=hk)
theorem sHg{op:Op}{r:AV}(hq:Av P C t h ⟨d,op,ty,ps,af,gd⟩ r)[PA t d r t'](hk:Ck P C ops K rest ⟨t',h⟩)(hg:gA ops t ⟨d,op,ty,ps,af,gd⟩=some true:=by rfl):Ck P C ops K (⟨d,op,ty,ps,af,gd⟩::rest) ⟨t,h⟩:=sA (hg:=hg) (hq:=hq) (ht:=PA.e) (hk:=hk)
end
theorem V8(p:Prog)(m:MdA)(tg c:Nat)(hc:m.tc=slV tg m.ths.length c)(hn:0 < m.ths.length):AE Tryz.prog 47 (modR p m) [.lit (ptV m.g 0)] (fun _:Unit=>modR p m) (fun _=>.lit (.bool (m.kind ==0))):=by
 refine AS Tryz.func47 rfl (by kernel_rfl) rfl Tryz.ntmps47 rfl fun C=>?_
 refine nS ?_;refine wS (sT (wN ?_));refine wS (sT (sT (sT ?_)));refine sTg (sTg (sTg (sTg ?_)));rw[hc];refine sTg (sTg ?_);rw[show decide ((m.ths.length:Int) > 0)=true from decide_eq_true (by omega)];refine sH (Av.pick rfl rfl rfl) (sT ?_);refine sTg (sTg (sTg (sTg (sTg (sTg ?_)))));refine sH (Av.pick rfl rfl rfl) (sT (wN ?_));exact Aj ⟨.inr rfl,(),rfl,rfl,rfl,rfl⟩
end Mu
end
section
namespace Mu
open Go Go.RowKit
section
variable{P:Program}{C:Ctx}{ops:Array Oper}{h:List ABlk}
def Apf(P:Program)(t:List AV)(o:Oper)(r:AV):Prop:=o.guard=none∧∀(a:Act) (w:World) (S:Nat→Prop) (h:List ABlk) (ψ:Nat→Value),Ad w S h ψ t a.tmps.toList→∃v,(∀w',(execOp a.eval o).run P w'= .ok (.value v) w')∧AV.rel w S h ψ r v
def Pw(P:Program)(ops:Array Oper):List Nat→List AV→List AV→Prop
 | [],t,t'=>t=t'
 |i::is,t,t'=>∃o r,ops[i]? =some o∧Apf P t o r∧Pw P ops is (AJ t o.dst r) t'
theorem MA{Q:Exit→Act→World→Prop}(hsel:Region.noSelect ops=true)(hQ:∀c a w,¬Q (.panic c) a w):∀(is:List Nat) (fuel:Nat) (listed:Array Bool) (t t':List AV) (a:Act) (w:World),JG ops is listed=true→Pw P ops is t t'→St.rel C ⟨t,h⟩ a w→
 (∀a',St.rel C ⟨t',h⟩ a' w→wpAny P .any ops Q fuel (BV is listed) a' w)→wpAny P .any ops Q (fuel+is.length) listed a w
 | [],fuel,listed,t,t',a,w,_,hm,H,hk=>by
  have hm:t=t':=hm;subst hm;exact hk a H
 |i::is,fuel,listed,t,t',a,w,hB,hm,H,hk=>by
  obtain⟨o,r,ho,⟨hg,hp⟩,hm⟩:=hm;simp only[JG,Bool.and_eq_true]at hB;obtain⟨⟨hr,hf⟩,hB'⟩:=hB;obtain⟨hd,S,ψ,hh,hl⟩:=id H;obtain⟨v,hv,hrel⟩:=hp a w S h ψ hl;have hy:Yields P ops o v a:=.inl ⟨by unfold Region.wanted;rw[hg],hv⟩;rw[show fuel+(i::is).length=(fuel+is.length)+1 from by simp;omega];refine wpAny_take ho hsel hf hr (fun c a w hq=>absurd hq (hQ c _ w)) hy ?_;exact MA hsel hQ is fuel _ _ t' _ w hB' hm ⟨by rw[put_defers];exact hd,S,ψ,hh,F0 hl o.dst hrel⟩ hk
def Ih(ops:Array Oper)(listed:Array Bool):Prop:=∀j oj,ops[j]? =some oj→listed.getD j false=true→∀e∈oj.after,Region.binds .any e=true→listed.getD e.on false=true
theorem Ih.set{listed:Array Bool}{i:Nat}(inv:Ih ops listed)(hi:i∈Region.ready .any ops listed):Ih ops (listed.setIfInBounds i true):=by
 obtain⟨_,oi,hoi,hall⟩:=mem_ready.1 hi;intro j oj hj hl e he hb;by_cases hij:i=j
 ·subst hij;have:oj=oi:=Option.some.inj (hj.symm.trans hoi);subst this;exact getD_set_true (hall e he hb)
 ·rw[getD_set_ne false hij]at hl;exact getD_set_true (inv j oj hj hl e he hb)
theorem JW{listed:Array Bool}(inv:Ih ops listed):∀(f j i:Nat),(∀oj,ops[j]? =some oj→∀e∈oj.after,Region.binds .any e=true→listed.getD e.on false=true)→Q0 ops f j i=true→listed.getD i false=true
 |0,j,i,_,h=>by cases h
 |f+1,j,i,hj,h=>by
  unfold Q0 at h;cases ho:ops[j]? with
  |none=>rw[ho]at h;cases h
  |some oj=>
   rw[ho]at h;obtain⟨e,he,hb⟩:=Array.any_eq_true'.1 h;simp only[Bool.and_eq_true,Bool.or_eq_true,beq_iff_eq]at hb;have hl:=hj oj ho e he hb.1;rcases hb.2 with h1|h1
   ·rw[←h1];exact hl
   ·exact JW inv f e.on i (fun oj' ho' e' he' hb'=>inv e.on oj' ho' hl e' he' hb') h1
theorem Na:∀(fs:List Nat) (listed:Array Bool),Ih ops listed→JG ops fs listed=true→Ih ops (BV fs listed)
 | [],listed,inv,_=>inv
 |i::fs,listed,inv,hB=>by
  simp only[JG,Bool.and_eq_true]at hB;exact Na fs _ (inv.set (by simpa using hB.1.1)) hB.2
theorem Xl:∀(fs:List Nat) (listed:Array Bool),JG ops fs listed=true→∀j∈fs,j < ops.size
 | [],_,_,j,hj=>by cases hj
 |i::fs,listed,hB,j,hj=>by
  simp only[JG,Bool.and_eq_true]at hB;rcases List.mem_cons.1 hj with rfl|hj
  ·have h1:j∈Region.ready .any ops listed:=by simpa using hB.1.1
   obtain⟨_,o,ho,_⟩:=mem_ready.1 h1;exact(Array.getElem?_eq_some_iff.1 ho).1
  ·exact Xl fs _ hB.2 j hj
def Apl(ops:Array Oper)(n:Nat)(fs is:List Nat):Bool:=
 (Region.noSelect ops&&GC ops)&&decide (fs.length+is.length≤ops.size)&&JG ops fs (Array.replicate ops.size false)&&Aks ops n is (BV fs (Array.replicate ops.size false))&&((List.range ops.size).all fun t=>decide (t < n)||fs.contains t||(List.range n).all fun i=>fs.contains i||Q0 ops ops.size t i)
end
theorem Yp{P:Program}{C:Ctx}{id:Nat}{l:List Oper}{Q:Exit→St→Prop}{s:St}(n:Nat)(fs is:List Nat){t1:List AV}(hm:P.follows .mixedOrders=true)(hB:Apl l.toArray n fs is=true)(hmv:Pw P l.toArray fs s.t t1)
 (hh:aQo P C l.toArray s.h (fun t=>HW P C .any l.toArray (Q .normal) (l.length - (fs.length+is.length)) (BV is (BV fs (Array.replicate l.length false))) ⟨t,s.h⟩) is t1):Awp P C (.region id l.toArray true) Q s:=fun a w H=>by
 simp only[Apl,Bool.and_eq_true,decide_eq_true_eq]at hB;obtain⟨⟨⟨⟨⟨hsel,hnd⟩,hn⟩,hfree⟩,hord⟩,hs⟩:=hB;have inv0:Ih l.toArray (Array.replicate l.toArray.size false):=fun j oj _ hl=>by rw[getD_replicate_false]at hl;cases hl
 let Inv:Array Bool→Prop:=fun listed=>Ih l.toArray listed∧∀j∈fs,listed.getD j false=true
 have hset:∀listed i,Inv listed→i∈Region.ready .any l.toArray listed→i < n→Inv (listed.setIfInBounds i true):=fun listed i inv hr hi=>⟨inv.1.set hr,fun j hj=>getD_set_true (inv.2 j hj)⟩
 have htail:∀(listed:Array Bool) (i:Nat),Inv listed→i < n→listed.getD i true=false→∀t,n≤t→t∉Region.ready .any l.toArray listed:=by
  intro listed i inv hi hun t ht hr;obtain⟨hunt,ot,hot,hall⟩:=mem_ready.1 hr;have htlt:t < l.toArray.size:=(Array.getElem?_eq_some_iff.1 hot).1;have h1:=List.all_eq_true.1 hs t (List.mem_range.2 htlt);simp only[Bool.or_eq_true,decide_eq_true_eq]at h1;rcases h1 with(h1|h1)|h1
  ·omega
  ·have:=inv.2 t (by simpa using h1);rw[getD_both hunt]at this;cases this
  ·have h2:=List.all_eq_true.1 h1 i (List.mem_range.2 hi);simp only[Bool.or_eq_true]at h2;rcases h2 with h2|h2
   ·have:=inv.2 i (by simpa using h2);rw[getD_both hun]at this;cases this
   ·have h3:=JW inv.1 _ t i (fun oj hoj e he hb=>by
     have:oj=ot:=Option.some.inj (hoj.symm.trans hot);subst this;exact hall e he hb) h2
    rw[getD_both hun]at h3;cases h3
 have inv1:Inv (BV fs (Array.replicate l.toArray.size false)):=⟨Na fs _ inv0 hfree,fun j hj=>Jp fs _ j hj (by
  have:=Xl fs _ hfree j hj;simpa using this)⟩
 have HH:=Ov (P:=P) (C:=C) (h:=s.h) (Inv:=Inv) (Lq:=fun t=>HW P C .any l.toArray (Q .normal) (l.length - (fs.length+is.length)) (BV is (BV fs (Array.replicate l.length false))) ⟨t,s.h⟩) hset htail is _ t1 inv1 hord hh;have H':St.rel C ⟨s.t,s.h⟩ a {w with drawn:=w.drawn+1}:=by
  obtain⟨hd,S,ψ,hh',hl⟩:=H;have hb:Below w.heap.size w {w with drawn:=w.drawn+1}:=⟨rfl,rfl,rfl,Nat.le_refl _,fun _ _=>rfl⟩
  exact⟨hd,S,ψ,hh'.grow hb (fun _ h=>h) (fun _ h=>.inl h) hh'.lt,Al (show Ext w S s.h ψ {w with drawn:=w.drawn+1} S s.h ψ from Ext.grow s.h ψ (fun k hk=>rfl) fun _ h=>h) _ _ hl⟩
 refine Dw hm hnd ?_;have key:=MA (P:=P) (C:=C) (h:=s.h) (Q:=fun e a' w'=>e= .normal∧∃s',Q e s'∧s'.rel C a' w') hsel (fun c a w hq=>by cases hq.1) fs (is.length+(l.length - (fs.length+is.length))) (Array.replicate l.toArray.size false) s.t t1 a {w with drawn:=w.drawn+1} hfree hmv H' fun a' H''=>
  Fd (Q':=fun e a' w'=>e= .normal∧∃s',Q e s'∧s'.rel C a' w') (g:=l.length - (fs.length+is.length)) (fun listed t a' w' hL H'=>by
   rw[hL.2.1];have:=hL.2.2;simp only[List.size_toArray]at this⊢;exact D4 (fun s a w h H=>⟨rfl,s,h,H⟩) _ _ _ _ _ this H') _ _ _ _ _ HH H''
 have hn':fs.length+is.length≤l.length:=by simpa using hn
 rw[show is.length+(l.length - (fs.length+is.length))+fs.length=l.toArray.size by simp;omega]at key;exact key
class PU(P:Program)(t:List AV)(op:Op)(r:outParam AV):Prop where
 e:∀(d:Option Nat) (ty:TypeId) (ps:String) (af:Array Go.Edge),Apf P t ⟨d,op,ty,ps,af,none⟩ r
section
variable{P:Program}{C:Ctx}{t t' t2:List AV}{h:List ABlk}{ops:Array Oper}{is fs:List Nat}{i:Nat}{d:Option Nat}{ty:TypeId}{ps:String}{af:Array Go.Edge}{K:List AV→Prop}
instance Aj3{x:Operand}{r:AV}[GA t x r]:PU P t (.move x) r:=⟨fun _ _ _ _=>⟨rfl,fun a w S h ψ hl=>⟨a.eval x,fun w'=>by simp[execOp],by rw[←GA.e (t:=t) (x:=x) (r:=r)];exact Ba hl x⟩⟩⟩
instance Aj2{x:Operand}{g off:Nat}[GA t x (.lit (.pointer (some ⟨g,off,none⟩)))]:PU P t (.nilCheck x) (.lit (.pointer (some ⟨g,off,none⟩))):=⟨fun _ _ _ _=>⟨rfl,fun a w S h ψ hl=>by
 have h1:=Ba hl x;rw[GA.e (t:=t) (x:=x) (r:=.lit (.pointer (some ⟨g,off,none⟩)))]at h1;unfold AV.rel at h1;exact⟨.pointer (some ⟨g,off,none⟩),fun w'=>by simp[execOp,h1],by unfold AV.rel;rfl⟩⟩⟩
instance Aj1{st:TypeId}{x:Operand}{j n b off m:Nat}[FO P st j n][GA t x (.lit (.pointer (some ⟨b,off,none⟩)))][AD off n m]:PU P t (.fieldAddr st x j) (.lit (.pointer (some ⟨b,m,none⟩))):=⟨fun _ _ _ _=>⟨rfl,fun a w S h ψ hl=>by
 have h1:=Ba hl x;rw[GA.e (t:=t) (x:=x) (r:=.lit (.pointer (some ⟨b,off,none⟩)))]at h1;unfold AV.rel at h1;rw[←AD.e (a:=off) (b:=n) (c:=m)];exact⟨.pointer (some ⟨b,off+n,none⟩),fun w'=>by simp[execOp,h1,Le (FO.eq (P:=P) (st:=st) (j:=j) (n:=n))],by unfold AV.rel;rfl⟩⟩⟩
theorem uN:Pw P ops [] t t:=rfl
theorem uT{op:Op}{r:AV}[PU P t op r][PA t d r t2](hk:Pw P ops is t2 t')(ho:ops[i]? =some ⟨d,op,ty,ps,af,none⟩:=by(simp only[List.getElem?_toArray,List.getElem?_cons_succ,List.getElem?_cons_zero];exact rfl)):Pw P ops (i::is) t t':=
 ⟨_,r,ho,PU.e d ty ps af,by rw[PA.e (t:=t) (d:=d) (r:=r) (t':=t2)];exact hk⟩
theorem vN(hk:K t):aQo P C ops h K [] t:=hk
theorem vT{op:Op}{r:AV}[QI P C t h op r][PA t d r t'](hk:aQo P C ops h K is t')(ho:ops[i]? =some ⟨d,op,ty,ps,af,none⟩:=by(simp only[List.getElem?_toArray,List.getElem?_cons_succ,List.getElem?_cons_zero];exact rfl)):aQo P C ops h K (i::is) t:=
 ⟨_,r,ho,.inl ⟨rfl,QI.e d ty ps af⟩,by rw[PA.e (t:=t) (d:=d) (r:=r) (t':=t')];exact hk⟩
theorem vH{op:Op}{r:AV}(hq:Av P C t h ⟨d,op,ty,ps,af,none⟩ r)[PA t d r t'](hk:aQo P C ops h K is t')(ho:ops[i]? =some ⟨d,op,ty,ps,af,none⟩:=by(simp only[List.getElem?_toArray,List.getElem?_cons_succ,List.getElem?_cons_zero];exact rfl)):aQo P C ops h K (i::is) t:=
 ⟨_,r,ho,.inl ⟨rfl,hq⟩,by rw[PA.e (t:=t) (d:=d) (r:=r) (t':=t')];exact hk⟩
end
section
variable{P:Program}{C:Ctx}{t t1:List AV}{h:List ABlk}{l:List Oper}{y:Code}{Q:Exit→St→Prop}{id g:Nat}
theorem dHE(n:Nat)(fs is:List Nat)(hmv:Pw P l.toArray fs t t1)(hh:aQo P C l.toArray h (fun t=>HW P C .any l.toArray (Q .normal) g (BV is (BV fs (Array.replicate l.length false))) ⟨t,h⟩) is t1)(hg:l.length - (fs.length+is.length)=g:=by exact rfl)(hm:P.follows .mixedOrders=true:=by kernel_rfl)(hB:Apl l.toArray n fs is=true:=by kernel_rfl):Awp P C (.region id l.toArray true) Q ⟨t,h⟩:=by
 subst hg;exact Yp n fs is hm hB hmv hh
theorem dH(n:Nat)(fs is:List Nat)(hmv:Pw P l.toArray fs t t1)(hh:∀K:St→Prop,(∀s,Awp P C y Q s→K s)→aQo P C l.toArray h (fun t=>HW P C .any l.toArray K g (BV is (BV fs (Array.replicate l.length false))) ⟨t,h⟩) is t1)(hg:l.length - (fs.length+is.length)=g:=by exact rfl)(hm:P.follows .mixedOrders=true:=by kernel_rfl)(hB:Apl l.toArray n fs is=true:=by kernel_rfl):Awp P C (.seq (.region id l.toArray true) y) Q ⟨t,h⟩:=
 Ac fun K hK=>dHE n fs is hmv (hh K hK) hg hm hB
end
section
variable{P:Program}{C:Ctx}{t t':List AV}{h:List ABlk}{ops:Array Oper}{g:Nat}{d:Option Nat}{ty:TypeId}{ps:String}{af:Array Go.Edge}{K:St→Prop}{listed:Array Bool}{o:Oper}
theorem tA(i:Nat)(ha:AOp P C o ⟨t,h⟩ (HW P C .any ops K g (listed.setIfInBounds i true)))(ho:ops[i]? =some o:=by(simp only[List.getElem?_toArray,List.getElem?_cons_succ,List.getElem?_cons_zero];exact rfl))(hg:gA ops t o=some true:=by rfl)(hr:Region.ready .any ops listed= [i]:=by kernel_rfl):HW P C .any ops K (g+1) listed ⟨t,h⟩:=
 Ek [i] hr (by simp) (El ho hg ha Ah)
theorem tT(i:Nat){op:Op}{r:AV}[QI P C t h op r][PA t d r t'](hk:HW P C .any ops K g (listed.setIfInBounds i true) ⟨t',h⟩)(ho:ops[i]? =some ⟨d,op,ty,ps,af,none⟩:=by(simp only[List.getElem?_toArray,List.getElem?_cons_succ,List.getElem?_cons_zero];exact rfl))(hr:Region.ready .any ops listed= [i]:=by kernel_rfl):HW P C .any ops K (g+1) listed ⟨t,h⟩:=
 Ek [i] hr (by simp) (El ho rfl (BG (QI.e d ty ps af) (by rw[PA.e (t:=t) (d:=d) (r:=r) (t':=t')];exact hk)) Ah)
theorem tH(i:Nat){op:Op}{r:AV}(hq:Av P C t h ⟨d,op,ty,ps,af,none⟩ r)[PA t d r t'](hk:HW P C .any ops K g (listed.setIfInBounds i true) ⟨t',h⟩)(ho:ops[i]? =some ⟨d,op,ty,ps,af,none⟩:=by(simp only[List.getElem?_toArray,List.getElem?_cons_succ,List.getElem?_cons_zero];exact rfl))(hr:Region.ready .any ops listed= [i]:=by kernel_rfl):HW P C .any ops K (g+1) listed ⟨t,h⟩:=
 Ek [i] hr (by simp) (El ho rfl (BG hq (by rw[PA.e (t:=t) (d:=d) (r:=r) (t':=t')];exact hk)) Ah)
end
end Mu
end
section
namespace Mu
open Go Go.RowKit Go.Proofs
structure Cur(m:MdA)(ti fg k:Nat)(t0:ThA)(q:FrA):Prop where
 nrm:m.Nrm
 th:m.ths[ti]? =some t0
 fv:∃c,t0.fv=slV fg t0.l.length c
 fr:t0.l[k]? =some q
 i64:q.fr.regs.length≤4611686018427387904
abbrev Agl(m:MdA)(s:Mdl):Type:={m':MdA // m'.Nrm∧m'.g=m.g∧m'.abs=s}
theorem MdA.Nrm.upF{m:MdA}{ti k:Nat}{t0:ThA}{q':FrA}(h:m.Nrm)(ht:m.ths[ti]? =some t0):(m.upF ti t0 k q').Nrm:=by
 refine⟨h.out,h.tv,?_,fun t htm=>?_⟩
 ·obtain⟨tg,c,e⟩:=h.tg;exact⟨tg,c,by show m.tv=slV tg (m.ths.set ti _).length c;rw[List.length_set];exact e⟩
 ·rcases List.mem_or_eq_of_mem_set htm with htm|rfl
  ·exact h.th t htm
  ·obtain⟨h1,fg,c,h2⟩:=h.th t0 (List.mem_of_getElem? ht);exact⟨h1,fg,c,by show t0.fv=slV fg (t0.l.set k q').length c;rw[List.length_set];exact h2⟩
def E3(s:Mdl)(ti k:Nat)(r:Fr):Mdl:={s with ths:=s.ths.set ti ((s.ths.getD ti []).set k r)}
theorem Mj{m:MdA}{ti k:Nat}{t0:ThA}{q':FrA}(ht:m.ths[ti]? =some t0):(m.upF ti t0 k q').abs=E3 m.abs ti k q'.fr:=by
 unfold MdA.abs E3 MdA.upF MdA.upT;simp only;rw[List.map_set,List.getD_eq_getElem?_getD,List.getElem?_map,ht];show Mdl.mk _ _ _ (List.set _ ti ((t0.l.set k q').map FrA.fr)) _ _ _=_;rw[List.map_set];rfl
theorem NG{m:MdA}{ti k:Nat}{t0:ThA}{q1 q2:FrA}(ht:m.ths[ti]? =some t0):(m.upF ti t0 k q1).upF ti (t0.upF k q1) k q2=m.upF ti t0 k q2:=by
 unfold MdA.upF MdA.upT ThA.upF;simp only[List.set_set]
theorem Pf{s:Mdl}{l:List Fr}{r:Fr}{k:Nat}(hl:s.ths[s.at_]? =some l)(hk:k+1=l.length):E3 s s.at_ k r=De s r:=by
 unfold E3 De IA thA;rw[List.getD_eq_getElem?_getD,hl];show Mdl.mk _ _ _ (List.set _ _ (l.set k r)) _ _ _=Mdl.mk _ _ _ (List.set _ _ (l.dropLast++[r])) _ _ _;have:l.set k r=l.dropLast++[r]:=by
  have hne:l≠[]:=by
   intro e;rw[e]at hk;cases hk
  rw[←List.dropLast_concat_getLast hne];have hd:l.dropLast.length=k:=by rw[List.length_dropLast];omega
  rw[List.set_append_right _ _ (by rw[hd];exact Nat.le_refl _),hd,Nat.sub_self];simp
 rw[this]
def Cur.out{m:MdA}{ti fg k:Nat}{t0:ThA}{q:FrA}(h:Cur m ti fg k t0 q)(q':FrA):Agl m (E3 m.abs ti k q'.fr):=⟨m.upF ti t0 k q',h.nrm.upF h.th,rfl,Mj h.th⟩
def okR(r:Fr)(z:Int):Prop:=0≤z∧z.toNat < r.regs.length
theorem okR.inZ{r:Fr}{z:Int}(h:okR r z):inZ r.regs.length z=true:=by
 unfold Mu.inZ;rw[Bool.and_eq_true,decide_eq_true_eq,decide_eq_true_eq];exact h
def QA(f:FuncId)(p:Prog)(m:MdA)(fg k:Nat)(x:Ins)(s:Mdl):Prop:=AE Tryz.prog f (modR p m) [.lit (ptV m.g 0),.lit (ptV fg (k * 4)),.agg (AL x)] (fun m':Agl m s=>modR p m'.1) (fun _=>.lit (.tuple #[]))
def Akc(f:FuncId)(p:Prog)(m:MdA)(fg k:Nat)(x:Ins)(v:Int):Prop:=AE Tryz.prog f (modR p m) [.lit (ptV m.g 0),.lit (ptV fg (k * 4)),.agg (AL x)] (fun _:Unit=>modR p {m with kind:=2,v:=v}) (fun _=>.lit (.tuple #[]))
section
variable{p:Prog}{m:MdA}{ti fg k:Nat}{t0:ThA}{q:FrA}{x:Ins}
section
variable{P:Program}{C:Ctx}{t t':List AV}{h:List ABlk}{ops:Array Oper}{rest:List Oper}{d:Option Nat}{sty ty:TypeId}{ps:String}{af:Array Go.Edge}{K:St→Prop}{L:List AV→Prop}{y:Operand}
theorem Cur.ld{o:Oper}{n i:Nat}{z:Int}{lty:TypeId}[AG P lty false n](hC:Cur m ti fg k t0 q)(ho:o.op= .load lty y)(hy:evA t y= .lit (ptV q.rg z.toNat))(hi:h[i]? =some (.res (modR p m)))(hz:okR q.fr z):Av P C t h o (.lit (.int .u32 (regA q.fr z))):=
 Qw (e:=38) (c:=q.fr.regs.length) ho hy hi (fun w S H=>SV H hC.th hC.fr) hz.2
theorem Cur.wf(hC:Cur m ti fg k t0 q){z:Int}(hz:okR q.fr z){c:Code}{Q:Exit→St→Prop}(i:Nat)(hi:h[i]? =some (.res (modR p m)))(hk:wfI .u32 (regA q.fr z)→Awp P C c Q ⟨t,h⟩):Awp P C c Q ⟨t,h⟩:=fun a w H=>by
 obtain⟨hd,S,ψ,HR,hl⟩:=id H;exact hk (Rg (SV (HR.blk i _ hi).2 hC.th hC.fr) (E8 hz.2)) a w H
end
theorem Cur.upF(hC:Cur m ti fg k t0 q)(q':FrA)(hq:q'.fr.regs.length≤4611686018427387904):Cur (m.upF ti t0 k q') ti fg k (t0.upF k q') q':=⟨hC.nrm.upF hC.th,by
 unfold MdA.upF MdA.upT;exact List.getElem?_set_self (List.getElem?_eq_some_iff.1 hC.th).1,by
 obtain⟨c,h⟩:=hC.fv;exact⟨c,by show t0.fv=slV fg (t0.l.set k q').length c;rw[List.length_set];exact h⟩,List.getElem?_set_self (List.getElem?_eq_some_iff.1 hC.fr).1,hq⟩
theorem Ags{P:Program}{C:Ctx}{t:List AV}{h:List ABlk}{c:Code}{Q:Exit→St→Prop}{z:Int}(i:Nat)(hi:h[i]? =some (.res (modR p m)))(hz:z.toNat < m.heap.length)(hk:wfI .u32 (m.heap.getD z.toNat 0)→Awp P C c Q ⟨t,h⟩):Awp P C c Q ⟨t,h⟩:=fun a w H=>by
 obtain⟨hd,S,ψ,HR,hl⟩:=id H;exact hk (Rg (SW (HR.blk i _ hi).2) (E8 hz)) a w H
theorem Agt{P:Program}{C:Ctx}{t:List AV}{h:List ABlk}{o:Oper}{K:St→Prop}(i:Nat)(hi:h[i]? =some (.res (modR p m)))(hk:m.ov.oneCell'=true→AOp P C o ⟨t,h⟩ K):AOp P C o ⟨t,h⟩ K:=fun Q' a w H=>by
 obtain⟨hd,S,ψ,HR,hl⟩:=id H;refine hk ?_ Q' a w H;obtain⟨cells,hown,_⟩:=Adn (HR.blk i _ hi).2;rcases hown.2 with⟨e,_⟩|⟨_,_,_,e,_⟩ <;> rw[e] <;> rfl
theorem Zw(hC:Cur m ti fg k t0 q)(hz:okR q.fr x.d)(hn:wfI .u32 x.n):QA 103 p m fg k x (E3 m.abs ti k ⟨q.fr.f,q.fr.b,q.fr.i,q.fr.regs.set x.d.toNat x.n⟩):=by
 haveI hT:TG m fg ti t0:=⟨hC.th,hC.fv⟩
 haveI hQ:QK t0 k q:=⟨hC.fr⟩
 refine AI Tryz.func103 rfl (by kernel_rfl) rfl Tryz.ntmps103 rfl (fun _=>rfl) fun C=>?_
 refine nS ?_;refine wS (sB (wN ?_));refine dSE 9 (hq:=qT (qT (qT (qT (qT (qT (qT (qT ?_))))))));refine qI hz.inZ (qN ?_);refine Ao rfl (Ji (i:=0) (z:=x.d) rfl rfl rfl rfl hC.th hC.fr hz.2 hn ?_);exact wN ⟨.inl rfl,hC.out ⟨⟨q.fr.f,q.fr.b,q.fr.i,q.fr.regs.set x.d.toNat x.n⟩,q.rg⟩,rfl,rfl,trivial⟩
theorem Ak0(hC:Cur m ti fg k t0 q)(hz:okR q.fr x.d)(ha:okR q.fr x.a):QA 105 p m fg k x (E3 m.abs ti k ⟨q.fr.f,q.fr.b,q.fr.i,q.fr.regs.set x.d.toNat (regA q.fr x.a)⟩):=by
 haveI hT:TG m fg ti t0:=⟨hC.th,hC.fv⟩
 haveI hQ:QK t0 k q:=⟨hC.fr⟩
 refine AI Tryz.func105 rfl (by kernel_rfl) rfl Tryz.ntmps105 rfl (fun _=>rfl) fun C=>?_
 refine nS ?_;refine hC.wf ha 0 rfl fun hw=>?_
 refine wS (sB (wN ?_));refine dSE 15 (hq:=(qT (qT (qT (qT (qT (qT (qT (qT (qT (qT (qT (qT ?_)))))))))))));refine qI ha.inZ (qH (hC.ld (i:=0) rfl rfl rfl ha) (qI hz.inZ (qN ?_)));refine Ao rfl (Ji (i:=0) (z:=x.d) rfl rfl rfl rfl hC.th hC.fr hz.2 hw ?_);exact wN ⟨.inl rfl,hC.out ⟨⟨q.fr.f,q.fr.b,q.fr.i,q.fr.regs.set x.d.toNat (regA q.fr x.a)⟩,q.rg⟩,rfl,rfl,trivial⟩
theorem Ak3(hC:Cur m ti fg k t0 q)(h1:0≤x.l1):QA 111 p m fg k x (E3 m.abs ti k ⟨q.fr.f,x.l1.toNat,0,q.fr.regs⟩):=by
 haveI hT:TG m fg ti t0:=⟨hC.th,hC.fv⟩
 haveI hQ:QK t0 k q:=⟨hC.fr⟩
 refine AI Tryz.func111 rfl (by kernel_rfl) rfl Tryz.ntmps111 rfl (fun _=>rfl) fun C=>?_
 refine nS ?_;have hl:=(List.getElem?_eq_some_iff.1 hC.fr).1;have htl:=(List.getElem?_eq_some_iff.1 hC.th).1;refine wS (sB (wN ?_));refine wSE (sT (sT (sT (sT (sT (sT ?_))))));refine Ao rfl (DI (i:=0) (j:=1) (u:=.int .i64 x.l1) ⟨⟨q.fr.f,x.l1.toNat,q.fr.i,q.fr.regs⟩,q.rg⟩ rfl rfl rfl rfl hT hC.fr rfl rfl (by decide) (by show [_,_,_,_]= [_,Cl.v (.int .i64 ((x.l1.toNat:Nat):Int)),_,_];rw[Int.toNat_of_nonneg h1]) rfl ?_);refine sNt (hk:=sT (sT ?_));refine Ao rfl (DI (i:=0) (j:=2) (k:=k) (u:=.int .i64 0) ⟨⟨q.fr.f,x.l1.toNat,0,q.fr.regs⟩,q.rg⟩ rfl rfl rfl rfl (inferInstance:TG (m.upF ti t0 k _) fg ti _) QK.e rfl rfl (by decide) rfl rfl ?_);refine wN ⟨.inl rfl,hC.out ⟨⟨q.fr.f,x.l1.toNat,0,q.fr.regs⟩,q.rg⟩,rfl,?_,trivial⟩;exact congrArg (fun z=>some (ABlk.res (modR p z))) (NG hC.th)
theorem Uq(hC:Cur m ti fg k t0 q)(hd:okR q.fr x.d)(ha:okR q.fr x.a)(hh:m.heap.length≤4294967296)(hin:(regA q.fr x.a).toNat < m.heap.length):QA 106 p m fg k x (E3 m.abs ti k ⟨q.fr.f,q.fr.b,q.fr.i,q.fr.regs.set x.d.toNat (m.heap.getD (regA q.fr x.a).toNat 0)⟩):=by
 haveI hT:TG m fg ti t0:=⟨hC.th,hC.fv⟩
 haveI hQ:QK t0 k q:=⟨hC.fr⟩
 refine AI Tryz.func106 rfl (by kernel_rfl) rfl Tryz.ntmps106 rfl (fun _=>rfl) fun C=>?_
 refine nS ?_;refine hC.wf ha 0 rfl fun hw=>?_
 refine Ags (m:=m) 0 rfl hin fun hwh=>?_
 refine wS (sB (wN ?_));refine dS 9 (hq:=(qT (qT (qT (qT (qT (qT (qT ?_))))))));refine qI ha.inZ (qH (hC.ld (i:=0) rfl rfl rfl ha) (qN ?_));refine Ao rfl (Be (i:=0) rfl rfl (XU p m _ hw hin hh) (fun _=>rfl) rfl rfl (fun _=>rfl) fun _=>?_);refine sNt (hk:=sT (wN ?_));refine wS (sT (sT (wN ?_)));refine Ae rfl (fun _=>?_) (fun hb=>by cases hb);refine dSE 10 (hq:=(qT (qT (qT (qT (qT (qT (qT (qT ?_)))))))));refine qH (Qw (i:=0) (e:=38) (c:=m.heap.length) rfl rfl rfl (fun w S H=>SW H) hin) (qI hd.inZ (qN ?_));refine Ao rfl (Ji (i:=0) (z:=x.d) rfl rfl rfl rfl hC.th hC.fr hd.2 hwh ?_);exact wN ⟨.inl rfl,hC.out ⟨⟨q.fr.f,q.fr.b,q.fr.i,q.fr.regs.set x.d.toNat (m.heap.getD (regA q.fr x.a).toNat 0)⟩,q.rg⟩,rfl,rfl,trivial⟩
theorem RE(hC:Cur m ti fg k t0 q)(hd:okR q.fr x.d)(ha:okR q.fr x.a)(hh:m.heap.length≤4294967296)(hin:¬(regA q.fr x.a).toNat < m.heap.length):Akc 106 p m fg k x 2:=by
 haveI hT:TG m fg ti t0:=⟨hC.th,hC.fv⟩
 haveI hQ:QK t0 k q:=⟨hC.fr⟩
 refine AI Tryz.func106 rfl (by kernel_rfl) rfl Tryz.ntmps106 rfl (fun _=>rfl) fun C=>?_
 refine nS ?_;refine hC.wf ha 0 rfl fun hw=>?_
 refine wS (sB (wN ?_));refine dS 9 (hq:=(qT (qT (qT (qT (qT (qT (qT ?_))))))));refine qI ha.inZ (qH (hC.ld (i:=0) rfl rfl rfl ha) (qN ?_));refine Ao rfl (Be (i:=0) rfl rfl (To p m _ hw hin) (fun _=>rfl) rfl rfl (fun _=>rfl) fun _=>?_);refine sNt (hk:=sT (wN ?_));refine wS (sT (sT (wN ?_)));refine Ae rfl (fun hb=>by cases hb) (fun _=>?_);exact Ag ⟨.inl rfl,(),rfl,rfl,trivial⟩
theorem Q6(hC:Cur m ti fg k t0 q)(hd:okR q.fr x.b)(ha:okR q.fr x.a)(hh:m.heap.length≤4294967296)(hin:(regA q.fr x.a).toNat < m.heap.length):QA 107 p m fg k x {m.abs with heap:=m.heap.set (regA q.fr x.a).toNat (regA q.fr x.b)}:=by
 haveI hT:TG m fg ti t0:=⟨hC.th,hC.fv⟩
 haveI hQ:QK t0 k q:=⟨hC.fr⟩
 refine AI Tryz.func107 rfl (by kernel_rfl) rfl Tryz.ntmps107 rfl (fun _=>rfl) fun C=>?_
 refine nS ?_;refine hC.wf ha 0 rfl fun hw=>?_
 refine hC.wf hd 0 rfl fun hwb=>?_
 refine wS (sB (wN ?_));refine dS 9 (hq:=(qT (qT (qT (qT (qT (qT (qT ?_))))))));refine qI ha.inZ (qH (hC.ld (i:=0) rfl rfl rfl ha) (qN ?_));refine Ao rfl (Be (i:=0) rfl rfl (XU p m _ hw hin hh) (fun _=>rfl) rfl rfl (fun _=>rfl) fun _=>?_);refine sNt (hk:=sT (wN ?_));refine wS (sT (sT (wN ?_)));refine Ae rfl (fun _=>?_) (fun hb=>by cases hb);refine dSE 10 (hq:=(qT (qT (qT (qT (qT (qT (qT ?_))))))));refine qI hd.inZ (qH (hC.ld (i:=0) rfl rfl rfl hd) (qT (qN ?_)));refine Ao rfl (Aav (i:=0) rfl rfl rfl rfl hin hwb ?_);exact wN ⟨.inl rfl,⟨{m with heap:=m.heap.set (regA q.fr x.a).toNat (regA q.fr x.b)},⟨hC.nrm.out,hC.nrm.tv,hC.nrm.tg,hC.nrm.th⟩,rfl,rfl⟩,rfl,rfl,trivial⟩
theorem OW(hC:Cur m ti fg k t0 q)(hd:okR q.fr x.b)(ha:okR q.fr x.a)(hh:m.heap.length≤4294967296)(hin:¬(regA q.fr x.a).toNat < m.heap.length):Akc 107 p m fg k x 2:=by
 haveI hT:TG m fg ti t0:=⟨hC.th,hC.fv⟩
 haveI hQ:QK t0 k q:=⟨hC.fr⟩
 refine AI Tryz.func107 rfl (by kernel_rfl) rfl Tryz.ntmps107 rfl (fun _=>rfl) fun C=>?_
 refine nS ?_;refine hC.wf ha 0 rfl fun hw=>?_
 refine wS (sB (wN ?_));refine dS 9 (hq:=(qT (qT (qT (qT (qT (qT (qT ?_))))))));refine qI ha.inZ (qH (hC.ld (i:=0) rfl rfl rfl ha) (qN ?_));refine Ao rfl (Be (i:=0) rfl rfl (To p m _ hw hin) (fun _=>rfl) rfl rfl (fun _=>rfl) fun _=>?_);refine sNt (hk:=sT (wN ?_));refine wS (sT (sT (wN ?_)));refine Ae rfl (fun hb=>by cases hb) (fun _=>?_);exact Ag ⟨.inl rfl,(),rfl,rfl,trivial⟩
theorem Y9(hC:Cur m ti fg k t0 q)(ha:okR q.fr x.a)(ho:m.out.length≤1073741824):QA 109 p m fg k x {m.abs with out:=m.out++[regA q.fr x.a]}:=by
 haveI hT:TG m fg ti t0:=⟨hC.th,hC.fv⟩
 haveI hQ:QK t0 k q:=⟨hC.fr⟩
 refine AI Tryz.func109 rfl (by kernel_rfl) rfl Tryz.ntmps109 rfl (fun _=>rfl) fun C=>?_
 refine nS ?_;refine hC.wf ha 0 rfl fun hw=>?_
 refine wS (sB (wN ?_));refine dHE 14 [0] [1,2,3,4,5,6,7,8,9,10,11,12,13] (uT uN) (vT (vT (vT (vT ?_))));rw[hC.nrm.out];refine vT (vT (vT (vT (vT (vT ?_)))));refine vH (Cs rfl rfl rfl ha.inZ) (vH (hC.ld (i:=0) rfl rfl rfl ha) (vH (CB (T:=tW) (d:=regA q.fr x.a) rfl rfl rfl rfl (by decide) (Fit.int hw)) (vN ?_)));refine Aw [14] (tC (Aa2 (l2:=[regA q.fr x.a]) (i:=0) rfl (by kernel_rfl:Hm Tryz.prog 26=some (38,tW.size,4)) rfl rfl rfl (by unfold H5 maxLen;simp;omega) fun v'=>?_) Ah);refine tNt ?_;refine tT 15 (tT 16 ?_);refine Aw [17] (tC (Agt (m:={m with ov:=v',out:=m.out++[regA q.fr x.a]}) 0 rfl fun h1=>He (p:=p) (m:={m with ov:=v',out:=m.out++[regA q.fr x.a]}) (i:=0) (new:=[.lit v']) {m with oc:=v',ov:=v',out:=m.out++[regA q.fr x.a]} rfl rfl rfl (fun _=>OC.one (One.lit h1)) rfl rfl (Nat.le_of_ble_eq_true rfl) rfl ?_) Ah);exact DJ ⟨.inl rfl,⟨{m with oc:=v',ov:=v',out:=m.out++[regA q.fr x.a]},⟨rfl,hC.nrm.tv,hC.nrm.tg,hC.nrm.th⟩,rfl,rfl⟩,rfl,rfl,trivial⟩
theorem Aqt(hC:Cur m ti fg k t0 q)(h1:0≤x.l1)(h2:0≤x.l2)(ha:okR q.fr x.a):QA 112 p m fg k x (E3 m.abs ti k ⟨q.fr.f,if regA q.fr x.a=0 then x.l2.toNat else x.l1.toNat,0,q.fr.regs⟩):=by
 haveI hT:TG m fg ti t0:=⟨hC.th,hC.fv⟩
 haveI hQ:QK t0 k q:=⟨hC.fr⟩
 refine AI Tryz.func112 rfl (by kernel_rfl) rfl Tryz.ntmps112 rfl (fun _=>rfl) fun C=>?_
 refine nS ?_;refine wS (sB (wN ?_));refine wS (sT (sT (sT (sT (sT (sT ?_))))));refine Ao rfl (DI (i:=0) (j:=1) (u:=.int .i64 x.l1) ⟨⟨q.fr.f,x.l1.toNat,q.fr.i,q.fr.regs⟩,q.rg⟩ rfl rfl rfl rfl hT hC.fr rfl rfl (by decide) (by show [_,_,_,_]= [_,Cl.v (.int .i64 ((x.l1.toNat:Nat):Int)),_,_];rw[Int.toNat_of_nonneg h1]) rfl ?_);refine sNt (hk:=sT (sT ?_));refine Ao rfl (DI (i:=0) (j:=2) (k:=k) (u:=.int .i64 0) ⟨⟨q.fr.f,x.l1.toNat,0,q.fr.regs⟩,q.rg⟩ rfl rfl rfl rfl (inferInstance:TG (m.upF ti t0 k _) fg ti _) QK.e rfl rfl (by decide) rfl rfl ?_);rw[NG hC.th];refine sNt (hk:=wN ?_);have hC2:=hC.upF ⟨⟨q.fr.f,x.l1.toNat,0,q.fr.regs⟩,q.rg⟩ hC.i64;refine dS 9 (hq:=(qT (qT (qT (qT (qT (qT ?_)))))));refine qI (n:=q.fr.regs.length) ha.inZ (qH (hC2.ld (i:=0) rfl rfl rfl ha) (qT (qN (wN ?_))));refine Ae rfl (fun hb=>?_) (fun hb=>?_)
 ·have hb:(regA q.fr x.a ==0)=true:=hb;have h0:regA q.fr x.a=0:=by simpa using hb
  rw[if_pos h0];refine wSE (sT (sT (sT (sT (sT ?_)))));refine Ao rfl (DI (i:=0) (j:=1) (k:=k) (u:=.int .i64 x.l2) ⟨⟨q.fr.f,x.l2.toNat,0,q.fr.regs⟩,q.rg⟩ rfl rfl rfl rfl (inferInstance:TG (m.upF ti t0 k _) fg ti _) QK.e rfl rfl (by decide) (by show [_,_,_,_]= [_,Cl.v (.int .i64 ((x.l2.toNat:Nat):Int)),_,_];rw[Int.toNat_of_nonneg h2]) rfl ?_);rw[NG hC.th];exact wN ⟨.inl rfl,hC.out ⟨⟨q.fr.f,x.l2.toNat,0,q.fr.regs⟩,q.rg⟩,rfl,rfl,trivial⟩
 ·have hb:(regA q.fr x.a ==0)=false:=hb;have h0:¬regA q.fr x.a=0:=by simpa using hb
  rw[if_neg h0];exact Ag ⟨.inl rfl,hC.out ⟨⟨q.fr.f,x.l1.toNat,0,q.fr.regs⟩,q.rg⟩,rfl,rfl,trivial⟩
end
theorem VB{z:Int}(h0:0≤z)(h1:z≤255):IntKind.u8.wrap z=z:=by
 have e:IntKind.u8.wrap z=z % 256:=by simp[IntKind.wrap,IntKind.signed,IntKind.bits]
 omega
section
variable{p:Prog}{m:MdA}{ti fg k:Nat}{t0:ThA}{q:FrA}{x:Ins}
theorem Aac(hC:Cur m ti fg k t0 q)(hd:okR q.fr x.d)(ha:okR q.fr x.a)(hb:okR q.fr x.b)(hn:0≤x.n∧x.n≤255){w:Int}(hw:wfI .u32 w)(hdo:Fn Tryz.prog 162 [.lit (.int .u8 x.n),.lit (.int .u32 (regA q.fr x.a)),.lit (.int .u32 (regA q.fr x.b))] (.tup [.lit (.int .u32 w),.lit (.bool true)])):QA 104 p m fg k x (E3 m.abs ti k ⟨q.fr.f,q.fr.b,q.fr.i,q.fr.regs.set x.d.toNat w⟩):=by
 haveI hT:TG m fg ti t0:=⟨hC.th,hC.fv⟩
 haveI hQ:QK t0 k q:=⟨hC.fr⟩
 refine AI Tryz.func104 rfl (by kernel_rfl) rfl Tryz.ntmps104 rfl (fun _=>rfl) fun C=>?_
 refine nS ?_;refine wS (sB (wN ?_));refine dS 25 (hq:=qT (qT ?_));refine qH (Av.cv rfl rfl (VB hn.1 hn.2)) (qT (qT (qT (qT (qT (qT ?_))))));refine qI ha.inZ (qH (hC.ld (i:=0) rfl rfl rfl ha) (qT (qT (qT (qT (qT (qT ?_)))))));refine qI hb.inZ (qH (hC.ld (i:=0) rfl rfl rfl hb) (qC hdo (qT (qT (qT (qT (qT (qN (wN ?_)))))))));refine Ac fun K3 h3=>?_
 refine wS (sT (sT (wN ?_)));refine Ae rfl (fun hb=>by cases hb) (fun _=>?_);refine Ag (h3 _ ?_);refine dSE 8 (hq:=(qT (qT (qT (qT (qT (qT (qT ?_))))))));refine qI hd.inZ (qN ?_);refine Ao rfl (Ji (i:=0) (z:=x.d) rfl rfl rfl rfl hC.th hC.fr hd.2 hw ?_);exact wN ⟨.inl rfl,hC.out ⟨⟨q.fr.f,q.fr.b,q.fr.i,q.fr.regs.set x.d.toNat w⟩,q.rg⟩,rfl,rfl,trivial⟩
theorem X6(hC:Cur m ti fg k t0 q)(hd:okR q.fr x.d)(ha:okR q.fr x.a)(hb:okR q.fr x.b)(hn:0≤x.n∧x.n≤255){w:Int}(hw:wfI .u32 w)(hdo:Fn Tryz.prog 162 [.lit (.int .u8 x.n),.lit (.int .u32 (regA q.fr x.a)),.lit (.int .u32 (regA q.fr x.b))] (.tup [.lit (.int .u32 w),.lit (.bool false)])):Akc 104 p m fg k x 1:=by
 haveI hT:TG m fg ti t0:=⟨hC.th,hC.fv⟩
 haveI hQ:QK t0 k q:=⟨hC.fr⟩
 refine AI Tryz.func104 rfl (by kernel_rfl) rfl Tryz.ntmps104 rfl (fun _=>rfl) fun C=>?_
 refine nS ?_;refine wS (sB (wN ?_));refine dS 25 (hq:=qT (qT ?_));refine qH (Av.cv rfl rfl (VB hn.1 hn.2)) (qT (qT (qT (qT (qT (qT ?_))))));refine qI ha.inZ (qH (hC.ld (i:=0) rfl rfl rfl ha) (qT (qT (qT (qT (qT (qT ?_)))))));refine qI hb.inZ (qH (hC.ld (i:=0) rfl rfl rfl hb) (qC hdo (qT (qT (qT (qT (qT (qN (wN ?_)))))))));refine Ac fun K3 h3=>?_
 refine wS (sT (sT (wN ?_)));refine Ae rfl (fun _=>?_) (fun hb=>by cases hb);refine wS (sT ?_);refine Ao rfl (Be (i:=0) rfl rfl (Th p m 1) (fun _=>rfl) rfl rfl (fun _=>rfl) fun _=>?_);refine sNt (hk:=wN ?_);exact Aj ⟨.inr rfl,(),rfl,rfl,trivial⟩
theorem Ed{α:Type}{l:List α}{k:Nat}(h:k < l.length):EJ l (k:Int)=true:=B8.2 ⟨by omega,by rw[Int.toNat_natCast];exact h⟩
theorem W6(hC:Cur m ti fg k t0 q)(hf:FrOk p q.fr):AE Tryz.prog 114 (modR p m) [.lit (ptV m.g 0),.lit (ptV fg (k * 4))] (fun _:Unit=>modR p m) (fun _=>.agg (AL (Cu p q.fr))):=by
 haveI hT:TG m fg ti t0:=⟨hC.th,hC.fv⟩
 haveI hQ:QK t0 k q:=⟨hC.fr⟩
 refine GR Tryz.func114 rfl (by kernel_rfl) rfl (by kernel_rfl:OO Tryz.prog 40=some (true,9)) Tryz.ntmps114 rfl fun C=>?_
 refine nS ?_;refine wS (sA0 (wN ?_));refine dS 25 (hq:=(qT (qT (qT (qT (qT (qT (qT (qT (qT ?_))))))))));refine qX (Ed hf.f) (qT (qT (qT (qT (qT (qT ?_))))));refine qX (Ed hf.b) (qT (qT (qT (qT (qT (qT ?_))))));refine qX (Ed hf.i) (qT (qN ?_));refine sW (wN ?_);exact Aj ⟨.inr rfl,(),rfl,rfl,1,_,rfl,rfl,rfl,rfl,rfl⟩
end
theorem Cd{P:Program}{C:Ctx}{t:List AV}{h:List ABlk}{o:Oper}{K:St→Prop}{ty:TypeId}{x y:Operand}{k k':IntKind}{n:Nat}{e:TypeId}{z:Value}{bytes:Nat}{α:Type}{T:Ty α}(d:α)(ho:o.op= .makeSlice ty x y)(hz:E2 P ty=some (e,z,bytes))(hT:T.size=1)(hd0:∀w S,T.RS w S [z] d)
 (hx:evA t x= .lit (.int k (n:Int))) (hy:evA t y= .lit (.int k' (n:Int))) (hb:bytes * n≤281474976710656) (hn:n≤maxLen)
 (hK:∀g,K ⟨AJ t o.dst (.lit (slV g n n)),h++[.res (rowR (slV g n n) e T (List.replicate n d))]⟩):AOp P C o ⟨t,h⟩ K:=by
 refine Cj (ι:=Nat) (Rs:=fun g=>rowR (slV g n n) e T (List.replicate n d)) (val:=fun g=>slV g n n) (fun _=>rfl) (fun S ψ w ρ H hρ=>?_) hK;have hx':=hρ x (by rw[ho];simp[Op.operands]);have hy':=hρ y (by rw[ho];simp[Op.operands]);rw[hx]at hx';rw[hy]at hy';unfold AV.rel at hx' hy';unfold E2 at hz;split at hz <;> try(cases hz;done)
 rename_i e' h1;obtain⟨i,hi,h2⟩:=Option.bind_eq_some_iff.1 hz;obtain⟨z',hz',h3⟩:=Option.bind_eq_some_iff.1 h2;split at h3 <;> try(cases h3;done)
 rename_i h4;cases h3;have hzc:=CM h4.2;have hrun:=run_make_row' (P:=P) ty e z i.bytes h1 (by rw[hi];simp[hz',h4.1]) hzc k k' n hb (by unfold maxLen at hn;omega) w;rw[IL]at hrun;have hbl:=(Below.refl w.heap.size w).alloc (Nat.le_refl _) (.cells (List.replicate n z).toArray e);have he:(execOp ρ o).run P w= .ok (.value (slV w.heap.size n n)) (w.alloc (.cells (List.replicate n z).toArray e)):=by simp[execOp,ho,hx',hy',hrun]
 rw[he];refine⟨⟨hbl.os,hbl.tape,hbl.output,hbl.size,fun k hk _=>hbl.block k hk⟩,w.heap.size,rfl,?_,fun k hk=>?_⟩
 ·have hlen:(List.replicate n d).length=n:=List.length_replicate;have:=Lg (g:=w.heap.size) (c:=n) (e:=e) (T:=T) (l:=List.replicate n d) (S:=S) (heap_alloc_new w (.cells (List.replicate n z).toArray e)) (by rw[hlen];exact Nat.le_refl _) hn (by rw[hT];simp) (by rw[hT];exact Nat.one_pos) fun j d' hj=>by
   rw[hT,Nat.mul_one,List.drop_replicate];have hj2:=(List.getElem?_eq_some_iff.1 hj).1;rw[hlen]at hj2;rw[List.eq_of_mem_replicate (List.mem_of_getElem? hj),List.take_replicate,show min 1 (n - j)=1 by omega];exact hd0 _ _
  unfold Ik at this;rw[hlen]at this;exact this
 ·have hk:some w.heap.size=some k:=hk;cases hk;exact⟨.inr (Nat.le_refl _),by simp⟩
def Aou(p:Prog)(m:MdA)(n:Nat)(args:List Int)(rg:Nat):Res:=.all [modR p m,rowR (slV rg n n) 38 tW (args++(List.replicate n (0:Int)).drop args.length)]
def YD(f n rg:Nat):List Value:=[.int .i64 (f:Int),.int .i64 0,.int .i64 0,slV rg n n]
theorem Ac9:Cf Tryz.prog 91=some [(0,1),(1,1),(2,1),(3,1)]:=by kernel_rfl
theorem M3(p:Prog)(m:MdA)(f n:Nat)(args:List Int)(hf:f < p.funcs.length)(hn:(BS p f).regs=(n:Int))(hn2:n≤65536)(ha:args.length≤n):AE Tryz.prog 42 (modR p m) [.lit (ptV m.g 0),.lit (.int .i64 (f:Int)),.bs tW args] (Aou p m n args) (fun rg=>.agg ((YD f n rg).map .lit)):=by
 refine GR Tryz.func42 rfl (by kernel_rfl) rfl (by kernel_rfl:OO Tryz.prog 91=some (true,4)) Tryz.ntmps42 rfl fun C=>?_
 refine nS ?_;refine wS (sA0 (wN ?_));refine wS (sT (sT (sT (sT (sT (sT (sT ?_)))))));refine sX (Ed hf) (sT (sT ?_));have e1:ixD p.funcs (f:Int)=BS p f:=rfl;rw[e1,hn];refine Ao rfl (Cd (T:=tW) (0:Int) (e:=38) (z:=.int .u32 0) (bytes:=4) rfl (by kernel_rfl) rfl (fun w S=>⟨rfl,by decide⟩) rfl rfl (by omega) (by unfold maxLen;omega) fun rg=>?_);refine sNt (hk:=sH (B9 (rs:=[.lit (.int .i64 (f:Int)),.lit (.int .i64 0),.lit (.int .i64 0),.lit (.slice (some ⟨rg,0,none⟩) n n)]) rfl Ac9 rfl rfl) ?_);refine sA0 (sW (wN ?_));refine wS (sT (sT (sT ?_)));refine Ao rfl (Agv (i:=2) (T:=tW) (l2:=args) rfl (Ct (enc:=fun d=>[.lit (.int .u32 d)]) EncOf.ok fun d x hx=>by rw[List.mem_singleton.1 hx];exact .inl ⟨_,rfl,rfl⟩) (by kernel_rfl:Tryz.prog.underlying 26=some (.slice 38)) (by kernel_rfl) rfl rfl rfl rfl List.length_replicate ha ?_);refine sNt (hk:=wN ?_);refine wS (sT (sW (wN ?_)));refine Awp.le (Ma 0 rfl) (Awp.le (Ef 0 2 (by decide) rfl rfl) ?_);exact Aj ⟨.inr rfl,rg,rfl,rfl,1,_,rfl,rfl,rfl,rfl,rfl⟩
def Jy(s:Mdl)(k:Nat):List Nat:=(List.range k).filter fun t=>!(s.ths.getD t []).isEmpty
theorem MZ(s:Mdl)(k:Nat):Jy s (k+1)=Jy s k++if(s.ths.getD k []).isEmpty then []else [k]:=by
 unfold Jy;rw[List.range_succ,List.filter_append];cases h:(s.ths.getD k []).isEmpty <;> simp only[List.filter_cons,h,List.filter_nil,Bool.not_true,Bool.not_false,if_true,if_false,Bool.false_eq_true]
theorem PM(s:Mdl)(k:Nat):(Jy s k).length≤k:=by
 unfold Jy;exact Nat.le_trans (List.length_filter_le _ _) (by simp)
theorem PO(s:Mdl):Jy s s.ths.length=DN s:=rfl
theorem Ake{k:Nat}(h:k≤1073741824):wfI .i64 (k:Int):=by
 simp[wfI,Lit.wf,IntKind.min,IntKind.max,IntKind.signed,IntKind.bits];omega
theorem Cq{k:Nat}(h:k≤1073741824):IntKind.i64.wrap ((k:Int)+1)=((k+1:Nat):Int):=by rw[IntWalk.i64_in _ (by omega)];rfl
theorem VC{k:Nat}(h:k≤1073741824):IntKind.u32.wrap (k:Int)=(k:Int):=by
 have e:IntKind.u32.wrap (k:Int)=(k:Int) % 4294967296:=by simp[IntKind.wrap,IntKind.signed,IntKind.bits]
 omega
theorem E1{m:MdA}{ti:Nat}{t0:ThA}(ht:m.ths[ti]? =some t0):m.abs.ths.getD ti []=t0.l.map FrA.fr:=by
 rw[List.getD_eq_getElem?_getD];show((m.ths.map fun t=>t.l.map FrA.fr)[ti]?).getD []=_;rw[List.getElem?_map,ht];rfl
theorem Aq8{n:Nat}(h:n≤1073741824):H5 (n+1) 8=true:=by
 unfold H5 maxLen;simp;omega
def Ko(l:List Nat):List Int:=l.map fun k:Nat=>(k:Int)
theorem Qu{P:Program}{C:Ctx}{t:List AV}{h:List ABlk}{o:Oper}{xt yt:TypeId}{x y:Operand}{k:IntKind}{a b:Nat}(hb:0 < b)(ho:o.op= .binOp .rem xt x y yt)(hx:evA t x= .lit (.int k (a:Int)))(hy:evA t y= .lit (.int k (b:Int))):Av P C t h o (.lit (.int k ((a % b:Nat):Int))):=
 Np (a:=(a:Int)) (b:=(b:Int)) ho hx hy (by simp;omega)
@[reducible] def MdA.tl(m:MdA):MdA:={m with ch:=m.ch.tail}
theorem Vk{m:MdA}(h:m.ch= []):m.tl=m:=by
 rcases m with⟨g,hg,oc,ov,tc,tv,heap,out,ch,ths,at_,kind,v⟩
 obtain rfl:ch= []:=h;rfl
def MdA.chosen(m:MdA):MdA:={m with ch:=m.ch.tail,at_:=(DN m.abs).getD ((m.ch.headD 0).toNat % (DN m.abs).length) 0}
theorem Qi(p:Prog)(m:MdA)(hN:m.Nrm)(hl:DN m.abs≠[])(hn:m.ths.length≤1073741824)(hf:∀t∈m.ths,t.l.length≤1073741824)(hc:∀c∈m.ch,wfI .u32 c):AE Tryz.prog 165 (modR p m) [.lit (ptV m.g 0)] (fun _:Unit=>modR p m.chosen) (fun _=>.lit (.tuple #[])):=by
 obtain⟨tg,tc,htv⟩:=hN.tg;have htc:m.tc=slV tg m.ths.length tc:=hN.tv.trans htv
 haveI hTV:TV m.tl tg:=⟨tc,htv⟩
 have hcw:wfI .u32 (m.ch.headD 0):=by
  cases hch:m.ch with
  |nil=>exact(by simp[wfI,Lit.wf,IntKind.min,IntKind.max,IntKind.signed,IntKind.bits]:wfI .u32 0)
  |cons c l=>exact hc c (by rw[hch];simp)
 have hcb:=KU hcw;refine AI Tryz.func165 rfl (by kernel_rfl) rfl Tryz.ntmps165 rfl (fun _=>rfl) fun C=>?_
 simp only[List.length_cons,List.length_nil,Nat.reduceAdd,Nat.reduceSub,List.replicate_succ,List.replicate_zero,List.cons_append,List.nil_append];refine wS (sT (wN ?_));refine OF ⟨(.lit (ptV m.g 0)::.any::.lit (.int .u32 (m.ch.headD 0))::A40 (A10 (A5 []))),[.res (modR p m.tl)]⟩ ?_ ?_
 ·refine wS (sT (sT (sT (sT (sT (sT (wN ?_)))))));refine Ae rfl (fun hb4=>?_) (fun hb4=>?_)
  ·have hpos:0 < m.ch.length:=by
    have:=of_decide_eq_true hb4;omega
   have e1:(m.ch.take m.ch.length).drop 1=m.ch.tail:=by
    rw[List.take_length,List.drop_one]
   have e2:ixD m.ch ((0:Nat):Int)=m.ch.headD 0:=by
    cases m.ch <;> rfl
   refine dSE 15 (hq:=qT (qT (qT (qT (qT ?_)))));refine qX (Ed (k:=0) hpos) (qT (qT (qT (qT (qT ?_)))));refine qH (Md (l:=1) (m:=m.ch.length) rfl rfl rfl ⟨.i64,rfl⟩ rfl hpos (Nat.le_refl _)) ?_;rw[e1,e2];refine qT (qT (qT (qN ?_)));refine Ao rfl (He (p:=p) (m:=m) (i:=0) (new:=[.bs tW m.ch.tail]) m.tl rfl rfl rfl (fun _=>OC.one One.bs) rfl rfl (Nat.le_of_ble_eq_true rfl) rfl ?_);refine wN ?_;exact Fb (hc:=.cons (.nil _))
  ·have hnil:m.ch= []:=by
    have:=of_decide_eq_false hb4;exact List.eq_nil_of_length_eq_zero (by omega)
   rw[Vk hnil,hnil];refine Ag ?_;exact Fb (hc:=.cons (.nil _))
 ·refine wS (sT (wN ?_));refine Ac fun K7 h7=>?_
  refine As _ (Cz 3 3 tInt rfl (by decide)) ?_;refine nT ?_;refine wS (sT (sT (sT (sT ?_))));rw[htc];refine sT (sT (wN ?_));refine Af ?_;refine Au (fun b:Nat×Nat=>⟨(.lit (ptV m.g 0)::.any::.lit (.int .u32 (m.ch.headD 0))::.own 1 b.2::A20 (A5 (.lit (.int .i64 (m.ths.length:Int))::.lit (.int .i64 (b.1:Int))::A20 (A7 [])))),[.res (modR p m.tl),.row b.2 3 tInt (Ko (Jy m.abs b.1))]⟩) (fun b=>b.1≤m.ths.length) (fun b=>m.ths.length - b.1) (0,0) (Nat.zero_le _) (BD rfl (by(try simp only[AJ,List.set_cons_zero,List.set_cons_succ]);repeat(first|exact Fgt.nil|refine Fgt.keep rfl ?_|refine Fgt.any ?_))) ?_;rintro⟨k,ver⟩ hk;have hk:k≤m.ths.length:=hk;refine wS (sT (wN ?_));refine Ac fun K11 h11=>?_
  refine Ae rfl (fun hb12=>?_) (fun hb12=>?_)
  ·have hlt:k < m.ths.length:=by
    have:=of_decide_eq_true hb12;omega
   obtain⟨t0,ht⟩:∃t0,m.ths[k]? =some t0:=⟨_,List.getElem?_eq_getElem hlt⟩
   have htm:=List.mem_of_getElem? ht;obtain⟨h1,fg,c,h2⟩:=hN.th t0 htm;refine Ag ?_;refine h11 _ ?_;refine nT ?_;refine Ac fun K13 h13=>?_
   refine Af ?_;refine wS (sT (sT (wN ?_)));refine wS (sT (sT (sT (sT ?_))));rw[htc];refine sT ?_;refine sH (AY rfl rfl rfl hlt) (sT ?_);refine Ao rfl (Be (i:=0) rfl rfl (MG p m.tl tg k t0 fg c hTV ht (h1.trans h2) (by have:=hf t0 htm;omega)) (fun _=>rfl) rfl rfl (fun _=>rfl) fun _=>?_);refine sNt (hk:=sT (wN ?_));refine Ae rfl (fun hb16=>?_) (fun hb16=>?_)
   ·have he:m.abs.ths.getD k []≠[]:=by
     rw[E1 ht];intro e;have:t0.l.length=0:=by rw[←List.length_map (f:=FrA.fr),e];rfl
     rw[show(topA t0 fg)=none by unfold topA;rw[if_pos this]]at hb16;cases hb16
    refine wSE (sT (sT ?_));refine sH (CB (T:=tInt) (d:=(k:Int)) rfl rfl rfl rfl (by decide) (Fit.int (Ake (by omega)))) ?_;refine sP (Aq8 (Nat.le_trans (by rw[Ko,List.length_map];exact PM _ _) (Nat.le_trans hk hn))) (sT (wN ?_));refine h13 _ ?_;refine nT ?_;refine wSE (sT (sT (wN ?_)));have e3:Ko (Jy m.abs (k+1))=Ko (Jy m.abs k)++[(k:Int)]:=by
     rw[MZ,show(m.abs.ths.getD k []).isEmpty=false by simpa using he];simp[Ko]
    refine athen_n ⟨(k+1,ver+1),hlt,by show m.ths.length - (k+1) < m.ths.length - k;omega,?_⟩;rw[Cq (by omega)];show St.le _ _ ⟨_,[_,.row (ver+1) 3 tInt (Ko (Jy m.abs (k+1)))]⟩;rw[e3];exact BD rfl (by(try simp only[AJ,List.set_cons_zero,List.set_cons_succ]);repeat(first|exact Fgt.nil|refine Fgt.keep rfl ?_|refine Fgt.any ?_))
   ·refine Ag ?_;refine h13 _ ?_;refine nT ?_;refine wSE (sT (sT (wN ?_)));have he:(m.abs.ths.getD k []).isEmpty=true:=by
     rw[E1 ht];by_cases e:t0.l.length=0
     ·rw[List.eq_nil_of_length_eq_zero e];rfl
     ·rw[show topA t0 fg=some ⟨fg,(t0.l.length - 1) * 4,none⟩by unfold topA;rw[if_neg e]]at hb16;cases hb16
    have e3:Ko (Jy m.abs (k+1))=Ko (Jy m.abs k):=by
     rw[MZ,he];simp[Ko]
    refine athen_n ⟨(k+1,ver),hlt,by show m.ths.length - (k+1) < m.ths.length - k;omega,?_⟩;rw[Cq (by omega)];show St.le _ _ ⟨_,[_,.row ver 3 tInt (Ko (Jy m.abs (k+1)))]⟩;rw[e3];exact BD rfl (by(try simp only[AJ,List.set_cons_zero,List.set_cons_succ]);repeat(first|exact Fgt.nil|refine Fgt.keep rfl ?_|refine Fgt.any ?_))
  ·have hkn:k=m.ths.length:=by
    have:=of_decide_eq_false hb12;omega
   have hlen:m.abs.ths.length=m.ths.length:=List.length_map _;rw[hkn,←hlen,PO];refine Aq ?_;refine h7 _ ?_;refine nT ?_;have hLn:0 < (DN m.abs).length:=List.length_pos_iff.2 hl;have hLm:(DN m.abs).length≤m.ths.length:=by rw[←hlen,←PO];exact PM _ _
   have hLl:(Ko (DN m.abs)).length=(DN m.abs).length:=List.length_map _;obtain⟨c,hce⟩:∃c:Nat,m.ch.headD 0=(c:Int):=⟨(m.ch.headD 0).toNat,by omega⟩
   have hmod:=Nat.mod_lt c hLn;refine wSE (sT (sT (sT (sT (sT ?_)))));refine sH (Av.cv rfl rfl (VC (by omega))) ?_;rw[hce,hLl];refine sH (Qu hLn rfl rfl rfl) ?_;refine sH (FG rfl rfl rfl rfl rfl (by rw[hLl];exact hmod)) ?_;refine sH (Cw rfl rfl rfl (by rw[Ko,List.getElem?_map,List.getElem?_eq_getElem hmod];rfl) rfl) (sT (sT ?_));refine Ao rfl (He (p:=p) (m:=m.tl) (i:=0) (new:=[.lit (.int .i64 (((DN m.abs)[c % (DN m.abs).length]:Nat):Int))]) m.chosen rfl rfl rfl (fun _=>OC.one (One.lit rfl)) rfl rfl (Nat.le_of_ble_eq_true rfl) ?_ ?_)
   ·unfold MdA.chosen;rw[hce,Int.toNat_natCast,List.getD_eq_getElem?_getD,List.getElem?_eq_getElem hmod];rfl
   refine wN ?_;exact⟨.inl rfl,(),rfl,rfl,trivial⟩
theorem EG(m:MdA)(ti:Nat)(t:ThA):(m.upT ti t).abs= {m.abs with ths:=m.abs.ths.set ti (t.l.map FrA.fr)}:=by
 unfold MdA.abs MdA.upT;simp only[List.map_set]
theorem MdA.Nrm.upT{m:MdA}{ti:Nat}{t:ThA}(h:m.Nrm)(ht:t.cv=t.fv∧∃fg c,t.fv=slV fg t.l.length c):(m.upT ti t).Nrm:=by
 refine⟨h.out,h.tv,?_,fun t' htm=>?_⟩
 ·obtain⟨tg,c,e⟩:=h.tg;exact⟨tg,c,by show m.tv=slV tg (m.ths.set ti _).length c;rw[List.length_set];exact e⟩
 ·rcases List.mem_or_eq_of_mem_set htm with htm|rfl
  ·exact h.th t' htm
  ·exact ht
def modP(p:Prog)(m:MdA)(ti:Nat)(t0:ThA)(q:FrA):Res:=.all ((Kq p m).set (4+ti) (.all (thL t0++[rgR q])))
theorem Sf{C:Ctx}{t:List AV}{h:List ABlk}{i j ti:Nat}{p:Prog}{m:MdA}{t0:ThA}{q:FrA}(hij:i≠j)(hi:h[i]? =some (.res (modR p m)))(hj:h[j]? =some (.res (rgR q)))(ht:m.ths[ti]? =some t0):St.le C ⟨t,h⟩ ⟨t,(h.set j .dead).set i (.res (modP p m ti t0 q))⟩:=by
 have hk:=Ia (p:=p) ht;have hkl:=(List.getElem?_eq_some_iff.1 hk).1;refine C8 hij hi hj rfl rfl rfl (fun g ⟨A,hA,hg⟩=>?_) fun w S H1 H2 hdis=>?_
 ·rcases List.mem_or_eq_of_mem_set hA with hA|rfl
  ·exact .inl ⟨A,hA,hg⟩
  ·obtain⟨B,hB,hg⟩:=hg;rcases List.mem_append.1 hB with hB|hB
   ·exact .inl ⟨thR t0,List.mem_of_getElem? hk,B,hB,hg⟩
   ·rw[List.mem_singleton.1 hB]at hg;exact .inr hg
 ·have hth:=WM H1 ht;have key:∀(i:Nat) (A:Res),((Kq p m).set (4+ti) (.all (thL t0++[rgR q])))[i]? =some A→∃A0,(Kq p m)[i]? =some A0∧∀g,A.F g→A0.F g∨(i=4+ti∧(rgR q).F g):=fun i A hA=>by
   by_cases e:i=4+ti
   ·subst e;rw[List.getElem?_set_self hkl]at hA;cases hA;refine⟨_,hk,fun g ⟨B,hB,hg⟩=>?_⟩;rcases List.mem_append.1 hB with hB|hB
    ·exact .inl ⟨B,hB,hg⟩
    ·rw[List.mem_singleton.1 hB]at hg;exact .inr ⟨rfl,hg⟩
   ·rw[List.getElem?_set_ne (Ne.symm e)]at hA;exact⟨A,hA,fun g hg=>.inl hg⟩
  refine⟨fun A hA=>?_,fun i j A B hne h3 h4 g hg hg2=>?_⟩
  ·rcases List.mem_or_eq_of_mem_set hA with hA|rfl
   ·exact H1.1 A hA
   ·refine⟨fun B hB=>?_,fun i j B1 B2 hne h3 h4 g hg hg2=>?_⟩
    ·rcases List.mem_append.1 hB with hB|hB
     ·exact hth.1 B hB
     ·rw[List.mem_singleton.1 hB];exact H2
    ·have hin:∀(i:Nat) (B:Res),(thL t0++[rgR q])[i]? =some B→(thL t0)[i]? =some B∨(i=(thL t0).length∧B=rgR q):=fun i B hB=>by
      by_cases e:i < (thL t0).length
      ·rw[List.getElem?_append_left e]at hB;exact .inl hB
      ·rw[List.getElem?_append_right (Nat.le_of_not_lt e)]at hB;have h1:=(List.getElem?_eq_some_iff.1 hB).1;have e2:i=(thL t0).length:=by simp at h1;omega
       subst e2;rw[Nat.sub_self]at hB;exact .inr ⟨rfl,(Option.some.inj hB).symm⟩
     rcases hin i B1 h3 with a|⟨a,rfl⟩
     ·rcases hin j B2 h4 with b|⟨b,rfl⟩
      ·exact hth.2 i j B1 B2 hne a b g hg hg2
      ·exact hdis g ⟨thR t0,List.mem_of_getElem? hk,B1,List.mem_of_getElem? a,hg⟩ hg2
     ·rcases hin j B2 h4 with b|⟨b,_⟩
      ·exact hdis g ⟨thR t0,List.mem_of_getElem? hk,B2,List.mem_of_getElem? b,hg2⟩ hg
      ·omega
  ·obtain⟨A0,a1,a2⟩:=key i A h3;obtain⟨B0,b1,b2⟩:=key j B h4;rcases a2 g hg with a|⟨a,a'⟩
   ·rcases b2 g hg2 with b|⟨_,b'⟩
    ·exact H1.2 i j A0 B0 hne a1 b1 g a b
    ·exact hdis g ⟨A0,List.mem_of_getElem? a1,a⟩ b'
   ·rcases b2 g hg2 with b|⟨b,_⟩
    ·exact hdis g ⟨B0,List.mem_of_getElem? b1,b⟩ a'
    ·omega
section
variable{P:Program}{C:Ctx}{t:List AV}{h:List ABlk}{o:Oper}{K:St→Prop}
theorem Yv{ty:TypeId}{x y:Operand}{i j ti:Nat}{p:Prog}{m:MdA}{t0:ThA}(q:FrA)(hij:i≠j)(ho:o.op= .call {callee:=.builtin .append,args:=#[x,y],argTypes:=#[ty,ty]})(hT:Hm P ty=some (91,(tCl 3).size,48))(hx:evA t x= .lit t0.fv)(hy:evA t y= .bs (tCl 3) [frC q])(hi:h[i]? =some (.res (modR p m)))(hj:h[j]? =some (.res (rgR q)))(ht:m.ths[ti]? =some t0)
 (hb:H5 (t0.l.length+1) 48=true) (hK:∀v',K ⟨AJ t o.dst (.lit v'),(h.set j .dead).set i (.res (modR p (m.upT ti ⟨t0.cv,v',t0.l++[q]⟩)))++[.dead,.dead]⟩):AOp P C o ⟨t,h⟩ K:=by
 unfold H5 at hb;simp only[Bool.and_eq_true,decide_eq_true_eq]at hb;have hkl:=(List.getElem?_eq_some_iff.1 (Ia (p:=p) ht)).1;have hil:=(List.getElem?_eq_some_iff.1 hi).1;refine AOp.le (Sf hij hi hj ht) ?_;refine CR (ι:=Value) (t':=fun v'=>AJ t o.dst (.lit v')) (A:=.all (thL t0++[rgR q])) (A':=fun v'=>thR ⟨t0.cv,v',t0.l++[q]⟩) i (4+ti) [.dead] (List.getElem?_set_self (by rw[List.length_set];exact hil)) (List.getElem?_set_self hkl) rfl (fun _=>rfl) (fun h1 K1 hi1 _ hK1=>?_) fun v'=>?_
 ·refine CR (ι:=Value) (t':=fun v'=>AJ t o.dst (.lit v')) (A:=rowR t0.fv 91 (tCl 3) (t0.l.map frC)) (A':=fun v'=>rowR v' 91 (tCl 3) (t0.l.map frC++[frC q])) _ 0 [] hi1 rfl rfl (fun _=>rfl) (fun h2 K2 hi2 _ hK2=>?_) fun v'=>?_
  ·exact Gf ho hT hx hi2 hy (EncOf.one (T:=tCl 3) (enc:=fun l=>l.map Cl.av)) (by rw[List.length_map];exact hb.1) (by rw[List.length_map];exact hb.2) fun v'=>by have:=hK2 v';rwa [List.append_nil]at this
  ·have e:(thL t0++[rgR q]).set 0 (rowR v' 91 (tCl 3) (t0.l.map frC++[frC q]))=thL ⟨t0.cv,v',t0.l++[q]⟩:=by
    show _::(t0.l.map rgR++[rgR q])=rowR v' 91 (tCl 3) ((t0.l++[q]).map frC)::(t0.l++[q]).map rgR;rw[List.map_append,List.map_append];rfl
   have:=hK1 v';rw[e];exact this
 ·rw[List.set_set,List.set_set,N9 ht (t':=⟨t0.cv,v',t0.l++[q]⟩) rfl];exact hK v'
theorem Aat{ti:Nat}{p:Prog}{m:MdA}{t0:ThA}(i:Nat)(hi:h[i]? =some (.res (modR p m)))(ht:m.ths[ti]? =some t0)(hne:t0.l≠[])(hk:∀fg c,t0.fv=slV fg t0.l.length c→AOp P C o ⟨t,h⟩ K):AOp P C o ⟨t,h⟩ K:=fun Q' a w H=>by
 obtain⟨hd,S,ψ,HR,hl⟩:=id H;obtain⟨cells,hown,_⟩:=RD (HR.blk i _ hi).2 ht;rcases hown.2 with⟨_,e0⟩|⟨g,cap,cur,e,_⟩
 ·exact absurd (List.eq_nil_of_length_eq_zero (by rw[List.length_map]at e0;exact e0)) hne
 ·rw[List.length_map]at e;exact hk g cap e Q' a w H
theorem Fit.cl{n:Nat}{l:List Cl}(hl:l.length=n+1)(h1:∀x∈l,One h x.av):Fit h (tCl n) (.agg (l.map Cl.av)) l:=fun C S ψ w v H hv=>by
 unfold AV.rel at hv;obtain⟨cs,rfl,hcs⟩:=hv;refine⟨hl,AQ _ _ (Acl l) hcs,fun u hu=>?_⟩;obtain⟨i,hi⟩:=List.getElem?_of_mem hu;have hi:cs[i]? =some u:=hi;have hil:i < l.length:=by
  have h2:=AW hcs;rw[List.length_map]at h2;have:=(List.getElem?_eq_some_iff.1 hi).1;omega
 obtain⟨v,h2,h3⟩:=Bl hcs (i:=i) (x:=l[i].av) (by rw[List.getElem?_map,List.getElem?_eq_getElem hil];rfl);rw[hi]at h2;cases h2;exact h1 _ (List.getElem_mem hil) C S ψ w _ H h3
end
instance Ajx:TyOf Tryz.prog 91 _ (tCl 3):=⟨trivial⟩
section
variable{P:Program}{C:Ctx}{t t':List AV}{h:List ABlk}{ops:Array Oper}{K:St→Prop}{g g0:Nat}{listed L:Array Bool}{s s':St}{d:Option Nat}{ty:TypeId}{ps:String}{af:Array Go.Edge}
theorem KW{ι:Type}(L:Array Bool)(g:Nat)(M:ι→St)(hB:∀i,HW P C .any ops K g L (M i))(hm:(∀i,HW P C .any ops K g L (M i))→HW P C .any ops K g0 listed s):HW P C .any ops K g0 listed s:=hm hB
theorem tE(hh:HW P C .any ops K g L s')(hs:s=s':=by rfl)(hl:listed=L:=by kernel_rfl):HW P C .any ops K g listed s:=by
 subst hs hl;exact hh
theorem oT{op:Op}{r:AV}[QI P C t h op r][PA t d r t'](hk:K ⟨t',h⟩):AOp P C ⟨d,op,ty,ps,af,none⟩ ⟨t,h⟩ K:=BG (QI.e d ty ps af) (by rw[PA.e (t:=t) (d:=d) (r:=r) (t':=t')];exact hk)
theorem oH{op:Op}{r:AV}(hq:Av P C t h ⟨d,op,ty,ps,af,none⟩ r)[PA t d r t'](hk:K ⟨t',h⟩):AOp P C ⟨d,op,ty,ps,af,none⟩ ⟨t,h⟩ K:=BG hq (by rw[PA.e (t:=t) (d:=d) (r:=r) (t':=t')];exact hk)
end
theorem YG{p:Prog}{m:MdA}{fg k:Nat}{x:Ins}(hN:m.Nrm)(hl:DN m.abs≠[])(hn:m.ths.length≤1073741824)(hf:∀t∈m.ths,t.l.length≤1073741824)(hc:∀c∈m.ch,wfI .u32 c):QA 110 p m fg k x (Fa m.abs):=by
 refine AI Tryz.func110 rfl (by kernel_rfl) rfl Tryz.ntmps110 rfl (fun _=>rfl) fun C=>?_
 simp only[List.length_cons,List.length_nil,Nat.reduceAdd,Nat.reduceSub,List.replicate_succ,List.replicate_zero,List.cons_append,List.nil_append];refine wS (sB (wN ?_));refine wSE (sT ?_);refine Ao rfl (Be (i:=0) rfl rfl (Qi p m hN hl hn hf hc) (fun _=>rfl) rfl rfl (fun _=>rfl) fun _=>?_);refine sNt (hk:=wN ?_);exact⟨.inl rfl,⟨m.chosen,⟨hN.out,hN.tv,hN.tg,hN.th⟩,rfl,rfl⟩,rfl,rfl,trivial⟩
def Abd(s:Mdl)(ti:Nat)(r:Fr):Mdl:={s with ths:=s.ths.set ti (s.ths.getD ti []++[r])}
theorem Af5{p:Prog}{m:MdA}{fg k n:Nat}{t0:ThA}{q:FrA}{x:Ins}(hC:Cur m m.at_ fg k t0 q)(hi1:1≤q.fr.i)(hi2:q.fr.i≤1073741824)(hf:0≤x.f)(hfl:x.f.toNat < p.funcs.length)(hn:(BS p x.f.toNat).regs=(n:Int))(hn2:n≤65536)(ha:x.args.length≤n)(hr:∀a∈x.args,okR q.fr a)(hl:t0.l.length≤1073741824)(hat:m.at_≤1073741824):
 QA 108 p m fg k x (Abd (E3 m.abs m.at_ k ⟨q.fr.f,q.fr.b,q.fr.i - 1,q.fr.regs⟩) m.at_ (newFr p x.f.toNat (x.args.map (regA q.fr)))):=by
 haveI hT:TG m fg m.at_ t0:=⟨hC.th,hC.fv⟩
 haveI hQ:QK t0 k q:=⟨hC.fr⟩
 obtain⟨tg,tc,htv⟩:=hC.nrm.tg;have htc:m.tc=slV tg m.ths.length tc:=hC.nrm.tv.trans htv;have htl:=(List.getElem?_eq_some_iff.1 hC.th).1;have hql:=(List.getElem?_eq_some_iff.1 hC.fr).1;obtain⟨q1,hq1⟩:∃q1:FrA,q1=⟨⟨q.fr.f,q.fr.b,q.fr.i - 1,q.fr.regs⟩,q.rg⟩:=⟨_,rfl⟩
 have hw1:IntKind.i64.wrap ((q.fr.i:Int) - 1)=((q.fr.i - 1:Nat):Int):=by rw[IntWalk.i64_in _ (by omega)];omega
 refine Kv Tryz.func108 rfl (by kernel_rfl) rfl Tryz.ntmps108 rfl (fun _=>rfl) fun C hCt=>?_
 simp only[List.length_cons,List.length_nil,Nat.reduceAdd,Nat.reduceSub,List.replicate_succ,List.replicate_zero,List.cons_append,List.nil_append];refine wS (sB (wN ?_));refine wS (sT (wN ?_));refine Ac fun K3 h3=>?_
 refine As _ (Cz 6 38 tW rfl (by decide)) ?_;refine nT ?_;refine wS (sT (sT (sT (sT (wN ?_)))));refine Af ?_;refine Au (fun j:Nat=>⟨(.lit (ptV m.g 0)::.lit (ptV fg (k * 4))::A3 (.ptr 1 0::.own 2 j::A4 (.bs tInt x.args::.lit (.int .i64 (x.args.length:Int))::.lit (.int .i64 (j:Int))::A40 (A6 [])))),[.res (modR p m),.box (AL x),.row j 38 tW ((x.args.take j).map (regA q.fr))]⟩) (fun j=>j≤x.args.length) (fun j=>x.args.length - j) 0 (Nat.zero_le _) (BD rfl (by(try simp only[AJ,List.set_cons_zero,List.set_cons_succ]);repeat(first|exact Fgt.nil|refine Fgt.keep rfl ?_|refine Fgt.any ?_))) ?_;rintro j hj;refine wS (sT (wN ?_));refine Ac fun K7 h7=>?_
 refine Ae rfl (fun hb8=>?_) (fun hb8=>?_)
 ·have hlt:j < x.args.length:=by
   have:=of_decide_eq_true hb8;omega
  obtain⟨a,hae⟩:∃a,x.args[j]? =some a:=⟨_,List.getElem?_eq_getElem hlt⟩
  have hra:=hr a (List.mem_of_getElem? hae);have hix:ixD x.args (j:Int)=a:=by
   unfold ixD;rw[Int.toNat_natCast,List.getD_eq_getElem?_getD,hae];rfl
  refine hC.wf hra 0 rfl fun hw=>?_
  refine Ag ?_;refine h7 _ ?_;refine nT ?_;refine Ac fun K9 h9=>?_
  refine Af ?_;refine wS ?_;refine sX (Ed hlt) ?_;refine sT (sT (wN ?_));rw[hix];refine wSE (sT (sT (sT (sT (sT (sT ?_))))));refine sI hra.inZ (sH (hC.ld (i:=0) rfl rfl rfl hra) ?_);refine sH (CB (T:=tW) (d:=regA q.fr a) rfl rfl rfl rfl (by decide) (Fit.int hw)) ?_;refine sP (by unfold H5 maxLen;simp;omega) (sT (wN ?_));refine h9 _ ?_;refine nT ?_;refine wSE (sT (sT (wN ?_)));refine athen_n ⟨j+1,hlt,by show x.args.length - (j+1) < x.args.length - j;omega,?_⟩;rw[Cq (by omega)];show St.le _ _ ⟨_,[_,_,.row (j+1) 38 tW ((x.args.take (j+1)).map (regA q.fr))]⟩;rw[List.take_add_one,hae,List.map_append];exact BD rfl (by(try simp only[AJ,List.set_cons_zero,List.set_cons_succ]);repeat(first|exact Fgt.nil|refine Fgt.keep rfl ?_|refine Fgt.any ?_))
 ·have hjn:j=x.args.length:=by
   have:=of_decide_eq_false hb8;have hj:j≤x.args.length:=hj;omega
  rw[hjn,List.take_length];refine Aq ?_;refine h3 _ ?_;refine nT ?_;refine wS (sT (sT (sT (sT (sT ?_)))));rw[hw1];refine sT (sT ?_);refine Ao rfl (DI (i:=0) (j:=2) (u:=.int .i64 ((q.fr.i - 1:Nat):Int)) q1 rfl rfl rfl rfl hT hC.fr rfl rfl (by decide) (by rw[hq1];rfl) (by rw[hq1];rfl) ?_);refine sNt (hk:=wN ?_);have hl1:(m.upF m.at_ t0 k q1).ths.length=m.ths.length:=List.length_set
  haveI hTV1:TV (m.upF m.at_ t0 k q1) tg:=⟨tc,by rw[hl1];exact htv⟩
  have ht1:(m.upF m.at_ t0 k q1).ths[m.at_]? =some (t0.upF k q1):=List.getElem?_set_self htl;have hcv:t0.cv=t0.fv:=(hC.nrm.th t0 (List.mem_of_getElem? hC.th)).1;obtain⟨fc,hfv⟩:=hC.fv
  haveI hTI1:TI (m.upF m.at_ t0 k q1) m.at_ (t0.upF k q1):=⟨ht1⟩
  refine dS 10 (hq:=qT (qT (qT (qT ?_))));rw[htc];refine qT (qT (qT (qT ?_)));refine qH (AY rfl rfl rfl htl) (qT (qN (wN ?_)));refine As _ (Ye hCt 0 2 6 (by decide) rfl (fun g h=>Aqn hC.th hC.fr (by rw[hq1]) h) rfl rfl) ?_;refine As ⟨(.lit (ptV m.g 0)::A4 (.ptr 1 0::.bs tW (x.args.map (regA q.fr))::A2 (.lit (ptV tg m.at_)::A40 (A10 [])))),[.res (modR p (m.upF m.at_ t0 k q1)),.box (AL x)]⟩ (Fb (hc:=.cons (.cons (.nil _)))) ?_;have hal:(x.args.map (regA q.fr)).length≤n:=by rw[List.length_map];exact ha
  obtain⟨q2,hq2⟩:∃q2:Nat→FrA,q2=fun rg=>⟨newFr p x.f.toNat (x.args.map (regA q.fr)),rg⟩:=⟨_,rfl⟩
  have hrl:(newFr p x.f.toNat (x.args.map (regA q.fr))).regs=x.args.map (regA q.fr)++(List.replicate n (0:Int)).drop (x.args.map (regA q.fr)).length:=by
   unfold newFr;rw[hn,Int.toNat_natCast,List.take_of_length_le hal,List.drop_replicate]
  have hrn:(newFr p x.f.toNat (x.args.map (regA q.fr))).regs.length=n:=by
   rw[hrl,List.length_append,List.length_drop,List.length_replicate];omega
  have hx:x.f=((x.f.toNat:Nat):Int):=by omega
  have hrR:∀rg,rowR (slV rg n n) 38 tW (x.args.map (regA q.fr)++(List.replicate n (0:Int)).drop (x.args.map (regA q.fr)).length)=rgR (q2 rg):=fun rg=>by
   rw[hq2];unfold rgR Ik;rw[hrn,hrl]
  have hfc:∀rg,frC (q2 rg)= [.v (.int .i64 (x.f.toNat:Int)),.v (.int .i64 0),.v (.int .i64 0),.v (slV rg n n)]:=fun rg=>by
   rw[hq2];unfold frC;rw[hrn];rfl
  have hLit:∀(C:Ctx) (t:List AV) (h:List ABlk) (o:Oper) (rg:Nat),o.op= .buildSlice 93 1 #[(0,.tmp 54)]→evA t (.tmp 54)= .agg ((YD x.f.toNat n rg).map .lit)→Av Tryz.prog C t h o (.bs (tCl 3) [frC (q2 rg)]):=fun C t h o rg h1 h2=>CB (T:=tCl 3) (d:=frC (q2 rg)) h1 rfl rfl rfl (by decide) (by
   rw[h2,hfc];exact Fit.cl (n:=3) (l:=[.v (.int .i64 (x.f.toNat:Int)),.v (.int .i64 0),.v (.int .i64 0),.v (slV rg n n)]) rfl fun y hy=>by
    simp only[List.mem_cons,List.not_mem_nil,or_false]at hy;rcases hy with rfl|rfl|rfl|rfl <;> exact One.lit rfl)
  have hfo:=M3 p (m.upF m.at_ t0 k q1) x.f.toNat n (x.args.map (regA q.fr)) hfl hn hn2 hal;rw[←hx]at hfo;rw[show Aou p (m.upF m.at_ t0 k q1) n (x.args.map (regA q.fr))=fun rg=>.all [modR p (m.upF m.at_ t0 k q1),rgR (q2 rg)]from funext fun rg=>by unfold Aou;rw[hrR]]at hfo;refine dHE 5 [0,1,2,3,4,6,9] [] (uT (uT (uT (uT (uT (uT (uT uN))))))) (vN ?_);refine KW (BV [0,1,2,3,4,6,9,5,7,8,10,11] (Array.replicate 17 false)) 5 (fun rg=>⟨(.lit (ptV m.g 0)::A4 (.ptr 1 0::.bs tW (x.args.map (regA q.fr))::A2 (.lit (ptV tg m.at_)::A20 (A10 (A4 (.lit (ptV tg m.at_)::.lit (ptV tg m.at_)::.lit (ptV tg m.at_)::.lit (ptV tg m.at_)::.lit (ptV tg m.at_)::.lit t0.cv::.lit (ptV m.g 0)::.ptr 1 5::.lit (.int .i64 x.f)::.bs tW (x.args.map (regA q.fr))::.agg ((YD x.f.toNat n rg).map .lit)::.bs (tCl 3) [frC (q2 rg)]::A4 [])))))),[.res (modR p (m.upF m.at_ t0 k q1)),.box (AL x),.res (rgR (q2 rg))]⟩) (fun rg=>?_) (fun hB=>?_)
  ·refine tA 12 ?_;refine(Yv (t0:=t0.upF k q1) (i:=0) (j:=2) (q2 rg) (by decide) rfl (by kernel_rfl:Hm Tryz.prog 93=some (91,(tCl 3).size,48)) (by show AV.lit t0.cv=AV.lit t0.fv;rw[hcv]) rfl rfl rfl ht1 (by unfold H5 maxLen;simp;omega) fun v'=>?_);refine tNt ?_;refine tT 13 (tT 14 (tT 15 ?_));have habl:m.at_ < m.abs.ths.length:=by
    have:m.abs.ths.length=m.ths.length:=List.length_map _;omega
   have ht2:((m.upF m.at_ t0 k q1).upT m.at_ ⟨t0.cv,v',t0.l.set k q1++[q2 rg]⟩).ths[m.at_]? =some ⟨t0.cv,v',t0.l.set k q1++[q2 rg]⟩:=List.getElem?_set_self (by rw[List.length_set];exact htl);refine tA 16 ?_;refine Aat 0 rfl ht2 (by simp) fun fg2 c2 hv2=>?_
   have hv2:v'=slV fg2 (t0.l.set k q1++[q2 rg]).length c2:=hv2;refine TF (i:=0) rfl rfl rfl rfl ⟨⟨tc,by show m.tv=slV tg (List.length _) tc;rw[List.length_set,List.length_set];exact htv⟩⟩ ht2 (by rw[hv2];rfl) ?_;refine DJ ⟨.inl rfl,⟨m.upT m.at_ ⟨v',v',t0.l.set k q1++[q2 rg]⟩,hC.nrm.upT ⟨rfl,fg2,c2,hv2⟩,rfl,?_⟩,rfl,?_,trivial⟩
   ·rw[EG];unfold Abd E3;simp only[List.set_set];rw[List.getD_eq_getElem?_getD,List.getElem?_set_self habl,E1 hC.th];show Mdl.mk _ _ _ (List.set _ _ ((t0.l.set k q1++[q2 rg]).map FrA.fr)) _ _ _=Mdl.mk _ _ _ (List.set _ _ ((t0.l.map FrA.fr).set k _++[_])) _ _ _;rw[List.map_append,List.map_set,hq1,hq2];rfl
   ·have e:m.upT m.at_ ⟨v',v',t0.l.set k q1++[q2 rg]⟩=(((m.upF m.at_ t0 k q1).upT m.at_ ⟨t0.cv,v',t0.l.set k q1++[q2 rg]⟩).upT m.at_ ⟨v',v',t0.l.set k q1++[q2 rg]⟩):=by
     unfold MdA.upF MdA.upT;simp only[List.set_set]
    exact congrArg (fun z=>some (ABlk.res (modR p z))) e.symm
  ·refine KW (BV [0,1,2,3,4,6,9,5,7,8] (Array.replicate 17 false)) 7 (fun _:Unit=>⟨(.lit (ptV m.g 0)::A4 (.ptr 1 0::.bs tW (x.args.map (regA q.fr))::A2 (.lit (ptV tg m.at_)::A20 (A10 (A4 (.lit (ptV tg m.at_)::.lit (ptV tg m.at_)::.lit (ptV tg m.at_)::.lit (ptV tg m.at_)::.lit (ptV tg m.at_)::.lit t0.cv::.lit (ptV m.g 0)::.ptr 1 5::.lit (.int .i64 x.f)::.bs tW (x.args.map (regA q.fr))::A6 [])))))),[.res (modR p (m.upF m.at_ t0 k q1)),.box (AL x)]⟩) (fun _=>?_) (fun hA=>?_)
   ·refine tA 10 (Hf (i:=0) rfl rfl hfo rfl (fun _=>rfl) (fun _=>rfl) rfl rfl (fun _=>rfl) fun rg=>?_);refine tNt ?_;refine tH 11 (hLit _ _ _ _ rg rfl rfl) (tE (hB rg))
   ·refine Aw [5,7] (tC (oT (tT 7 (tT 8 (tE (hA ()))))) (tC (oT (Aw [5,8] (tC (oT (tT 8 (tE (hA ())))) (tC (oT (Aw [5,10] (tC (oT (tE (hA ()))) (tC ?_ Ah)))) Ah)))) Ah));refine Hf (i:=0) rfl rfl hfo rfl (fun _=>rfl) (fun _=>rfl) rfl rfl (fun _=>rfl) fun rg=>?_
    refine tNt ?_;refine Aw [5,11] (tC (oT ?_) (tC (oH (hLit _ _ _ _ rg rfl rfl) ?_) Ah))
    ·exact tH 11 (hLit _ _ _ _ rg rfl rfl) (tE (hB rg))
    ·exact tT 5 (tE (hB rg))
  skip
def Tg(P:Program)(ty:TypeId)(j:Nat):Option Nat:=
 match P.underlying ty with
 |some (.struct fs)=>
  match fs[j]? with
  |some f=>match P.underlying f.type with
   |some (.int _)=>some f.offset
   |_=>none
  |none=>none
 |_=>none
theorem Mh{P:Program}{C:Ctx}{t:List AV}{h:List ABlk}{o:Oper}{ty:TypeId}{x:Operand}{j off:Nat}{l:List AV}{r:AV}(ho:o.op= .field ty x j)(hf:Tg P ty j=some off)(hx:evA t x= .agg l)(hr:l[off]? =some r):Av P C t h o r:=
 Ap fun S ψ w ρ _ hρ=>by
  have h1:=hρ x (by simp[ho,Op.operands]);rw[hx]at h1;unfold AV.rel at h1;obtain⟨cs,e1,hl⟩:=h1;obtain⟨v,hv,hrel⟩:=Bl hl hr;unfold Tg at hf;split at hf <;> try(cases hf;done)
  rename_i fs hu;split at hf <;> try(cases hf;done)
  rename_i f hfj;split at hf <;> try(cases hf;done)
  rename_i k hk;cases hf;exact⟨v,by simp[execOp,ho,e1,Instr.field,run_underlying hu,hfj,part,isAgg,run_underlying hk,asAgg,hv],hrel⟩
theorem OH{P:Program}{C:Ctx}{t:List AV}{h:List ABlk}{cd:Code}{Q:Exit→St→Prop}{ti fg c:Nat}{p:Prog}{m:MdA}{t0:ThA}(i:Nat)(hi:h[i]? =some (.res (modR p m)))(ht:m.ths[ti]? =some t0)(hv:t0.fv=slV fg t0.l.length c)(hk:t0.l.length≤c→Awp P C cd Q ⟨t,h⟩):Awp P C cd Q ⟨t,h⟩:=fun a w H=>by
 obtain⟨hd,S,ψ,HR,hl⟩:=id H;have h1:=RD (HR.blk i _ hi).2 ht;have hlen:t0.l.length=(t0.l.map frC).length:=(List.length_map _).symm;rw[hv,hlen]at h1;obtain⟨cur,_,hnc,_⟩:=Fx h1;rw[←hlen]at hnc;exact hk hnc a w H
theorem Akn{p:Prog}{m:MdA}{fg k:Nat}{t0:ThA}{q qu:FrA}{x:Ins}(hC:Cur m m.at_ fg (k+1) t0 q)(hlen:t0.l.length=(k+1)+1)(ha:okR q.fr x.a)(hl:t0.l.length≤1073741824)(hu:t0.l[k]? =some qu)(hfu:FrOk p qu.fr)(hd:okR qu.fr (Cu p qu.fr).d)(hui:qu.fr.i≤1073741824)(huq:qu.fr.regs.length≤4611686018427387904):
 QA 113 p m fg (k+1) x {m.abs with ths:=m.abs.ths.set m.at_ ((m.abs.ths.getD m.at_ []).dropLast.set k ⟨qu.fr.f,qu.fr.b,qu.fr.i+1,qu.fr.regs.set (Cu p qu.fr).d.toNat (regA q.fr x.a)⟩)}:=by
 haveI hT:TG m fg m.at_ t0:=⟨hC.th,hC.fv⟩
 haveI hQ:QK t0 (k+1) q:=⟨hC.fr⟩
 obtain⟨tg,tc,htv⟩:=hC.nrm.tg;have htc:m.tc=slV tg m.ths.length tc:=hC.nrm.tv.trans htv;have htl:=(List.getElem?_eq_some_iff.1 hC.th).1;obtain⟨fc,hfv⟩:=hC.fv;have hcv:t0.cv=t0.fv:=(hC.nrm.th t0 (List.mem_of_getElem? hC.th)).1
 haveI hTV:TV m tg:=⟨tc,htv⟩
 haveI hTI:TI m m.at_ t0:=⟨hC.th⟩
 haveI hTV1:TV (m.upT m.at_ (t0.pop fg fc)) tg:=⟨tc,by show m.tv=slV tg (List.length _) tc;rw[List.length_set];exact htv⟩
 have ht1:(m.upT m.at_ (t0.pop fg fc)).ths[m.at_]? =some (t0.pop fg fc):=List.getElem?_set_self htl;have hne:t0.l≠[]:=by
  intro e;rw[e]at hlen;cases hlen
 have hl1:(t0.pop fg fc).l.length=t0.l.length - 1:=List.length_dropLast;have htop:=MG p (m.upT m.at_ (t0.pop fg fc)) tg m.at_ (t0.pop fg fc) fg fc hTV1 ht1 (by show slV fg _ fc=slV fg _ fc;rw[hl1]) (by omega);have hA:topA (t0.pop fg fc) fg=some ⟨fg,k * 4,none⟩:=by
  unfold topA;rw[hl1,hlen,if_neg (by omega)];rfl
 have hu1:(t0.pop fg fc).l[k]? =some qu:=by
  show t0.l.dropLast[k]? =_;rw[List.getElem?_dropLast,if_pos (by omega)];exact hu
 have hN1:(m.upT m.at_ (t0.pop fg fc)).Nrm:=hC.nrm.upT ⟨rfl,fg,fc,by show slV fg _ fc=slV fg _ fc;rw[hl1]⟩;have hC1:Cur (m.upT m.at_ (t0.pop fg fc)) m.at_ fg k (t0.pop fg fc) qu:=⟨hN1,ht1,⟨fc,by show slV fg _ fc=slV fg _ fc;rw[hl1]⟩,hu1,huq⟩
 haveI hT1:TG (m.upT m.at_ (t0.pop fg fc)) fg m.at_ (t0.pop fg fc):=⟨ht1,hC1.fv⟩
 haveI hQ1:QK (t0.pop fg fc) k qu:=⟨hu1⟩
 rw[show MH (t0.pop fg fc) fg=ptV fg (k * 4)from congrArg Value.pointer hA]at htop;have hins:=W6 hC1 hfu;obtain⟨q2,hq2⟩:∃q2:FrA,q2= {qu with fr:={qu.fr with regs:=qu.fr.regs.set (Cu p qu.fr).d.toNat (regA q.fr x.a)}}:=⟨_,rfl⟩
 have hq2l:q2.fr.regs.length≤4611686018427387904:=by rw[hq2];show(List.set _ _ _).length≤_;rw[List.length_set];exact huq
 have hq2i:q2.fr.i=qu.fr.i:=by rw[hq2]
 have hC2:=hC1.upF q2 hq2l
 haveI hT2:TG ((m.upT m.at_ (t0.pop fg fc)).upF m.at_ (t0.pop fg fc) k q2) fg m.at_ ((t0.pop fg fc).upF k q2):=⟨hC2.th,hC2.fv⟩
 haveI hQ2:QK ((t0.pop fg fc).upF k q2) k q2:=⟨hC2.fr⟩
 have hw1:IntKind.i64.wrap ((qu.fr.i:Int)+1)=((qu.fr.i+1:Nat):Int):=Cq hui;refine AI Tryz.func113 rfl (by kernel_rfl) rfl Tryz.ntmps113 rfl (fun _=>rfl) fun C=>?_
 simp only[List.length_cons,List.length_nil,Nat.reduceAdd,Nat.reduceSub,List.replicate_succ,List.replicate_zero,List.cons_append,List.nil_append];refine OH 0 rfl hC.th hfv fun hcap=>?_
 refine hC.wf ha 0 rfl fun hw=>?_
 refine wS (sB (wN ?_));refine dS 19 (hq:=qT (qT (qT (qT (qT (qT ?_))))));refine qI ha.inZ (qH (hC.ld (i:=0) rfl rfl rfl ha) (qT (qT (qT (qT ?_)))));rw[htc];refine qT (qT (qT (qT ?_)));refine qH (AY rfl rfl rfl htl) (qT (qT (qN (wN ?_))));refine wS (sT (sT (sT ?_)));refine Ao rfl (Be (i:=0) rfl rfl (Wm p m tg m.at_ t0 fg fc hTV hC.th (hcv.trans hfv) hfv hne hcap (by omega)) (fun _=>rfl) rfl rfl (fun _=>rfl) fun _=>?_);refine sNt (hk:=wN ?_);refine wS (sT (sT (sT ?_)));refine Ao rfl (Be (i:=0) rfl rfl htop (fun _=>rfl) rfl rfl (fun _=>rfl) fun _=>?_);refine sNt (hk:=sT (wN ?_));refine Af ?_;refine wS (sT (sT (sT (wN ?_))));refine Ae rfl (fun hb6=>?_) (fun hb6=>?_)
 ·refine As ⟨(.lit (ptV m.g 0)::A5 (.lit (.int .u32 (regA q.fr x.a))::.any::.lit (ptV fg (k * 4))::A40 (A10 (A8 [])))),[.res (modR p (m.upT m.at_ (t0.pop fg fc)))]⟩ (Fb (hc:=.cons (.nil _))) ?_;refine dH 3 [0,1,2,4,5,8] [] (uT (uT (uT (uT (uT (uT uN)))))) fun K7 hK7=>vN ?_
  refine KW (BV [0,1,2,4,5,8,3,6,7] (Array.replicate 11 false)) 2 (fun _:Unit=>⟨(.lit (ptV m.g 0)::A5 (.lit (.int .u32 (regA q.fr x.a))::.any::.lit (ptV fg (k * 4))::A20 (A10 (.lit (ptV fg (k * 4))::.lit (ptV fg (k * 4))::.lit (ptV fg (k * 4+3))::.lit (slV qu.rg qu.fr.regs.length qu.fr.regs.length)::.lit (ptV m.g 0)::.lit (ptV fg (k * 4))::.agg (AL (Cu p qu.fr))::.lit (.int .i64 (Cu p qu.fr).d)::.lit (.int .u32 (regA q.fr x.a))::A10 (A9 []))))),[.res (modR p (m.upT m.at_ (t0.pop fg fc)))]⟩) (fun _=>?_) (fun hB=>?_)
  rotate_left
  ·refine Aw [3,6] (tC (oT ?_) (tC ?_ Ah))
   ·refine tA 6 ?_;refine Be (i:=0) rfl rfl hins (fun _=>rfl) rfl rfl (fun _=>rfl) fun _=>?_
    refine tNt ?_;exact tH 7 (Mh (off:=1) rfl (by kernel_rfl) rfl rfl) (tE (hB ()))
   ·refine Be (i:=0) rfl rfl hins (fun _=>rfl) rfl rfl (fun _=>rfl) fun _=>?_
    refine tNt ?_;refine Aw [3,7] (tC (oT ?_) (tC (oH (Mh (off:=1) rfl (by kernel_rfl) rfl rfl) ?_) Ah))
    ·exact tH 7 (Mh (off:=1) rfl (by kernel_rfl) rfl rfl) (tE (hB ()))
    ·exact tT 3 (tE (hB ()))
  refine tNt ?_;refine tH 9 (Cs rfl rfl rfl hd.inZ) ?_;refine tA 10 ?_;refine Ji (i:=0) (z:=(Cu p qu.fr).d) rfl rfl rfl rfl ht1 hu1 hd.2 hw ?_;rw[←hq2];refine tNt ?_;refine DJ (hK7 _ ?_);refine wSE (sT (sT (sT (sT ?_))));rw[hq2i];refine sT ?_;rw[hw1];refine sT (sT ?_);refine Ao rfl (DI (i:=0) (j:=2) (k:=k) (u:=.int .i64 ((qu.fr.i+1:Nat):Int)) ⟨⟨qu.fr.f,qu.fr.b,qu.fr.i+1,q2.fr.regs⟩,q2.rg⟩ rfl rfl rfl rfl hT2 hC2.fr rfl rfl (by decide) (by rw[hq2];rfl) rfl ?_);rw[NG ht1];refine wN ?_;refine⟨.inl rfl,⟨(m.upT m.at_ (t0.pop fg fc)).upF m.at_ (t0.pop fg fc) k ⟨⟨qu.fr.f,qu.fr.b,qu.fr.i+1,q2.fr.regs⟩,q2.rg⟩,hN1.upF ht1,rfl,?_⟩,rfl,rfl,trivial⟩;rw[EG,EG];simp only[List.set_set];rw[E1 hC.th];show Mdl.mk _ _ _ (List.set _ _ ((t0.l.dropLast.set k _).map FrA.fr)) _ _ _=Mdl.mk _ _ _ (List.set _ _ ((t0.l.map FrA.fr).dropLast.set k _)) _ _ _;rw[List.map_set,List.map_dropLast,hq2]
 ·cases hb6
theorem YZ{p:Prog}{m:MdA}{fg:Nat}{t0:ThA}{q:FrA}{x:Ins}(hC:Cur m m.at_ fg 0 t0 q)(hlen:t0.l.length=0+1)(ha:okR q.fr x.a)(hl:t0.l.length≤1073741824)(h0:m.at_=0):
 QA 113 p m fg 0 x {m.abs with ths:=m.abs.ths.set m.at_ [],kind:=1,v:=regA q.fr x.a}:=by
 haveI hT:TG m fg m.at_ t0:=⟨hC.th,hC.fv⟩
 haveI hQ:QK t0 0 q:=⟨hC.fr⟩
 obtain⟨tg,tc,htv⟩:=hC.nrm.tg;have htc:m.tc=slV tg m.ths.length tc:=hC.nrm.tv.trans htv;have htl:=(List.getElem?_eq_some_iff.1 hC.th).1;obtain⟨fc,hfv⟩:=hC.fv;have hcv:t0.cv=t0.fv:=(hC.nrm.th t0 (List.mem_of_getElem? hC.th)).1
 haveI hTV:TV m tg:=⟨tc,htv⟩
 haveI hTI:TI m m.at_ t0:=⟨hC.th⟩
 haveI hTV1:TV (m.upT m.at_ (t0.pop fg fc)) tg:=⟨tc,by show m.tv=slV tg (List.length _) tc;rw[List.length_set];exact htv⟩
 have ht1:(m.upT m.at_ (t0.pop fg fc)).ths[m.at_]? =some (t0.pop fg fc):=List.getElem?_set_self htl;have hne:t0.l≠[]:=by
  intro e;rw[e]at hlen;cases hlen
 have hl1:(t0.pop fg fc).l.length=t0.l.length - 1:=List.length_dropLast;have htop:=MG p (m.upT m.at_ (t0.pop fg fc)) tg m.at_ (t0.pop fg fc) fg fc hTV1 ht1 (by show slV fg _ fc=slV fg _ fc;rw[hl1]) (by omega);have hA:MH (t0.pop fg fc) fg= .pointer none:=by
  unfold MH topA;rw[hl1,hlen,if_pos rfl]
 have hnil:(t0.pop fg fc).l= []:=List.eq_nil_of_length_eq_zero (by omega);have hN1:(m.upT m.at_ (t0.pop fg fc)).Nrm:=hC.nrm.upT ⟨rfl,fg,fc,by show slV fg _ fc=slV fg _ fc;rw[hl1]⟩;have habs:(m.upT m.at_ (t0.pop fg fc)).abs= {m.abs with ths:=m.abs.ths.set m.at_ []}:=by
  rw[EG,hnil];rfl
 rw[hA]at htop;refine AI Tryz.func113 rfl (by kernel_rfl) rfl Tryz.ntmps113 rfl (fun _=>rfl) fun C=>?_
 simp only[List.length_cons,List.length_nil,Nat.reduceAdd,Nat.reduceSub,List.replicate_succ,List.replicate_zero,List.cons_append,List.nil_append];refine OH 0 rfl hC.th hfv fun hcap=>?_
 refine hC.wf ha 0 rfl fun hw=>?_
 refine wS (sB (wN ?_));refine dS 19 (hq:=qT (qT (qT (qT (qT (qT ?_))))));refine qI ha.inZ (qH (hC.ld (i:=0) rfl rfl rfl ha) (qT (qT (qT (qT ?_)))));rw[htc];refine qT (qT (qT (qT ?_)));refine qH (AY rfl rfl rfl htl) (qT (qT (qN (wN ?_))));refine wS (sT (sT (sT ?_)));refine Ao rfl (Be (i:=0) rfl rfl (Wm p m tg m.at_ t0 fg fc hTV hC.th (hcv.trans hfv) hfv hne hcap (by omega)) (fun _=>rfl) rfl rfl (fun _=>rfl) fun _=>?_);refine sNt (hk:=wN ?_);refine wS (sT (sT (sT ?_)));refine Ao rfl (Be (i:=0) rfl rfl htop (fun _=>rfl) rfl rfl (fun _=>rfl) fun _=>?_);refine sNt (hk:=sT (wN ?_));refine Af ?_;refine wS (sT (sT (sT (wN ?_))));refine Ae rfl (fun hb6=>?_) (fun hb6=>?_)
 ·cases hb6
 ·refine wS (sT (sT (sT (sT (sT (sT (wN ?_)))))));refine Ae rfl (fun hb10=>?_) (fun hb10=>?_)
  ·refine wSE (sT (sT ?_));refine sH (B9 (rs:=[.lit (.int .u8 1),.lit (.int .u32 (regA q.fr x.a))]) rfl Abf rfl rfl) (sT (sT ?_));refine Ao rfl (He (p:=p) (m:=m.upT m.at_ (t0.pop fg fc)) (i:=0) {m.upT m.at_ (t0.pop fg fc)with kind:=1,v:=regA q.fr x.a} rfl rfl rfl (fun _=>Eh rfl) rfl rfl (Nat.le_of_ble_eq_true rfl) rfl ?_);refine wN ?_;refine⟨.inl rfl,⟨{m.upT m.at_ (t0.pop fg fc)with kind:=1,v:=regA q.fr x.a},⟨hN1.out,hN1.tv,hN1.tg,hN1.th⟩,rfl,?_⟩,rfl,rfl,trivial⟩;show({(m.upT m.at_ (t0.pop fg fc)).abs with kind:=1,v:=regA q.fr x.a}:Mdl)=_;rw[habs]
  ·have hb10:((m.at_:Int) ==0)=false:=hb10;rw[h0]at hb10;cases hb10
theorem YY{p:Prog}{m:MdA}{fg:Nat}{t0:ThA}{q:FrA}{x:Ins}(hC:Cur m m.at_ fg 0 t0 q)(hlen:t0.l.length=0+1)(ha:okR q.fr x.a)(hl:t0.l.length≤1073741824)(h0:m.at_≠0)(hlv:DN {m.abs with ths:=m.abs.ths.set m.at_ []}≠[])(hn:m.ths.length≤1073741824)(hf:∀t∈m.ths,t.l.length≤1073741824)(hc:∀c∈m.ch,wfI .u32 c):
 QA 113 p m fg 0 x (Fa {m.abs with ths:=m.abs.ths.set m.at_ []}):=by
 haveI hT:TG m fg m.at_ t0:=⟨hC.th,hC.fv⟩
 haveI hQ:QK t0 0 q:=⟨hC.fr⟩
 obtain⟨tg,tc,htv⟩:=hC.nrm.tg;have htc:m.tc=slV tg m.ths.length tc:=hC.nrm.tv.trans htv;have htl:=(List.getElem?_eq_some_iff.1 hC.th).1;obtain⟨fc,hfv⟩:=hC.fv;have hcv:t0.cv=t0.fv:=(hC.nrm.th t0 (List.mem_of_getElem? hC.th)).1
 haveI hTV:TV m tg:=⟨tc,htv⟩
 haveI hTI:TI m m.at_ t0:=⟨hC.th⟩
 haveI hTV1:TV (m.upT m.at_ (t0.pop fg fc)) tg:=⟨tc,by show m.tv=slV tg (List.length _) tc;rw[List.length_set];exact htv⟩
 have ht1:(m.upT m.at_ (t0.pop fg fc)).ths[m.at_]? =some (t0.pop fg fc):=List.getElem?_set_self htl;have hne:t0.l≠[]:=by
  intro e;rw[e]at hlen;cases hlen
 have hl1:(t0.pop fg fc).l.length=t0.l.length - 1:=List.length_dropLast;have htop:=MG p (m.upT m.at_ (t0.pop fg fc)) tg m.at_ (t0.pop fg fc) fg fc hTV1 ht1 (by show slV fg _ fc=slV fg _ fc;rw[hl1]) (by omega);have hA:MH (t0.pop fg fc) fg= .pointer none:=by
  unfold MH topA;rw[hl1,hlen,if_pos rfl]
 have hnil:(t0.pop fg fc).l= []:=List.eq_nil_of_length_eq_zero (by omega);have hN1:(m.upT m.at_ (t0.pop fg fc)).Nrm:=hC.nrm.upT ⟨rfl,fg,fc,by show slV fg _ fc=slV fg _ fc;rw[hl1]⟩;have habs:(m.upT m.at_ (t0.pop fg fc)).abs= {m.abs with ths:=m.abs.ths.set m.at_ []}:=by
  rw[EG,hnil];rfl
 rw[hA]at htop;refine AI Tryz.func113 rfl (by kernel_rfl) rfl Tryz.ntmps113 rfl (fun _=>rfl) fun C=>?_
 simp only[List.length_cons,List.length_nil,Nat.reduceAdd,Nat.reduceSub,List.replicate_succ,List.replicate_zero,List.cons_append,List.nil_append];refine OH 0 rfl hC.th hfv fun hcap=>?_
 refine hC.wf ha 0 rfl fun hw=>?_
 refine wS (sB (wN ?_));refine dS 19 (hq:=qT (qT (qT (qT (qT (qT ?_))))));refine qI ha.inZ (qH (hC.ld (i:=0) rfl rfl rfl ha) (qT (qT (qT (qT ?_)))));rw[htc];refine qT (qT (qT (qT ?_)));refine qH (AY rfl rfl rfl htl) (qT (qT (qN (wN ?_))));refine wS (sT (sT (sT ?_)));refine Ao rfl (Be (i:=0) rfl rfl (Wm p m tg m.at_ t0 fg fc hTV hC.th (hcv.trans hfv) hfv hne hcap (by omega)) (fun _=>rfl) rfl rfl (fun _=>rfl) fun _=>?_);refine sNt (hk:=wN ?_);refine wS (sT (sT (sT ?_)));refine Ao rfl (Be (i:=0) rfl rfl htop (fun _=>rfl) rfl rfl (fun _=>rfl) fun _=>?_);refine sNt (hk:=sT (wN ?_));refine Af ?_;refine wS (sT (sT (sT (wN ?_))));refine Ae rfl (fun hb6=>?_) (fun hb6=>?_)
 ·cases hb6
 ·refine wS (sT (sT (sT (sT (sT (sT (wN ?_)))))));refine Ae rfl (fun hb10=>?_) (fun hb10=>?_)
  ·have hb10:((m.at_:Int) ==0)=true:=hb10;exact absurd (by simpa using hb10) h0
  ·refine wSE (sT ?_);refine Ao rfl (Be (i:=0) rfl rfl (Qi p (m.upT m.at_ (t0.pop fg fc)) hN1 (by rw[habs];exact hlv) (by show(List.set _ _ _).length≤_;rw[List.length_set];exact hn) (fun t htm=>?_) hc) (fun _=>rfl) rfl rfl (fun _=>rfl) fun _=>?_)
   ·rcases List.mem_or_eq_of_mem_set htm with htm|rfl
    ·exact hf t htm
    ·rw[hnil];exact Nat.zero_le _
   refine sNt (hk:=wN ?_);refine⟨.inl rfl,⟨(m.upT m.at_ (t0.pop fg fc)).chosen,⟨hN1.out,hN1.tv,hN1.tg,hN1.th⟩,rfl,?_⟩,rfl,rfl,trivial⟩;rw[←habs];rfl
structure PBig(dw:Int→Int→Int→Option Int)(p:Prog):Prop where
 ok:ProgOk p
 wf:∀f∈p.funcs,∀b∈f.blocks,∀x∈b.ins,wfI .u32 x.n∧(x.op=1→0≤x.n∧x.n≤255)
 blk:∀f∈p.funcs,∀b∈f.blocks,b.ins.length≤1073741824
 regs:∀f∈p.funcs,f.regs≤65536
 dw:∀n a b,0≤n→n≤255→wfI .u32 a→wfI .u32 b→∃w is,wfI .u32 w∧Fn Tryz.prog 162 [.lit (.int .u8 n),.lit (.int .u32 a),.lit (.int .u32 b)] (.tup [.lit (.int .u32 w),.lit (.bool is)])∧dw n a b=if is then some w else none
structure MBig(m:MdA):Prop where
 ths:m.ths.length≤1073741824
 frs:∀t∈m.ths,t.l.length≤1073741824
 out:m.out.length≤1073741824
 heap:m.heap.length≤4294967296
 ch:∀c∈m.ch,wfI .u32 c
theorem Lb{s:Mdl}{ti k:Nat}{a b:Fr}:E3 (E3 s ti k a) ti k b=E3 s ti k b:=by
 unfold E3;simp only[List.set_set];by_cases h:ti < s.ths.length
 ·rw[List.getD_eq_getElem?_getD,List.getElem?_set_self h];simp only[Option.getD_some,List.set_set]
 ·rw[List.set_eq_of_length_le (by omega),List.set_eq_of_length_le (by omega)]
theorem T1{s:Mdl}{ti k:Nat}{l:List Fr}{a:Fr}(hl:s.ths[ti]? =some l)(ha:l[k]? =some a):E3 s ti k a=s:=by
 unfold E3;rw[List.getD_eq_getElem?_getD,hl];show{s with ths:=s.ths.set ti (l.set k a)}=s;rw[En ha,En hl]
def opF:Nat→FuncId
 |0=>103
 |1=>104
 |2=>105
 |3=>106
 |4=>107
 |5=>108
 |6=>109
 |7=>110
 |8=>111
 |9=>112
 |_=>113
theorem Eo{x:Ins}(h:(E6 x.op).contains 97=true):x.a∈readsC x:=by
 unfold readsC;rw[h];simp
theorem Lk{x:Ins}(h:(E6 x.op).contains 98=true):x.b∈readsC x:=by
 unfold readsC;rw[h];simp
theorem Ac6{x:Ins}(h:(E6 x.op).contains 120=true):∀r∈x.args,r∈readsC x:=fun r hr=>by
 unfold readsC;rw[h];simp[hr]
section
variable{dw:Int→Int→Int→Option Int}{p:Prog}{m:MdA}{fg k:Nat}{t0:ThA}{q:FrA}
theorem Cur.okr(hC:Cur m m.at_ fg k t0 q)(hf:FrOk p q.fr)(hr:(BS p q.fr.f).regs≤65536){z:Int}(h:0≤z∧z < (BS p q.fr.f).regs):okR q.fr z:=⟨h.1,by rw[hf.regs];omega⟩
theorem hop(hP:PBig dw p)(hM:MOk p m.abs)(hk:m.kind=0)(hB:MBig m)(hC:Cur m m.at_ fg k t0 q)(hl:t0.l.length=k+1){q1:FrA}(hq1:q1=⟨nextF q.fr q.fr.regs,q.rg⟩)(hw:∀z,okR q.fr z→wfI .u32 (regA q.fr z)){x:Ins}(hx:x=Cu p q.fr):
 (∃s,s=PE dw p m.abs∧s.kind≠2∧QA (opF x.op.toNat) p (m.upF m.at_ t0 k q1) fg k x s)∨∃v,PE dw p m.abs=M7 m.abs v∧Akc (opF x.op.toNat) p (m.upF m.at_ t0 k q1) fg k x v:=by
 have htl:=(List.getElem?_eq_some_iff.1 hC.th).1;have hAt:m.abs.ths[m.at_]? =some (t0.l.map FrA.fr):=by
  show(m.ths.map _)[m.at_]? =_;rw[List.getElem?_map,hC.th];rfl
 have hth:thA m.abs=t0.l.map FrA.fr:=by
  show m.abs.ths.getD m.at_ []=_;exact E1 hC.th
 obtain⟨l0,hl0⟩:∃l0,t0.l=l0++[q]:=by
  have hne:t0.l≠[]:=by
   intro e;rw[e]at hl;cases hl
  refine⟨t0.l.dropLast,?_⟩;have e:=List.dropLast_concat_getLast hne;have h2:t0.l[k]? =some (t0.l.getLast hne):=by
   rw[List.getLast_eq_getElem,List.getElem?_eq_getElem (by omega)];congr 2;omega
  rw[hC.fr]at h2;rw[Option.some.inj h2];exact e.symm
 have htop:QT m.abs=q.fr:=by
  unfold QT;rw[hth,hl0];simp
 have hfrs:=hM.frs _ _ hAt;have hf:FrOk p q.fr:=hfrs.1 _ (List.mem_map.2 ⟨q,List.mem_of_getElem? hC.fr,rfl⟩);obtain⟨hF,hI,hend⟩:=Ka hP.ok hf;rw[←hx]at hI hend;have hfm:BS p q.fr.f∈p.funcs:=by
  unfold BS;rw[List.getD_eq_getElem?_getD,List.getElem?_eq_getElem hf.f];exact List.getElem_mem hf.f
 have hbm:(BS p q.fr.f).blocks.getD q.fr.b default∈(BS p q.fr.f).blocks:=by
  rw[List.getD_eq_getElem?_getD,List.getElem?_eq_getElem hf.b];exact List.getElem_mem hf.b
 have hxm:x∈ON p q.fr:=by
  rw[hx];unfold Cu;rw[List.getD_eq_getElem?_getD,List.getElem?_eq_getElem hf.i];exact List.getElem_mem hf.i
 have hxw:=hP.wf _ hfm _ hbm x hxm;have hrg:=hP.regs _ hfm;have hil:q.fr.i≤1073741824:=Nat.le_trans (Nat.le_of_lt hf.i) (hP.blk _ hfm _ hbm);have hok:∀r∈readsC x,okR q.fr r:=fun r hr=>hC.okr hf hrg (hI.reads r hr)
 have hokd:Az x=true→okR q.fr x.d:=fun h=>hC.okr hf hrg (hI.dst h)
 have hregs:q1.fr.regs=q.fr.regs:=by rw[hq1];rfl
 have hok1:∀{z},okR q.fr z→okR q1.fr z:=fun h=>by unfold okR;rw[hregs];exact h
 have hreg1:∀z,regA q1.fr z=regA q.fr z:=fun z=>by unfold regA;rw[hregs]
 have hC1:Cur (m.upF m.at_ t0 k q1) m.at_ fg k (t0.upF k q1) q1:=hC.upF q1 (by rw[hregs];exact hC.i64);have hs1:(m.upF m.at_ t0 k q1).abs=E3 m.abs m.at_ k q1.fr:=Mj hC.th;have hset:∀r,E3 (m.upF m.at_ t0 k q1).abs m.at_ k r=De m.abs r:=fun r=>by
  rw[hs1,Lb];exact Pf hAt (by rw[List.length_map];omega)
 have hone:PE dw p m.abs=Q7 dw p m.abs q.fr x:=by
  unfold PE;rw[htop,←hx]
 have hm1:(m.upF m.at_ t0 k q1).abs=De m.abs q1.fr:=by rw[hs1];exact Pf hAt (by rw[List.length_map];omega)
 have hq1f:q1.fr=nextF q.fr q.fr.regs:=by rw[hq1]
 have hln:(t0.upF k q1).l.length=k+1:=by show(t0.l.set k q1).length=_;rw[List.length_set];exact hl
 have hfl:t0.l.length≤1073741824:=hB.frs t0 (List.mem_of_getElem? hC.th);have hfl1:(t0.upF k q1).l.length≤1073741824:=by omega
 have hat:m.at_≤1073741824:=by have:=hB.ths;omega
 have hth1:∀t∈(m.upF m.at_ t0 k q1).ths,t.l.length≤1073741824:=fun t ht=>by
  rcases List.mem_or_eq_of_mem_set ht with ht|rfl
  ·exact hB.frs t ht
  ·exact hfl1
 have hths1:(m.upF m.at_ t0 k q1).ths.length≤1073741824:=by show(List.set _ _ _).length≤_;rw[List.length_set];exact hB.ths
 have hkind:∀r,(De m.abs r).kind≠2:=fun r e=>by
  have e:m.kind=2:=e;omega
 rw[hone];unfold Q7;by_cases e0:x.op=0
 ·rw[if_pos e0];refine .inl ⟨_,rfl,fun e=>by have e:m.kind=2:=e;omega,?_⟩;have:=Zw (p:=p) (x:=x) hC1 (hok1 (hokd (by unfold Az;rw[e0];decide))) hxw.1;rw[hset,hregs,hq1f]at this;rw[e0];exact this
 rw[if_neg e0];by_cases e1:x.op=1
 ·rw[if_pos e1];have hn:=hxw.2 e1;obtain⟨w,is,hw32,hdo,hdw⟩:=hP.dw x.n (regA q.fr x.a) (regA q.fr x.b) hn.1 hn.2 (hw _ (hok _ (Eo (by rw[e1];decide)))) (hw _ (hok _ (Lk (by rw[e1];decide))));rw[hdw];rw[←hreg1 x.a,←hreg1 x.b]at hdo;cases is with
  |true=>
   refine .inl ⟨_,rfl,fun e=>by have e:m.kind=2:=e;omega,?_⟩;have:=Aac (p:=p) (x:=x) hC1 (hok1 (hokd (by unfold Az;rw[e1];decide))) (hok1 (hok _ (Eo (by rw[e1];decide)))) (hok1 (hok _ (Lk (by rw[e1];decide)))) hn hw32 hdo;rw[hset,hregs,hq1f]at this;rw[e1];exact this
  |false=>
   refine .inr ⟨1,rfl,?_⟩;have:=X6 (p:=p) (x:=x) hC1 (hok1 (hokd (by unfold Az;rw[e1];decide))) (hok1 (hok _ (Eo (by rw[e1];decide)))) (hok1 (hok _ (Lk (by rw[e1];decide)))) hn hw32 hdo;rw[e1];exact this
 rw[if_neg e1];by_cases e2:x.op=2
 ·rw[if_pos e2];refine .inl ⟨_,rfl,fun e=>by have e:m.kind=2:=e;omega,?_⟩;have:=Ak0 (p:=p) (x:=x) hC1 (hok1 (hokd (by unfold Az;rw[e2];decide))) (hok1 (hok _ (Eo (by rw[e2];decide))));rw[hset,hregs,hreg1,hq1f]at this;rw[e2];exact this
 rw[if_neg e2];by_cases e3:x.op=3
 ·rw[if_pos e3];by_cases hin:(regA q.fr x.a).toNat < m.abs.heap.length
  ·rw[if_pos hin];refine .inl ⟨_,rfl,fun e=>by have e:m.kind=2:=e;omega,?_⟩;have:=Uq (p:=p) (x:=x) hC1 (hok1 (hokd (by unfold Az;rw[e3];decide))) (hok1 (hok _ (Eo (by rw[e3];decide)))) hB.heap (by rw[hreg1];exact hin);rw[hset,hregs,hreg1,hq1f]at this;rw[e3];exact this
  ·rw[if_neg hin];refine .inr ⟨2,rfl,?_⟩;have:=RE (p:=p) (x:=x) hC1 (hok1 (hokd (by unfold Az;rw[e3];decide))) (hok1 (hok _ (Eo (by rw[e3];decide)))) hB.heap (by rw[hreg1];exact hin);rw[e3];exact this
 rw[if_neg e3];by_cases e4:x.op=4
 ·rw[if_pos e4];by_cases hin:(regA q.fr x.a).toNat < m.abs.heap.length
  ·rw[if_pos hin];refine .inl ⟨_,rfl,fun e=>by have e:m.kind=2:=e;omega,?_⟩;have:=Q6 (p:=p) (x:=x) hC1 (hok1 (hok _ (Lk (by rw[e4];decide)))) (hok1 (hok _ (Eo (by rw[e4];decide)))) hB.heap (by rw[hreg1];exact hin);rw[hm1,hreg1,hreg1,hq1f]at this;rw[e4];exact this
  ·rw[if_neg hin];refine .inr ⟨2,rfl,?_⟩;have:=OW (p:=p) (x:=x) hC1 (hok1 (hok _ (Lk (by rw[e4];decide)))) (hok1 (hok _ (Eo (by rw[e4];decide)))) hB.heap (by rw[hreg1];exact hin);rw[e4];exact this
 rw[if_neg e4];by_cases e5:x.op=5
 ·rw[if_pos e5];obtain⟨c1,c2,c3⟩:=hI.call e5;have hG:=LM hP.ok c2;have hGr:=hP.regs (BS p x.f.toNat) (by
   unfold BS;rw[List.getD_eq_getElem?_getD,List.getElem?_eq_getElem c2];exact List.getElem_mem c2)
  have hG2:=hG.args;refine .inl ⟨_,rfl,fun e=>by have e:m.kind=2:=e;omega,?_⟩;have:=Af5 (p:=p) (x:=x) (n:=(BS p x.f.toNat).regs.toNat) hC1 (by rw[hq1f];exact Nat.succ_le_succ (Nat.zero_le _)) (by rw[hq1f];have:=hf.i;have:=hP.blk _ hfm _ hbm;show q.fr.i+1≤_;exact Nat.le_trans hf.i this) c1 c2 (by omega) (by omega) (by omega) (fun a ha=>hok1 (hok a (Ac6 (by rw[e5];decide) a ha))) hfl1 hat;rw[hs1,Lb,hregs,show(⟨q1.fr.f,q1.fr.b,q1.fr.i - 1,q.fr.regs⟩:Fr)=q.fr by rw[hq1f];rfl,T1 hAt (by rw[List.getElem?_map,hC.fr];rfl),show regA q1.fr=regA q.fr from funext hreg1]at this;rw[e5];exact this
 rw[if_neg e5];by_cases e6:x.op=6
 ·rw[if_pos e6];refine .inl ⟨_,rfl,fun e=>by have e:m.kind=2:=e;omega,?_⟩;have:=Y9 (p:=p) (x:=x) hC1 (hok1 (hok _ (Eo (by rw[e6];decide)))) hB.out;rw[hm1,hreg1,hq1f]at this;rw[e6];exact this
 rw[if_neg e6];by_cases e7:x.op=7
 ·rw[if_pos e7];refine .inl ⟨_,rfl,fun e=>by have e:m.kind=2:=e;omega,?_⟩;have hlv:DN (m.upF m.at_ t0 k q1).abs≠[]:=List.ne_nil_of_mem (a:=m.at_) (GG.2 ⟨by show m.at_ < (List.map _ _).length;rw[List.length_map,List.length_set];exact htl,by
   rw[E1 (t0:=t0.upF k q1) hC1.th];intro e;have:(t0.upF k q1).l.length=0:=by rw[←List.length_map (f:=FrA.fr),e];rfl
   omega⟩)
  have:=YG (p:=p) (fg:=fg) (k:=k) (x:=x) hC1.nrm hlv hths1 hth1 hB.ch;rw[hm1,hq1f]at this;rw[e7];exact this
 rw[if_neg e7];by_cases e8:x.op=8
 ·rw[if_pos e8];refine .inl ⟨_,rfl,fun e=>by have e:m.kind=2:=e;omega,?_⟩;have:=Ak3 (p:=p) (x:=x) hC1 (hI.l1 (.inl e8)).1;rw[hset,hregs,hq1f]at this;rw[e8];exact this
 rw[if_neg e8];by_cases e9:x.op=9
 ·rw[if_pos e9];refine .inl ⟨_,rfl,fun e=>by have e:m.kind=2:=e;omega,?_⟩;have:=Aqt (p:=p) (x:=x) hC1 (hI.l1 (.inr e9)).1 (hI.l2 e9).1 (hok1 (hok _ (Eo (by rw[e9];decide))));rw[hset,hregs,hreg1,hq1f]at this;rw[e9];exact this
 rw[if_neg e9];have e10:x.op=10:=by have:=hI.op;omega
 have hops:opF x.op.toNat=opF 10:=by rw[e10];rfl
 rw[hops];have hdl:(thA m.abs).dropLast=l0.map FrA.fr:=by rw[hth,hl0,List.map_append];simp
 have hl0k:l0.length=k:=by
  have:=hl;rw[hl0,List.length_append]at this;simpa using this
 have hths:(m.upF m.at_ t0 k q1).abs.ths=m.abs.ths.set m.at_ ((l0++[q1]).map FrA.fr):=by
  show(List.set _ _ _).map _=_;rw[List.map_set,show(t0.upF k q1).l=l0++[q1]by show t0.l.set k q1=_;rw[hl0,←hl0k];simp];rfl
 have hget:(m.upF m.at_ t0 k q1).abs.ths.getD m.at_ []=(l0++[q1]).map FrA.fr:=by
  rw[E1 (t0:=t0.upF k q1) hC1.th];show(t0.l.set k q1).map _=_;rw[hl0,←hl0k];simp
 have har:=(hok1 (hok _ (Eo (by rw[e10];decide))))
 rw[hdl,List.getLast?_map];cases hu:l0.getLast? with
 |some qu=>
  obtain⟨l1,rfl⟩:=List.getLast?_eq_some_iff.1 hu;have hk1:k=l1.length+1:=by rw[←hl0k];simp
  subst hk1;have hu1:(t0.upF (l1.length+1) q1).l[l1.length]? =some qu:=by
   show(t0.l.set _ q1)[_]? =_;rw[List.getElem?_set_ne (by omega),hl0];simp
  have hum:qu∈t0.l:=by rw[hl0];simp
  have hfu:=hfrs.1 _ (List.mem_map.2 ⟨qu,hum,rfl⟩);have hch:=hfrs.2.1;rw[hl0,List.map_append,List.map_append,List.append_assoc]at hch;have hc:=Jh (l:=l1.map FrA.fr) (r:=qu.fr) (u:=q.fr) (m:=[]) hch;obtain⟨hFu,hIu,_⟩:=Ka hP.ok hfu;have hfum:BS p qu.fr.f∈p.funcs:=by
   unfold BS;rw[List.getD_eq_getElem?_getD,List.getElem?_eq_getElem hfu.f];exact List.getElem_mem hfu.f
  have hbum:(BS p qu.fr.f).blocks.getD qu.fr.b default∈(BS p qu.fr.f).blocks:=by
   rw[List.getD_eq_getElem?_getD,List.getElem?_eq_getElem hfu.b];exact List.getElem_mem hfu.b
  have hru:=hP.regs _ hfum;have hdu:=hIu.dst (by unfold Az;rw[hc.1];decide);have:=Akn (p:=p) (x:=x) hC1 hln har hfl1 hu1 hfu ⟨hdu.1,by rw[hfu.regs];omega⟩ (Nat.le_trans (Nat.le_of_lt hfu.i) (hP.blk _ hfum _ hbum)) (by rw[hfu.regs];omega);refine .inl ⟨_,rfl,fun e=>by have e:m.kind=2:=e;omega,?_⟩;rw[hget,hths,hreg1]at this;simp only[List.set_set]at this;show QA _ p _ fg _ x (IA m.abs ((List.map FrA.fr (l1++[qu])).dropLast++[⟨qu.fr.f,qu.fr.b,qu.fr.i+1,qu.fr.regs.set (Cu p qu.fr).d.toNat (regA q.fr x.a)⟩]));have e:((l1++[qu]++[q1]).map FrA.fr).dropLast.set l1.length ⟨qu.fr.f,qu.fr.b,qu.fr.i+1,qu.fr.regs.set (Cu p qu.fr).d.toNat (regA q.fr x.a)⟩=(List.map FrA.fr (l1++[qu])).dropLast++[⟨qu.fr.f,qu.fr.b,qu.fr.i+1,qu.fr.regs.set (Cu p qu.fr).d.toNat (regA q.fr x.a)⟩]:=by
   simp
  rw[e]at this;exact this
 |none=>
  have hl0n:l0= []:=by simpa using hu
  subst hl0n;have hk0:k=0:=by rw[←hl0k];rfl
  subst hk0;show(∃s,s=(if m.at_=0 then{IA m.abs []with kind:=1,v:=regA q.fr x.a}else Fa (IA m.abs []))∧s.kind≠2∧QA _ p _ fg _ x s)∨_;have e:({(m.upF m.at_ t0 0 q1).abs with ths:=(m.upF m.at_ t0 0 q1).abs.ths.set m.at_ []}:Mdl)=IA m.abs []:=by
   rw[hths,List.set_set];rfl
  by_cases h0:m.at_=0
  ·rw[if_pos h0];refine .inl ⟨_,rfl,⟨by show(1:Int)≠2;decide,?_⟩⟩;have:=YZ (p:=p) (x:=x) hC1 hln har hfl1 h0;rw[hreg1]at this;rw[←e];exact this
  ·rw[if_neg h0];refine .inl ⟨_,rfl,fun e=>by have e:m.kind=2:=e;omega,?_⟩;have hz:=hM.zero hk;have hlv:DN (IA m.abs [])≠[]:=List.ne_nil_of_mem (a:=0) (GG.2 ⟨by show 0 < (List.set _ _ _).length;rw[List.length_set];have:m.abs.ths.length=m.ths.length:=List.length_map _;omega,Ll hz (.inr h0)⟩);have:=YY (p:=p) (x:=x) hC1 hln har hfl1 h0 (by rw[e];exact hlv) hths1 hth1 hB.ch;rw[e]at this;exact this
end
theorem Hb{C:Ctx}{t:List AV}{h:List ABlk}{A B:Res}(i j:Nat)(hij:i≠j)(hi:h[i]? =some (.res A))(hj:h[j]? =some (.res B))(hA:A.mrk= []:=by rfl)(hB:B.mrk= []:=by rfl):St.le C ⟨t,h⟩ ⟨t,(h.set j .dead).set i (.res (.all [A,B]))⟩:=
 C8 hij hi hj hA hB rfl (fun g ⟨X,hX,hg⟩=>by
  rcases List.mem_cons.1 hX with rfl|hX
  ·exact .inl hg
  ·rw[List.mem_singleton.1 hX]at hg;exact .inr hg) fun w S h1 h2 h3=>⟨fun X hX=>by
  rcases List.mem_cons.1 hX with rfl|hX
  ·exact h1
  ·rw[List.mem_singleton.1 hX];exact h2,fun a b X Y hab hX hY g k1 k2=>by
  rcases a with _|_|a <;> rcases b with _|_|b <;> simp only[List.getElem?_cons_zero,List.getElem?_cons_succ,List.getElem?_nil,Option.some.injEq]at hX hY <;> try(first|cases hX;done|cases hY;done|exact absurd rfl hab)
  ·subst hX hY;exact h3 g k1 k2
  ·subst hX hY;exact h3 g k2 k1⟩
section
variable{P:Program}{C:Ctx}{t:List AV}{h:List ABlk}{o:Oper}{ι:Type}{Rs:ι→Res}{rs:ι→AV}{K:St→Prop}
theorem NB{i:Nat}{R:Res}{f:FuncId}{x:Operand}{args:Array Operand}{tys:Array TypeId}{xs:List AV}(hi:h[i]? =some (.res R))
 (ho:o.op= .call {callee:=.value x,args:=args,argTypes:=tys}) (hv:evA t x= .lit (.func (.func f) #[] #[])) (hF:AE P f R xs Rs rs) (hm:∀p,(Rs p).mrk=R.mrk) (hx:args.toList.map (evA t)=xs) (hc:AZ xs=true) (hr:∀p,AV.cl (rs p)=true)
 (hK:∀p,K ⟨AJ t o.dst (rs p),h.set i (.res (Rs p))⟩):AOp P C o ⟨t,h⟩ K:=by
 rintro Q' a w ⟨hd,S,ψ,H,hl⟩;refine⟨fun c e=>(by rw[ho]at e;cases e),?_⟩;have h1:=Ba hl x;rw[show evA (St.mk t h).t x=_ from hv]at h1;unfold AV.rel at h1;have h2:Ad w S h ψ xs (args.toList.map a.eval):=by
  rw[←hx];exact BY fun x _=>Ba hl x
 unfold Oper.wp;rw[Lf ho hF.1 a.eval w h1];simp only[Oper.upon];rw[show(args.map a.eval++#[])=(args.toList.map a.eval).toArray from(by rw[Array.append_empty,←Array.toList_map])];refine(hF.2 w S (args.toList.map a.eval) (fun k hk=>⟨H.lt k hk,fun hf=>((H.blk i _ hi).1 k hf).2.1 hk⟩) (fun g hg=>((H.blk i _ hi).1 g hg).2.2) (H.blk i _ hi).2 (AQ _ _ hc h2)).mono ?_;rintro e w' ⟨v,rfl,hT⟩;obtain⟨p,hp⟩:=NH (o:=o) hi hm hr hd H hl H.lt hT (.inl rfl);exact⟨_,hK p,hp⟩
theorem Ke{ty:TypeId}{x y:Operand}{ik:IntKind}{b off n:Nat}{z:Int}(hs:Mx P ty=some (n,1))(ho:o.op= .indexAddr ty x y)(hx:evA t x= .lit (ptV b off))(hy:evA t y= .lit (.int ik z))(h0:0≤z)(hk:z.toNat < n):Av P C t h o (.lit (ptV b (off+z.toNat))):=
 Ap fun S ψ w ρ H hρ=>by
  have h1:=hρ x (by simp[ho,Op.operands]);have h2:=hρ y (by simp[ho,Op.operands]);rw[hx]at h1;rw[hy]at h2;unfold AV.rel at h1 h2;have hr:=Gv (P:=P) (w:=w) (b:=b) (off:=off) (ik:=ik) hs hk;rw[Int.toNat_of_nonneg h0]at hr;refine⟨ptV b (off+z.toNat * 1),by simp[execOp,ho,h1,h2,hr],?_⟩;unfold AV.rel;rw[Nat.mul_one]
end
@[reducible] def opV(k:Nat):AV:=.lit (.func (.func (opF k)) #[] #[])
@[reducible] def Ud:List AV:=[opV 0,opV 1,opV 2,opV 3,opV 4,opV 5,opV 6,opV 7,opV 8,opV 9,opV 10]
instance Ajw:ZC Tryz.prog 103 [.nilFunc,.nilFunc,.nilFunc,.nilFunc,.nilFunc,.nilFunc,.nilFunc,.nilFunc,.nilFunc,.nilFunc,.nilFunc]:=⟨by kernel_rfl⟩
instance Ajt{h:List ABlk}{f:Go.Fn}{a b:Array Value}:OneI h (.lit (.func f a b)):=⟨One.lit rfl⟩
instance Ajv:AG Tryz.prog 102 false 1:=⟨by kernel_rfl⟩
instance Aju:SZ Tryz.prog 103 11:=⟨by kernel_rfl⟩
theorem Af3:Fn Tryz.prog 48 [] (.agg Ud):=by
 refine FL Tryz.func48 rfl (by kernel_rfl) rfl (by kernel_rfl:OO Tryz.prog 103=some (true,11)) Tryz.ntmps48 fun C hC=>?_
 simp only[List.length_cons,List.length_nil,Nat.reduceAdd,Nat.reduceSub,List.replicate_succ,List.replicate_zero,List.cons_append,List.nil_append];refine wS (sA0 (wN ?_));refine wS (sH (Nw (rs:=Ud) (n:=11) (zs:=List.replicate 11 .nilFunc) rfl (by kernel_rfl) (by kernel_rfl) (by kernel_rfl) (by kernel_rfl)) ?_);refine sW (wN ?_);exact Aj ⟨⟨.inr rfl,0,Ud,rfl,rfl,Fin.cl rfl⟩,fun i cells h1 h2=>by cases h1;cases h2;rfl⟩
section
variable{dw:Int→Int→Int→Option Int}{p:Prog}{m:MdA}{ga:Nat}
theorem Ao3(hP:PBig dw p)(hM:MOk p m.abs)(hk:m.kind=0)(hN:m.Nrm):∃fg k t0 q,Cur m m.at_ fg k t0 q∧t0.l.length=k+1∧FrOk p q.fr∧QT m.abs=q.fr:=by
 obtain⟨h1,h2⟩:=hM.run hk;have h1:m.at_ < m.ths.length:=by
  have e:m.abs.ths.length=m.ths.length:=List.length_map _;have:m.abs.at_=m.at_:=rfl;omega
 obtain⟨t0,ht⟩:∃t0,m.ths[m.at_]? =some t0:=⟨_,List.getElem?_eq_getElem h1⟩
 have hth:thA m.abs=t0.l.map FrA.fr:=E1 ht;have hne:t0.l≠[]:=by
  intro e;rw[hth,e]at h2;exact h2 rfl
 have hpos:=List.length_pos_iff.2 hne;obtain⟨q,hq⟩:∃q,t0.l[t0.l.length - 1]? =some q:=⟨_,List.getElem?_eq_getElem (by omega)⟩
 obtain⟨_,fg,c,hv⟩:=hN.th t0 (List.mem_of_getElem? ht);have hat:m.abs.ths[m.at_]? =some (t0.l.map FrA.fr):=by
  show(m.ths.map _)[m.at_]? =_;rw[List.getElem?_map,ht];rfl
 have hf:FrOk p q.fr:=(hM.frs _ _ hat).1 _ (List.mem_map.2 ⟨q,List.mem_of_getElem? hq,rfl⟩);have hfm:BS p q.fr.f∈p.funcs:=by
  unfold BS;rw[List.getD_eq_getElem?_getD,List.getElem?_eq_getElem hf.f];exact List.getElem_mem hf.f
 refine⟨fg,t0.l.length - 1,t0,q,⟨hN,ht,⟨c,hv⟩,hq,?_⟩,by omega,hf,?_⟩
 ·have:=hf.regs;have:=hP.regs _ hfm;omega
 ·unfold QT;rw[hth,List.getLastD_eq_getLast?,List.getLast?_eq_getElem?,List.length_map,List.getElem?_map,hq];rfl
theorem QC{ι:Type}{P:Program}{f:FuncId}{R:Res}{args:List AV}{Rs:ι→Res}{rs:ι→AV}{Φ:Prop}(hE:Bw P f=true)(hk:∀w S,R.R w S→Φ)(h:Φ→AE P f R args Rs rs):AE P f R args Rs rs:=⟨hE,fun w S vs a b c d=>(h (hk w S c)).2 w S vs a b c d⟩
theorem Abk{n:Nat}(hn:n < 11){w:World}{S:Nat→Prop}(H:(Bn ga Ud).R w S):∃u,w.cell? ⟨ga,0+n,none⟩=some u∧AV.rel w S [] ψ0 (.lit (.func (.func (opF n)) #[] #[])) u:=by
 obtain⟨cs,e,h1,h2⟩:=H;have hg:Ud[n]? =some (.lit (.func (.func (opF n)) #[] #[])):=by
  rcases n with _|_|_|_|_|_|_|_|_|_|_|n <;> first|rfl|omega
 obtain⟨u,h3,h4⟩:=Bl h2 hg;exact⟨u,by simp[World.cell?,h1,h3],h4⟩
theorem Adb{fg k:Nat}{t0:ThA}{q:FrA}(hP:PBig dw p)(hB:MBig m)(hC:Cur m m.at_ fg k t0 q)(hl:t0.l.length=k+1)(hf:FrOk p q.fr){s:Mdl}(hs:s.kind≠2)(ho:QA (opF (Cu p q.fr).op.toNat) p (m.upF m.at_ t0 k ⟨nextF q.fr q.fr.regs,q.rg⟩) fg k (Cu p q.fr) s):AE Tryz.prog 49 (.all [modR p m,Bn ga Ud]) [.lit (ptV m.g 0),.lit (ptV ga 0)] (fun m':Agl m s=>.all [modR p m'.1,Bn ga Ud]) (fun _=>.lit (.tuple #[])):=by
 haveI hT:TG m fg m.at_ t0:=⟨hC.th,hC.fv⟩
 haveI hQ:QK t0 k q:=⟨hC.fr⟩
 obtain⟨tg,tc,htv⟩:=hC.nrm.tg;have htc:m.tc=slV tg m.ths.length tc:=hC.nrm.tv.trans htv;have htl:=(List.getElem?_eq_some_iff.1 hC.th).1;obtain⟨fc,hfv⟩:=hC.fv;have hcv:t0.cv=t0.fv:=(hC.nrm.th t0 (List.mem_of_getElem? hC.th)).1
 haveI hTV:TV m tg:=⟨tc,htv⟩
 have hfl:t0.l.length≤1073741824:=hB.frs t0 (List.mem_of_getElem? hC.th);have htopf:=MG p m tg m.at_ t0 fg fc hTV hC.th (hcv.trans hfv) (by omega);rw[show MH t0 fg=ptV fg (k * 4)by unfold MH topA;rw[if_neg (by omega),hl];rfl]at htopf;have hins:=W6 hC hf;obtain⟨hF,hI,hend⟩:=Ka hP.ok hf;have hbm:(BS p q.fr.f).blocks.getD q.fr.b default∈(BS p q.fr.f).blocks:=by
  rw[List.getD_eq_getElem?_getD,List.getElem?_eq_getElem hf.b];exact List.getElem_mem hf.b
 have hfm:BS p q.fr.f∈p.funcs:=by
  unfold BS;rw[List.getD_eq_getElem?_getD,List.getElem?_eq_getElem hf.f];exact List.getElem_mem hf.f
 have hil:q.fr.i≤1073741824:=Nat.le_trans (Nat.le_of_lt hf.i) (hP.blk _ hfm _ hbm);obtain⟨x,hx⟩:∃x,x=Cu p q.fr:=⟨_,rfl⟩
 rw[←hx]at hins hI hend ho;obtain⟨q1,hq1⟩:∃q1:FrA,q1=⟨nextF q.fr q.fr.regs,q.rg⟩:=⟨_,rfl⟩
 rw[←hq1]at ho;have hw1:IntKind.i64.wrap ((q.fr.i:Int)+1)=((q.fr.i+1:Nat):Int):=Cq (by omega);have hopx:=hI.op;refine AI Tryz.func49 rfl (by kernel_rfl) rfl Tryz.ntmps49 rfl (fun _=>rfl) fun C=>?_
 simp only[List.length_cons,List.length_nil,Nat.reduceAdd,Nat.reduceSub,List.replicate_succ,List.replicate_zero,List.cons_append,List.nil_append];refine As _ (I8 0 rfl rfl rfl) ?_;refine Awp.upto ?_;refine nT ?_;refine dS 10 (hq:=qT (qT (qT (qT ?_))));rw[htc];refine qT (qT (qT (qT ?_)));refine qH (AY rfl rfl rfl htl) (qT (qN ?_));refine Ao rfl (Be (i:=0) rfl rfl htopf (fun _=>rfl) rfl rfl (fun _=>rfl) fun _=>?_);refine sNt (hk:=sT (wN ?_));refine wS (sT (sT ?_));refine Ao rfl (Be (i:=0) rfl rfl hins (fun _=>rfl) rfl rfl (fun _=>rfl) fun _=>?_);refine sNt ?_;refine sA0 ?_;refine sW (wN ?_);refine wS (sT (sT (sT (sT (sT ?_)))));rw[hw1];refine sT (sT ?_);refine Ao rfl (DI (i:=0) (j:=2) (k:=k) (u:=.int .i64 ((q.fr.i+1:Nat):Int)) q1 rfl rfl rfl rfl hT hC.fr rfl rfl (by decide) (by rw[hq1];rfl) (by rw[hq1];rfl) ?_);refine sNt (hk:=wN ?_);refine dS 9 (hq:=qT (qT (qT (qT ?_))));refine qH (Ke (n:=11) (by kernel_rfl) rfl rfl rfl hopx.1 (by omega)) ?_;refine qH (BQ (i:=1) (R:=Bn ga Ud) rfl rfl rfl rfl fun w S H=>Abk (by omega) H) (qT (qT (qT (qN ?_))));refine Ao rfl (NB (i:=0) rfl rfl rfl ho (fun _=>rfl) rfl rfl (fun _=>rfl) fun m1=>?_);obtain⟨m1,hN1,hg1,ha1⟩:=m1;have hg1:m1.g=m.g:=hg1
 haveI:MC (modR p m1) m.g 8 (.lit (.int .u8 m1.kind)):=hg1▸inferInstance
 refine sNt (hk:=wN ?_);refine wS (sT (sT (sT (sT (sT (sT (wN ?_)))))));refine Ae rfl (fun hb6=>?_) (fun hb6=>?_)
 ·have hb6:=of_decide_eq_true hb6;exact absurd (show s.kind=2 by rw[←ha1];exact hb6) hs
 ·refine Ag ?_;refine upE (St.le.trans (Hb 0 1 (by decide) rfl rfl) St.le.refl) ?_;exact⟨.inl rfl,⟨m1,hN1,hg1,ha1⟩,rfl,rfl,trivial⟩
theorem Add{fg k:Nat}{t0:ThA}{q:FrA}(hP:PBig dw p)(hB:MBig m)(hC:Cur m m.at_ fg k t0 q)(hl:t0.l.length=k+1)(hf:FrOk p q.fr){v:Int}(ho:Akc (opF (Cu p q.fr).op.toNat) p (m.upF m.at_ t0 k ⟨nextF q.fr q.fr.regs,q.rg⟩) fg k (Cu p q.fr) v):AE Tryz.prog 49 (.all [modR p m,Bn ga Ud]) [.lit (ptV m.g 0),.lit (ptV ga 0)] (fun m':Agl m (M7 m.abs v)=>.all [modR p m'.1,Bn ga Ud]) (fun _=>.lit (.tuple #[])):=by
 haveI hT:TG m fg m.at_ t0:=⟨hC.th,hC.fv⟩
 haveI hQ:QK t0 k q:=⟨hC.fr⟩
 obtain⟨tg,tc,htv⟩:=hC.nrm.tg;have htc:m.tc=slV tg m.ths.length tc:=hC.nrm.tv.trans htv;have htl:=(List.getElem?_eq_some_iff.1 hC.th).1;obtain⟨fc,hfv⟩:=hC.fv;have hcv:t0.cv=t0.fv:=(hC.nrm.th t0 (List.mem_of_getElem? hC.th)).1
 haveI hTV:TV m tg:=⟨tc,htv⟩
 have hfl:t0.l.length≤1073741824:=hB.frs t0 (List.mem_of_getElem? hC.th);have htopf:=MG p m tg m.at_ t0 fg fc hTV hC.th (hcv.trans hfv) (by omega);rw[show MH t0 fg=ptV fg (k * 4)by unfold MH topA;rw[if_neg (by omega),hl];rfl]at htopf;have hins:=W6 hC hf;obtain⟨hF,hI,hend⟩:=Ka hP.ok hf;have hbm:(BS p q.fr.f).blocks.getD q.fr.b default∈(BS p q.fr.f).blocks:=by
  rw[List.getD_eq_getElem?_getD,List.getElem?_eq_getElem hf.b];exact List.getElem_mem hf.b
 have hfm:BS p q.fr.f∈p.funcs:=by
  unfold BS;rw[List.getD_eq_getElem?_getD,List.getElem?_eq_getElem hf.f];exact List.getElem_mem hf.f
 have hil:q.fr.i≤1073741824:=Nat.le_trans (Nat.le_of_lt hf.i) (hP.blk _ hfm _ hbm);obtain⟨x,hx⟩:∃x,x=Cu p q.fr:=⟨_,rfl⟩
 rw[←hx]at hins hI hend ho;obtain⟨q1,hq1⟩:∃q1:FrA,q1=⟨nextF q.fr q.fr.regs,q.rg⟩:=⟨_,rfl⟩
 rw[←hq1]at ho;have hw1:IntKind.i64.wrap ((q.fr.i:Int)+1)=((q.fr.i+1:Nat):Int):=Cq (by omega);have hopx:=hI.op;have hw2:IntKind.i64.wrap (((q.fr.i+1:Nat):Int) - 1)=(q.fr.i:Int):=by rw[IntWalk.i64_in _ (by omega)];omega
 obtain⟨m2,hm2⟩:∃m2:MdA,m2= {m.upF m.at_ t0 k q1 with kind:=2,v:=v}:=⟨_,rfl⟩
 have hC1:Cur (m.upF m.at_ t0 k q1) m.at_ fg k (t0.upF k q1) q1:=hC.upF q1 (by rw[hq1];exact hC.i64)
 haveI hT2:TG m2 fg m.at_ (t0.upF k q1):=by rw[hm2];exact⟨hC1.th,hC1.fv⟩
 haveI hQ2:QK (t0.upF k q1) k q1:=⟨hC1.fr⟩
 have hi1:q1.fr.i=q.fr.i+1:=by rw[hq1];rfl
 have e2:m2.upF m.at_ (t0.upF k q1) k q= {m with kind:=2,v:=v}:=by
  rw[hm2];unfold MdA.upF MdA.upT ThA.upF;simp only[List.set_set];rw[En hC.fr,En hC.th]
 have hg2:m2.g=m.g:=by rw[hm2]
 haveI:MC (modR p m2) m.g 8 (.lit (.int .u8 2)):=by rw[←hg2,show(2:Int)=m2.kind by rw[hm2]];infer_instance
 unfold Akc at ho;rw[←hm2]at ho;refine AI Tryz.func49 rfl (by kernel_rfl) rfl Tryz.ntmps49 rfl (fun _=>rfl) fun C=>?_
 simp only[List.length_cons,List.length_nil,Nat.reduceAdd,Nat.reduceSub,List.replicate_succ,List.replicate_zero,List.cons_append,List.nil_append];refine As _ (I8 0 rfl rfl rfl) ?_;refine Awp.upto ?_;refine nT ?_;refine dS 10 (hq:=qT (qT (qT (qT ?_))));rw[htc];refine qT (qT (qT (qT ?_)));refine qH (AY rfl rfl rfl htl) (qT (qN ?_));refine Ao rfl (Be (i:=0) rfl rfl htopf (fun _=>rfl) rfl rfl (fun _=>rfl) fun _=>?_);refine sNt (hk:=sT (wN ?_));refine wS (sT (sT ?_));refine Ao rfl (Be (i:=0) rfl rfl hins (fun _=>rfl) rfl rfl (fun _=>rfl) fun _=>?_);refine sNt ?_;refine sA0 ?_;refine sW (wN ?_);refine wS (sT (sT (sT (sT (sT ?_)))));rw[hw1];refine sT (sT ?_);refine Ao rfl (DI (i:=0) (j:=2) (k:=k) (u:=.int .i64 ((q.fr.i+1:Nat):Int)) q1 rfl rfl rfl rfl hT hC.fr rfl rfl (by decide) (by rw[hq1];rfl) (by rw[hq1];rfl) ?_);refine sNt (hk:=wN ?_);refine dS 9 (hq:=qT (qT (qT (qT ?_))));refine qH (Ke (n:=11) (by kernel_rfl) rfl rfl rfl hopx.1 (by omega)) ?_;refine qH (BQ (i:=1) (R:=Bn ga Ud) rfl rfl rfl rfl fun w S H=>Abk (by omega) H) (qT (qT (qT (qN ?_))));refine Ao rfl (NB (i:=0) rfl rfl rfl ho (fun _=>rfl) rfl rfl (fun _=>rfl) fun _=>?_);refine sNt (hk:=wN ?_);refine wS (sT (sT (sT (sT (sT (sT (wN ?_)))))));refine Ae rfl (fun hb6=>?_) (fun hb6=>?_)
 ·refine wSE (sT (sT (sT (sT ?_))));rw[hi1];refine sT ?_;rw[hw2];refine sT (sT ?_);refine Ao rfl (DI (i:=0) (j:=2) (k:=k) (u:=.int .i64 (q.fr.i:Int)) q rfl rfl rfl rfl hT2 hC1.fr rfl rfl (by decide) (by rw[hq1];rfl) (by rw[hq1];rfl) ?_);rw[e2];refine wN ?_;refine upE (St.le.trans (Hb 0 1 (by decide) rfl rfl) St.le.refl) ?_;exact⟨.inl rfl,⟨{m with kind:=2,v:=v},⟨hC.nrm.out,hC.nrm.tv,hC.nrm.tg,hC.nrm.th⟩,rfl,rfl⟩,rfl,rfl,trivial⟩
 ·cases hb6
theorem Akv(hP:PBig dw p)(hM:MOk p m.abs)(hk:m.kind=0)(hN:m.Nrm)(hB:MBig m):AE Tryz.prog 49 (.all [modR p m,Bn ga Ud]) [.lit (ptV m.g 0),.lit (ptV ga 0)] (fun m':Agl m (PE dw p m.abs)=>.all [modR p m'.1,Bn ga Ud]) (fun _=>.lit (.tuple #[])):=by
 obtain⟨fg,k,t0,q,hC,hl,hf,htop⟩:=Ao3 hP hM hk hN;refine QC (Φ:=∀z,okR q.fr z→wfI .u32 (regA q.fr z)) rfl (fun w S H z hz=>Rg (SV (H.1 _ (List.mem_cons_self ..)) hC.th hC.fr) (E8 hz.2)) fun hw=>?_
 rcases hop hP hM hk hB hC hl rfl hw rfl with⟨s,rfl,hs,ho⟩|⟨v,hv,ho⟩
 ·exact Adb hP hB hC hl hf hs ho
 ·rw[hv];exact Add hP hB hC hl hf ho
end
section
variable{dw:Int→Int→Int→Option Int}{p:Prog}{m:MdA}
theorem YO(hP:PBig dw p)(hM:MOk p m.abs)(hk:m.kind=0)(hN:m.Nrm)(hB:MBig m):AE Tryz.prog 13 (modR p m) [.lit (ptV m.g 0)] (fun m':Agl m (PE dw p m.abs)=>modR p m'.1) (fun _=>.lit (.bool true)):=by
 obtain⟨tg,tc,htv⟩:=hN.tg;have htc:m.tc=slV tg m.ths.length tc:=hN.tv.trans htv;have hn:0 < m.ths.length:=by
  have h1:=(hM.run hk).1;have e:m.abs.ths.length=m.ths.length:=List.length_map _;omega
 have hr:=V8 p m tg tc htc hn;rw[show(m.kind ==0)=true by rw[hk];rfl]at hr;refine AS Tryz.func13 rfl (by kernel_rfl) rfl Tryz.ntmps13 rfl fun C=>?_
 simp only[List.length_cons,List.length_nil,Nat.reduceAdd,Nat.reduceSub,List.replicate_succ,List.replicate_zero,List.cons_append,List.nil_append];refine wR ?_;refine Ac fun K2 h2=>?_
 refine wS (sT ?_);refine Ao rfl (Be (i:=0) rfl rfl hr (fun _=>rfl) rfl rfl (fun _=>rfl) fun _=>?_);refine sNt (hk:=sT (wN ?_));refine Ae rfl (fun hb4=>?_) (fun hb4=>?_)
 ·cases hb4
 ·refine Ag ?_;refine h2 _ ?_;refine nT ?_;refine wS (sC Af3 (sA0 ?_));refine sW (wN ?_);refine Bv 1 rfl rfl rfl (fun g=>(.lit (ptV m.g 0)::.any::.lit (.bool false)::.lit (ptV g 0)::A6 [])) (fun g=>(by(repeat(first|exact OpnB.nil|refine OpnB.ptr ?_|refine OpnB.any ?_|refine OpnB.keep rfl ?_)))) fun ga=>?_
  refine nT ?_;refine As _ (Ma 0 rfl) ?_;refine nT ?_;refine As _ (Ef 0 1 (by decide) rfl rfl) ?_;refine nT ?_;refine wS (sT ?_);refine Ao rfl (Be (i:=0) rfl rfl (Akv hP hM hk hN hB) (fun _=>rfl) rfl rfl (fun _=>rfl) fun m1=>?_);refine sNt (hk:=wN ?_);refine As _ (I8 0 rfl rfl rfl) ?_;refine nT ?_;refine wR ?_;exact Aj ⟨.inr rfl,m1,rfl,rfl,rfl,rfl⟩
theorem VS(hk:m.kind≠0)(hN:m.Nrm)(hn:0 < m.ths.length):AE Tryz.prog 13 (modR p m) [.lit (ptV m.g 0)] (fun _:Unit=>modR p m) (fun _=>.lit (.bool false)):=by
 obtain⟨tg,tc,htv⟩:=hN.tg;have htc:m.tc=slV tg m.ths.length tc:=hN.tv.trans htv;have hr:=V8 p m tg tc htc hn;rw[show(m.kind ==0)=false by simpa using hk]at hr;refine AS Tryz.func13 rfl (by kernel_rfl) rfl Tryz.ntmps13 rfl fun C=>?_
 simp only[List.length_cons,List.length_nil,Nat.reduceAdd,Nat.reduceSub,List.replicate_succ,List.replicate_zero,List.cons_append,List.nil_append];refine wR ?_;refine Ac fun K2 h2=>?_
 refine wS (sT ?_);refine Ao rfl (Be (i:=0) rfl rfl hr (fun _=>rfl) rfl rfl (fun _=>rfl) fun _=>?_);refine sNt (hk:=sT (wN ?_));refine Ae rfl (fun hb4=>?_) (fun hb4=>?_)
 ·refine wR ?_;exact Aj ⟨.inr rfl,(),rfl,rfl,rfl,rfl⟩
 ·cases hb4
end
theorem Ml{P:Program}{f:FuncId}{fn:Go.Func}{c:Code}{args:List AV}{ι:Type}{R:Res}{Rs:ι→Res}{rs:ι→AV}{n:Nat}{t:Tmp}(hf:P.funcs[f]? =some fn)(hb:fn.body=some c)(hE:Bw P f=true)(hres:fn.results= #[.tmp t])(hn:fn.ntmps=n)(hm:R.mrk= [])
 (h:∀C:Ctx,C.turn R→Awp P C c (Hv R Rs rs fun s r=>evA s.t (.tmp t)=r∧AV.cl r=true) ⟨args++List.replicate (n - args.length) (.lit undef),[.res R]⟩):AE P f R args Rs rs:=
 BP _ hf hb hE hn hm (fun C s a w r S ψ ⟨h1,h2⟩ H hl=>⟨_,results_tmp hres _ _ _,by
  have:=Ba hl (.tmp t);rw[h1]at this;exact Br _ _ h2 this⟩) h
instance Afk:SL Tryz.prog 144:=⟨by kernel_rfl⟩
instance Afj:RT Tryz.prog 144 4 1 1:=⟨by kernel_rfl⟩
section
variable{l:List Int}
end
section
variable{l:List Int}
theorem RP(hl:l.length≤1073741824):AE Tryz.prog 41 .emp [.tv (Ty.sliceP (Ty.int .u32)) l] (fun q:Nat×Nat=>rowR (slV q.1 l.length q.2) 38 (Ty.int .u32) l) (fun q=>.lit (slV q.1 l.length q.2)):=by
 refine AS Tryz.func41 rfl (by kernel_rfl) rfl Tryz.ntmps41 rfl fun C=>?_
 simp only[List.length_cons,List.length_nil,Nat.reduceAdd,Nat.reduceSub,List.replicate_succ,List.replicate_zero,List.cons_append,List.nil_append];refine wR ?_;refine Ac fun K2 h2=>?_
 refine wS (sT (sH (CO rfl rfl rfl) (wN ?_)));refine Ae rfl (fun hb4=>?_) (fun hb4=>?_)
 ·cases hb4
 ·refine Ag ?_;refine h2 _ ?_;refine nT ?_;refine As _ (DT 0 rfl) ?_;refine nT ?_;refine wS ?_;refine Ao rfl (Ge (T:=(Ty.int .u32)) rfl (by decide) fun g=>?_);refine sNt (hk:=sT ?_);refine Ao rfl (Dc (i:=1) (l:=[]) (bytes:=4) (T:=(Ty.int .u32)) rfl (by kernel_rfl) rfl rfl rfl EncOf.one (by unfold maxLen;simp;omega) (by simp;omega) fun g' c'=>?_);refine sNt (hk:=sT (wN ?_));refine As _ (Df 0 1 (by decide) rfl rfl) ?_;refine nT ?_;exact Aj ⟨.inr rfl,(g',c'),rfl,rfl,rfl,rfl⟩
end
section
variable{l:List Bool}
theorem Nb(hl:l.length≤1073741824):AE Tryz.prog 160 .emp [.tv (Ty.sliceP Ty.bool) l] (fun q:Nat×Nat=>rowR (slV q.1 l.length q.2) 4 Ty.bool l) (fun q=>.lit (slV q.1 l.length q.2)):=by
 refine AS Tryz.func160 rfl (by kernel_rfl) rfl Tryz.ntmps160 rfl fun C=>?_
 simp only[List.length_cons,List.length_nil,Nat.reduceAdd,Nat.reduceSub,List.replicate_succ,List.replicate_zero,List.cons_append,List.nil_append];refine wR ?_;refine Ac fun K2 h2=>?_
 refine wS (sT (sH (CO rfl rfl rfl) (wN ?_)));refine Ae rfl (fun hb4=>?_) (fun hb4=>?_)
 ·cases hb4
 ·refine Ag ?_;refine h2 _ ?_;refine nT ?_;refine As _ (DT 0 rfl) ?_;refine nT ?_;refine wS ?_;refine Ao rfl (Ge (T:=Ty.bool) rfl (by decide) fun g=>?_);refine sNt (hk:=sT ?_);refine Ao rfl (Dc (i:=1) (l:=[]) (bytes:=1) (T:=Ty.bool) rfl (by kernel_rfl) rfl rfl rfl EncOf.one (by unfold maxLen;simp;omega) (by simp;omega) fun g' c'=>?_);refine sNt (hk:=sT (wN ?_));refine As _ (Df 0 1 (by decide) rfl rfl) ?_;refine nT ?_;exact Aj ⟨.inr rfl,(g',c'),rfl,rfl,rfl,rfl⟩
end
section
variable{l:List Func}
theorem RR:AE Tryz.prog 96 .emp [.lit (.slice none 0 0)] (fun _:Unit=>rowR (.slice none 0 0) 45 B4 []) (fun _=>.lit (.slice none 0 0)):=by
 refine AS Tryz.func96 rfl (by kernel_rfl) rfl Tryz.ntmps96 rfl fun C=>?_
 simp only[List.length_cons,List.length_nil,Nat.reduceAdd,Nat.reduceSub,List.replicate_succ,List.replicate_zero,List.cons_append,List.nil_append];refine wR ?_;refine Ac fun K2 h2=>?_
 refine wS (sT (sH (CP rfl rfl rfl) (wN ?_)));refine Ae rfl (fun hb4=>?_) (fun hb4=>?_)
 ·refine wR ?_;refine As _ (GP 0 45 (T:=B4) rfl (by decide)) ?_;exact Aj ⟨.inr rfl,(),rfl,rfl,rfl,rfl⟩
 ·cases hb4
theorem RQ(hl:l.length≤1073741824):AE Tryz.prog 96 .emp [.tv (Ty.sliceP B4) l] (fun q:Nat×Nat=>rowR (slV q.1 l.length q.2) 45 B4 l) (fun q=>.lit (slV q.1 l.length q.2)):=by
 refine AS Tryz.func96 rfl (by kernel_rfl) rfl Tryz.ntmps96 rfl fun C=>?_
 simp only[List.length_cons,List.length_nil,Nat.reduceAdd,Nat.reduceSub,List.replicate_succ,List.replicate_zero,List.cons_append,List.nil_append];refine wR ?_;refine Ac fun K2 h2=>?_
 refine wS (sT (sH (CO rfl rfl rfl) (wN ?_)));refine Ae rfl (fun hb4=>?_) (fun hb4=>?_)
 ·cases hb4
 ·refine Ag ?_;refine h2 _ ?_;refine nT ?_;refine As _ (DT 0 rfl) ?_;refine nT ?_;refine wS ?_;refine Ao rfl (Ge (T:=B4) rfl (by decide) fun g=>?_);refine sNt (hk:=sT ?_);refine Ao rfl (Dc (i:=1) (l:=[]) (bytes:=56) (T:=B4) rfl (by kernel_rfl) rfl rfl rfl EncOf.one (by unfold maxLen;simp;omega) (by simp;omega) fun g' c'=>?_);refine sNt (hk:=sT (wN ?_));refine As _ (Df 0 1 (by decide) rfl rfl) ?_;refine nT ?_;exact Aj ⟨.inr rfl,(g',c'),rfl,rfl,rfl,rfl⟩
end
section
variable{l:List Block}
theorem Qf:AE Tryz.prog 97 .emp [.lit (.slice none 0 0)] (fun _:Unit=>rowR (.slice none 0 0) 48 Bs []) (fun _=>.lit (.slice none 0 0)):=by
 refine AS Tryz.func97 rfl (by kernel_rfl) rfl Tryz.ntmps97 rfl fun C=>?_
 simp only[List.length_cons,List.length_nil,Nat.reduceAdd,Nat.reduceSub,List.replicate_succ,List.replicate_zero,List.cons_append,List.nil_append];refine wR ?_;refine Ac fun K2 h2=>?_
 refine wS (sT (sH (CP rfl rfl rfl) (wN ?_)));refine Ae rfl (fun hb4=>?_) (fun hb4=>?_)
 ·refine wR ?_;refine As _ (GP 0 48 (T:=Bs) rfl (by decide)) ?_;exact Aj ⟨.inr rfl,(),rfl,rfl,rfl,rfl⟩
 ·cases hb4
theorem Qe(hl:l.length≤1073741824):AE Tryz.prog 97 .emp [.tv (Ty.sliceP Bs) l] (fun q:Nat×Nat=>rowR (slV q.1 l.length q.2) 48 Bs l) (fun q=>.lit (slV q.1 l.length q.2)):=by
 refine AS Tryz.func97 rfl (by kernel_rfl) rfl Tryz.ntmps97 rfl fun C=>?_
 simp only[List.length_cons,List.length_nil,Nat.reduceAdd,Nat.reduceSub,List.replicate_succ,List.replicate_zero,List.cons_append,List.nil_append];refine wR ?_;refine Ac fun K2 h2=>?_
 refine wS (sT (sH (CO rfl rfl rfl) (wN ?_)));refine Ae rfl (fun hb4=>?_) (fun hb4=>?_)
 ·cases hb4
 ·refine Ag ?_;refine h2 _ ?_;refine nT ?_;refine As _ (DT 0 rfl) ?_;refine nT ?_;refine wS ?_;refine Ao rfl (Ge (T:=Bs) rfl (by decide) fun g=>?_);refine sNt (hk:=sT ?_);refine Ao rfl (Dc (i:=1) (l:=[]) (bytes:=40) (T:=Bs) rfl (by kernel_rfl) rfl rfl rfl EncOf.one (by unfold maxLen;simp;omega) (by simp;omega) fun g' c'=>?_);refine sNt (hk:=sT (wN ?_));refine As _ (Df 0 1 (by decide) rfl rfl) ?_;refine nT ?_;exact Aj ⟨.inr rfl,(g',c'),rfl,rfl,rfl,rfl⟩
end
section
variable{l:List Ins}
theorem US:AE Tryz.prog 98 .emp [.lit (.slice none 0 0)] (fun _:Unit=>rowR (.slice none 0 0) 40 Dj []) (fun _=>.lit (.slice none 0 0)):=by
 refine AS Tryz.func98 rfl (by kernel_rfl) rfl Tryz.ntmps98 rfl fun C=>?_
 simp only[List.length_cons,List.length_nil,Nat.reduceAdd,Nat.reduceSub,List.replicate_succ,List.replicate_zero,List.cons_append,List.nil_append];refine wR ?_;refine Ac fun K2 h2=>?_
 refine wS (sT (sH (CP rfl rfl rfl) (wN ?_)));refine Ae rfl (fun hb4=>?_) (fun hb4=>?_)
 ·refine wR ?_;refine As _ (GP 0 40 (T:=Dj) rfl (by decide)) ?_;exact Aj ⟨.inr rfl,(),rfl,rfl,rfl,rfl⟩
 ·cases hb4
theorem UR(hl:l.length≤1073741824):AE Tryz.prog 98 .emp [.tv (Ty.sliceP Dj) l] (fun q:Nat×Nat=>rowR (slV q.1 l.length q.2) 40 Dj l) (fun q=>.lit (slV q.1 l.length q.2)):=by
 refine AS Tryz.func98 rfl (by kernel_rfl) rfl Tryz.ntmps98 rfl fun C=>?_
 simp only[List.length_cons,List.length_nil,Nat.reduceAdd,Nat.reduceSub,List.replicate_succ,List.replicate_zero,List.cons_append,List.nil_append];refine wR ?_;refine Ac fun K2 h2=>?_
 refine wS (sT (sH (CO rfl rfl rfl) (wN ?_)));refine Ae rfl (fun hb4=>?_) (fun hb4=>?_)
 ·cases hb4
 ·refine Ag ?_;refine h2 _ ?_;refine nT ?_;refine As _ (DT 0 rfl) ?_;refine nT ?_;refine wS ?_;refine Ao rfl (Ge (T:=Dj) rfl (by decide) fun g=>?_);refine sNt (hk:=sT ?_);refine Ao rfl (Dc (i:=1) (l:=[]) (bytes:=88) (T:=Dj) rfl (by kernel_rfl) rfl rfl rfl EncOf.one (by unfold maxLen;simp;omega) (by simp;omega) fun g' c'=>?_);refine sNt (hk:=sT (wN ?_));refine As _ (Df 0 1 (by decide) rfl rfl) ?_;refine nT ?_;exact Aj ⟨.inr rfl,(g',c'),rfl,rfl,rfl,rfl⟩
end
section
variable{P:Program}{C:Ctx}{t:List AV}{h:List ABlk}{o:Oper}{ι:Type}{Rs:ι→Res}{rs:ι→AV}{K:St→Prop}
theorem JT{i j:Nat}{R:Res}{b:ABlk}{f:FuncId}{args:Array Operand}{tys:Array TypeId}{xs:List AV}(hij:j≠i)(hi:h[i]? =some (.res R))(hj:h[j]? =some b)(hlv:ABlk.live (some b)=true)
 (ho:o.op= .call {callee:=.value (.func f),args:=args,argTypes:=tys}) (hF:AE P f R xs Rs rs) (hm:∀p,(Rs p).mrk=R.mrk) (hS:∀p w S S',(Rs p).R w S→(Rs p).R w S') (hcl:∀p,AV.cl (rs p)=true) (hr:∀p w S S' v,AV.rel w S [] ψ0 (rs p) v→AV.rel w S' [] ψ0 (rs p) v)
 (hx:∀S ψ w vs,HRel C h S ψ w→Ad w S h ψ (args.toList.map (evA t)) vs→Ad w (fun k=>S k∨ftp h[j]? (ψ j) k) [] ψ0 xs vs)
 (hK:∀p,K ⟨AJ t o.dst (rs p),h.set i (.res (Rs p))⟩):AOp P C o ⟨t,h⟩ K:=by
 rintro Q' a w ⟨hd,S,ψ,H,hl⟩;refine⟨fun c e=>(by rw[ho]at e;cases e),?_⟩;have h2:=hx S ψ w (args.toList.map a.eval) H (BY fun x _=>Ba hl x);have hj2:∀k,ftp h[j]? (ψ j) k→k < w.heap.size∧¬R.F k:=fun k hk=>⟨(H.own_lt ⟨j,by rw[hj];exact hlv,hk⟩).2.1,fun hf=>H.dis j i hij (by rw[hj];exact hlv) (by rw[hi];rfl) k hk (by rw[hi];exact hf)⟩
 unfold Oper.wp;rw[CJ ho hF.1 a.eval w rfl];simp only[Oper.upon];rw[show(args.map a.eval)=(args.toList.map a.eval).toArray from(by rw[←Array.toList_map])];refine(hF.2 w _ (args.toList.map a.eval) (fun k hk=>?_) (fun g hg=>((H.blk i _ hi).1 g hg).2.2) (R.keep (H.blk i _ hi).2 (fun _ _=>rfl) (fun _ _=>rfl) fun _ h=>.inl h) h2).mono ?_
 ·rcases hk with hk|hk
  ·exact⟨H.lt k hk,fun hf=>((H.blk i _ hi).1 k hf).2.1 hk⟩
  ·exact hj2 k hk
 ·rintro e w' ⟨v,rfl,hT⟩;obtain⟨p,hp⟩:=NH (o:=o) hi hm hcl hd H hl (fun k hk=>hk.elim (H.lt k) fun hk=>(hj2 k hk).1) hT (.inr ⟨hS,hr,fun _ h=>.inl h⟩);exact⟨_,hK p,hp⟩
theorem JA{j g n c:Nat}{e:TypeId}{α:Type}{T:Ty α}{d:List α}(hj:h[j]? =some (.res (rowR (slV g n c) e T d))){S:Nat→Prop}{ψ:Nat→Value}{w:World}(H:HRel C h S ψ w):∀{pre:List AV} {vs:List Value},AZ pre=true→Ad w S h ψ (pre++[.lit (slV g n c)]) vs→Ad w (fun k=>S k∨ftp h[j]? (ψ j) k) [] ψ0 (pre++[.tv T.sliceP d]) vs
 | [],vs,_,hr=>by
  rw[List.nil_append]at hr⊢;unfold Ad at hr⊢;obtain⟨v,vs',e1,h1,h2⟩:=hr;refine⟨v,vs',e1,?_,by unfold Ad at h2⊢;exact h2⟩;unfold AV.rel at h1⊢;subst h1;obtain⟨cells,k1,k0,k2⟩:=(H.blk _ _ hj).2;refine⟨Ch k1 (fun i d hd=>Ty.keepS _ (k2 i d hd) (fun _ _=>rfl) fun _ h=>.inl h) fun g hg=>.inr (by rw[hj];exact AR hg),fun e=>by cases e⟩
 |x::pre,vs,hc,hr=>by
  unfold AZ at hc;rw[Bool.and_eq_true]at hc;rw[List.cons_append]at hr⊢;unfold Ad at hr⊢;obtain⟨v,vs',e1,h1,h2⟩:=hr;exact⟨v,vs',e1,Br _ _ hc.1 (Dh (Ext.grow h ψ (fun _ _=>rfl) fun _ h=>.inl h) _ _ h1),JA hj H hc.2 h2⟩
theorem Vu{j g n c:Nat}{e:TypeId}{α:Type}{T:Ty α}{d:List α}{f:FuncId}{args:Array Operand}{tys:Array TypeId}(pre:List AV)(hj:h[j]? =some (.res (rowR (slV g n c) e T d)))
 (ho:o.op= .call {callee:=.value (.func f),args:=args,argTypes:=tys}) (hF:AE P f .emp (pre++[.tv T.sliceP d]) Rs rs) (hm:∀p,(Rs p).mrk= []) (hS:∀p w S S',(Rs p).R w S→(Rs p).R w S') (hcl:∀p,AV.cl (rs p)=true) (hr:∀p w S S' v,AV.rel w S [] ψ0 (rs p) v→AV.rel w S' [] ψ0 (rs p) v)
 (hx:args.toList.map (evA t)=pre++[.lit (slV g n c)]) (hc:AZ pre=true)
 (hK:∀p,K ⟨AJ t o.dst (rs p),h++[.res (Rs p)]⟩):AOp P C o ⟨t,h⟩ K:=by
 have hjl:=(List.getElem?_eq_some_iff.1 hj).1;have hj':(h++[ABlk.res .emp])[j]? =some (.res (rowR (slV g n c) e T d)):=by rw[List.getElem?_append_left hjl];exact hj
 refine AOp.le Mc (JT (i:=h.length) (j:=j) (by omega) (by rw[List.getElem?_append_right (Nat.le_refl _),Nat.sub_self];rfl) hj' rfl ho hF hm hS hcl hr (fun S ψ w vs H hv=>?_) fun p=>?_)
 ·rw[hx]at hv;exact JA hj' H hc hv
 ·rw[List.set_append_right _ _ (Nat.le_refl _),Nat.sub_self];exact hK p
theorem Sv{i j g n c:Nat}{R:Res}{e:TypeId}{α:Type}{T:Ty α}{d:List α}{f:FuncId}{args:Array Operand}{tys:Array TypeId}(pre:List AV)(hij:j≠i)(hi:h[i]? =some (.res R))(hj:h[j]? =some (.res (rowR (slV g n c) e T d)))
 (ho:o.op= .call {callee:=.value (.func f),args:=args,argTypes:=tys}) (hF:AE P f R (pre++[.tv T.sliceP d]) Rs rs) (hm:∀p,(Rs p).mrk=R.mrk) (hS:∀p w S S',(Rs p).R w S→(Rs p).R w S') (hcl:∀p,AV.cl (rs p)=true) (hr:∀p w S S' v,AV.rel w S [] ψ0 (rs p) v→AV.rel w S' [] ψ0 (rs p) v)
 (hx:args.toList.map (evA t)=pre++[.lit (slV g n c)]) (hc:AZ pre=true)
 (hK:∀p,K ⟨AJ t o.dst (rs p),h.set i (.res (Rs p))⟩):AOp P C o ⟨t,h⟩ K:=
 JT hij hi hj rfl ho hF hm hS hcl hr (fun S ψ w vs H hv=>by
  rw[hx]at hv;exact JA hj H hc hv) hK
end
structure SetA where
 g:Nat
 c:Nat
 l:List Bool
@[reducible] def sV:Option SetA→Value
 |none=>.slice none 0 0
 |some s=>slV s.g s.l.length s.c
abbrev bR(g n c:Nat)(l:List Bool):Res:=rowR (slV g n c) 4 Ty.bool l
def sR:Option SetA→Res
 |none=>.emp
 |some s=>bR s.g s.l.length s.c s.l
def Jt(go:Nat)(o:List (Option SetA)):List Res:=Ik go o.length 144 (tCl 0) (o.map fun s=>[Cl.v (sV s)])::o.map sR
def outR(go:Nat)(o:List (Option SetA)):Res:=.all (Jt go o)
theorem NR{v:Value}{e:TypeId}{l:List Bool}{w:World}{S S':Nat→Prop}(h:(rowR v e Ty.bool l).R w S):(rowR v e Ty.bool l).R w S':=by
 obtain⟨cells,h1,h0,h2⟩:=h;exact⟨cells,h1,h0,fun i d hd=>h2 i d hd⟩
theorem Af4{v:Value}{e:TypeId}{l:List (List Value)}{w:World}{S S':Nat→Prop}(h:(rowR v e (tCl 0) (l.map fun d=>d.map Cl.v)).R w S):(rowR v e (tCl 0) (l.map fun d=>d.map Cl.v)).R w S':=by
 obtain⟨cells,h1,h0,h2⟩:=h;refine⟨cells,h1,h0,fun i d hd=>?_⟩;obtain⟨k1,k2,k3⟩:=h2 i d hd;rw[List.getElem?_map]at hd;obtain⟨d0,_,rfl⟩:=Option.map_eq_some_iff.1 hd;have e:(d0.map Cl.v).map Cl.av=d0.map AV.lit:=by rw[List.map_map];rfl
 refine⟨k1,?_,k3⟩;rw[e]at k2⊢;exact GU k2
theorem Zd{go:Nat}{o:List (Option SetA)}{w:World}{S S':Nat→Prop}(h:(outR go o).R w S):(outR go o).R w S':=by
 refine⟨fun A hA=>?_,h.2⟩;have hA':=h.1 A hA;rcases List.mem_cons.1 hA with rfl|hA
 ·have e:(o.map fun s=>[Cl.v (sV s)])=(o.map fun s=>[sV s]).map fun d=>d.map Cl.v:=by rw[List.map_map];rfl
  unfold Ik at hA'⊢;rw[e]at hA'⊢;exact Af4 hA'
 ·obtain⟨s,_,rfl⟩:=List.mem_map.1 hA;cases s with
  |none=>trivial
  |some s=>exact NR hA'
theorem G0{go k:Nat}{o:List (Option SetA)}{s:Option SetA}(h:o[k]? =some s):(Jt go o)[k+1]? =some (sR s):=by
 show(o.map sR)[k]? =_;rw[List.getElem?_map,h];rfl
section
variable{P:Program}{C:Ctx}{t:List AV}{h:List ABlk}{o:Oper}{K:St→Prop}
theorem DU{ty:TypeId}{x:Operand}{n i go k:Nat}{O:List (Option SetA)}{s:Option SetA}[AG P ty false n](ho:o.op= .load ty x)(hx:evA t x= .lit (ptV go k))(hi:h[i]? =some (.res (outR go O)))(hk:O[k]? =some s):Av P C t h o (.lit (sV s)):=
 BQ ho hx hi rfl fun w S H=>by
  have:=Rh (T:=tCl 0) (enc:=fun l=>l.map Cl.av) (k:=k) (j:=0) (d:=[Cl.v (sV s)]) (H.1 _ (List.mem_cons_self ..)) (by rw[List.getElem?_map,hk];rfl) rfl;rwa [show k *(tCl 0).size+0=k by show k * 1+0=k;omega]at this
theorem Yg{ty:TypeId}{x:Operand}{n i go k z:Nat}{O:List (Option SetA)}{s:SetA}[AG P ty false n](ho:o.op= .load ty x)(hx:evA t x= .lit (ptV s.g z))(hi:h[i]? =some (.res (outR go O)))(hk:O[k]? =some (some s))(hz:z < s.l.length):Av P C t h o (.lit (.bool (s.l.getD z false))):=
 BQ ho hx hi rfl fun w S H=>by
  have:=Jq (T:=Ty.bool) (enc:=fun d=>[.lit (.bool d)]) (k:=z) (j:=0) rfl (H.1 _ (List.mem_of_getElem? (G0 hk))) (E8 (d:=false) hz) rfl;rwa [show z * Ty.bool.size+0=z by show z * 1+0=z;omega]at this
theorem Aau{ty:TypeId}{x y:Operand}{i go k z:Nat}{O:List (Option SetA)}{s:SetA}{b:Bool}[SZ P ty 1](ho:o.op= .store ty x y)(hx:evA t x= .lit (ptV s.g z))(hy:evA t y= .lit (.bool b))(hi:h[i]? =some (.res (outR go O)))(hk:O[k]? =some (some s))(hz:z < s.l.length)
 (hK:K ⟨AJ t o.dst (.lit undef),h.set i (.res (outR go (O.set k (some ⟨s.g,s.c,s.l.set z b⟩))))++[.dead]⟩):AOp P C o ⟨t,h⟩ K:=by
 refine CR (ι:=Unit) (t':=fun _=>AJ t o.dst (.lit undef)) (A':=fun _=>sR (some ⟨s.g,s.c,s.l.set z b⟩)) i (k+1) [] hi (G0 hk) rfl (fun _=>rfl) (fun h1 K' hi1 _ hK'=>?_) fun _=>?_
 ·have hK2:=hK' ();rw[List.append_nil]at hK2;refine D9 (T:=Ty.bool) (g:=s.g) (c:=s.c) (k:=z) (j:=0) (d:=s.l[z]) b ho hx hi1 (List.getElem?_eq_getElem hz) (by show _=z * 1+0;omega) (by rw[hy];exact Hc (Fit.bool) EncOf.one) ?_;rw[show sR (some ⟨s.g,s.c,s.l.set z b⟩)=Ik s.g s.c 4 Ty.bool (s.l.set z b)from rfl]at hK2;exact hK2
 ·have e:(Jt go O).set (k+1) (sR (some ⟨s.g,s.c,s.l.set z b⟩))=Jt go (O.set k (some ⟨s.g,s.c,s.l.set z b⟩)):=by
   unfold Jt;rw[List.set_cons_succ,List.length_set,List.map_set,List.map_set,En (l:=O.map fun s=>[Cl.v (sV s)]) (by rw[List.getElem?_map,hk];show some [Cl.v (slV s.g s.l.length s.c)]=some [Cl.v (slV s.g (s.l.set z b).length s.c)];rw[List.length_set])]
  rw[e];exact hK
theorem TE{ty:TypeId}{x y:Operand}{i j go k:Nat}{O:List (Option SetA)}{s:SetA}[SZ P ty 1](hij:i≠j)(ho:o.op= .store ty x y)(hx:evA t x= .lit (ptV go k))(hy:evA t y= .lit (sV (some s)))(hi:h[i]? =some (.res (outR go O)))(hk:O[k]? =some none)(hj:h[j]? =some (.res (sR (some s))))
 (hK:K ⟨AJ t o.dst (.lit undef),((h.set j .dead).set i (.res (outR go (O.set k (some s)))))++[.dead]⟩):AOp P C o ⟨t,h⟩ K:=by
 have hkl:=(List.getElem?_eq_some_iff.1 hk).1;have hil:=(List.getElem?_eq_some_iff.1 hi).1;refine AOp.le (L9 i j (k+1) hij hi hj (G0 hk) rfl) ?_;refine CR (ι:=Unit) (t':=fun _=>AJ t o.dst (.lit undef)) (A':=fun _=>Ik go O.length 144 (tCl 0) ((O.set k (some s)).map fun s=>[Cl.v (sV s)])) i 0 [] (List.getElem?_set_self (by rw[List.length_set];exact hil)) rfl rfl (fun _=>rfl) (fun h1 K' hi1 _ hK'=>?_) fun _=>?_
 ·have hK2:=hK' ();rw[List.append_nil]at hK2;refine D9 (T:=tCl 0) (k:=k) (j:=0) (d:=[Cl.v (sV none)]) [Cl.v (sV (some s))] ho hx hi1 (by rw[List.getElem?_map,hk];rfl) (by show _=k * 1+0;omega) (by rw[hy];exact Nn.cl (.v (sV (some s))) (One.lit rfl) (by decide)) ?_;rw[List.map_set]at hK2;exact hK2
 ·have e:((Jt go O).set (k+1) (sR (some s))).set 0 (Ik go O.length 144 (tCl 0) ((O.set k (some s)).map fun s=>[Cl.v (sV s)]))=Jt go (O.set k (some s)):=by
   unfold Jt;rw[List.set_cons_succ,List.set_cons_zero,List.length_set,List.map_set (f:=sR)]
  rw[e,List.set_set];exact hK
end
theorem Akl(x:Ins)(ho:okIns x)(hl:x.args.length≤2097152):Fn Tryz.prog 161 [.agg (AL x)] (.bs tInt (readsC x)):=
 Vn (by kernel_rfl) (Ep ho) fun w vs hr=>by
  obtain⟨v,rfl,hv⟩:=Aaa hr;obtain⟨cs,rfl,hc⟩:=H7 hv;exact FT x w cs (F1 ho hc) hl
theorem Aba(x:Ins)(ho:okIns x):Fn Tryz.prog 120 [.agg (AL x)] (.tup [.lit (.int .i64 (if Az x then x.d else 0)),.lit (.bool (Az x))]):=
 JP (by kernel_rfl) fun w vs hr=>by
  obtain⟨v,rfl,hv⟩:=Aaa hr;obtain⟨cs,rfl,hc⟩:=H7 hv;refine(Gs x w cs (F1 ho hc)).mono fun e w' ⟨he,hb⟩=>⟨?_,hb⟩
  rw[he];unfold FQ;cases Az x <;> rfl
section
variable{P:Program}{C:Ctx}{t t':List AV}{h:List ABlk}{ops:Array Oper}{rest:List Oper}{d:Option Nat}{ty:TypeId}{ps:String}{af:Array Go.Edge}{j:Nat}{K:St→Prop}
theorem sGq{op:Op}{r:AV}{g:Bool}(hq:g=true→Av P C t h ⟨d,op,ty,ps,af,some (j,true)⟩ r)[PA t d (cond g r (.lit undef)) t'](hk:Ck P C ops K rest ⟨t',h⟩)(hg:gA ops t ⟨d,op,ty,ps,af,some (j,true)⟩=some (g ==true):=by rfl):Ck P C ops K (⟨d,op,ty,ps,af,some (j,true)⟩::rest) ⟨t,h⟩:=sG (hg:=YC hg) (hq:=hq) (ht:=PA.e) (hk:=hk)
end
instance An8:ES Tryz.prog 144 1:=⟨by kernel_rfl⟩
instance An7:AG Tryz.prog 144 false 1:=⟨by kernel_rfl⟩
instance An6:SZ Tryz.prog 144 1:=⟨by kernel_rfl⟩
instance An5:SL Tryz.prog 142:=⟨by kernel_rfl⟩
instance An4:ES Tryz.prog 142 1:=⟨by kernel_rfl⟩
structure InRT(n:Nat)(x:Ins):Prop where
 ok:okIns x
 args:x.args.length≤2097152
 reads:∀r∈readsC x,0≤r∧r.toNat < n
 dst:Az x=true→0≤x.d∧x.d.toNat < n
theorem Xb{n:Nat}{z:Int}(h:0≤z∧z.toNat < n):inZ n z=true:=by
 unfold inZ;rw[Bool.and_eq_true,decide_eq_true_eq,decide_eq_true_eq];exact h
theorem Vh{P:Program}{C:Ctx}{t:List AV}{h:List ABlk}{o:Oper}{ty:TypeId}{x:Operand}{n m i g c z:Nat}{l:List Bool}[AG P ty false m](ho:o.op= .load ty x)(hx:evA t x= .lit (ptV g z))(hi:h[i]? =some (.res (bR g n c l)))(hz:z < l.length):Av P C t h o (.lit (.bool (l.getD z false))):=
 BQ ho hx hi rfl fun w S H=>by
  have:=Jq (T:=Ty.bool) (enc:=fun d=>[.lit (.bool d)]) (k:=z) (j:=0) rfl H (E8 (d:=false) hz) rfl;rwa [show z * Ty.bool.size+0=z by show z * 1+0=z;omega]at this
theorem TJ{P:Program}{C:Ctx}{t:List AV}{h:List ABlk}{o:Oper}{K:St→Prop}{ty:TypeId}{x y:Operand}{i g n c z:Nat}{l:List Bool}{b:Bool}[SZ P ty 1](ho:o.op= .store ty x y)(hx:evA t x= .lit (ptV g z))(hy:evA t y= .lit (.bool b))(hi:h[i]? =some (.res (bR g n c l)))(hn:l.length=n)(hz:z < l.length)
 (hK:K ⟨AJ t o.dst (.lit undef),h.set i (.res (bR g n c (l.set z b)))⟩):AOp P C o ⟨t,h⟩ K:=by
 subst hn;refine D9 (T:=Ty.bool) (g:=g) (c:=c) (k:=z) (j:=0) (d:=l[z]) b ho hx hi (List.getElem?_eq_getElem hz) (by show _=z * 1+0;omega) (by rw[hy];exact Hc (Fit.bool) EncOf.one) ?_;rw[show Ik g c 4 Ty.bool (l.set z b)=bR g l.length c (l.set z b)by unfold Ik;rw[List.length_set]];exact hK
theorem H8{x:Ins}(h:x.args.length≤2097152):(readsC x).length≤2097154:=by
 unfold readsC;rw[List.length_append,List.length_append];have h1:(if(E6 x.op).contains 97 then [x.a]else []).length≤1:=by split <;> simp
 have h2:(if(E6 x.op).contains 98 then [x.b]else []).length≤1:=by split <;> simp
 have h3:(if(E6 x.op).contains 120 then x.args else []).length≤2097152:=by
  split
  ·exact h
  ·simp
 omega
def VM(q:SetA×Bool):AV:=.tup [.lit (slV q.1.g q.1.l.length q.1.c),.lit (.bool q.2)]
theorem MJ{b:Block}{l:List Bool}(hl:l.length≤1073741824)(hb:b.ins.length≤1073741824)(hr:∀x∈b.ins,InRT l.length x):AE Tryz.prog 94 .emp [.agg (BZ b),.tv Ty.bool.sliceP l] (fun q:{q:SetA×Bool // q.1.l.length=l.length}=>sR (some q.1.1)) (fun q=>VM q.1):=by
 refine Mn Tryz.func94 rfl (by kernel_rfl) rfl Tryz.ntmps94 rfl fun C=>?_
 simp only[List.length_cons,List.length_nil,Nat.reduceAdd,Nat.reduceSub,List.replicate_succ,List.replicate_zero,List.cons_append,List.nil_append];refine wS (sB (sT (sT (wN ?_))));refine wS (sT ?_);refine Ao rfl (C6 rfl (Nb hl) (fun _=>rfl) rfl rfl (fun _=>rfl) fun gc=>?_);refine sNt (hk:=sT (sT (wN ?_)));obtain⟨g,c⟩:=gc;refine Ac fun K3 h3=>?_
 refine wS (sT (sT (sT (sT (wN ?_)))));refine Af ?_;refine Au (fun q:Nat×List Bool×Bool=>⟨(A6 (.lit (slV g l.length c)::.lit (.bool q.2.2)::A9 (.bs Dj b.ins::.lit (.int .i64 (b.ins.length:Int))::.lit (.int .i64 (q.1:Int))::A20 (A10 [])))),[.res .emp,.box (BZ b),.res (bR g l.length c q.2.1)]⟩) (fun q=>q.1≤b.ins.length∧q.2.1.length=l.length) (fun q=>b.ins.length - q.1) (0,l,true) ⟨Nat.zero_le _,rfl⟩ (BD rfl (by(try simp only[AJ,List.set_cons_zero,List.set_cons_succ]);repeat(first|exact Fgt.nil|refine Fgt.keep rfl ?_|refine Fgt.any ?_))) ?_;rintro⟨k,l1,fine⟩ ⟨hk,hl1⟩;have hk:k≤b.ins.length:=hk;have hl1:l1.length=l.length:=hl1;refine wS (sT (wN ?_));refine Ac fun K7 h7=>?_
 refine Ae rfl (fun hb8=>?_) (fun hb8=>?_)
 ·have hlt:k < b.ins.length:=by
   have:=of_decide_eq_true hb8;omega
  have hx:=hr _ (List.mem_of_getElem? (BJ (Ed hlt)));obtain⟨x,hxe⟩:∃x,x=ixD b.ins (k:Int):=⟨_,rfl⟩
  rw[←hxe]at hx;refine Ag ?_;refine h7 _ ?_;refine nT ?_;refine Ac fun K9 h9=>?_
  refine Af ?_;refine wS (sX (Ed hlt) ?_);rw[←hxe];refine sT (sA0 (sW (wN ?_)));refine Ac fun K11 h11=>?_
  refine wS (sT (sC (Akl x hx.ok hx.args) (sT (sT (wN ?_)))));refine Af ?_;refine Au (fun q:Nat×Bool=>⟨(A6 (.lit (slV g l.length c)::.lit (.bool q.2)::.any::.ptr 3 0::A7 (.bs Dj b.ins::.lit (.int .i64 (b.ins.length:Int))::.lit (.int .i64 (k:Int))::A4 (.bs tInt (readsC x)::.lit (.int .i64 ((readsC x).length:Int))::.lit (.int .i64 (q.1:Int))::A20 (A3 []))))),[.res .emp,.box (BZ b),.res (bR g l.length c l1),.box (AL x)]⟩) (fun q=>q.1≤(readsC x).length) (fun q=>(readsC x).length - q.1) (0,fine) (Nat.zero_le _) (BD rfl (by(try simp only[AJ,List.set_cons_zero,List.set_cons_succ]);repeat(first|exact Fgt.nil|refine Fgt.keep rfl ?_|refine Fgt.any ?_))) ?_;rintro⟨j,fine2⟩ hj;have hj:j≤(readsC x).length:=hj;have hrl:(readsC x).length≤2097154:=H8 hx.args;refine wS (sT (wN ?_));refine Ac fun K15 h15=>?_
  refine Ae rfl (fun hb16=>?_) (fun hb16=>?_)
  ·have hjl:j < (readsC x).length:=by
    have:=of_decide_eq_true hb16;omega
   have hz:=hx.reads _ (List.mem_of_getElem? (BJ (Ed hjl)));refine Ag ?_;refine h15 _ ?_;refine nT ?_;refine Ac fun K17 h17=>?_
   refine Af ?_;refine wS (sX (Ed hjl) (sT (sT (wN ?_))));refine wSE (sT (sT ?_));refine sGt rfl ?_;refine sGt rfl ?_;refine sGq (fun hg=>Cs rfl (GX.e hg) (GX.e hg) (Xb hz)) ?_;refine sGq (fun hg=>Vh (i:=2) rfl (GX.e hg) rfl (by rw[hl1];exact hz.2)) ?_;refine sT (sT (wN ?_));refine h17 _ ?_;refine nT ?_;refine wSE (sT (sT (wN ?_)));refine athen_n ⟨(j+1,fine2&&l1.getD (ixD (readsC x) (j:Int)).toNat false),hjl,by show(readsC x).length - (j+1) < (readsC x).length - j;omega,?_⟩;rw[Cq (by omega)];exact BD rfl (by(try simp only[AJ,List.set_cons_zero,List.set_cons_succ]);repeat(first|exact Fgt.nil|refine Fgt.keep rfl ?_|refine Fgt.any ?_))
  ·refine Aq ?_;refine h11 _ ?_;refine nT ?_;refine wS (sT (sC (Aba x hx.ok) (sT (sT (sT (sT (sT (wN ?_))))))));refine wS (sT (wN ?_));refine Ae rfl (fun hb23=>?_) (fun hb23=>?_)
   ·have hd:=hx.dst (by simpa using hb23);refine wSE (sT (sT ?_));refine sH (Cs rfl rfl rfl (Xb (by rw[if_pos (by simpa using hb23)];exact hd))) ?_;refine Ao rfl (TJ (i:=2) (z:=(if Az x then x.d else 0).toNat) rfl rfl rfl rfl hl1 (by rw[if_pos (by simpa using hb23),hl1];exact hd.2) ?_);refine sNt (hk:=wN ?_);refine h9 _ ?_;refine nT ?_;refine wSE (sT (sT (wN ?_)));refine athen_n ⟨(k+1,l1.set (if Az x then x.d else 0).toNat true,fine2),⟨hlt,by show(List.set _ _ _).length=_;rw[List.length_set];exact hl1⟩,by show b.ins.length - (k+1) < b.ins.length - k;omega,?_⟩;rw[Cq (by omega)];exact B5 (.cons (.cons (.cons (.nil _)))) rfl (by(try simp only[AJ,List.set_cons_zero,List.set_cons_succ]);repeat(first|exact Fgt.nil|refine Fgt.keep rfl ?_|refine Fgt.any ?_))
   ·refine Ag ?_;refine h9 _ ?_;refine nT ?_;refine wSE (sT (sT (wN ?_)));refine athen_n ⟨(k+1,l1,fine2),⟨hlt,hl1⟩,by show b.ins.length - (k+1) < b.ins.length - k;omega,?_⟩;rw[Cq (by omega)];exact B5 (.cons (.cons (.cons (.nil _)))) rfl (by(try simp only[AJ,List.set_cons_zero,List.set_cons_succ]);repeat(first|exact Fgt.nil|refine Fgt.keep rfl ?_|refine Fgt.any ?_))
 ·refine Aq ?_;refine h3 _ ?_;refine nT ?_;refine wS (sT (sT (sT (sT (wN ?_)))));refine As _ (Df 0 2 (by decide) rfl rfl) ?_;refine nT ?_;exact Aj ⟨.inr rfl,⟨(⟨g,c,l1⟩,fine),hl1⟩,rfl,by show some (ABlk.res (bR g l.length c l1))=some (.res (bR g l1.length c l1));rw[hl1],by show AV.tup [.lit (slV g l.length c),.lit (.bool fine)]= .tup [.lit (slV g l1.length c),.lit (.bool fine)];rw[hl1],rfl⟩
def Aco(n:Nat):Option SetA→Nat
 |none=>n+1
 |some s=>s.l.count true
def muO(n:Nat)(O:List (Option SetA)):Nat:=(O.map (Aco n)).sum
theorem Acv{l:List Nat}{k a b:Nat}(h:l[k]? =some a):(l.set k b).sum+a=l.sum+b:=by
 induction l generalizing k with
 |nil=>cases h
 |cons x l ih=>
  cases k with
  |zero=>
   obtain rfl:x=a:=Option.some.inj h;simp;omega
  |succ k=>
   have:=ih (k:=k) h;rw[List.set_cons_succ,List.sum_cons,List.sum_cons];omega
theorem WJ{n k:Nat}{O:List (Option SetA)}{a b:Option SetA}(h:O[k]? =some a):muO n (O.set k b)+Aco n a=muO n O+Aco n b:=by
 unfold muO;rw[List.map_set];exact Acv (by rw[List.getElem?_map,h];rfl)
theorem count_set{l:List Bool}{r:Nat}(h:l[r]? =some true):(l.set r false).count true+1=l.count true:=by
 induction l generalizing r with
 |nil=>cases h
 |cons x l ih=>
  cases r with
  |zero=>
   obtain rfl:x=true:=Option.some.inj h;rw[List.set_cons_zero,List.count_cons,List.count_cons];simp
  |succ r=>
   have:=ih (r:=r) h;rw[List.set_cons_succ,List.count_cons,List.count_cons];omega
def okO(n:Nat)(O:List (Option SetA)):Prop:=∀s,some s∈O→s.l.length=n
theorem okO.set{n k:Nat}{O:List (Option SetA)}(h:okO n O){x:Option SetA}(hx:∀s,x=some s→s.l.length=n):okO n (O.set k x):=fun s hs=>by
 rcases List.mem_or_eq_of_mem_set hs with hs|hs
 ·exact h s hs
 ·exact hx s hs.symm
abbrev Agm(n:Nat)(O:List (Option SetA)):Type:={q:Bool×List (Option SetA) // q.2.length=O.length∧okO n q.2∧(q.1=true→muO n q.2 < muO n O)∧muO n q.2≤muO n O}
section
variable{go k n:Nat}{O:List (Option SetA)}{bl:List Bool}
theorem WS(hk:O[k]? =some none)(hn:n≤1073741824)(hbl:bl.length=n)(hO:okO n O):AE Tryz.prog 159 (outR go O) [.lit (slV go O.length O.length),.lit (.int .i64 (k:Int)),.tv Ty.bool.sliceP bl] (fun q:Agm n O=>outR go q.1.2) (fun q=>.lit (.bool q.1.1)):=by
 have hkl:=(List.getElem?_eq_some_iff.1 hk).1;refine AS Tryz.func159 rfl (by kernel_rfl) rfl Tryz.ntmps159 rfl fun C=>?_
 simp only[List.length_cons,List.length_nil,Nat.reduceAdd,Nat.reduceSub,List.replicate_succ,List.replicate_zero,List.cons_append,List.nil_append];refine wR ?_;refine Ac fun K2 h2=>?_
 refine wS (sT (sT ?_));refine sH (AY rfl rfl rfl hkl) ?_;refine sH (DU (i:=0) rfl rfl rfl hk) ?_;refine sH (CP rfl rfl rfl) (wN ?_);refine Ae rfl (fun hb4=>?_) (fun hb4=>?_)
 ·refine wS (sT (sT (sT ?_)));refine Ao rfl (C6 rfl (Nb (by omega)) (fun _=>rfl) rfl rfl (fun _=>rfl) fun gc=>?_);refine sNt ?_;refine sH (AY rfl rfl rfl hkl) ?_;refine Ao rfl (TE (i:=0) (j:=1) (s:=⟨gc.1,gc.2,bl⟩) (by decide) rfl rfl rfl rfl hk rfl ?_);refine sNt (hk:=wN ?_);refine wR ?_;have hm:=WJ (n:=n) (b:=some ⟨gc.1,gc.2,bl⟩) hk;have hc:bl.count true≤bl.length:=List.count_le_length;have hw1:Aco n none=n+1:=rfl;have hw2:Aco n (some ⟨gc.1,gc.2,bl⟩)=bl.count true:=rfl;exact Aj ⟨.inr rfl,⟨(true,O.set k (some ⟨gc.1,gc.2,bl⟩)),List.length_set,hO.set fun s e=>by cases e;exact hbl,fun _=>by show muO n (O.set k _) < _;omega,by show muO n (O.set k _)≤_;omega⟩,rfl,rfl,rfl,rfl⟩
 ·cases hb4
theorem WQ{s:SetA}(hk:O[k]? =some (some s))(hn:n≤1073741824)(hbl:bl.length=n)(hO:okO n O):AE Tryz.prog 159 (outR go O) [.lit (slV go O.length O.length),.lit (.int .i64 (k:Int)),.tv Ty.bool.sliceP bl] (fun q:Agm n O=>outR go q.1.2) (fun q=>.lit (.bool q.1.1)):=by
 have hkl:=(List.getElem?_eq_some_iff.1 hk).1;have hsl:s.l.length=n:=hO s (List.mem_of_getElem? hk);refine AS Tryz.func159 rfl (by kernel_rfl) rfl Tryz.ntmps159 rfl fun C=>?_
 simp only[List.length_cons,List.length_nil,Nat.reduceAdd,Nat.reduceSub,List.replicate_succ,List.replicate_zero,List.cons_append,List.nil_append];refine wR ?_;refine Ac fun K2 h2=>?_
 refine wS (sT (sT ?_));refine sH (AY rfl rfl rfl hkl) ?_;refine sH (DU (i:=0) rfl rfl rfl hk) ?_;refine sH (Kf rfl rfl rfl) (wN ?_);refine Ae rfl (fun hb4=>?_) (fun hb4=>?_)
 ·cases hb4
 ·refine Ag ?_;refine h2 _ ?_;refine nT ?_;refine wR ?_;refine As _ (DT 2 rfl) ?_;refine nT ?_;refine Ac fun K9 h9=>?_
  refine wS (sT (sT ?_));refine sH (AY rfl rfl rfl hkl) ?_;refine sH (DU (i:=0) rfl rfl rfl hk) ?_;refine sT (sT (wN ?_));refine Af ?_;refine Au (fun q:Nat×List Bool×Bool=>⟨(.lit (slV go O.length O.length)::.lit (.int .i64 (k:Int))::.bs Ty.bool bl::A4 (.lit (.bool q.2.2)::A10 (A5 (.lit (.int .i64 (s.l.length:Int))::.lit (.int .i64 (q.1:Int))::A20 (A4 []))))),[.res (outR go (O.set k (some ⟨s.g,s.c,q.2.1⟩)))]⟩) (fun q=>q.1≤s.l.length∧q.2.1.length=s.l.length∧(q.2.2=true→q.2.1.count true < s.l.count true)∧q.2.1.count true≤s.l.count true) (fun q=>s.l.length - q.1) (0,s.l,false) ⟨Nat.zero_le _,rfl,fun(e:false=true)=>(by cases e),Nat.le_refl _⟩ (by rw[En hk];exact BD rfl (by(try simp only[AJ,List.set_cons_zero,List.set_cons_succ]);repeat(first|exact Fgt.nil|refine Fgt.keep rfl ?_|refine Fgt.any ?_))) ?_;rintro⟨r,l1,lost⟩ ⟨hr,hl1,hlt1,hle1⟩;have hr:r≤s.l.length:=hr;have hl1:l1.length=s.l.length:=hl1;have hle1:l1.count true≤s.l.count true:=hle1;have hlt1:lost=true→l1.count true < s.l.count true:=hlt1;have hk1:(O.set k (some ⟨s.g,s.c,l1⟩))[k]? =some (some ⟨s.g,s.c,l1⟩):=List.getElem?_set_self hkl;refine wS (sT (wN ?_));refine Ac fun K13 h13=>?_
  refine Ae rfl (fun hb14=>?_) (fun hb14=>?_)
  ·have hlt:r < s.l.length:=by
    have:=of_decide_eq_true hb14;omega
   have hrl:r < l1.length:=by omega
   have hrb:EJ bl (r:Int)=true:=Ed (by omega);refine Ag ?_;refine h13 _ ?_;refine nT ?_;refine Ac fun K15 h15=>?_
   refine Af ?_;refine wR ?_;refine wS (sT (sT ?_));refine sH (AY rfl rfl rfl hkl) ?_;refine sH (DU (i:=0) rfl rfl rfl hk1) (sT ?_);refine sH (AY rfl rfl rfl hrl) ?_;refine sH (Yg (i:=0) (s:=⟨s.g,s.c,l1⟩) rfl rfl rfl hk1 hrl) (sT ?_);refine sGt rfl ?_;refine sGt rfl ?_;refine Aq7 rfl (by rw[hrb];simp) ?_;refine sGt rfl ?_;refine sGt rfl ?_;refine sT (wN ?_);refine Ae rfl (fun hb18=>?_) (fun hb18=>?_)
   ·refine wSE (sT (sT ?_));refine sH (AY rfl rfl rfl hkl) ?_;refine sH (DU (i:=0) rfl rfl rfl hk1) (sT ?_);refine sH (AY rfl rfl rfl hrl) ?_;refine Ao rfl (Aau (i:=0) (s:=⟨s.g,s.c,l1⟩) (z:=r) (b:=false) rfl rfl rfl rfl hk1 hrl ?_);refine sNt (hk:=sT (wN ?_));refine h15 _ ?_;refine nT ?_;refine wSE (sT (sT (wN ?_)));have htr:l1[r]? =some true:=by
     rw[List.getElem?_eq_getElem hrl];rw[List.getD_eq_getElem?_getD,List.getElem?_eq_getElem hrl]at hb18;rw[Bool.and_eq_true]at hb18;exact congrArg some hb18.1
    have hcs:=count_set htr;refine athen_n ⟨(r+1,l1.set r false,true),⟨hlt,by show(List.set _ _ _).length=_;rw[List.length_set];exact hl1,fun _=>by show(l1.set r false).count true < _;omega,by show(l1.set r false).count true≤_;omega⟩,by show s.l.length - (r+1) < s.l.length - r;omega,?_⟩;rw[Cq (by omega)];show St.le _ _ ⟨_,[.res (outR go (O.set k (some ⟨s.g,s.c,l1.set r false⟩)))]⟩;rw[show(O.set k (some ⟨s.g,s.c,l1.set r false⟩))=(O.set k (some ⟨s.g,s.c,l1⟩)).set k (some ⟨s.g,s.c,l1.set r false⟩)by rw[List.set_set]];exact B5 (.cons (.nil _)) rfl (by(try simp only[AJ,List.set_cons_zero,List.set_cons_succ]);repeat(first|exact Fgt.nil|refine Fgt.keep rfl ?_|refine Fgt.any ?_))
   ·refine Ag ?_;refine h15 _ ?_;refine nT ?_;refine wSE (sT (sT (wN ?_)));refine athen_n ⟨(r+1,l1,lost),⟨hlt,hl1,hlt1,hle1⟩,by show s.l.length - (r+1) < s.l.length - r;omega,?_⟩;rw[Cq (by omega)];exact B5 (.cons (.nil _)) rfl (by(try simp only[AJ,List.set_cons_zero,List.set_cons_succ]);repeat(first|exact Fgt.nil|refine Fgt.keep rfl ?_|refine Fgt.any ?_))
  ·refine Aq ?_;refine h9 _ ?_;refine nT ?_;refine wR ?_;have hm:=WJ (n:=n) (b:=some ⟨s.g,s.c,l1⟩) hk;have hw1:Aco n (some s)=s.l.count true:=rfl;have hw2:Aco n (some ⟨s.g,s.c,l1⟩)=l1.count true:=rfl;exact Aj ⟨.inr rfl,⟨(lost,O.set k (some ⟨s.g,s.c,l1⟩)),List.length_set,hO.set fun s e=>by cases e;rw[hl1];exact hsl,fun e=>by have:=hlt1 e;show muO n (O.set k _) < _;omega,by show muO n (O.set k _)≤_;omega⟩,rfl,rfl,rfl,rfl⟩
theorem Adq(hkl:k < O.length)(hn:n≤1073741824)(hbl:bl.length=n)(hO:okO n O):AE Tryz.prog 159 (outR go O) [.lit (slV go O.length O.length),.lit (.int .i64 (k:Int)),.tv Ty.bool.sliceP bl] (fun q:Agm n O=>outR go q.1.2) (fun q=>.lit (.bool q.1.1)):=by
 obtain⟨x,hk⟩:∃x,O[k]? =some x:=⟨_,List.getElem?_eq_getElem hkl⟩
 cases x with
 |none=>exact WS hk hn hbl hO
 |some s=>exact WQ hk hn hbl hO
end
def Jn(x:Ins):M (List Int):=M.cnd (x.op ==8) (M.chk (wfB .i64 x.l1) (M.ok [x.l1])) (M.cnd (x.op ==9) (M.chk (wfB .i64 x.l1) (M.chk (wfB .i64 x.l2) (M.ok [x.l1,x.l2]))) (M.ok []))
theorem Pb{x:Ins}{r:List Int}(H:(Jn x).to r):Fn Tryz.prog 158 [.agg (AL x)] (.bs tInt r):=by
 delta Jn at H;try dsimp only at H
 refine Ax Tryz.func158 rfl (by kernel_rfl) rfl Tryz.ntmps158 fun C hC=>?_
 simp only[List.length_cons,List.length_nil,Nat.reduceAdd,Nat.reduceSub,List.replicate_succ,List.replicate_zero,List.cons_append,List.nil_append];refine wS (sB (sT (wN ?_)));refine Ac fun Khs1 hs1=>?_
 refine wS (sT (sT (wN ?_)));refine Af ?_;refine wS (sT (sT (wN ?_)));refine Ae rfl (fun hb2=>?_) (fun hb2=>?_)
 ·have H:=BN hb2 H;obtain⟨c3,H⟩:=AM.1 H;refine wS (sT (sT ?_));(refine Ao rfl (TL 1 rfl (xs:=[.tmp 8]) (T:=tInt) (ds:=[x.l1]) rfl rfl rfl (RT.eq (n:=1) (bytes:=8)) (by decide) (by decide) (.cons (Fit.int c3) .nil) ?_);refine Apk ?_ (Bf T3));refine sT (wN ?_);obtain rfl:=Am.1 H;exact Aj ⟨.inr rfl,Fin.own rfl⟩
 ·have H:=BO hb2 H;refine wS (sT (sT (wN ?_)));refine Ae rfl (fun hb4=>?_) (fun hb4=>?_)
  ·have H:=BN hb4 H;obtain⟨c5,H⟩:=AM.1 H;obtain⟨c6,H⟩:=AM.1 H;refine wS (sT (sT (sT (sT ?_))));(refine Ao rfl (TL 1 rfl (xs:=[.tmp 13,.tmp 15]) (T:=tInt) (ds:=[x.l1,x.l2]) rfl rfl rfl (RT.eq (n:=1) (bytes:=8)) (by decide) (by decide) (.cons (Fit.int c5) (.cons (Fit.int c6) .nil)) ?_);refine Apk ?_ (Bf (Bf V3)));refine sT (wN ?_);obtain rfl:=Am.1 H;exact Aj ⟨.inr rfl,Fin.own rfl⟩
  ·have H:=BO hb4 H;refine Ag ?_;refine hs1 _ ?_;refine nT ?_;refine wS (sT (wN ?_));obtain rfl:=Am.1 H;refine As _ (Aak 2 tInt rfl) ?_;exact Aj ⟨.inr rfl,Fin.cl rfl⟩
def MM(x:Ins):M Bool:=M.ok ((decide (x.op≥8))&&(decide (x.op≤10)))
theorem Pd{x:Ins}{r:Bool}(H:(MM x).to r):Fn Tryz.prog 156 [.agg (AL x)] (.lit (.bool r)):=by
 delta MM at H;try dsimp only at H
 refine Ax Tryz.func156 rfl (by kernel_rfl) rfl Tryz.ntmps156 fun C hC=>?_
 simp only[List.length_cons,List.length_nil,Nat.reduceAdd,Nat.reduceSub,List.replicate_succ,List.replicate_zero,List.cons_append,List.nil_append];refine wS (sB (sT (wN ?_)));refine wS (sT (sT (sT (sT ?_))));refine sGt rfl ?_;refine sGt rfl ?_;refine sGt rfl (sT (sT (wN ?_)));obtain rfl:=Am.1 H;exact Aj ⟨.inr rfl,Fin.cl rfl⟩
def Gt(place:Int)(many:Int):M Bool:=M.ok ((decide (place≥0))&&(decide (place < many)))
theorem FU{place:Int}{many:Int}{r:Bool}(H:(Gt place many).to r):Fn Tryz.prog 151 [.lit (.int .i64 place),.lit (.int .i64 many)] (.lit (.bool r)):=by
 delta Gt at H;try dsimp only at H
 refine Ax Tryz.func151 rfl (by kernel_rfl) rfl Tryz.ntmps151 fun C hC=>?_
 simp only[List.length_cons,List.length_nil,Nat.reduceAdd,Nat.reduceSub,List.replicate_succ,List.replicate_zero,List.cons_append,List.nil_append];refine wS (sT (wN ?_));refine wS (sT (sT (sT ?_)));refine sGt rfl ?_;refine sGt rfl ?_;refine sGt rfl (sT (sT (wN ?_)));obtain rfl:=Am.1 H;exact Aj ⟨.inr rfl,Fin.cl rfl⟩
def Jz(c:Int):M Bool:=M.ok ((((decide (c≥97))&&(decide (c≤122)))||((decide (c≥65))&&(decide (c≤90))))||(c ==95))
theorem J5{c:Int}{r:Bool}(H:(Jz c).to r):Fn Tryz.prog 216 [.lit (.int .u8 c)] (.lit (.bool r)):=by
 delta Jz at H;try dsimp only at H
 refine Ax Tryz.func216 rfl (by kernel_rfl) rfl Tryz.ntmps216 fun C hC=>?_
 simp only[List.length_cons,List.length_nil,Nat.reduceAdd,Nat.reduceSub,List.replicate_succ,List.replicate_zero,List.cons_append,List.nil_append];refine wS (sT (wN ?_));refine wS (sT (sT (sT ?_)));refine sGt rfl ?_;refine sGt rfl (sT (sT ?_));refine sGf rfl ?_;refine sGf rfl ?_;refine sGf rfl ?_;refine sG (g:=((!((decide (c≥97))&&(decide (c≤122))))&&(decide (c≥65)))) (hg:=LK rfl rfl) (hq:=fun hg=>by(have hg':=Du hg;exact Av.move rfl Tb)) (ht:=(Bf Agz)) (hk:=?_);refine sG (g:=((!((decide (c≥97))&&(decide (c≤122))))&&(decide (c≥65)))) (hg:=LK rfl rfl) (hq:=fun hg=>by(have hg':=Du hg;exact B7 rfl ((AT Oh).trans (Fc hg _ _)) Vx rfl)) (ht:=(Bf Apj)) (hk:=?_);refine sG (g:=(!((decide (c≥97))&&(decide (c≤122))))) (hg:=ZJ rfl) (hq:=fun hg=>C4 rfl ((AT ZI).trans (Fc hg _ _)) ((AT OM).trans (XO hg _ _)) Vx) (ht:=(Bf Vw)) ?_;refine sT (sT ?_);refine sGf rfl ?_;refine sGf rfl (sT (sT (wN ?_)));obtain rfl:=Am.1 H;exact Aj ⟨.inr rfl,Fin.cl rfl⟩
def LB(c:Int):M Bool:=M.ok ((decide (c≥48))&&(decide (c≤57)))
theorem LA{c:Int}{r:Bool}(H:(LB c).to r):Fn Tryz.prog 219 [.lit (.int .u8 c)] (.lit (.bool r)):=by
 delta LB at H;try dsimp only at H
 refine Ax Tryz.func219 rfl (by kernel_rfl) rfl Tryz.ntmps219 fun C hC=>?_
 simp only[List.length_cons,List.length_nil,Nat.reduceAdd,Nat.reduceSub,List.replicate_succ,List.replicate_zero,List.cons_append,List.nil_append];refine wS (sT (wN ?_));refine wS (sT (sT (sT ?_)));refine sGt rfl ?_;refine sGt rfl (sT (sT (wN ?_)));obtain rfl:=Am.1 H;exact Aj ⟨.inr rfl,Fin.cl rfl⟩
def Eb(isP0:Bool):M (Int×Bool):=M.cnd isP0 (M.ok (1,true)) (M.ok (0,true))
theorem Gm{isP0:Bool}{r:Int×Bool}(H:(Eb isP0).to r):Fn Tryz.prog 233 [.lit (.bool isP0)] (.tup [.lit (.int .u32 r.1),.lit (.bool r.2)]):=by
 delta Eb at H;try dsimp only at H
 refine AP Tryz.func233 rfl (by kernel_rfl) rfl Tryz.ntmps233 fun C hC=>?_
 simp only[List.length_cons,List.length_nil,Nat.reduceAdd,Nat.reduceSub,List.replicate_succ,List.replicate_zero,List.cons_append,List.nil_append];refine wS (sT (sT (wN ?_)));refine Ac fun Khs1 hs1=>?_
 refine wS (sT (wN ?_));refine Ae rfl (fun hb2=>?_) (fun hb2=>?_)
 ·have H:=BN hb2 H;refine wS (sT (sT (wN ?_)));obtain rfl:=Am.1 H;exact Aj ⟨.inr rfl,_,_,Fin.cl rfl,rfl,rfl⟩
 ·have H:=BO hb2 H;refine Ag ?_;refine hs1 _ ?_;refine nT ?_;refine wS (sT (sT (wN ?_)));obtain rfl:=Am.1 H;exact Aj ⟨.inr rfl,_,_,Fin.cl rfl,rfl,rfl⟩
def Hn(x:Ins):List Int:=if x.op=8 then [x.l1]else if x.op=9 then [x.l1,x.l2]else []
theorem Afr{x:Ins}(ho:okIns x):Fn Tryz.prog 158 [.agg (AL x)] (.bs tInt (Hn x)):=by
 refine Pb ?_;unfold Jn Hn;by_cases e8:x.op=8
 ·rw[if_pos e8,show(x.op ==8)=true by simpa using e8];exact BT rfl (AA ho.l1 (An _))
 ·rw[if_neg e8,show(x.op ==8)=false by simpa using e8];by_cases e9:x.op=9
  ·rw[if_pos e9,show(x.op ==9)=true by simpa using e9];exact Bc rfl (BT rfl (AA ho.l1 (AA ho.l2 (An _))))
  ·rw[if_neg e9,show(x.op ==9)=false by simpa using e9];exact Bc rfl (Bc rfl (An _))
theorem Af1(x:Ins):Fn Tryz.prog 156 [.agg (AL x)] (.lit (.bool (decide (x.op≥8)&&decide (x.op≤10)))):=Pd (An _)
theorem Mz(us:List Value){w w':World}{S S':Nat→Prop}{v:Value}(h:AV.rel w S [] ψ0 (.tup (us.map AV.lit)) v):AV.rel w' S' [] ψ0 (.tup (us.map AV.lit)) v:=by
 unfold AV.rel at h⊢;obtain⟨cs,e,hl⟩:=h;exact⟨cs,e,GU hl⟩
theorem Ark{α:Type _}{l:List α}{k:Nat}{x:α}(h:l[k]? =some x):l.set k x=l:=List.ext_getElem? fun j=>by
 by_cases e:k=j
 ·subst e;rw[List.getElem?_set_self (List.getElem?_eq_some_iff.1 h).1,h]
 ·rw[List.getElem?_set_ne e]
section
variable{P:Program}{C:Ctx}{t:List AV}{h:List ABlk}{o:Oper}{ι:Type}{Rs:ι→Res}{rs:ι→AV}{K:St→Prop}
theorem NC{i go k:Nat}{O:List (Option SetA)}{s:SetA}{f:FuncId}{args:Array Operand}{tys:Array TypeId}(pre:List AV)(hi:h[i]? =some (.res (outR go O)))(hk:O[k]? =some (some s))
 (ho:o.op= .call {callee:=.value (.func f),args:=args,argTypes:=tys}) (hF:AE P f .emp (pre++[.tv Ty.bool.sliceP s.l]) Rs rs) (hm:∀p,(Rs p).mrk= []) (hS:∀p w S S',(Rs p).R w S→(Rs p).R w S') (hcl:∀p,AV.cl (rs p)=true) (hr:∀p w S S' v,AV.rel w S [] ψ0 (rs p) v→AV.rel w S' [] ψ0 (rs p) v)
 (hx:args.toList.map (evA t)=pre++[.lit (slV s.g s.l.length s.c)]) (hc:AZ pre=true)
 (hK:∀p,K ⟨AJ t o.dst (rs p),h++[.dead,.res (Rs p)]⟩):AOp P C o ⟨t,h⟩ K:=by
 have hil:=(List.getElem?_eq_some_iff.1 hi).1;have hkl:k+1 < (Jt go O).length:=(List.getElem?_eq_some_iff.1 (G0 hk)).1;refine Ms (F:=fun p=>⟨AJ t o.dst (rs p),h++[.dead,.res (Rs p)]⟩) hK (AOp.le (Nj i (k+1) hi (G0 hk) rfl) (Vu (j:=h.length) (T:=Ty.bool) (d:=s.l) (g:=s.g) (n:=s.l.length) (c:=s.c) (e:=4) pre ?_ ho hF hm hS hcl hr hx hc fun p=>⟨p,?_⟩))
 ·show(h.set i _++[ABlk.res (sR (some s))])[h.length]? =_;rw[List.getElem?_append_right (by rw[List.length_set];exact Nat.le_refl _),List.length_set,Nat.sub_self];rfl
 ·have hlen:∀X:ABlk,(h.set i X).length=h.length:=fun _=>List.length_set
  have:=L9 (C:=C) (t:=AJ t o.dst (rs p)) (h:=h.set i (.res (.all ((Jt go O).set (k+1) .emp)))++[.res (sR (some s))]++[.res (Rs p)]) (l:=(Jt go O).set (k+1) .emp) (R:=sR (some s)) i h.length (k+1) (by omega)
   (by rw[List.append_assoc,List.getElem?_append_left (by rw[hlen];exact hil),List.getElem?_set_self hil]) (by rw[List.append_assoc,List.getElem?_append_right (by rw[hlen];exact Nat.le_refl _),hlen,Nat.sub_self];rfl) (List.getElem?_set_self hkl) rfl
  rw[List.set_set,En (G0 hk),List.append_assoc,List.set_append_right _ _ (by rw[hlen];exact Nat.le_refl _),hlen,Nat.sub_self,List.set_append_left _ _ (by rw[hlen];exact hil),List.set_set]at this;rw[show(h.set i (.res (.all (Jt go O))))=h from Ark hi]at this;rw[List.append_assoc];exact this
theorem Kg{xt yt:TypeId}{x y:Operand}{s:Option SetA}[SL P xt](ho:o.op= .binOp .eql xt x y yt)(hx:evA t x= .lit (sV s))(hy:evA t y= .lit (.slice none 0 0)):Av P C t h o (.lit (.bool s.isNone)):=by
 cases s with
 |none=>exact CP ho hx hy
 |some s=>exact Kf ho hx hy
theorem U8(i:Nat){go nb:Nat}(hi:h[i]? =some (.res (rowR (slV go nb nb) 144 (tCl 0) (List.replicate nb [Cl.v (.slice none 0 0)])))):St.le C ⟨t,h⟩ ⟨t,h.set i (.res (outR go (List.replicate nb none)))⟩:=by
 refine DS hi (fun g ⟨A,hA,hg⟩=>?_) (fun w S H=>⟨fun A hA=>?_,fun a b A B hab hA hB g h1 h2=>?_⟩) rfl
 ·rcases List.mem_cons.1 hA with rfl|hA
  ·exact hg
  ·obtain⟨s,hs,rfl⟩:=List.mem_map.1 hA;rw[(List.mem_replicate.1 hs).2]at hg;exact hg.elim
 ·rcases List.mem_cons.1 hA with rfl|hA
  ·unfold Ik;rw[List.map_replicate,List.length_replicate,List.length_replicate];exact H
  ·obtain⟨s,hs,rfl⟩:=List.mem_map.1 hA;rw[(List.mem_replicate.1 hs).2];trivial
 ·have key:∀(a:Nat) (A:Res),(Jt go (List.replicate nb none))[a]? =some A→a≠0→A= .emp:=fun a A hA ha=>by
   obtain⟨a,rfl⟩:∃b,a=b+1:=⟨a - 1,by omega⟩
   have hA:((List.replicate nb none).map sR)[a]? =some A:=hA;rw[List.getElem?_map]at hA;obtain⟨s,hs,rfl⟩:=Option.map_eq_some_iff.1 hA;rw[(List.mem_replicate.1 (List.mem_of_getElem? hs)).2];rfl
  by_cases ha:a=0
  ·rw[key b B hB (by omega)]at h2;exact h2
  ·rw[key a A hA ha]at h1;exact h1
end
theorem MI(q:SetA×Bool){w w':World}{S S':Nat→Prop}{v:Value}(h:AV.rel w S [] ψ0 (VM q) v):AV.rel w' S' [] ψ0 (VM q) v:=Mz [slV q.1.g q.1.l.length q.1.c,.bool q.2] h
structure InF(n:Nat)(f:Func):Prop where
 regs:f.regs=(n:Int)
 nle:n≤1073741824
 args:0≤f.args∧f.args≤f.regs
 blocks:f.blocks≠[]
 len:f.blocks.length≤1073741824
 ins:∀b∈f.blocks,b.ins≠[]∧b.ins.length≤1073741824∧(∀x∈b.ins,InRT n x)∧∀x∈b.ins,∀r∈Hn x,0≤r∧r.toNat < f.blocks.length
abbrev Aq0(n:Nat)(f:Func):Type:={q:Nat×List (Option SetA) // q.2.length=f.blocks.length∧okO n q.2}
theorem Acu{n:Nat}{f:Func}(hf:InF n f):AE Tryz.prog 93 .emp [.agg (Ak f)] (fun q:Aq0 n f=>outR q.1.1 q.1.2) (fun q=>.lit (slV q.1.1 q.1.2.length q.1.2.length)):=by
 obtain⟨na,hna⟩:∃na:Nat,f.args=(na:Int):=⟨f.args.toNat,by have:=hf.args;omega⟩
 have hnan:na≤n:=by have:=hf.args;have:=hf.regs;omega
 have hn:=hf.nle;have hbl:=hf.len;have hpos:=List.length_pos_iff.2 hf.blocks;refine AS Tryz.func93 rfl (by kernel_rfl) rfl Tryz.ntmps93 rfl fun C=>?_
 simp only[List.length_cons,List.length_nil,Nat.reduceAdd,Nat.reduceSub,List.replicate_succ,List.replicate_zero,List.cons_append,List.nil_append];refine wS (sB (sT (wN ?_)));refine wS (sT (sT ?_));rw[hf.regs];refine Ao rfl (Cd (T:=Ty.bool) false (e:=4) (z:=.bool false) (bytes:=1) rfl (by kernel_rfl) rfl (fun w S=>rfl) rfl rfl (by omega) (by unfold maxLen;omega) fun g1=>?_);refine sNt (hk:=sT (wN ?_));refine Ac fun K3 h3=>?_
 refine wS (sT (sT ?_));rw[hna];refine sT (wN ?_);refine Af ?_;refine Au (fun q:Nat×List Bool=>⟨(.any::.ptr 1 0::.any::.lit (slV g1 n n)::A10 (A3 (.lit (.int .i64 (na:Int))::.lit (.int .i64 (q.1:Int))::A40 (A20 [.any])))),[.res .emp,.box (Ak f),.res (bR g1 n n q.2)]⟩) (fun q=>q.1≤na∧q.2.length=n) (fun q=>na - q.1) (0,List.replicate n false) ⟨Nat.zero_le _,List.length_replicate⟩ (BD rfl (by(try simp only[AJ,List.set_cons_zero,List.set_cons_succ]);repeat(first|exact Fgt.nil|refine Fgt.keep rfl ?_|refine Fgt.any ?_))) ?_;rintro⟨k,l1⟩ ⟨hk,hl1⟩;have hk:k≤na:=hk;have hl1:l1.length=n:=hl1;refine wS (sT (wN ?_));refine Ac fun K7 h7=>?_
 refine Ae rfl (fun hb8=>?_) (fun hb8=>?_)
 ·have hlt:k < na:=by
   have:=of_decide_eq_true hb8;omega
  refine Ag ?_;refine h7 _ ?_;refine nT ?_;refine Ac fun K9 h9=>?_
  refine Af ?_;refine wS (sT (sT (wN ?_)));refine wSE (sT (sT ?_));refine sH (AY rfl rfl rfl (show k < n by omega)) ?_;refine Ao rfl (TJ (i:=2) (z:=k) rfl rfl rfl rfl hl1 (by omega) ?_);refine sNt (hk:=wN ?_);refine h9 _ ?_;refine nT ?_;refine wSE (sT (sT (wN ?_)));refine athen_n ⟨(k+1,l1.set k true),⟨hlt,by show(List.set _ _ _).length=_;rw[List.length_set];exact hl1⟩,by show na - (k+1) < na - k;omega,?_⟩;rw[Cq (by omega)];exact B5 (.cons (.cons (.cons (.nil _)))) rfl (by(try simp only[AJ,List.set_cons_zero,List.set_cons_succ]);repeat(first|exact Fgt.nil|refine Fgt.keep rfl ?_|refine Fgt.any ?_))
 ·refine Aq ?_;refine h3 _ ?_;refine nT ?_;refine wS (sT (sT (sT ?_)));refine Ao rfl (Cd (T:=tCl 0) [Cl.v (.slice none 0 0)] (e:=144) (z:=.slice none 0 0) (bytes:=24) rfl (by kernel_rfl) rfl (fun w S=>⟨rfl,by unfold Ad;exact⟨_,_,rfl,by unfold AV.rel;rfl,by unfold Ad;rfl⟩,fun u hu=>by rw[List.mem_singleton.1 hu];rfl⟩) rfl rfl (by omega) (by unfold maxLen;omega) fun go=>?_);refine sNt (hk:=sT (wN ?_));refine As _ (U8 3 rfl) ?_;refine nT ?_;have h00:(List.replicate f.blocks.length (none:Option SetA))[0]? =some none:=by rw[List.getElem?_replicate,if_pos (by omega)]
  refine wS (sT (sT ?_));refine sH (AY (k:=0) rfl rfl rfl (by omega)) ?_;refine Ao rfl (TE (i:=3) (j:=2) (s:=⟨g1,n,l1⟩) (by decide) rfl rfl (by show AV.lit (slV g1 n n)= .lit (slV g1 l1.length n);rw[hl1]) rfl h00 (by show some (ABlk.res (bR g1 n n l1))=some (.res (bR g1 l1.length n l1));rw[hl1]) ?_);refine sNt (hk:=wN ?_);refine Af ?_;refine Au (fun O:List (Option SetA)=>⟨(.any::.ptr 1 0::A3 (.lit (slV go f.blocks.length f.blocks.length)::A40 (A20 (A10 (A4 []))))),[.res .emp,.box (Ak f),.dead,.res (outR go O)]⟩) (fun O=>O.length=f.blocks.length∧okO n O) (fun O=>muO n O) ((List.replicate f.blocks.length none).set 0 (some ⟨g1,n,l1⟩)) ⟨by rw[List.length_set,List.length_replicate],fun s hs=>by
   rcases List.mem_or_eq_of_mem_set hs with hs|hs
   ·cases(List.mem_replicate.1 hs).2
   ·cases hs;exact hl1⟩ (B5 (.cons (.cons (.cons (.cons (.nil _))))) rfl (by(try simp only[AJ,List.set_cons_zero,List.set_cons_succ]);repeat(first|exact Fgt.nil|refine Fgt.keep rfl ?_|refine Fgt.any ?_))) ?_
  rintro O ⟨hOl,hO⟩;refine Af ?_;refine Awp.scope ?_;refine wS (sT (wN ?_));refine Ac fun K17 h17=>?_
  refine Awp.label ?_;refine h17 _ ?_;refine nT ?_;refine Ac fun K18 h18=>?_
  refine wS (sT (sT (sT (sT (wN ?_)))));refine Af ?_;refine Au (fun q:Nat×List (Option SetA)×Bool=>⟨(.any::.ptr 1 0::A3 (.lit (slV go f.blocks.length f.blocks.length)::.lit (.bool q.2.2)::A20 (A6 (.bs Bs f.blocks::.lit (.int .i64 (f.blocks.length:Int))::.lit (.int .i64 (q.1:Int))::A40 (A4 []))))),[.res .emp,.box (Ak f),.dead,.res (outR go q.2.1)]⟩) (fun q=>q.1≤f.blocks.length∧q.2.1.length=f.blocks.length∧okO n q.2.1∧(q.2.2=true→muO n q.2.1 < muO n O)∧muO n q.2.1≤muO n O) (fun q=>f.blocks.length - q.1) (0,O,false) ⟨Nat.zero_le _,hOl,hO,fun(e:false=true)=>(by cases e),Nat.le_refl _⟩ (BD rfl (by(try simp only[AJ,List.set_cons_zero,List.set_cons_succ]);repeat(first|exact Fgt.nil|refine Fgt.keep rfl ?_|refine Fgt.any ?_))) ?_;rintro⟨k,O1,lost⟩ ⟨hk,hO1l,hO1,hlt1,hle1⟩;have hk:k≤f.blocks.length:=hk;have hO1l:O1.length=f.blocks.length:=hO1l;have hO1:okO n O1:=hO1;have hlt1:lost=true→muO n O1 < muO n O:=hlt1;have hle1:muO n O1≤muO n O:=hle1;refine wS (sT (wN ?_));refine Ac fun K22 h22=>?_
  refine Ae rfl (fun hb23=>?_) (fun hb23=>?_)
  ·have hlt:k < f.blocks.length:=by
    have:=of_decide_eq_true hb23;omega
   obtain⟨x,hx⟩:∃x,O1[k]? =some x:=⟨_,List.getElem?_eq_getElem (by omega)⟩
   obtain⟨b,hb⟩:∃b,b=ixD f.blocks (k:Int):=⟨_,rfl⟩
   obtain⟨hbi,hbl2,hbr,hbg⟩:=hf.ins b (by rw[hb];exact List.mem_of_getElem? (BJ (Ed hlt)));refine Ag ?_;refine h22 _ ?_;refine nT ?_;refine Ac fun K24 h24=>?_
   refine Af ?_;refine wS (sT (sX (Ed hlt) ?_));rw[←hb];refine sT (sA0 (sT (sW (wN ?_))));refine Ac fun K26 h26=>?_
   refine wS (sT (sT ?_));refine sH (AY rfl rfl rfl (show k < f.blocks.length by omega)) ?_;refine sH (DU (i:=3) rfl rfl rfl hx) ?_;refine sH (Kg rfl rfl rfl) (wN ?_);refine Ae rfl (fun hb28=>?_) (fun hb28=>?_)
   ·refine Aq ?_;refine h24 _ ?_;refine nT ?_;refine wSE (sT (sT (wN ?_)));refine athen_n ⟨(k+1,O1,lost),⟨hlt,hO1l,hO1,hlt1,hle1⟩,by show f.blocks.length - (k+1) < f.blocks.length - k;omega,?_⟩;rw[Cq (by omega)];exact B5 (.cons (.cons (.cons (.cons (.nil _))))) rfl (by(try simp only[AJ,List.set_cons_zero,List.set_cons_succ]);repeat(first|exact Fgt.nil|refine Fgt.keep rfl ?_|refine Fgt.any ?_))
   ·obtain⟨s,rfl⟩:∃s,x=some s:=by
     cases x with
     |none=>cases hb28
     |some s=>exact⟨s,rfl⟩
    have hsl:s.l.length=n:=hO1 s (List.mem_of_getElem? hx);refine Ag ?_;refine h26 _ ?_;refine nT ?_;refine As ⟨(.any::.ptr 1 0::A3 (.lit (slV go f.blocks.length f.blocks.length)::.lit (.bool lost)::.lit (.int .i64 (k:Int))::.ptr 4 0::A20 (A4 (.bs Bs f.blocks::.lit (.int .i64 (f.blocks.length:Int))::.lit (.int .i64 (k:Int))::A40 (A4 []))))),[.res .emp,.box (Ak f),.dead,.res (outR go O1),.box (BZ b)]⟩ (Fb (hc:=.cons (.cons (.cons (.cons (.cons (.nil _))))))) ?_;refine dH 5 [1,2] [0,3,4] (uT (uT uN)) fun K29 hK29=>vT (vH (AY rfl rfl rfl (show k < f.blocks.length by omega)) (vH (DU (i:=3) rfl rfl rfl hx) (vN ?_)))
    refine tA 5 ?_;refine NC (i:=3) [.agg (BZ b)] rfl hx rfl (MJ (b:=b) (l:=s.l) (by omega) hbl2 (by rw[hsl];exact hbr)) (fun _=>rfl) (fun p w S S' h=>NR h) (fun _=>rfl) (fun p w S S' v h=>MI p.1 h) rfl rfl fun q=>?_
    obtain⟨⟨s2,fine⟩,hs2⟩:=q;have hs2:s2.l.length=s.l.length:=hs2;refine tNt ?_;dsimp only[VM];refine tT 6 ?_;refine KW (Array.replicate 11 true) 0 (fun _:Unit=>⟨(.any::.ptr 1 0::A3 (.lit (slV go f.blocks.length f.blocks.length)::.lit (.bool lost)::.lit (.int .i64 (k:Int))::.ptr 4 0::.lit (slV s2.g s2.l.length s2.c)::.lit (.bool fine)::A20 (A2 (.bs Bs f.blocks::.lit (.int .i64 (f.blocks.length:Int))::.lit (.int .i64 (k:Int))::A9 (.tup [.lit (slV s2.g s2.l.length s2.c),.lit (.bool fine)]::.agg (BZ b)::.lit (slV go f.blocks.length f.blocks.length)::.lit (.int .i64 (k:Int))::.lit (ptV go k)::.lit (slV s.g s.l.length s.c)::.tup [.lit (slV s2.g s2.l.length s2.c),.lit (.bool fine)]::.lit (slV s2.g s2.l.length s2.c)::.lit (.bool fine)::A20 (A6 [])))))),[.res .emp,.box (Ak f),.dead,.res (outR go O1),.box (BZ b),.dead,.res (bR s2.g s2.l.length s2.c s2.l)]⟩) (fun _=>?_) (fun hB=>?_)
    rotate_left
    ·refine Aw [7,8] (tC (oT ?_) (tC (oT ?_) Ah))
     ·refine Aw [8,9] (tC (oT ?_) (tC (oT ?_) Ah))
      ·exact tT 9 (tT 10 (tE (hB ())))
      ·exact tT 8 (tT 10 (tE (hB ())))
     ·exact tT 7 (tT 9 (tT 10 (tE (hB ()))))
    refine DJ (hK29 _ ?_);refine wS (sT (sT (sT (sT (sT ?_)))));have hblp:=List.length_pos_iff.2 hbi;refine sT ?_;rw[show IntKind.i64.wrap ((b.ins.length:Int) - 1)=((b.ins.length - 1:Nat):Int)by rw[IntWalk.i64_in _ (by omega)];omega];refine sX (Ed (show b.ins.length - 1 < b.ins.length by omega)) ?_;obtain⟨y,hy⟩:∃y,y=ixD b.ins ((b.ins.length - 1:Nat):Int):=⟨_,rfl⟩
    have hym:y∈b.ins:=by rw[hy];exact List.mem_of_getElem? (BJ (Ed (by omega)))
    rw[←hy];refine sT (sC (Afr (hbr y hym).ok) (sT (sT (wN ?_))));refine Af ?_;refine Au (fun q:Nat×List (Option SetA)×Bool=>⟨(.any::.ptr 1 0::A3 (.lit (slV go f.blocks.length f.blocks.length)::.lit (.bool q.2.2)::A2 (.lit (slV s2.g s2.l.length s2.c)::A20 (A3 (.bs Bs f.blocks::.lit (.int .i64 (f.blocks.length:Int))::.lit (.int .i64 (k:Int))::A20 (A6 (.bs tInt (Hn y)::.lit (.int .i64 ((Hn y).length:Int))::.lit (.int .i64 (q.1:Int))::A10 (A5 [])))))))),[.res .emp,.box (Ak f),.dead,.res (outR go q.2.1),.dead,.dead,.res (bR s2.g s2.l.length s2.c s2.l)]⟩) (fun q=>q.1≤(Hn y).length∧q.2.1.length=f.blocks.length∧okO n q.2.1∧(q.2.2=true→muO n q.2.1 < muO n O)∧muO n q.2.1≤muO n O) (fun q=>(Hn y).length - q.1) (0,O1,lost) ⟨Nat.zero_le _,hO1l,hO1,hlt1,hle1⟩ (B5 (.cons (.cons (.cons (.cons (.dead (.cons (.cons (.nil _)))))))) rfl (by(try simp only[AJ,List.set_cons_zero,List.set_cons_succ]);repeat(first|exact Fgt.nil|refine Fgt.keep rfl ?_|refine Fgt.any ?_))) ?_;rintro⟨j,O2,lost2⟩ ⟨hj,hO2l,hO2,hlt2,hle2⟩;have hj:j≤(Hn y).length:=hj;have hO2l:O2.length=f.blocks.length:=hO2l;have hO2:okO n O2:=hO2;have hlt2:lost2=true→muO n O2 < muO n O:=hlt2;have hle2:muO n O2≤muO n O:=hle2;have hgl:(Hn y).length≤2:=by
     unfold Hn;split
     ·simp
     ·split <;> simp
    refine wS (sT (wN ?_));refine Ac fun K33 h33=>?_
    refine Ae rfl (fun hb34=>?_) (fun hb34=>?_)
    ·have hjl:j < (Hn y).length:=by
      have:=of_decide_eq_true hb34;omega
     have hz:=hbg y hym _ (List.mem_of_getElem? (BJ (Ed hjl)));obtain⟨kz,hkz⟩:∃kz:Nat,ixD (Hn y) (j:Int)=(kz:Int):=⟨(ixD (Hn y) (j:Int)).toNat,by omega⟩
     rw[hkz,Int.toNat_natCast]at hz;refine Ag ?_;refine h33 _ ?_;refine nT ?_;refine Ac fun K35 h35=>?_
     refine Af ?_;refine wS (sX (Ed hjl) (sT ?_));rw[hkz];refine sT (wN ?_);refine wSE (sT (sT (sT ?_)));have hm:=Adq (go:=go) (k:=kz) (n:=n) (O:=O2) (bl:=s2.l) (by omega) hn (by omega) hO2;rw[show slV go O2.length O2.length=slV go f.blocks.length f.blocks.length by rw[hO2l]]at hm;refine Ao rfl (Sv (i:=3) (j:=6) (g:=s2.g) (n:=s2.l.length) (c:=s2.c) (e:=4) (T:=Ty.bool) (d:=s2.l) [.lit (slV go f.blocks.length f.blocks.length),.lit (.int .i64 (kz:Int))] (by decide) rfl rfl rfl hm (fun _=>rfl) (fun p w S S' h=>Zd h) (fun _=>rfl) (fun p w S S' v h=>by unfold AV.rel at h⊢;exact h) rfl rfl fun q=>?_);obtain⟨⟨bq,O3⟩,hq1,hq2,hq3,hq4⟩:=q;have hq1:O3.length=O2.length:=hq1;have hq2:okO n O3:=hq2;have hq3:bq=true→muO n O3 < muO n O2:=hq3;have hq4:muO n O3≤muO n O2:=hq4;refine sNt (hk:=sT ?_);refine sGf rfl ?_;refine sT (sT (wN ?_));refine h35 _ ?_;refine nT ?_;refine wSE (sT (sT (wN ?_)));refine athen_n ⟨(j+1,O3,bq||lost2),⟨hjl,hq1.trans hO2l,hq2,fun e=>by
      show muO n O3 < _;have e:(bq||lost2)=true:=e;rw[Bool.or_eq_true]at e;rcases e with e|e
      ·have:=hq3 e;omega
      ·have:=hlt2 e;omega,by show muO n O3≤_;omega⟩,by show(Hn y).length - (j+1) < (Hn y).length - j;omega,?_⟩
     rw[Cq (by omega)];exact B5 (.cons (.cons (.cons (.cons (.cons (.cons (.cons (.nil _)))))))) rfl (by(try simp only[AJ,List.set_cons_zero,List.set_cons_succ]);repeat(first|exact Fgt.nil|refine Fgt.keep rfl ?_|refine Fgt.any ?_))
    ·refine Aq ?_;refine h24 _ ?_;refine nT ?_;refine wSE (sT (sT (wN ?_)));refine athen_n ⟨(k+1,O2,lost2),⟨hlt,hO2l,hO2,hlt2,hle2⟩,by show f.blocks.length - (k+1) < f.blocks.length - k;omega,?_⟩;rw[Cq (by omega)];exact B5 (.cons (.cons (.cons (.cons (.nil _))))) rfl (by(try simp only[AJ,List.set_cons_zero,List.set_cons_succ]);repeat(first|exact Fgt.nil|refine Fgt.keep rfl ?_|refine Fgt.any ?_))
  ·refine Aq ?_;refine h18 _ ?_;refine nT ?_;refine wS (sT (sT (wN ?_)));refine Ae rfl (fun hb41=>?_) (fun hb41=>?_)
   ·refine wR ?_;refine As _ (Df 0 3 (by decide) rfl rfl) ?_;refine nT ?_;exact Aj ⟨.inr rfl,⟨(go,O1),hO1l,hO1⟩,rfl,rfl,by show AV.lit (slV go f.blocks.length f.blocks.length)= .lit (slV go O1.length O1.length);rw[hO1l],rfl⟩
   ·refine Ag ?_;have hlost:lost=true:=by simpa using hb41
    refine asN ?_;refine abN ?_;refine athen_n ⟨O1,⟨hO1l,hO1⟩,hlt1 hlost,?_⟩;exact BD rfl (by(try simp only[AJ,List.set_cons_zero,List.set_cons_succ]);repeat(first|exact Fgt.nil|refine Fgt.keep rfl ?_|refine Fgt.any ?_))
theorem Bu{P:Program}{C:Ctx}{t:List AV}{h:List ABlk}{o:Oper}{f:FuncId}{x:Operand}{args:Array Operand}{tys:Array TypeId}{xs:List AV}{r:AV}(ho:o.op= .call {callee:=.value x,args:=args,argTypes:=tys})(hv:evA t x= .lit (.func (.func f) #[] #[]))(hx:args.toList.map (evA t)=xs)(hF:Fn P f xs r)(hc:AZ xs=true)(hr:AV.cl r=true):Av P C t h o r:=by
 intro S ψ w ρ H hρ;have h1:ρ x= .func (.func f) #[] #[]:=by
  have:=hρ x (by rw[ho];exact Array.mem_append.2 (.inl (by simp)));rw[hv]at this;unfold AV.rel at this;exact this
 rw[Lf ho hF.1 ρ w h1];refine⟨rfl,?_⟩;have h2:Ad w S h ψ xs (args.toList.map ρ):=by
  rw[←hx];exact BY fun x hx'=>hρ x (by rw[ho];exact Array.mem_append.2 (.inr (Array.mem_toList_iff.1 hx')))
 have h3:=hF.2 w S (args.toList.map ρ) H.lt (AQ _ _ hc h2);rw[show(args.map ρ++#[])=(args.toList.map ρ).toArray from(by rw[Array.append_empty,←Array.toList_map])];refine h3.mono ?_;rintro e w' ⟨v,he,hb,S',k1,k2,k3,k4⟩;exact⟨v,he,hb,S',k1,k2,k3,Br _ _ hr k4⟩
def M1(c:Int):M Bool:=M.bnd (Jz c) fun r1=>M.bnd (M.whn (!r1) false (LB c)) fun r2=>M.ok (r1||r2)
theorem J6{c:Int}{r:Bool}(H:(M1 c).to r):Fn Tryz.prog 218 [.lit (.int .u8 c)] (.lit (.bool r)):=by
 delta M1 at H;try dsimp only at H
 refine Ax Tryz.func218 rfl (by kernel_rfl) rfl Tryz.ntmps218 fun C hC=>?_
 simp only[List.length_cons,List.length_nil,Nat.reduceAdd,Nat.reduceSub,List.replicate_succ,List.replicate_zero,List.cons_append,List.nil_append];refine wS (sT (wN ?_));obtain⟨r1,k1,H⟩:=AX.1 H;have k1:=J5 k1;obtain⟨r2,k2,H⟩:=AX.1 H;refine wS (sT (sC k1 (sT ?_)));refine sGf rfl ?_;refine sG (g:=(!r1)) (hg:=ZJ rfl) (hq:=fun hg=>by((try simp only[Fc hg]);(try simp only[XO hg]);exact Cn rfl rfl (LA (M.to_whn k2 hg)) rfl rfl)) (ht:=Vw) ?_;refine sT (sT (wN ?_));obtain rfl:=Am.1 H;exact Aj ⟨.inr rfl,Fin.cl rfl⟩
def Ach(b:Int→Bool)(s:ByteArray):Bool:=s.data.toList.all fun u=>b (u.toNat:Int)
theorem Tx{f:FuncId}{b:Int→Bool}(hF:∀c:UInt8,Fn Tryz.prog f [.lit (.int .u8 (c.toNat:Int))] (.lit (.bool (b (c.toNat:Int))))){s:ByteArray}(hs:s.size≤1073741824):Fn Tryz.prog 217 [.lit (.string s),.lit (.func (.func f) #[] #[])] (.lit (.bool (Ach b s))):=by
 have hsz:s.data.toList.length=s.size:=by rw[Array.length_toList];rfl
 refine Ax Tryz.func217 rfl (by kernel_rfl) rfl Tryz.ntmps217 fun C hC=>?_
 simp only[List.length_cons,List.length_nil,Nat.reduceAdd,Nat.reduceSub,List.replicate_succ,List.replicate_zero,List.cons_append,List.nil_append];refine wR ?_;refine Ac fun K2 h2=>?_
 refine wS (sT (sH (I9 rfl rfl) (sT (wN ?_))));refine Af ?_;refine Au (fun k:Nat=>⟨(.lit (.string s)::.lit (.func (.func f) #[] #[])::A5 (.lit (.int .i64 (s.size:Int))::.lit (.int .i64 (k:Int))::A9 [])),[]⟩) (fun k=>k≤s.size∧(s.data.toList.take k).all (fun u=>b (u.toNat:Int))=true) (fun k=>s.size - k) 0 ⟨Nat.zero_le _,rfl⟩ (BD rfl (by(try simp only[AJ,List.set_cons_zero,List.set_cons_succ]);repeat(first|exact Fgt.nil|refine Fgt.keep rfl ?_|refine Fgt.any ?_))) ?_;rintro k ⟨hk,hall⟩;refine wS (sT (wN ?_));refine Ac fun K6 h6=>?_
 refine Ae rfl (fun hb7=>?_) (fun hb7=>?_)
 ·have hlt:k < s.size:=by
   have:=of_decide_eq_true hb7;omega
  obtain⟨c,hc⟩:∃c,s.data.toList[k]? =some c:=⟨_,List.getElem?_eq_getElem (by omega)⟩
  refine Ag ?_;refine h6 _ ?_;refine nT ?_;refine Ac fun K8 h8=>?_
  refine Af ?_;refine wR ?_;refine wS (sT (sT (sT ?_)));refine sH (Mg rfl rfl rfl hc) ?_;refine sH (Bu rfl rfl rfl (hF c) rfl rfl) (sT (wN ?_));refine Ae rfl (fun hb11=>?_) (fun hb11=>?_)
  ·refine wR ?_;have hb:b (c.toNat:Int)=false:=by simpa using hb11
   have:Ach b s=false:=by
    unfold Ach;rw[List.all_eq_false];exact⟨c,List.mem_of_getElem? hc,by rw[hb];simp⟩
   rw[this];exact Aj ⟨.inr rfl,Fin.cl rfl⟩
  ·refine Ag ?_;refine h8 _ ?_;refine nT ?_;refine wRE ?_;have hb:b (c.toNat:Int)=true:=by simpa using hb11
   refine athen_n ⟨k+1,⟨hlt,by rw[List.take_add_one,hc,List.all_append,hall];simp[hb]⟩,by omega,?_⟩;exact BD rfl (by(try simp only[AJ,List.set_cons_zero,List.set_cons_succ]);repeat(first|exact Fgt.nil|refine Fgt.keep rfl ?_|refine Fgt.any ?_))
 ·refine Aq ?_;refine h2 _ ?_;refine nT ?_;refine wR ?_;have:Ach b s=true:=by
   have:=of_decide_eq_false hb7;rw[List.take_of_length_le (by omega)]at hall;exact hall
  rw[this];exact Aj ⟨.inr rfl,Fin.cl rfl⟩
section
variable{P:Program}{C:Ctx}{t t':List AV}{h:List ABlk}{ops:Array Oper}{rest:List Oper}{d:Option Nat}{ty:TypeId}{ps:String}{af:Array Go.Edge}{j:Nat}{K:St→Prop}{o:Oper}
theorem SJ{op:Op}{r:AV}{g:Bool}(hq:(!g)=true→Av P C t h ⟨d,op,ty,ps,af,some (j,false)⟩ r)[PA t d (cond (!g) r (.lit undef)) t'](hk:Ck P C ops K rest ⟨t',h⟩)(hg:gA ops t ⟨d,op,ty,ps,af,some (j,false)⟩=some (g ==false):=by rfl):Ck P C ops K (⟨d,op,ty,ps,af,some (j,false)⟩::rest) ⟨t,h⟩:=sG (hg:=ZJ hg) (hq:=hq) (ht:=PA.e) (hk:=hk)
theorem AB{f:FuncId}{x:Operand}{tys:Array TypeId}{a r:AV}(ho:o.op= .call {callee:=.value (.func f),args:=#[x],argTypes:=tys})(hx:evA t x=a)(hF:Fn P f [a] r)(hc:AZ [a]=true)(hr:AV.cl r=true):Av P C t h o r:=Cn ho (by show [evA t x]= [a];rw[hx]) hF hc hr
theorem EE{f:FuncId}{x y:Operand}{tys:Array TypeId}{a b r:AV}(ho:o.op= .call {callee:=.value (.func f),args:=#[x,y],argTypes:=tys})(hx:evA t x=a)(hy:evA t y=b)(hF:Fn P f [a,b] r)(hc:AZ [a,b]=true)(hr:AV.cl r=true):Av P C t h o r:=Cn ho (by show [evA t x,evA t y]= [a,b];rw[hx,hy]) hF hc hr
end
theorem Uu:∃b:Int→Bool,∀c:Int,Fn Tryz.prog 216 [.lit (.int .u8 c)] (.lit (.bool (b c))):=⟨_,fun c=>J5 (An _)⟩
theorem XJ:∃b:Int→Bool,∀c:Int,Fn Tryz.prog 219 [.lit (.int .u8 c)] (.lit (.bool (b c))):=⟨_,fun c=>LA (An _)⟩
theorem WI:∃b:Int→Bool,∀c:Int,Fn Tryz.prog 218 [.lit (.int .u8 c)] (.lit (.bool (b c))):=by
 have h:∀c:Int,∃b:Bool,Fn Tryz.prog 218 [.lit (.int .u8 c)] (.lit (.bool b)):=fun c=>by
  cases h1:((((decide (c≥97))&&(decide (c≤122)))||((decide (c≥65))&&(decide (c≤90))))||(c ==95))with
  |true=>exact⟨_,J6 (AF (An _) (AF (M.whn_f (by rw[h1];rfl)) (An _)))⟩
  |false=>exact⟨_,J6 (AF (An _) (AF (G9 (by rw[h1];rfl) (An _)) (An _)))⟩
 exact⟨fun c=>Classical.choose (h c),fun c=>Classical.choose_spec (h c)⟩
theorem Zq:Fn Tryz.prog 197 [.lit (.string ⟨#[]⟩)] (.lit (.bool false)):=by
 refine Ax Tryz.func197 rfl (by kernel_rfl) rfl Tryz.ntmps197 fun C hC=>?_
 simp only[List.length_cons,List.length_nil,Nat.reduceAdd,Nat.reduceSub,List.replicate_succ,List.replicate_zero,List.cons_append,List.nil_append];refine wR ?_;refine Ac fun K2 h2=>?_
 refine wS (sT (sH (Nt rfl rfl rfl) (sT ?_)));refine sGf (g:=true) rfl ?_;refine SJ (g:=true) (fun hg=>by cases hg) (r:=.any) ?_;refine SJ (g:=true) (fun hg=>by cases hg) (r:=.any) ?_;refine sH (Av.pick rfl rfl rfl) (sT ?_);refine sGf (g:=true) rfl ?_;refine SJ (g:=true) (fun hg=>by cases hg) (r:=.any) ?_;refine SJ (g:=true) (fun hg=>by cases hg) (r:=.any) ?_;refine SJ (g:=true) (fun hg=>by cases hg) (r:=.any) ?_;refine sH (Av.pick rfl rfl rfl) (sT ?_);refine sGf (g:=true) rfl ?_;refine SJ (g:=true) (fun hg=>by cases hg) (r:=.any) ?_;refine SJ (g:=true) (fun hg=>by cases hg) (r:=.any) ?_;refine sH (Av.pick rfl rfl rfl) (wN ?_);refine Ae rfl (fun hb4=>?_) (fun hb4=>?_)
 ·refine wR ?_;exact Aj ⟨.inr rfl,Fin.cl rfl⟩
 ·cases hb4
theorem Ak6{s:ByteArray}(h:0 < s.size):Apr s 0=true:=by
 unfold Apr;simp;omega
theorem WG{s:ByteArray}{lb db nb:Int→Bool}(hlb:∀c:Int,Fn Tryz.prog 216 [.lit (.int .u8 c)] (.lit (.bool (lb c))))(hdb:∀c:Int,Fn Tryz.prog 219 [.lit (.int .u8 c)] (.lit (.bool (db c))))(hnb:∀c:Int,Fn Tryz.prog 218 [.lit (.int .u8 c)] (.lit (.bool (nb c))))(h0:0 < s.size)(hs:s.size≤1073741824):
 Fn Tryz.prog 197 [.lit (.string s)] (.lit (.bool (bif (decide ((s.size:Int) > 64)||!lb (chD s 0)||!Ach nb s)then false else(chD s 0 !=118||(s.size:Int) ==1||!Ach db (s.extract 1 s.size))))):=by
 have hA1:=Tx (fun c=>hnb c.toNat) hs;have hA2:=Tx (s:=s.extract 1 s.size) (fun c=>hdb c.toNat) (by rw[ByteArray.size_extract];omega);have hne:(s ==⟨#[]⟩)=false:=by
  cases e:s ==⟨#[]⟩with
  |false=>rfl
  |true=>
   have e:(s.data == #[])=true:=e;have:s.data= #[]:=eq_of_beq e;have h0:0 < s.data.size:=h0;rw[this]at h0;exact absurd h0 (by decide)
 refine Ax Tryz.func197 rfl (by kernel_rfl) rfl Tryz.ntmps197 fun C hC=>?_
 simp only[List.length_cons,List.length_nil,Nat.reduceAdd,Nat.reduceSub,List.replicate_succ,List.replicate_zero,List.cons_append,List.nil_append];refine wR ?_;refine Ac fun K2 h2=>?_
 refine wS (sT (sH (Je rfl rfl rfl) ?_));rw[hne];refine sT ?_;refine sTg (sHg (I9 rfl rfl) (sTg (sH (r:=.lit (.bool (decide ((s.size:Int) > 64)))) (Av.pick rfl rfl rfl) (sT ?_))));refine sGf rfl ?_;refine SJ (fun hg=>Nr rfl (GX.e hg) rfl (Ak6 h0)) ?_;refine SJ (fun hg=>AB rfl (GX.e hg) (hlb _) rfl rfl) ?_;refine sGf rfl ?_;refine sT (sT ?_);refine sGf rfl ?_;refine SJ (fun hg=>EE rfl (GX.e hg) rfl hA1 rfl rfl) ?_;refine sGf rfl ?_;refine sT (wN ?_);refine Ae rfl (fun hb4=>?_) (fun hb4=>?_)
 ·refine wR ?_;rw[show(decide ((s.size:Int) > 64)||!lb (chD s 0)||!Ach nb s)=true from hb4,cond_true];exact Aj ⟨.inr rfl,Fin.cl rfl⟩
 ·have hbe:(decide ((s.size:Int) > 64)||!lb (chD s 0)||!Ach nb s)=false:=hb4;refine Ag ?_;refine h2 _ ?_;refine nT ?_;refine wS (sT ?_);refine sH (Nr rfl rfl rfl (Ak6 h0)) (sT (sT ?_));refine sGf rfl ?_;refine SJ (fun hg=>I9 rfl (GX.e hg)) ?_;refine sGf rfl ?_;refine sT (sT ?_);refine sGf rfl ?_;refine SJ (fun hg=>Nv (k:=1) (s:=s) rfl (GX.e hg) rfl h0) ?_;refine SJ (fun hg=>EE rfl (GX.e hg) rfl hA2 rfl rfl) ?_;refine sGf rfl ?_;refine sT (sT (wN ?_));rw[hbe,cond_false];exact Aj ⟨.inr rfl,Fin.cl rfl⟩
theorem WH{s:ByteArray}(hs:s.size≤1073741824):∃b:Bool,Fn Tryz.prog 197 [.lit (.string s)] (.lit (.bool b)):=by
 obtain⟨lb,hlb⟩:=Uu;obtain⟨db,hdb⟩:=XJ;obtain⟨nb,hnb⟩:=WI;by_cases h0:s.size=0
 ·refine⟨false,?_⟩;have hse:s=⟨#[]⟩:=by
   rcases s with⟨d⟩
   have:d.size=0:=h0;rw[Array.size_eq_zero_iff.1 this]
  subst hse;exact Zq
 ·exact⟨_,WG hlb hdb hnb (by omega) hs⟩
section
variable{P:Program}{C:Ctx}{t:List AV}{h:List ABlk}{o:Oper}
theorem E0(hC:C.std)(i j:Nat){cells:List AV}{α:Type}{T:Ty α}{d:α}(hi:h[i]? =some (.box cells))(hj:t[j]? =some (.ptr i 0))(hcl:AZ cells=true)(hp:∀(w:World) (S:Nat→Prop) (cs:List Value),Ad w S [] ψ0 cells cs→T.RS w S cs d):St.le C ⟨t,h⟩ ⟨t.set j (.bp T d 0),h.set i .dead⟩:=
 EB i j hi rfl rfl hj (PY hC hi rfl) fun S ψ w v H hr=>by
  obtain⟨g,cs,e0,hg,k1,k2,k3,k4⟩:=H.blk i _ hi;unfold AV.rel at hr;obtain⟨g',hg',hv'⟩:=hr.2 (by rw[hi];rfl);rw[hg]at hg';cases hg';unfold AV.rel;rw[hv'];refine⟨g,0,rfl,.inr (by rw[hg];rfl),?_⟩;have hl4:Ad w S [] ψ0 cells cs:=AQ _ _ hcl k4;refine⟨cs,T.keepS (hp w S cs hl4) (fun _ _=>rfl) fun k hk=>.inl hk,fun q u' hq=>?_⟩;unfold World.cell?;simp[k3,hq]
theorem NV{x:Prog}(ho:wfI .i64 x.heap){w:World}{S:Nat→Prop}{cs:List Value}(H:Ad w S h ψ0 (AU x) cs):Dl.RS w S cs x:=by
 simp only[AU,Ad,AV.rel]at H;obtain⟨_,_,rfl,rfl,_,_,rfl,ha,_,_,rfl,hb,rfl⟩:=H;obtain⟨A,c,rfl⟩:=BB ha;obtain⟨A2,c2,rfl⟩:=BB hb;exact KV.2 ⟨A2,c2,A,c,rfl,ho,ha,hb⟩
theorem Dg{f:FuncId}{x:Operand}{args:Array Operand}{tys:Array TypeId}{as_ l:List AV}{r:AV}(ho:o.op= .call {callee:=.value x,args:=args,argTypes:=tys})(hv:evA t x= .fn f l)(hx:args.toList.map (evA t)=as_)(hF:Fn P f (as_++l) r)(hc:AZ (as_++l)=true)(hr:AV.cl r=true):Av P C t h o r:=by
 intro S ψ w ρ H hρ;obtain⟨cs,h1,hcs⟩:∃cs:List Value,ρ x= .func (.func f) #[] cs.toArray∧Ad w S h ψ l cs:=by
  have:=hρ x (by rw[ho];exact Array.mem_append.2 (.inl (by simp)));rw[hv]at this;unfold AV.rel at this;exact this
 rw[Lf ho hF.1 ρ w h1];refine⟨rfl,?_⟩;have h2:Ad w S h ψ (as_++l) (args.toList.map ρ++cs):=by
  rw[←hx];exact BK (BY fun x hx'=>hρ x (by rw[ho];exact Array.mem_append.2 (.inr (Array.mem_toList_iff.1 hx')))) hcs
 have h3:=hF.2 w S (args.toList.map ρ++cs) H.lt (AQ _ _ hc h2);rw[show(args.map ρ++cs.toArray)=(args.toList.map ρ++cs).toArray from(by simp)];refine h3.mono ?_;rintro e w' ⟨v,he,hb,S',k1,k2,k3,k4⟩;exact⟨v,he,hb,S',k1,k2,k3,Br _ _ hr k4⟩
end
def twB(nm:Nat→ByteArray)(n:Nat)(nb:Bool):Bool:=(List.range n).any (fun i=>nm i ==nm n)||!nb
theorem SC{f:FuncId}{α:Type}{T:Ty α}{d:α}{nm:Nat→ByteArray}{n:Nat}{nb:Bool}(hn:n≤1073741824)(hF:∀i,i≤n→Fn Tryz.prog f [.lit (.int .i64 (i:Int)),.bp T d 0] (.lit (.string (nm i))))(hnb:Fn Tryz.prog 197 [.lit (.string (nm n))] (.lit (.bool nb))):Fn Tryz.prog 152 [.lit (.int .i64 (n:Int)),.fn f [.bp T d 0]] (.lit (.bool (twB nm n nb))):=by
 have hc:∀i:Nat,AZ ([.lit (.int .i64 (i:Int))]++[.bp T d 0])=true:=fun i=>rfl
 refine Ax Tryz.func152 rfl (by kernel_rfl) rfl Tryz.ntmps152 fun C hC=>?_
 simp only[List.length_cons,List.length_nil,Nat.reduceAdd,Nat.reduceSub,List.replicate_succ,List.replicate_zero,List.cons_append,List.nil_append];refine wR ?_;refine Ac fun K2 h2=>?_
 refine wS (sT (sT (wN ?_)));refine Af ?_;refine Au (fun k:Nat=>⟨(.lit (.int .i64 (n:Int))::.fn f [.bp T d 0]::A4 (.lit (.int .i64 (n:Int))::.lit (.int .i64 (k:Int))::A10 (A5 []))),[]⟩) (fun k=>k≤n∧∀i,i < k→(nm i ==nm n)=false) (fun k=>n - k) 0 ⟨Nat.zero_le _,fun i hi=>absurd hi (Nat.not_lt_zero _)⟩ (BD rfl (by(try simp only[AJ,List.set_cons_zero,List.set_cons_succ]);repeat(first|exact Fgt.nil|refine Fgt.keep rfl ?_|refine Fgt.any ?_))) ?_;rintro k ⟨hk,hall⟩;refine wS (sT (wN ?_));refine Ac fun K6 h6=>?_
 refine Ae rfl (fun hb7=>?_) (fun hb7=>?_)
 ·have hlt:k < n:=by
   have:=of_decide_eq_true hb7;omega
  refine Ag ?_;refine h6 _ ?_;refine nT ?_;refine Ac fun K8 h8=>?_
  refine Af ?_;refine wR ?_;refine wS (sT (sT ?_));refine sH (Dg rfl rfl rfl (hF k hk) (hc k) rfl) (sT (sT ?_));refine sH (Dg rfl rfl rfl (hF n (Nat.le_refl _)) (hc n) rfl) ?_;refine sH (Je rfl rfl rfl) (wN ?_);refine Ae rfl (fun hb11=>?_) (fun hb11=>?_)
  ·refine wR ?_;have:twB nm n nb=true:=by
    unfold twB;rw[Bool.or_eq_true];exact .inl (List.any_eq_true.2 ⟨k,List.mem_range.2 hlt,hb11⟩)
   rw[this];exact Aj ⟨.inr rfl,Fin.cl rfl⟩
  ·refine Ag ?_;refine h8 _ ?_;refine nT ?_;refine wRE ?_;refine athen_n ⟨k+1,⟨hlt,fun i hi=>by
    by_cases e:i=k
    ·subst e;exact hb11
    ·exact hall i (by omega)⟩,by omega,?_⟩
   exact BD rfl (by(try simp only[AJ,List.set_cons_zero,List.set_cons_succ]);repeat(first|exact Fgt.nil|refine Fgt.keep rfl ?_|refine Fgt.any ?_))
 ·refine Aq ?_;refine h2 _ ?_;refine nT ?_;refine wS (sT (sT ?_));refine sH (Dg rfl rfl rfl (hF n (Nat.le_refl _)) (hc n) rfl) ?_;refine sC hnb (sT (sT (wN ?_)));have:twB nm n nb= !nb:=by
   unfold twB;have:(List.range n).any (fun i=>nm i ==nm n)=false:=by
    have:=of_decide_eq_false hb7;rw[List.any_eq_false];intro i hi;rw[hall i (by have:=List.mem_range.1 hi;omega)];simp
   rw[this,Bool.false_or]
  rw[this];exact Aj ⟨.inr rfl,Fin.cl rfl⟩
end Mu
end
