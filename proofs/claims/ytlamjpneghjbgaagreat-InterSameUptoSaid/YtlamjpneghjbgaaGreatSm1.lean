/-
  Own texts laid together, part 1: MuM, MuTy, MuApi, MuAt, MuInR, MuAbs, MuAwp, MuFn, MuOps, MuFlat, MuMem, MuOwn, MuOwn2, MuOwn3, MuOwn4, MuWalk, Shelf, MuLib, MuGraph, MuCallsP, MuBulk, MuRows, MuOwnT, MuReads, MuMisc, MuShape, MuSame, MuFlowP, MuNext, MuOk, MuBuild, MuDraw, MuRowFn.
  Conditions: as each part says.
-/
import Derived.Lib.Hide
import Derived.WalkKit
import Derived.ProofKit
import Derived.Deep.Slices
import Derived.Test.YtlamjpneghjbgaaGreatRows
import Derived.RangeFuncLeaves
import Derived.RangeFuncCalls
import Derived.RangeFuncRecord
import Derived.OrdersIn
import Derived.Orders
import Derived.Deep.RegionHeld
import Derived.TacticsIn
import Derived.StillTail
import Derived.Scope
import Derived.Maps.AppendAt
import Derived.Deep.AppendLies
import Derived.RegionTactic
import Derived.Deep.Draws
import Derived.Deep.OwnRows
import Derived.Shelf.Small.Bits
import Derived.Shelf.Small.Wraps
import Derived.Shelf.Strconv.Itoa0
import Derived.Shelf.Sort.Plain
import Derived.Shelf.Slices.Turned
import Derived.Ground.Names2Prog
import Derived.Shelf.Slices.Clone
import Derived.Shelf.Slices.CompactI
import Derived.Shelf.Slices.SearchI
import Derived.Shelf.Slices.Cells
import Derived.Shelf.Slices.In.SortNone
import Derived.Test.YtlamjpneghjbgaaGreatProg
import Derived.Sort.OwnSortedInts
import Derived.Lib.SlicesCompact
import Derived.BigQuiet
import Derived.BigRegion
import Derived.Deep.RegionHeld3
import Derived.Deep.RegionLaw
import Derived.Laws.AppendOwnNone
import Derived.Maps.OwnSet
import Derived.WalkSpells
import Derived.RangeFuncNested
import Derived.RangeFuncBound
import Derived.Shelf.Abstract
import Derived.Shelf.RegionOpen
import Derived.OwnWalkIn
import Derived.TacticsInMore
import Derived.LoopNIn
import Derived.LoopIn
import Derived.RangeFuncBox
import Derived.RangeFuncWrites
set_option maxRecDepth 100000
set_option maxHeartbeats 2000000
set_option linter.unusedSimpArgs false
set_option linter.unusedVariables false
section
namespace Mu
structure M(α:Type) where
 run:Nat→Option α
 mono:∀n a,run n=some a→run (n+1)=some a
namespace M
variable{α β σ ρ:Type}
def to(x:M α)(a:α):Prop:=∃n,x.run n=some a
theorem le(x:M α){n m:Nat}{a:α}(h:n≤m)(hx:x.run n=some a):x.run m=some a:=by
 induction h with
 |refl=>exact hx
 |step _ ih=>exact x.mono _ _ ih
def ok(a:α):M α:=⟨fun _=>some a,fun _ _ h=>h⟩
def no:M α:=⟨fun _=>none,fun _ _ h=>h⟩
def bnd(x:M α)(f:α→M β):M β:=⟨fun n=>(x.run n).bind fun a=>(f a).run n,fun n b h=>by
 cases hx:x.run n with
 |none=>rw[hx]at h;cases h
 |some a=>
  rw[hx]at h;rw[x.mono _ _ hx];exact(f a).mono _ _ h⟩
def chk(p:Bool)(x:M α):M α:=bif p then x else no
def cnd(c:Bool)(x y:M α):M α:=bif c then x else y
def whn(c:Bool)(d:α)(x:M α):M α:=bif c then x else ok d
def els(x:M (α⊕β))(f:α→M β):M β:=bnd x fun| .inl a=>f a| .inr b=>ok b
def loopR(step:σ→M (σ⊕ρ))(n:Nat):Nat→σ→Option ρ
 |0,_=>none
 |k+1,s=>((step s).run n).bind fun| .inl s'=>loopR step n k s'| .inr r=>some r
theorem loopR_mono{step:σ→M (σ⊕ρ)}{n:Nat}{r:ρ}:∀{k:Nat} {s:σ},loopR step n k s=some r→loopR step (n+1) (k+1) s=some r
 |0,_,h=>by cases h
 |k+1,s,h=>by
  unfold loopR at h⊢;cases hx:(step s).run n with
  |none=>rw[hx]at h;cases h
  |some x=>
   rw[hx]at h;rw[(step s).mono _ _ hx];cases x with
   |inl s'=>exact loopR_mono (k:=k) h
   |inr r'=>exact h
def loop(step:σ→M (σ⊕ρ))(s:σ):M ρ:=⟨fun n=>loopR step n n s,fun _ _ h=>loopR_mono h⟩
theorem to_ok{a b:α}:(ok a).to b↔a=b:=⟨fun⟨_,h⟩=>Option.some.inj h,fun h=>⟨0,congrArg some h⟩⟩
theorem ok_to(a:α):(ok a).to a:=to_ok.2 rfl
theorem to_no{a:α}:¬(no:M α).to a:=fun⟨_,h⟩=>by cases h
theorem to_bnd{x:M α}{f:α→M β}{b:β}:(bnd x f).to b↔∃a,x.to a∧(f a).to b:=by
 constructor
 ·rintro⟨n,h⟩;have h:(x.run n).bind (fun a=>(f a).run n)=some b:=h;cases hx:x.run n with
  |none=>rw[hx]at h;cases h
  |some a=>
   rw[hx]at h;exact⟨a,⟨n,hx⟩,⟨n,h⟩⟩
 ·rintro⟨a,⟨n,hn⟩,⟨m,hm⟩⟩;refine⟨max n m,?_⟩;show(x.run (max n m)).bind _=_;rw[x.le (Nat.le_max_left n m) hn];exact(f a).le (Nat.le_max_right n m) hm
theorem bnd_to{x:M α}{f:α→M β}{a:α}{b:β}(h:x.to a)(k:(f a).to b):(bnd x f).to b:=to_bnd.2 ⟨a,h,k⟩
theorem to_chk{p:Bool}{x:M α}{a:α}:(chk p x).to a↔p=true∧x.to a:=by
 cases p
 ·exact⟨fun h=>(to_no h).elim,fun h=>by cases h.1⟩
 ·exact⟨fun h=>⟨rfl,h⟩,fun h=>h.2⟩
theorem chk_to{p:Bool}{x:M α}{a:α}(h:p=true)(k:x.to a):(chk p x).to a:=to_chk.2 ⟨h,k⟩
theorem to_t{c:Bool}{x y:M α}{a:α}(hc:c=true)(h:(cnd c x y).to a):x.to a:=by subst hc;exact h
theorem to_f{c:Bool}{x y:M α}{a:α}(hc:c=false)(h:(cnd c x y).to a):y.to a:=by subst hc;exact h
theorem t_to{c:Bool}{x y:M α}{a:α}(hc:c=true)(h:x.to a):(cnd c x y).to a:=by subst hc;exact h
theorem f_to{c:Bool}{x y:M α}{a:α}(hc:c=false)(h:y.to a):(cnd c x y).to a:=by subst hc;exact h
theorem to_whn{c:Bool}{d:α}{x:M α}{a:α}(h:(whn c d x).to a)(hc:c=true):x.to a:=by subst hc;exact h
theorem whn_t{c:Bool}{d:α}{x:M α}{a:α}(hc:c=true)(h:x.to a):(whn c d x).to a:=by subst hc;exact h
theorem whn_f{c:Bool}{d:α}{x:M α}(hc:c=false):(whn c d x).to d:=by subst hc;exact ok_to d
theorem to_els{x:M (α⊕β)}{f:α→M β}{b:β}(h:(els x f).to b):∃z,x.to z∧(∀a,z= .inl a→(f a).to b)∧∀b',z= .inr b'→b'=b:=by
 obtain⟨z,h1,h2⟩:=to_bnd.1 h;refine⟨z,h1,fun a e=>?_,fun b' e=>?_⟩
 ·subst e;exact h2
 ·subst e;exact to_ok.1 h2
theorem els_l{x:M (α⊕β)}{f:α→M β}{a:α}{b:β}(h:x.to (.inl a))(k:(f a).to b):(els x f).to b:=to_bnd.2 ⟨.inl a,h,k⟩
theorem els_r{x:M (α⊕β)}{f:α→M β}{b:β}(h:x.to (.inr b)):(els x f).to b:=to_bnd.2 ⟨.inr b,h,ok_to b⟩
inductive Rounds (step:σ→M (σ⊕ρ)):Nat→σ→ρ→Prop
 |out {k:Nat} {s:σ} {r:ρ}:(step s).to (.inr r)→Rounds step k s r
 |on {k:Nat} {s s':σ} {r:ρ}:(step s).to (.inl s')→Rounds step k s' r→Rounds step (k+1) s r
theorem rounds_of{step:σ→M (σ⊕ρ)}{n:Nat}{r:ρ}:∀{k:Nat} {s:σ},loopR step n k s=some r→Rounds step k s r
 |0,_,h=>by cases h
 |k+1,s,h=>by
  unfold loopR at h;cases hx:(step s).run n with
  |none=>rw[hx]at h;cases h
  |some x=>
   rw[hx]at h;cases x with
   |inl s'=>exact .on ⟨n,hx⟩ (rounds_of (k:=k) h)
   |inr r'=>cases h;exact .out ⟨n,hx⟩
theorem loop_unf{step:σ→M (σ⊕ρ)}{s:σ}{r:ρ}{x:σ⊕ρ}(h:(step s).to x)(hn:∀s',x= .inl s'→(loop step s').to r)(hr:∀r',x= .inr r'→r'=r):(loop step s).to r:=by
 obtain⟨n,hx⟩:=h;cases x with
 |inr r'=>
  refine⟨n+1,?_⟩;show loopR step (n+1) (n+1) s=some r;unfold loopR;rw[(step s).mono _ _ hx,←hr r' rfl];rfl
 |inl s'=>
  obtain⟨m,hm⟩:=hn s' rfl;have hm:loopR step m m s'=some r:=hm;have up:∀d,loopR step (m+d) (m+d) s'=some r:=fun d=>by
   induction d with
   |zero=>exact hm
   |succ d ih=>exact loopR_mono ih
  refine⟨m+n+1,?_⟩;show loopR step (m+n+1) (m+n+1) s=some r;unfold loopR;rw[(step s).le (by omega) hx];have hw:∀{k q:Nat} {s:σ},loopR step q k s=some r→loopR step (q+1) k s=some r:=by
   intro k;induction k with
   |zero=>intro q s h;cases h
   |succ k ih=>
    intro q s h;unfold loopR at h⊢;cases hx:(step s).run q with
    |none=>rw[hx]at h;cases h
    |some x=>
     rw[hx]at h;rw[(step s).mono _ _ hx];cases x with
     |inl s'=>exact ih h
     |inr r'=>exact h
  exact hw (up n)
theorem loop_in{step:σ→M (σ⊕ρ)}{s s':σ}{r:ρ}(h:(step s).to (.inl s'))(k:(loop step s').to r):(loop step s).to r:=loop_unf h (fun a e=>by cases e;exact k) fun a e=>by cases e
theorem loop_out{step:σ→M (σ⊕ρ)}{s:σ}{r:ρ}(h:(step s).to (.inr r)):(loop step s).to r:=loop_unf h (fun a e=>by cases e) fun a e=>by cases e;rfl
theorem to_loop{step:σ→M (σ⊕ρ)}{s:σ}{r:ρ}:(loop step s).to r↔∃k,Rounds step k s r:=by
 constructor
 ·rintro⟨n,h⟩;exact⟨n,rounds_of h⟩
 ·rintro⟨k,h⟩;induction h with
  |out h=>exact loop_out h
  |on h _ ih=>exact loop_in h ih
theorem loop_for{step:σ→M (σ⊕ρ)}(F:Nat→σ)(n:Nat){r:ρ}(hs:∀k,k < n→(step (F k)).to (.inl (F (k+1))))(ho:(step (F n)).to (.inr r)):∀{j:Nat},j≤n→(loop step (F j)).to r:=by
 intro j hj;obtain⟨d,rfl⟩:∃d,n=j+d:=⟨n - j,by omega⟩
 induction d generalizing j with
 |zero=>exact loop_out ho
 |succ d ih=>
  refine loop_in (hs j (by omega)) (ih (j:=j+1) ?_ ?_ ?_)
  ·intro k hk;exact hs k (by omega)
  ·have e:j+1+d=j+(d+1):=by omega
   rw[e];exact ho
  ·omega
theorem loop_inv{step:σ→M (σ⊕ρ)}(I:σ→Prop)(mu:σ→Nat)(Q:ρ→Prop)(h:∀s,I s→∃x,(step s).to x∧(∀s',x= .inl s'→I s'∧mu s' < mu s)∧∀r,x= .inr r→Q r):∀s,I s→∃r,(loop step s).to r∧Q r:=by
 intro s;generalize hn:mu s=n;induction n using Nat.strongRecOn generalizing s with
 |_ n ih=>
  intro hs;obtain⟨x,h1,h2,h3⟩:=h s hs;cases x with
  |inr r=>exact⟨r,loop_out h1,h3 r rfl⟩
  |inl s'=>
   obtain⟨k1,k2⟩:=h2 s' rfl;obtain⟨r,h4,h5⟩:=ih (mu s') (by omega) s' rfl k1;exact⟨r,loop_in h1 h4,h5⟩
end M
abbrev AM:=@M.to_chk
abbrev Am:=@M.to_ok
abbrev An:=@M.ok_to
abbrev AA:=@M.chk_to
abbrev AF:=@M.bnd_to
abbrev AX:=@M.to_bnd
abbrev BT:=@M.t_to
abbrev Bc:=@M.f_to
abbrev BN:=@M.to_t
abbrev BO:=@M.to_f
abbrev G9:=@M.whn_t
abbrev Qn:=@M.to_loop
abbrev Or:=@M.loop_for
abbrev L4:=@M.to_els
end Mu
end
section
namespace Mu
open Go Go.RowKit Go.ChangeShapes Go.WideShapes
def JR(w:World)(b o:Nat)(cs:List Value):Prop:=∀j u,cs[j]? =some u→w.cell? ⟨b,o+j,none⟩=some u
theorem JR.keep{w w':World}{b o:Nat}{cs:List Value}(h:JR w b o cs)(hb:w'.heap[b]? =w.heap[b]?):JR w' b o cs:=
 fun j u hu=>(World.cell?_of_block (w:=w) (a:=⟨b,o+j,none⟩) hb).trans (h j u hu)
structure Ty(α:Type) where
 size:Nat
 bulk:α→Nat
 RS:World→(Nat→Prop)→List Value→α→Prop
 len:∀{w S cs d},RS w S cs d→cs.length=size
 keepS:∀{w w':World} {S S':Nat→Prop} {cs d},RS w S cs d→(∀k,S k→w'.heap[k]? =w.heap[k]?)→(∀k,S k→S' k)→RS w' S' cs d
variable{α β:Type}
def Ty.R(T:Ty α)(w:World)(B:Nat)(cs:List Value)(d:α):Prop:=T.RS w (fun k=>k < B) cs d
theorem Ty.keep{T:Ty α}{w w':World}{B B':Nat}{cs d}(h:T.R w B cs d)(hb:∀k,k < B→w'.heap[k]? =w.heap[k]?)(hB:B≤B'):T.R w' B' cs d:=
 T.keepS h hb (fun _ hk=>Nat.lt_of_lt_of_le hk hB)
theorem Ty.below{T:Ty α}{w w':World}{B:Nat}{cs d}(h:T.R w B cs d)(hb:Below B w w')(hB:B≤w'.heap.size):T.R w' w'.heap.size cs d:=
 T.keep h hb.block hB
def Ty.AtS(T:Ty α)(w:World)(S:Nat→Prop)(b o:Nat)(d:α):Prop:=S b∧∃cs,T.RS w S cs d∧JR w b o cs
def Ty.At(T:Ty α)(w:World)(B b o:Nat)(d:α):Prop:=T.AtS w (fun k=>k < B) b o d
theorem Ty.AtS.keep{T:Ty α}{w w':World}{S S':Nat→Prop}{b o:Nat}{d:α}(h:T.AtS w S b o d)(hb:∀k,S k→w'.heap[k]? =w.heap[k]?)(hS:∀k,S k→S' k):T.AtS w' S' b o d:=
 let ⟨h1,cs,h2,h3⟩:=h
 ⟨hS b h1,cs,T.keepS h2 hb hS,h3.keep (hb b h1)⟩
def Ty.int(k:IntKind):Ty Int where
 size:=1
 bulk:=fun _=>1
 RS:=fun _ _ cs d=>cs= [.int k d]∧(Lit.int k d).wf=true
 len:=by rintro _ _ _ _ ⟨rfl,_⟩;rfl
 keepS:=fun h _ _=>h
def Ty.bool:Ty Bool where
 size:=1
 bulk:=fun _=>1
 RS:=fun _ _ cs d=>cs= [.bool d]
 len:=by rintro _ _ _ _ rfl;rfl
 keepS:=fun h _ _=>h
def Qq:Ty ByteArray where
 size:=1
 bulk:=fun s=>s.size+1
 RS:=fun _ _ cs d=>cs= [.string d]∧d.size≤maxLen
 len:=by rintro _ _ _ _ ⟨rfl,_⟩;rfl
 keepS:=fun h _ _=>h
def CK(f:α→Nat):List α→Nat
 | []=>0
 |x::l=>f x+CK f l
theorem Qj(f:α→Nat)(l m:List α):CK f (l++m)=CK f l+CK f m:=by
 induction l with
 |nil=>simp[CK]
 |cons x l ih=>simp only[List.cons_append,CK,ih];omega
theorem LX{f:α→Nat}{l:List α}{x:α}(h:x∈l):f x≤CK f l:=by
 induction l with
 |nil=>cases h
 |cons y l ih=>
  unfold CK;cases h with
  |head=>omega
  |tail _ h=>have:=ih h;omega
theorem Ci{f:α→Nat}(hf:∀x,1≤f x)(l:List α):l.length≤CK f l:=by
 induction l with
 |nil=>simp[CK]
 |cons y l ih=>unfold CK;have:=hf y;simp only[List.length_cons];omega
def Ty.slice(T:Ty α):Ty (List α) where
 size:=1
 bulk:=fun ds=>CK T.bulk ds+1
 RS:=fun w S cs ds=>∃A c,cs= [.slice A ds.length c]∧ds.length≤c∧(c≤maxLen∧(A=none→c=0))∧∀i d,ds[i]? =some d→∃b o,A=some ⟨b,o,none⟩∧T.AtS w S b (o+i * T.size) d
 len:=by rintro _ _ _ _ ⟨A,c,rfl,_⟩;rfl
 keepS:=by
  rintro w w' S S' cs ds ⟨A,c,rfl,hl,hc,hi⟩ hb hS;refine⟨A,c,rfl,hl,hc,fun i d hd=>?_⟩;obtain⟨b,o,rfl,h⟩:=hi i d hd;exact⟨b,o,rfl,h.keep hb hS⟩
theorem Ty.slice_nilS(T:Ty α)(w:World)(S:Nat→Prop):T.slice.RS w S [.slice none 0 0] []:=⟨none,0,rfl,Nat.le_refl _,⟨Nat.zero_le _,fun _=>rfl⟩,by simp⟩
theorem Ty.slice_nil(T:Ty α)(w:World)(B:Nat):T.slice.R w B [.slice none 0 0] []:=T.slice_nilS w _
def CV:Ty Unit where
 size:=0
 bulk:=fun _=>0
 RS:=fun _ _ cs _=>cs= []
 len:=by rintro _ _ _ _ rfl;rfl
 keepS:=fun h _ _=>h
def Ty.cons(T:Ty α)(U:Ty β):Ty (α×β) where
 size:=T.size+U.size
 bulk:=fun d=>T.bulk d.1+U.bulk d.2
 RS:=fun w S cs d=>∃c1 c2,cs=c1++c2∧T.RS w S c1 d.1∧U.RS w S c2 d.2
 len:=by
  rintro _ _ _ _ ⟨c1,c2,rfl,h1,h2⟩;rw[List.length_append,T.len h1,U.len h2]
 keepS:=by
  rintro w w' S S' cs d ⟨c1,c2,rfl,h1,h2⟩ hb hS;exact⟨c1,c2,rfl,T.keepS h1 hb hS,U.keepS h2 hb hS⟩
def Ty.via(U:Ty β)(f:β→α)(g:α→β):Ty α where
 size:=U.size
 bulk:=fun d=>U.bulk (g d)+1
 RS:=fun w S cs d=>U.RS w S cs (g d)∧f (g d)=d
 len:=fun h=>U.len h.1
 keepS:=fun h hb hS=>⟨U.keepS h.1 hb hS,h.2⟩
def Ez{H:Type}:DataW H→Nat
 | .lit (.string bytes)=>bytes.length+1
 | .slice elems spare=>go elems+go spare+1
 | .agg parts=>go parts+1
 |_=>1
where go:List (DataW H)→Nat
 | []=>0
 |d::r=>Ez d+go r
theorem LY{H:Type}(l m:List (DataW H)):Ez.go (l++m)=Ez.go l+Ez.go m:=by
 induction l with
 |nil=>simp[Ez.go]
 |cons x l ih=>simp only[List.cons_append,Ez.go,ih];omega
structure Opens(P:Program)(t:TypeId)(T:Ty α):Prop where
 go:∀(H:Type) (enc:TypeId×Value→H) (w:World) (base:Nat) (spare:Nat→Bool) (held:Bool) (n:Nat) (cs:List Value) (x:DataW H×List MemPlace) (B:Nat),
  DataW.trod enc P w base spare held n t cs=some x→(∀p∈x.2,p.block < B)→∃d,T.R w B cs d∧T.bulk d≤Ez x.1
theorem IG{P:Program}{t:TypeId}{k:IntKind}(ht:P.underlying t=some (.int k)):Opens P t (Ty.int k):=by
 refine⟨fun H enc=>?_⟩;intro w base spare held n cs x B h _;obtain⟨m,rfl,rfl,hw⟩:=DataW.trod_int ht h;exact⟨m,⟨rfl,hw⟩,by simp[Ty.int,Ez]⟩
theorem PD{P:Program}{t:TypeId}(ht:P.underlying t=some .string):Opens P t Qq:=by
 refine⟨fun H enc=>?_⟩;intro w base spare held n cs x B h _;obtain⟨s,rfl,rfl,hw⟩:=DataW.trod_string ht h;refine⟨s,⟨rfl,hw⟩,?_⟩;have:s.data.toList.length=s.size:=by rw[Array.length_toList];rfl
 show s.size+1≤s.data.toList.length+1;omega
theorem JI{w:World}{base n:Nat}{a:Addr}{cs:List Value}(h:w.cells? base a n=some cs)(hn:0 < n):a.spot=none∧JR w a.block a.off cs:=by
 obtain⟨hb,hl,hat⟩:=World.cells?_some h;have hs:a.spot=none:=by
  have h0:=hat 0 hn;rw[show a.add 0=a from by simp[Addr.add]]at h0;have hv:cs[0]? =some (cs[0]'(by omega)):=List.getElem?_eq_getElem (by omega);rw[hv]at h0;unfold World.cell? at h0;split at h0
  ·split at h0
   ·cases h0
   ·rename_i hsp;cases hsx:a.spot with
    |none=>rfl
    |some z=>simp[hsx]at hsp
  ·cases h0
 refine⟨hs,fun j u hu=>?_⟩;have hj:j < n:=by
  have:=(List.getElem?_eq_some_iff.1 hu).1;omega
 have:=hat j hj;rw[hu]at this;rw[←this];congr 1;obtain⟨b,o,s⟩:=a;simp only at hs;subst hs;unfold Addr.add;by_cases hz:j=0 <;> simp[hz]
theorem Eu{P:Program}{t e:TypeId}{T:Ty α}(ht:P.underlying t=some (.slice e))(hC:P.cellsOf e=T.size)(hp:0 < T.size)(he:Opens P e T):Opens P t T.slice:=by
 refine⟨fun H enc=>?_⟩;intro w base spare held n cs x B h hB;rcases DataW.trod_slice ht h with⟨rfl,rfl⟩|⟨a,len,cap,elems,rest,m,_,rfl,rfl,hb,hl,hm,hlen,hel,hsp,hns⟩
 ·exact⟨[],T.slice_nil w B,by simp[Ty.slice,CK,Ez]⟩
 ·have hone:∀i,i < len→∃d,(a.add (i * T.size)).spot=none∧T.At w B (a.add (i * T.size)).block (a.add (i * T.size)).off d∧∃y,elems[i]? =some y∧T.bulk d≤Ez y.1:=by
   intro i hi;have hi':=hel i hi;have hy:elems[i]? =some (elems[i]'(by omega)):=List.getElem?_eq_getElem (by omega);rw[hy,hC]at hi';obtain⟨cs',h1,h2⟩:=Option.bind_eq_some_iff.1 hi';obtain⟨hs,hat⟩:=JI h1 hp;obtain⟨d,hd,hbk⟩:=he.go H enc w base spare held m cs' _ B h2 (fun p hp=>hB p (by
    simp only[List.mem_append,List.mem_flatMap];exact .inr ⟨elems[i]'(by omega),.inl (List.getElem_mem _),hp⟩))
   refine⟨d,hs,⟨?_,cs',hd,hat⟩,_,hy,hbk⟩;have hblk:(a.add (i * T.size)).block=a.block:=by unfold Addr.add;split <;> rfl
   rw[hblk];refine hB (.cell a.block a.off) ?_;simp only[List.mem_append];left;rw[hC];have hpos:0 < (elems.length+rest.length) * T.size:=Nat.mul_pos (by omega) hp;exact List.mem_map.2 ⟨0,by simpa using hpos,by simp⟩
  have key:∀k,k≤len→∃ds:List α,ds.length=k∧CK T.bulk ds≤Ez.go ((elems.take k).map (·.1))∧∀i d,ds[i]? =some d→(a.add (i * T.size)).spot=none∧T.At w B (a.add (i * T.size)).block (a.add (i * T.size)).off d:=by
   intro k;induction k with
   |zero=>exact fun _=>⟨[],rfl,by simp[CK],by simp⟩
   |succ k ih=>
    intro hk;obtain⟨ds,hdl,hdb,hdi⟩:=ih (by omega);obtain⟨d,hs,hat,y,hy,hbk⟩:=hone k (by omega);refine⟨ds++[d],by simp[hdl],?_,?_⟩
    ·rw[List.take_add_one,hy,Qj];simp only[Option.toList_some,List.map_append,LY,List.map_cons,List.map_nil,CK,Ez.go];omega
    ·intro i d' hd';by_cases hi:i < k
     ·exact hdi i d' (by rwa [List.getElem?_append_left (by omega)]at hd')
     ·have hik:i=k:=by
       have:=(List.getElem?_eq_some_iff.1 hd').1;simp[hdl]at this;omega
      subst hik;rw[List.getElem?_append_right (by omega),hdl]at hd';simp at hd';subst hd';exact⟨hs,hat⟩
  obtain⟨ds,hdl,hdb,hdi⟩:=key len (Nat.le_refl _);refine⟨ds,⟨some a,cap,by rw[hdl],by omega,⟨hm,fun e=>by cases e⟩,fun i d hd=>?_⟩,?_⟩
  ·have h0:∃d0,ds[0]? =some d0:=by
    have:=(List.getElem?_eq_some_iff.1 hd).1;exact⟨ds[0]'(by omega),List.getElem?_eq_getElem (by omega)⟩
   obtain⟨d0,hd0⟩:=h0;have hs0:=(hdi 0 d0 hd0).1;obtain⟨b,o,s⟩:=a;have:s=none:=by simpa[Addr.add]using hs0
   subst this;refine⟨b,o,rfl,?_⟩;have:=(hdi i d hd).2;rwa [add_plain]at this
  ·have ht2:elems.take len=elems:=List.take_of_length_le (by omega);rw[ht2]at hdb;simp only[Ty.slice,Ez];omega
structure OpensF(P:Program)(fs:List Field)(off:Nat)(U:Ty β):Prop where
 go:∀(H:Type) (enc:TypeId×Value→H) (w:World) (base:Nat) (spare:Nat→Bool) (held:Bool) (n:Nat) (cs:List Value) (ys:List (DataW H×List MemPlace)) (B:Nat),
  cs.length=off+U.size→ys.length=fs.length→
  (∀(j:Nat) (f:Field),fs[j]? =some f→DataW.trod enc P w base spare held n f.type ((cs.drop f.offset).take (P.cellsOf f.type))=ys[j]?)→
  (∀p∈ys.flatMap (·.2),p.block < B)→∃d,U.R w B (cs.drop off) d∧U.bulk d≤Ez.go (ys.map (·.1))
theorem G1{P:Program}{off:Nat}:OpensF P [] off CV:=by
 refine⟨fun H enc=>?_⟩;intro w base spare held n cs ys B hcs hys _ _;refine⟨(),?_,Nat.zero_le _⟩;have:cs.length≤off:=by simp[CV]at hcs;omega
 exact List.drop_eq_nil_of_le this
theorem Bp{P:Program}{f:Field}{fs:List Field}{off:Nat}{T:Ty α}{U:Ty β}(ho:f.offset=off)(hC:P.cellsOf f.type=T.size)(hT:Opens P f.type T)(hU:OpensF P fs (off+T.size) U):
 OpensF P (f::fs) off (T.cons U):=by
 refine⟨fun H enc=>?_⟩;intro w base spare held n cs ys B hcs hys hf hB;match ys,hys with
 |y::ys,hys=>
  have h0:=hf 0 f rfl;rw[ho,hC]at h0;simp only[List.getElem?_cons_zero]at h0;obtain⟨d,hd,hbd⟩:=hT.go H enc w base spare held n _ y B h0 (fun p hp=>hB p (by simp;exact .inl hp));obtain⟨e,he,hbe⟩:=hU.go H enc w base spare held n cs ys B (by simp[Ty.cons]at hcs;omega) (by simpa using hys)
   (fun j g hg=>by have:=hf (j+1) g (by simpa using hg);simpa using this) (fun p hp=>hB p (by simp only[List.flatMap_cons,List.mem_append];exact .inr hp))
  refine⟨(d,e),⟨_,_,?_,hd,he⟩,?_⟩
  ·rw[←List.drop_drop];exact(List.take_append_drop T.size (cs.drop off)).symm
  ·simp only[Ty.cons,List.map_cons,Ez.go];omega
theorem EW{P:Program}{t:TypeId}{fs:List Field}{U:Ty β}{f:β→α}{g:α→β}(ht:P.underlying t=some (.struct fs.toArray))(hC:P.cellsOf t=U.size)(hU:OpensF P fs 0 U)(hgf:∀b,g (f b)=b):
 Opens P t (U.via f g):=by
 refine⟨fun H enc=>?_⟩;intro w base spare held n cs x B h hB;obtain⟨ys,m,_,rfl,hlen,hyl,hf⟩:=DataW.trod_struct ht h;obtain⟨d,hd,hbd⟩:=hU.go H enc w base spare held m cs ys B (by omega) (by simpa using hyl) (fun j g hg=>hf j g (by simpa using hg)) hB;refine⟨f d,⟨?_,by rw[hgf]⟩,?_⟩
 ·rw[hgf];rw[List.drop_zero]at hd;exact hd
 ·simp only[Ty.via,hgf,Ez];omega
end Mu
end
section
namespace Mu
open Go Go.RowKit
structure Ins where
 op:Int
 d:Int
 a:Int
 b:Int
 n:Int
 f:Int
 args:List Int
 l1:Int
 l2:Int
structure Block where
 name:ByteArray
 ins:List Ins
structure Func where
 name:ByteArray
 args:Int
 regs:Int
 blocks:List Block
structure Prog where
 heap:Int
 threads:List Int
 funcs:List Func
def tInt:Ty Int:=Ty.int .i64
def Dj:Ty Ins:=
 ((Ty.int .u8).cons (tInt.cons (tInt.cons (tInt.cons ((Ty.int .u32).cons (tInt.cons (tInt.slice.cons (tInt.cons (tInt.cons CV))))))))).via
  (fun x=>⟨x.1,x.2.1,x.2.2.1,x.2.2.2.1,x.2.2.2.2.1,x.2.2.2.2.2.1,x.2.2.2.2.2.2.1,x.2.2.2.2.2.2.2.1,x.2.2.2.2.2.2.2.2.1⟩)
  (fun i=>(i.op,i.d,i.a,i.b,i.n,i.f,i.args,i.l1,i.l2,()))
def Bs:Ty Block:=(Qq.cons (Dj.slice.cons CV)).via (fun x=>⟨x.1,x.2.1⟩) (fun b=>(b.name,b.ins,()))
def B4:Ty Func:=(Qq.cons (tInt.cons (tInt.cons (Bs.slice.cons CV)))).via (fun x=>⟨x.1,x.2.1,x.2.2.1,x.2.2.2.1⟩) (fun f=>(f.name,f.args,f.regs,f.blocks,()))
def Dl:Ty Prog:=(tInt.cons (tInt.slice.cons (B4.slice.cons CV))).via (fun x=>⟨x.1,x.2.1,x.2.2.1⟩) (fun p=>(p.heap,p.threads,p.funcs,()))
theorem VO:Dj.size=9:=rfl
theorem Q4:Bs.size=2:=rfl
theorem TQ:B4.size=4:=rfl
def wfI(k:IntKind)(n:Int):Prop:=(Lit.int k n).wf=true
theorem OP{n:Int}(h:wfI .u8 n):0≤n∧n≤255:=by simpa[wfI,Lit.wf,IntKind.min,IntKind.max,IntKind.signed,IntKind.bits]using h
theorem Acn{n:Int}(h:wfI .i64 n):-9223372036854775808≤n∧n≤9223372036854775807:=by simpa[wfI,Lit.wf,IntKind.min,IntKind.max,IntKind.signed,IntKind.bits]using h
theorem JX{w:World}{S:Nat→Prop}{cs:List Value}{d:Int}:tInt.RS w S cs d↔cs= [.int .i64 d]∧wfI .i64 d:=Iff.rfl
structure InsCells(w:World)(S:Nat→Prop)(cs:List Value)(x:Ins)(A:Option Addr)(c:Nat):Prop where
 cs:cs= [.int .u8 x.op,.int .i64 x.d,.int .i64 x.a,.int .i64 x.b,.int .u32 x.n,.int .i64 x.f,.slice A x.args.length c,.int .i64 x.l1,.int .i64 x.l2]
 op:wfI .u8 x.op
 d:wfI .i64 x.d
 a:wfI .i64 x.a
 b:wfI .i64 x.b
 n:wfI .u32 x.n
 f:wfI .i64 x.f
 l1:wfI .i64 x.l1
 l2:wfI .i64 x.l2
 args:tInt.slice.RS w S [.slice A x.args.length c] x.args
theorem It{w:World}{S:Nat→Prop}{cs:List Value}{x:Ins}:Dj.RS w S cs x↔∃A c,InsCells w S cs x A c:=by
 constructor
 ·rintro⟨⟨_,_,rfl,⟨rfl,h0⟩,_,_,rfl,⟨rfl,h1⟩,_,_,rfl,⟨rfl,h2⟩,_,_,rfl,⟨rfl,h3⟩,_,_,rfl,⟨rfl,h4⟩,_,_,rfl,⟨rfl,h5⟩,_,_,rfl,hs,_,_,rfl,⟨rfl,h7⟩,_,_,rfl,⟨rfl,h8⟩,rfl⟩,_⟩;have hs':=hs;obtain⟨A,c,rfl,_⟩:=hs;exact⟨A,c,rfl,h0,h1,h2,h3,h4,h5,h7,h8,hs'⟩
 ·rintro⟨A,c,h⟩;obtain⟨rfl,h0,h1,h2,h3,h4,h5,h7,h8,hs⟩:=h;exact⟨⟨[_],_,rfl,⟨rfl,h0⟩,[_],_,rfl,⟨rfl,h1⟩,[_],_,rfl,⟨rfl,h2⟩,[_],_,rfl,⟨rfl,h3⟩,[_],_,rfl,⟨rfl,h4⟩,[_],_,rfl,⟨rfl,h5⟩,[_],_,rfl,hs,[_],_,rfl,⟨rfl,h7⟩,[_],_,rfl,⟨rfl,h8⟩,rfl⟩,rfl⟩
theorem Ky{w:World}{S:Nat→Prop}{cs:List Value}{x:Block}:Bs.RS w S cs x↔∃A c,cs= [.string x.name,.slice A x.ins.length c]∧x.name.size≤maxLen∧Dj.slice.RS w S [.slice A x.ins.length c] x.ins:=by
 constructor
 ·rintro⟨⟨_,_,rfl,⟨rfl,h0⟩,_,_,rfl,hs,rfl⟩,_⟩;have hs':=hs;obtain⟨A,c,rfl,_⟩:=hs;exact⟨A,c,rfl,h0,hs'⟩
 ·rintro⟨A,c,rfl,h0,hs⟩;exact⟨⟨[_],_,rfl,⟨rfl,h0⟩,[_],_,rfl,hs,rfl⟩,rfl⟩
theorem NJ{w:World}{S:Nat→Prop}{cs:List Value}{x:Func}:B4.RS w S cs x↔∃A c,cs= [.string x.name,.int .i64 x.args,.int .i64 x.regs,.slice A x.blocks.length c]∧x.name.size≤maxLen∧wfI .i64 x.args∧wfI .i64 x.regs∧Bs.slice.RS w S [.slice A x.blocks.length c] x.blocks:=by
 constructor
 ·rintro⟨⟨_,_,rfl,⟨rfl,h0⟩,_,_,rfl,⟨rfl,h1⟩,_,_,rfl,⟨rfl,h2⟩,_,_,rfl,hs,rfl⟩,_⟩;have hs':=hs;obtain⟨A,c,rfl,_⟩:=hs;exact⟨A,c,rfl,h0,h1,h2,hs'⟩
 ·rintro⟨A,c,rfl,h0,h1,h2,hs⟩;exact⟨⟨[_],_,rfl,⟨rfl,h0⟩,[_],_,rfl,⟨rfl,h1⟩,[_],_,rfl,⟨rfl,h2⟩,[_],_,rfl,hs,rfl⟩,rfl⟩
theorem KV{w:World}{S:Nat→Prop}{cs:List Value}{x:Prog}:Dl.RS w S cs x↔∃A c A' c',cs= [.int .i64 x.heap,.slice A' x.threads.length c',.slice A x.funcs.length c]∧wfI .i64 x.heap∧tInt.slice.RS w S [.slice A' x.threads.length c'] x.threads∧B4.slice.RS w S [.slice A x.funcs.length c] x.funcs:=by
 constructor
 ·rintro⟨⟨_,_,rfl,⟨rfl,h0⟩,_,_,rfl,ht,_,_,rfl,hs,rfl⟩,_⟩;have hs':=hs;have ht':=ht;obtain⟨A,c,rfl,_⟩:=hs;obtain⟨A',c',rfl,_⟩:=ht;exact⟨A,c,A',c',rfl,h0,ht',hs'⟩
 ·rintro⟨A,c,A',c',rfl,h0,ht,hs⟩;exact⟨⟨[_],_,rfl,⟨rfl,h0⟩,[_],_,rfl,ht,[_],_,rfl,hs,rfl⟩,rfl⟩
open Go.Proofs
theorem CC:Opens Tryz.prog 3 tInt:=IG Tryz.underlying3
theorem MX:Opens Tryz.prog 22 tInt.slice:=Eu Tryz.underlying22 (by kernel_rfl) (by decide) CC
theorem Ue:Opens Tryz.prog 40 Dj:=
 EW Tryz.underlying40 (by kernel_rfl)
  (Bp rfl (by kernel_rfl) (IG Tryz.underlying5) (Bp rfl (by kernel_rfl) CC (Bp rfl (by kernel_rfl) CC (Bp rfl (by kernel_rfl) CC
   (Bp rfl (by kernel_rfl) (IG Tryz.underlying38) (Bp rfl (by kernel_rfl) CC (Bp rfl (by kernel_rfl) MX (Bp rfl (by kernel_rfl) CC
    (Bp rfl (by kernel_rfl) CC G1))))))))) (fun _=>rfl)
theorem PC:Opens Tryz.prog 48 Bs:=
 EW Tryz.underlying48 (by kernel_rfl)
  (Bp rfl (by kernel_rfl) (PD Tryz.underlying9) (Bp rfl (by kernel_rfl) (Eu Tryz.underlying46 (by kernel_rfl) (by decide) Ue) G1)) (fun _=>rfl)
theorem Ry:Opens Tryz.prog 45 B4:=
 EW Tryz.underlying45 (by kernel_rfl)
  (Bp rfl (by kernel_rfl) (PD Tryz.underlying9) (Bp rfl (by kernel_rfl) CC (Bp rfl (by kernel_rfl) CC
   (Bp rfl (by kernel_rfl) (Eu Tryz.underlying43 (by kernel_rfl) (by decide) PC) G1)))) (fun _=>rfl)
theorem Rx:Opens Tryz.prog 25 Dl:=
 EW Tryz.underlying25 (by kernel_rfl)
  (Bp rfl (by kernel_rfl) CC (Bp rfl (by kernel_rfl) MX (Bp rfl (by kernel_rfl) (Eu Tryz.underlying23 (by kernel_rfl) (by decide) Ry) G1))) (fun _=>rfl)
theorem GV{α:Type}{T:Ty α}{w:World}{S:Nat→Prop}{n c k:Nat}{A:Option Addr}{ds:List α}{x:α}(h:T.slice.RS w S [.slice A n c] ds)(hk:ds[k]? =some x):
 ∃b o,A=some ⟨b,o,none⟩∧T.AtS w S b (o+k * T.size) x:=by
 obtain⟨A',c',e,_,_,hi⟩:=h;simp only[List.cons.injEq,Value.slice.injEq,and_true]at e;obtain⟨rfl,_,_⟩:=e;exact hi k x hk
theorem O6{α:Type}{T:Ty α}{w:World}{S:Nat→Prop}{n c:Nat}{A:Option Addr}{ds:List α}(h:T.slice.RS w S [.slice A n c] ds):n=ds.length∧n≤c∧c≤maxLen:=by
 obtain⟨A',c',e,h1,h2,_⟩:=h;simp only[List.cons.injEq,Value.slice.injEq,and_true]at e;obtain⟨_,rfl,rfl⟩:=e;exact⟨rfl,h1,h2.1⟩
theorem BB{α:Type}{T:Ty α}{w:World}{S:Nat→Prop}{v:Value}{ds:List α}(h:T.slice.RS w S [v] ds):∃A c,v= .slice A ds.length c:=by
 obtain⟨A',c',e,h1,h2,_⟩:=h;simp only[List.cons.injEq,and_true]at e;exact⟨A',c',e⟩
theorem ER{α:Type}{T:Ty α}{w:World}{S:Nat→Prop}{n c:Nat}{ds:List α}(h:T.slice.RS w S [.slice none n c] ds):ds= []∧n=0∧c=0:=by
 obtain⟨A',c',e,h1,h2,_⟩:=h;simp only[List.cons.injEq,Value.slice.injEq,and_true]at e;obtain⟨rfl,rfl,rfl⟩:=e;have:=h2.2 rfl;exact⟨List.eq_nil_of_length_eq_zero (by omega),by omega,this⟩
theorem I1{w:World}{b o:Nat}{v:Value}{l:List Value}(h:JR w b o (v::l)):w.cell? ⟨b,o,none⟩=some v:=h 0 v rfl
theorem Cy{w:World}{b o:Nat}{cs:List Value}(h:JR w b o cs)(j:Nat){v:Value}(hv:cs[j]? =some v):w.cell? ⟨b,o+j,none⟩=some v:=h j v hv
theorem PV{w:World}{S:Nat→Prop}{n c k:Nat}{A:Option Addr}{ds:List Int}{x:Int}{kd:IntKind}(h:(Ty.int kd).slice.RS w S [.slice A n c] ds)(hk:ds[k]? =some x):
 ∃b o,A=some ⟨b,o,none⟩∧S b∧w.cell? ⟨b,o+k,none⟩=some (.int kd x)∧wfI kd x:=by
 obtain⟨b,o,rfl,hb,cs,⟨rfl,hw⟩,hc⟩:=GV h hk;refine⟨b,o,rfl,hb,?_,hw⟩;have:=I1 hc;rwa [show(Ty.int kd).size=1 from rfl,Nat.mul_one]at this
structure InsAt(w:World)(S:Nat→Prop)(b o:Nat)(x:Ins)(A:Option Addr)(c:Nat):Prop where
 c0:w.cell? ⟨b,o,none⟩=some (.int .u8 x.op)
 c1:w.cell? ⟨b,o+1,none⟩=some (.int .i64 x.d)
 c2:w.cell? ⟨b,o+2,none⟩=some (.int .i64 x.a)
 c3:w.cell? ⟨b,o+3,none⟩=some (.int .i64 x.b)
 c4:w.cell? ⟨b,o+4,none⟩=some (.int .u32 x.n)
 c5:w.cell? ⟨b,o+5,none⟩=some (.int .i64 x.f)
 c6:w.cell? ⟨b,o+6,none⟩=some (.slice A x.args.length c)
 c7:w.cell? ⟨b,o+7,none⟩=some (.int .i64 x.l1)
 c8:w.cell? ⟨b,o+8,none⟩=some (.int .i64 x.l2)
 raw:InsCells w S [.int .u8 x.op,.int .i64 x.d,.int .i64 x.a,.int .i64 x.b,.int .u32 x.n,.int .i64 x.f,.slice A x.args.length c,.int .i64 x.l1,.int .i64 x.l2] x A c
theorem Abq{w:World}{S:Nat→Prop}{n c k:Nat}{A:Option Addr}{ds:List Ins}{x:Ins}(h:Dj.slice.RS w S [.slice A n c] ds)(hk:ds[k]? =some x):
 ∃b o A' c',A=some ⟨b,o,none⟩∧S b∧InsAt w S b (o+k * 9) x A' c':=by
 obtain⟨b,o,rfl,hb,cs,hR,hc⟩:=GV h hk;obtain⟨A',c',hI⟩:=It.1 hR;have e:=hI.cs;subst e;rw[VO]at hc;exact⟨b,o,A',c',rfl,hb,I1 hc,Cy hc 1 rfl,Cy hc 2 rfl,Cy hc 3 rfl,Cy hc 4 rfl,Cy hc 5 rfl,Cy hc 6 rfl,Cy hc 7 rfl,Cy hc 8 rfl,hI⟩
theorem Z7{w:World}{S:Nat→Prop}{n c k:Nat}{A:Option Addr}{ds:List Block}{x:Block}(h:Bs.slice.RS w S [.slice A n c] ds)(hk:ds[k]? =some x):
 ∃b o A' c',A=some ⟨b,o,none⟩∧S b∧w.cell? ⟨b,o+k * 2,none⟩=some (.string x.name)∧w.cell? ⟨b,o+k * 2+1,none⟩=some (.slice A' x.ins.length c')∧x.name.size≤maxLen∧
  Dj.slice.RS w S [.slice A' x.ins.length c'] x.ins:=by
 obtain⟨b,o,rfl,hb,cs,hR,hc⟩:=GV h hk;obtain⟨A',c',rfl,h1,h2⟩:=Ky.1 hR;rw[Q4]at hc;exact⟨b,o,A',c',rfl,hb,I1 hc,Cy hc 1 rfl,h1,h2⟩
theorem Afw{w:World}{S:Nat→Prop}{n c k:Nat}{A:Option Addr}{ds:List Func}{x:Func}(h:B4.slice.RS w S [.slice A n c] ds)(hk:ds[k]? =some x):
 ∃b o A' c',A=some ⟨b,o,none⟩∧S b∧w.cell? ⟨b,o+k * 4,none⟩=some (.string x.name)∧w.cell? ⟨b,o+k * 4+1,none⟩=some (.int .i64 x.args)∧w.cell? ⟨b,o+k * 4+2,none⟩=some (.int .i64 x.regs)∧
  w.cell? ⟨b,o+k * 4+3,none⟩=some (.slice A' x.blocks.length c')∧x.name.size≤maxLen∧wfI .i64 x.args∧wfI .i64 x.regs∧Bs.slice.RS w S [.slice A' x.blocks.length c'] x.blocks:=by
 obtain⟨b,o,rfl,hb,cs,hR,hc⟩:=GV h hk;obtain⟨A',c',rfl,h1,h2,h3,h4⟩:=NJ.1 hR;rw[TQ]at hc;exact⟨b,o,A',c',rfl,hb,I1 hc,Cy hc 1 rfl,Cy hc 2 rfl,Cy hc 3 rfl,h1,h2,h3,h4⟩
theorem Ch{α:Type}{T:Ty α}{w:World}{base:Nat}{e:TypeId}{v:Value}{cells:List Value}{ds:List α}{S:Nat→Prop}(h:w.ownsRow base e T.size v ds.length cells)
 (hc:∀i d,ds[i]? =some d→T.RS w S ((cells.drop (i * T.size)).take T.size) d) (hS:∀g,v.ownBlock=some g→S g):T.slice.RS w S [v] ds:=by
 rcases h.2 with⟨rfl,hn⟩|⟨g,cap,cur,rfl,hg,hh,h1,h2,h3,h4⟩
 ·have:ds= []:=List.eq_nil_of_length_eq_zero hn;subst this;exact Ty.slice_nilS _ _ _
 ·refine⟨some ⟨g,0,none⟩,cap,rfl,h1,⟨h2,fun e=>by cases e⟩,fun i d hd=>⟨g,0,rfl,hS g rfl,_,hc i d hd,?_⟩⟩;intro j u hu;have hj:j < T.size:=by
   have:=(List.getElem?_eq_some_iff.1 hu).1;rw[List.length_take]at this;omega
  rw[List.getElem?_take_of_lt hj,List.getElem?_drop]at hu;have hcell:=h.cells (g:=g) rfl (i * T.size+j) u hu;have e1:(⟨g,0,none⟩:Addr).add (i * T.size+j)=⟨g,0+i * T.size+j,none⟩:=by
   unfold Addr.add;by_cases hz:i * T.size+j=0
   ·rw[if_pos hz,show 0+i * T.size+j=0 from by omega]
   ·rw[if_neg hz,show 0+i * T.size+j=0+(i * T.size+j)from by omega]
  rw[e1]at hcell;exact hcell
theorem Lr{w:World}{base:Nat}{e:TypeId}{v:Value}{k:IntKind}{xs:List Int}(h:w.ownsRow base e 1 v xs.length (xs.map (Value.int k)))(hw:∀x∈xs,wfI k x):
 (Ty.int k).slice.RS w (fun b=>v.ownBlock=some b) [v] xs:=by
 refine Ch (T:=Ty.int k) h (fun i d hd=>?_) (fun g hg=>hg);have hi:i < xs.length:=(List.getElem?_eq_some_iff.1 hd).1;refine⟨?_,hw d (List.mem_of_getElem? hd)⟩;show((xs.map (Value.int k)).drop (i * 1)).take 1=_;rw[Nat.mul_one,List.drop_eq_getElem_cons (by simpa using hi)];have:xs[i]=d:=by
  rw[List.getElem?_eq_getElem hi]at hd;injection hd
 simp[this]
variable{P:Program}{Q:Exit→Act→World→Prop}{ops:Array Oper}{l n:Nat}
theorem Pi{row:String}{args:Array Value}{w:World}{R:Value→World→Prop}(h:Rows P row args w R):RowsIn (Fence.wide.inRound l) n P row args w R:=
 fun c cs _=>let ⟨v,w',r,s⟩:=h c cs;⟨v,w',r,stepsIn_wide.2 s⟩
theorem Nd{f:FuncId}{args:Array Value}{w:World}{R:Ending→World→Prop}(h:Calls P f args w R):CallsIn (Fence.wide.inRound l) n P f args w R:=
 CallsIn.inRound l (callsIn_wide.2 h)
theorem VE{i:Nat}{K K':Act→World→Prop}{a:Act}{w:World}(hd:∀(o:Oper),ops[i]? =some o→∀c,o.op≠.defer c)(hQ:¬LetsOut Q)(hK:∀a w,K a w→K' a w)(h:wpOp P ops Q i K a w):
 wpOpIn (Fence.wide.inRound l) n P ops Q i K' a w:=by
 unfold wpOpIn;unfold wpOp at h;cases hi:ops[i]? with
 |none=>rw[hi]at h;exact hK _ _ h
 |some o=>
  simp only[hi]at h⊢;split
  ·rename_i hw;rw[if_pos hw]at h;rcases h with h|h
   ·refine⟨fun _ _=>trivial,?_⟩;rw[Oper.semAt_eq _ _ _ (hd o hi)];unfold Oper.wp at h;generalize (execOp a.eval o).run P w=r at *;cases r with
    |ok x w'=>
     cases x <;> simp only[Oper.uponIn,Oper.upon]at h⊢
     case value=>exact hK _ _ h
     case skip=>exact hK _ _ h
     case defer=>exact hK _ _ h
     case enter=>exact⟨fun h=>(by cases h),(Nd h).mono fun e w'' he=>by cases e <;> first|exact hK _ _ he|exact he⟩
     case row=>exact⟨fun h=>(by cases h),(Pi h).mono fun _ _ he=>hK _ _ he⟩
    |halt x w'=>cases x <;> simp only[Oper.uponIn,Oper.upon]at h⊢<;> exact h
   ·exact absurd h.2 hQ
  ·rename_i hw;rw[if_neg hw]at h;exact⟨fun _ _=>trivial,hK _ _ h⟩
theorem MD{md:Region.Mode}(hd:∀(i:Nat) (o:Oper),ops[i]? =some o→∀c,o.op≠.defer c)(hQ:¬LetsOut Q):∀(fuel:Nat) (listed:Array Bool) (a:Act) (w:World),
 wpAny P md ops Q fuel listed a w→wpAnyIn (Fence.wide.inRound l) n P md ops Q fuel listed a w
 |0,_,_,_,h=>h
 |fuel+1,_,_,_,h=>⟨h.1,fun i hi=>VE (hd i) hQ (fun a w h=>MD hd hQ fuel _ a w h) (h.2 i hi)⟩
def GC(ops:Array Oper):Bool:=ops.all fun o=>match o.op with| .defer _=>false|_=>true
theorem PG(h:GC ops=true):∀(i:Nat) (o:Oper),ops[i]? =some o→∀c,o.op≠.defer c:=by
 intro i o hi c e;have:=Array.all_eq_true'.1 h o (Array.mem_of_getElem? hi);rw[e]at this;cases this
def Hs(D:Nat):Deferred:={target:=.collected D,args:=#[]}
inductive AV:Type 1
 |any
 |lit (v:Value)
 |bs {α:Type} (T:Ty α) (l:List α)
 |tv {α:Type} (T:Ty α) (d:α)
 |own (i ver:Nat)
 |ptr (i off:Nat)
 |rp (i ver k off:Nat)
 |bp {α:Type} (T:Ty α) (d:α) (off:Nat)
 |agg (l:List AV)
 |tup (l:List AV)
 |fn (f:FuncId) (l:List AV)
structure Res where
 mrk:List Nat
 F:Nat→Prop
 R:World→(Nat→Prop)→Prop
 keep:∀{w w':World} {S S':Nat→Prop},R w S→(∀k,F k→w'.heap[k]? =w.heap[k]?)→(∀k,S k→w'.heap[k]? =w.heap[k]?)→(∀k,S k→S' k)→R w' S'
inductive ABlk:Type 1
 |dead
 |box (cells:List AV)
 |row (ver:Nat) (e:TypeId) {α:Type} (T:Ty α) (l:List α)
 |res (R:Res)
def ABlk.mrk:ABlk→List Deferred
 | .res R=>R.mrk.map Hs
 |_=>[]
def mkD:List ABlk→List Deferred
 | []=>[]
 |b::h=>mkD h++b.mrk
theorem F5(h:List ABlk)(b:ABlk):mkD (h++[b])=b.mrk++mkD h:=by
 induction h with
 |nil=>simp[mkD]
 |cons c h ih=>simp[mkD,ih]
theorem Do{h:List ABlk}{i:Nat}{b b':ABlk}(hi:h[i]? =some b)(e:b'.mrk=b.mrk):mkD (h.set i b')=mkD h:=by
 induction h generalizing i with
 |nil=>simp at hi
 |cons c h ih=>
  cases i with
  |zero=>
   simp at hi;subst hi;simp[mkD,e]
  |succ i=>
   simp only[List.set_cons_succ,mkD];rw[ih (by simpa using hi)]
def ABlk.ver:Option ABlk→Option Nat
 |some (.row ver _ _ _)=>some ver
 |_=>none
def EI:Option ABlk→Nat
 |some (.row _ _ T _)=>T.size
 |_=>0
def AN:Option ABlk→Bool
 |some (.box _)=>true
 |_=>false
def ABlk.live:Option ABlk→Bool
 |some (.box _)=>true
 |some (.row _ _ _ _)=>true
 |some (.res _)=>true
 |_=>false
def BX:Value→Option Nat
 | .pointer (some a)=>some a.block
 | .slice (some a) _ _=>some a.block
 |_=>none
def ftp:Option ABlk→Value→Nat→Prop
 |some (.res R),_,g=>R.F g
 |_,v,g=>BX v=some g
mutual
def AV.rel(w:World)(S:Nat→Prop)(h:List ABlk)(ψ:Nat→Value):AV→Value→Prop
 | .any,_=>True
 | .lit u,v=>v=u
 | .bs T l,v=>T.slice.RS w S [v] l
 | .tv T d,v=>T.RS w S [v] d
 | .own i ver,v=>i < h.length∧∀c,ABlk.ver h[i]? =some c→ver≤c∧(ver=c→v=ψ i)
 | .ptr i off,v=>i < h.length∧(AN h[i]? =true→∃g,ψ i= .pointer (some ⟨g,0,none⟩)∧v= .pointer (some ⟨g,off,none⟩))
 | .rp i ver k off,v=>i < h.length∧∀c,ABlk.ver h[i]? =some c→ver≤c∧(ver=c→∃g n c,ψ i= .slice (some ⟨g,0,none⟩) n c∧v= .pointer (some ⟨g,k * EI h[i]?+off,none⟩))
 | .bp T d off,v=>∃b o,v= .pointer (some ⟨b,o+off,none⟩)∧T.AtS w S b o d
 | .agg l,v=>∃cs:List Value,v= .agg cs.toArray∧Ad w S h ψ l cs
 | .tup l,v=>∃cs:List Value,v= .tuple cs.toArray∧Ad w S h ψ l cs
 | .fn f l,v=>∃cs:List Value,v= .func (.func f) #[] cs.toArray∧Ad w S h ψ l cs
def Ad(w:World)(S:Nat→Prop)(h:List ABlk)(ψ:Nat→Value):List AV→List Value→Prop
 | [],cs=>cs= []
 |x::l,cs=>∃v vs,cs=v::vs∧AV.rel w S h ψ x v∧Ad w S h ψ l vs
end
structure Ext(w:World)(S:Nat→Prop)(h:List ABlk)(ψ:Nat→Value)(w':World)(S':Nat→Prop)(h':List ABlk)(ψ':Nat→Value):Prop where
 blk:∀k,S k→w'.heap[k]? =w.heap[k]?
 sub:∀k,S k→S' k
 len:h.length≤h'.length
 ver:∀i c',i < h.length→ABlk.ver h'[i]? =some c'→∃c,ABlk.ver h[i]? =some c∧c≤c'∧(c=c'→ψ' i=ψ i∧EI h'[i]? =EI h[i]?)
 box:∀i,i < h.length→AN h'[i]? =true→AN h[i]? =true∧ψ' i=ψ i
section
variable{w:World}{S:Nat→Prop}{h:List ABlk}{ψ:Nat→Value}{w':World}{S':Nat→Prop}{h':List ABlk}{ψ':Nat→Value}
mutual
theorem Dh(X:Ext w S h ψ w' S' h' ψ'):∀(x:AV) (v:Value),AV.rel w S h ψ x v→AV.rel w' S' h' ψ' x v
 | .any,_,_=>by unfold AV.rel;trivial
 | .lit u,v,H=>by unfold AV.rel at H⊢;exact H
 | .bs T l,v,H=>by unfold AV.rel at H⊢;exact T.slice.keepS H X.blk X.sub
 | .tv T d,v,H=>by unfold AV.rel at H⊢;exact T.keepS H X.blk X.sub
 | .own i ver,v,H=>by
  unfold AV.rel at H⊢;refine⟨Nat.lt_of_lt_of_le H.1 X.len,fun c' hv=>?_⟩;obtain⟨c,h1,h2,h3⟩:=X.ver i c' H.1 hv;obtain⟨k1,k2⟩:=H.2 c h1;refine⟨Nat.le_trans k1 h2,fun e=>?_⟩;have e1:c=c':=by omega
  rw[(h3 e1).1];exact k2 (by omega)
 | .ptr i off,v,H=>by
  unfold AV.rel at H⊢;refine⟨Nat.lt_of_lt_of_le H.1 X.len,fun hv=>?_⟩;obtain⟨h1,h2⟩:=X.box i H.1 hv;rw[h2];exact H.2 h1
 | .rp i ver k off,v,H=>by
  unfold AV.rel at H⊢;refine⟨Nat.lt_of_lt_of_le H.1 X.len,fun c' hv=>?_⟩;obtain⟨c,h1,h2,h3⟩:=X.ver i c' H.1 hv;obtain⟨k1,k2⟩:=H.2 c h1;refine⟨Nat.le_trans k1 h2,fun e=>?_⟩;have e1:c=c':=by omega
  rw[(h3 e1).1,(h3 e1).2];exact k2 (by omega)
 | .bp T d off,v,H=>by
  unfold AV.rel at H⊢;obtain⟨b,o,e,hat⟩:=H;exact⟨b,o,e,hat.keep X.blk X.sub⟩
 | .agg l,v,H=>by
  unfold AV.rel at H⊢;obtain⟨cs,e,hl⟩:=H;exact⟨cs,e,Al X l cs hl⟩
 | .tup l,v,H=>by
  unfold AV.rel at H⊢;obtain⟨cs,e,hl⟩:=H;exact⟨cs,e,Al X l cs hl⟩
 | .fn f l,v,H=>by
  unfold AV.rel at H⊢;obtain⟨cs,e,hl⟩:=H;exact⟨cs,e,Al X l cs hl⟩
theorem Al(X:Ext w S h ψ w' S' h' ψ'):∀(l:List AV) (cs:List Value),Ad w S h ψ l cs→Ad w' S' h' ψ' l cs
 | [],cs,H=>by unfold Ad at H⊢;exact H
 |x::l,cs,H=>by
  unfold Ad at H⊢;obtain⟨v,vs,e,h1,h2⟩:=H;exact⟨v,vs,e,Dh X x v h1,Al X l vs h2⟩
end
theorem AW:∀{l:List AV} {cs:List Value},Ad w S h ψ l cs→cs.length=l.length
 | [],cs,H=>by unfold Ad at H;subst H;rfl
 |x::l,cs,H=>by
  unfold Ad at H;obtain⟨v,vs,rfl,_,h2⟩:=H;simp[AW h2]
theorem Bl:∀{l:List AV} {cs:List Value},Ad w S h ψ l cs→∀{i:Nat} {x:AV},l[i]? =some x→∃v,cs[i]? =some v∧AV.rel w S h ψ x v
 | [],cs,_,i,x,hx=>by simp at hx
 |y::l,cs,H,i,x,hx=>by
  unfold Ad at H;obtain⟨v,vs,rfl,h1,h2⟩:=H;cases i with
  |zero=>simp at hx;subst hx;exact⟨v,by simp,h1⟩
  |succ i=>simpa using Bl h2 (i:=i) (by simpa using hx)
theorem Dm:∀{l:List AV} {cs:List Value},cs.length=l.length→(∀(i:Nat) (x:AV) (v:Value),l[i]? =some x→cs[i]? =some v→AV.rel w S h ψ x v)→Ad w S h ψ l cs
 | [],cs,hl,_=>by unfold Ad;exact List.eq_nil_of_length_eq_zero hl
 |y::l,v::vs,hl,H=>by
  unfold Ad;exact⟨v,vs,rfl,H 0 y v rfl rfl,Dm (by simpa using hl) fun i x u hx hu=>H (i+1) x u (by simpa using hx) (by simpa using hu)⟩
theorem DE{l:List AV}{cs:List Value}(H:Ad w S h ψ l cs)(i:Nat){x:AV}{v:Value}(hv:AV.rel w S h ψ x v):Ad w S h ψ (l.set i x) (cs.set i v):=by
 refine Dm (by simp[AW H]) fun j y u hy hu=>?_
 by_cases hj:i=j
 ·subst hj;have h1:i < l.length:=by
   rcases Nat.lt_or_ge i l.length with h|h
   ·exact h
   ·simp[List.getElem?_eq_none,h]at hy
  rw[List.getElem?_set_self h1]at hy;rw[List.getElem?_set_self (by rw[AW H];exact h1)]at hu;cases hy;cases hu;exact hv
 ·rw[List.getElem?_set_ne hj]at hy hu;obtain⟨u',h1,h2⟩:=Bl H hy;rw[h1]at hu;cases hu;exact h2
theorem BK{l m:List AV}{cs ds:List Value}(H:Ad w S h ψ l cs)(G:Ad w S h ψ m ds):Ad w S h ψ (l++m) (cs++ds):=by
 refine Dm (by simp[AW H,AW G]) fun j y u hy hu=>?_
 by_cases hj:j < l.length
 ·rw[List.getElem?_append_left hj]at hy;rw[List.getElem?_append_left (by rw[AW H];exact hj)]at hu;obtain⟨u',h1,h2⟩:=Bl H hy;rw[h1]at hu;cases hu;exact h2
 ·rw[List.getElem?_append_right (by omega)]at hy;rw[List.getElem?_append_right (by rw[AW H];omega),AW H]at hu;obtain⟨u',h1,h2⟩:=Bl G hy;rw[h1]at hu;cases hu;exact h2
theorem Ix{l:List AV}{cs:List Value}(H:Ad w S h ψ l cs)(n:Nat):Ad w S h ψ (l.drop n) (cs.drop n):=by
 refine Dm (by simp[AW H]) fun j y u hy hu=>?_
 rw[List.getElem?_drop]at hy hu;obtain⟨u',h1,h2⟩:=Bl H hy;rw[h1]at hu;cases hu;exact h2
theorem Iw{l:List AV}{cs:List Value}(H:Ad w S h ψ l cs)(n:Nat):Ad w S h ψ (l.take n) (cs.take n):=by
 refine Dm (by simp[AW H]) fun j y u hy hu=>?_
 rw[List.getElem?_take]at hy hu;split at hy
 ·rename_i hj;rw[if_pos hj]at hu;obtain⟨u',h1,h2⟩:=Bl H hy;rw[h1]at hu;cases hu;exact h2
 ·cases hy
end
def Ho(N:Nat→Prop)(w:World)(S:Nat→Prop)(h:List ABlk)(ψ:Nat→Value)(v:Value):ABlk→Prop
 | .dead=>True
 | .box cells=>∃g cs e,v= .pointer (some ⟨g,0,none⟩)∧¬N g∧¬S g∧w.heap[g]? =some (.cells (List.toArray cs) e (0,0))∧Ad w S h ψ cells cs
 | .row _ e T l=>∃cells,w.ownsRow 0 e T.size v l.length cells∧0 < T.size∧(∀i d,l[i]? =some d→T.RS w S ((cells.drop (i * T.size)).take T.size) d)∧∀g,v.ownBlock=some g→¬N g∧¬S g
 | .res R=>(∀g,R.F g→¬N g∧¬S g∧g < w.heap.size)∧R.R w S
structure Ctx where
 w0:World
 S0:Nat→Prop
 N:Nat→Prop
 rd:Option Nat
def Ctx.std(C:Ctx):Prop:=∀k,k < C.w0.heap.size→C.N k
structure Kp(N:Nat→Prop)(w w':World):Prop where
 os:w'.os=w.os
 tape:w'.tape=w.tape
 output:w'.output=w.output
 size:w.heap.size≤w'.heap.size
 block:∀k,N k→w'.heap[k]? =w.heap[k]?
theorem Kp.refl(N:Nat→Prop)(w:World):Kp N w w:=⟨rfl,rfl,rfl,Nat.le_refl _,fun _ _=>rfl⟩
theorem Kp.trans{N:Nat→Prop}{a b c:World}(h:Kp N a b)(k:Kp N b c):Kp N a c:=
 ⟨k.os.trans h.os,k.tape.trans h.tape,k.output.trans h.output,Nat.le_trans h.size k.size,fun i hi=>(k.block i hi).trans (h.block i hi)⟩
theorem Mk{N:Nat→Prop}{B:Nat}{a b:World}(h:Below B a b)(hN:∀k,N k→k < B):Kp N a b:=⟨h.os,h.tape,h.output,h.size,fun k hk=>h.block k (hN k hk)⟩
theorem Kp.below{N:Nat→Prop}{B:Nat}{a b:World}(h:Kp N a b)(hN:∀k,k < B→N k):Below B a b:=⟨h.os,h.tape,h.output,h.size,fun k hk=>h.block k (hN k hk)⟩
structure HRel(C:Ctx)(h:List ABlk)(S:Nat→Prop)(ψ:Nat→Value)(w:World):Prop where
 bel:Kp C.N C.w0 w
 nlt:∀k,C.N k→k < C.w0.heap.size
 lt:∀k,S k→k < w.heap.size
 sub:∀k,C.S0 k→S k
 new:∀k,S k→C.S0 k∨C.w0.heap.size≤k
 blk:∀i b,h[i]? =some b→Ho C.N w S h ψ (ψ i) b
 dis:∀i j,i≠j→ABlk.live h[i]? =true→ABlk.live h[j]? =true→∀g,ftp h[i]? (ψ i) g→¬ftp h[j]? (ψ j) g
theorem AR{v:Value}{g:Nat}(h:v.ownBlock=some g):BX v=some g:=by
 cases v <;> simp[Value.ownBlock,BX]at h⊢
 rename_i a _ _;cases a <;> simp[Value.ownBlock,BX]at h⊢
 exact h
theorem J2{w w':World}{base:Nat}{e:TypeId}{size:Nat}{v:Value}{n:Nat}{xs:List Value}(h:w.ownsRow base e size v n xs)(hb:∀g,BX v=some g→w'.heap[g]? =w.heap[g]?):w'.ownsRow base e size v n xs:=by
 obtain⟨h1,h2⟩:=h;refine⟨h1,?_⟩;rcases h2 with h2|⟨g,cap,cur,rfl,hg,hh,r⟩
 ·exact .inl h2
 ·exact .inr ⟨g,cap,cur,rfl,hg,(hb g rfl).trans hh,r⟩
theorem Ho.keep{N:Nat→Prop}{w w':World}{S S':Nat→Prop}{h h':List ABlk}{ψ ψ':Nat→Value}{v:Value}{b:ABlk}(H:Ho N w S h ψ v b)(X:Ext w S h ψ w' S' h' ψ')
 (hb:∀g,ftp (some b) v g→w'.heap[g]? =w.heap[g]?∧(¬S g→¬S' g)):Ho N w' S' h' ψ' v b:=by
 cases b with
 |dead=>trivial
 |box cells=>
  obtain⟨g,cs,e,rfl,h1,h2,h3,h4⟩:=H;obtain⟨k1,k2⟩:=hb g rfl;exact⟨g,cs,e,rfl,h1,k2 h2,k1.trans h3,Al X _ _ h4⟩
 |row ver e T l=>
  obtain⟨cells,h1,h0,h2,h3⟩:=H;refine⟨cells,J2 h1 fun g hg=>(hb g hg).1,h0,fun i d hd=>T.keepS (h2 i d hd) X.blk X.sub,fun g hg=>⟨(h3 g hg).1,(hb g (AR hg)).2 (h3 g hg).2⟩⟩
 |res R=>
  obtain⟨h1,h2⟩:=H;refine⟨fun g hg=>?_,R.keep h2 (fun k hk=>(hb k hk).1) X.blk X.sub⟩;obtain⟨k1,k2,k3⟩:=h1 g hg;obtain⟨k4,k5⟩:=hb g hg;refine⟨k1,k5 k2,?_⟩;rw[Array.getElem?_eq_getElem k3]at k4;exact(Array.getElem?_eq_some_iff.1 k4).1
theorem Ho.lt{N:Nat→Prop}{w:World}{S:Nat→Prop}{h:List ABlk}{ψ:Nat→Value}{v:Value}{b:ABlk}(H:Ho N w S h ψ v b)(hl:ABlk.live (some b)=true):∀g,ftp (some b) v g→¬N g∧g < w.heap.size∧¬S g:=by
 cases b with
 |dead=>simp[ABlk.live]at hl
 |box cells=>
  obtain⟨g,cs,e,rfl,h1,h2,h3,h4⟩:=H;intro g' hg;simp[ftp,BX]at hg;subst hg;exact⟨h1,(Array.getElem?_eq_some_iff.1 h3).1,h2⟩
 |row ver e T l=>
  obtain⟨cells,h1,h0,h2,h3⟩:=H;intro g hg;have hg':v.ownBlock=some g:=by
   rcases h1.2 with⟨rfl,_⟩|⟨g',cap,cur,rfl,_⟩
   ·simp[ftp,BX]at hg
   ·simpa[ftp,BX,Value.ownBlock]using hg
  obtain⟨k1,k2⟩:=World.ownsRow.lt h1 g hg';exact⟨(h3 g hg').1,k2,(h3 g hg').2⟩
 |res R=>
  intro g hg;obtain⟨k1,k2,k3⟩:=H.1 g hg;exact⟨k1,k3,k2⟩
theorem Ext.grow{w w':World}{S S':Nat→Prop}(h:List ABlk)(ψ:Nat→Value)(hb:∀k,S k→w'.heap[k]? =w.heap[k]?)(hs:∀k,S k→S' k):Ext w S h ψ w' S' h ψ:=
 ⟨hb,hs,Nat.le_refl _,fun _ c' _ hv=>⟨c',hv,Nat.le_refl _,fun _=>⟨rfl,rfl⟩⟩,fun _ _ hv=>⟨hv,rfl⟩⟩
theorem HRel.grow{C:Ctx}{h:List ABlk}{S S':Nat→Prop}{ψ:Nat→Value}{w w':World}(H:HRel C h S ψ w)(hb:Below w.heap.size w w')(hs:∀k,S k→S' k)(hn:∀k,S' k→S k∨w.heap.size≤k)(hl:∀k,S' k→k < w'.heap.size):
 HRel C h S' ψ w':=by
 refine⟨H.bel.trans (Mk hb fun k hk=>Nat.lt_of_lt_of_le (H.nlt k hk) H.bel.size),H.nlt,hl,fun k hk=>hs k (H.sub k hk),fun k hk=>?_,fun i b hi=>?_,H.dis⟩
 ·rcases hn k hk with h1|h1
  ·exact H.new k h1
  ·exact .inr (Nat.le_trans H.bel.size h1)
 ·by_cases hlv:ABlk.live (some b)=true
  ·refine(H.blk i b hi).keep (Ext.grow h ψ (fun k hk=>hb.block k (H.lt k hk)) hs) fun g hg=>?_
   obtain⟨k1,k2,k3⟩:=(H.blk i b hi).lt hlv g hg;refine⟨hb.block g k2,fun _ hg'=>?_⟩;rcases hn g hg' with h1|h1
   ·exact k3 h1
   ·omega
  ·cases b <;> simp[ABlk.live]at hlv
   trivial
structure St where
 t:List AV
 h:List ABlk
def St.rel(C:Ctx)(s:St)(a:Act)(w:World):Prop:=a.defers=mkD s.h∧∃S ψ,HRel C s.h S ψ w∧Ad w S s.h ψ s.t a.tmps.toList
def evA(t:List AV):Operand→AV
 | .tmp i=>(t[i]?).getD (.lit undef)
 | .const v=>.lit v
 | .global g=>.lit (.pointer (some ⟨g,0,none⟩))
 | .func f=>.lit (.func (.func f) #[] #[])
def AJ(t:List AV)(dst:Option Tmp)(r:AV):List AV:=
 match dst with
 |some d=>t.set d r
 |none=>t
theorem Ba{w:World}{S:Nat→Prop}{h:List ABlk}{ψ:Nat→Value}{t:List AV}{a:Act}(H:Ad w S h ψ t a.tmps.toList)(x:Operand):AV.rel w S h ψ (evA t x) (a.eval x):=by
 cases x with
 |tmp i=>
  show AV.rel w S h ψ ((t[i]?).getD (.lit undef)) (a.tmps.getD i undef);rw[Array.getD_eq_getD_getElem?];cases hi:t[i]? with
  |none=>
   have:a.tmps[i]? =none:=by
    rw[List.getElem?_eq_none_iff]at hi;have:=AW H;simp at this;rw[Array.getElem?_eq_none_iff];omega
   rw[this];simp[AV.rel]
  |some x=>
   obtain⟨v,h1,h2⟩:=Bl H hi;have:a.tmps[i]? =some v:=by simpa using h1
   rw[this];exact h2
 |const v=>simp[evA,Act.eval,AV.rel]
 |global g=>simp[evA,Act.eval,AV.rel]
 |func f=>simp[evA,Act.eval,AV.rel]
theorem F0{w:World}{S:Nat→Prop}{h:List ABlk}{ψ:Nat→Value}{t:List AV}{a:Act}(H:Ad w S h ψ t a.tmps.toList)(d:Option Tmp){r:AV}{v:Value}(hr:AV.rel w S h ψ r v):Ad w S h ψ (AJ t d r) (a.put d v).tmps.toList:=by
 cases d with
 |none=>exact H
 |some d=>
  unfold AJ Act.put;simp only[Array.toList_setIfInBounds];exact DE H d hr
theorem put_defers(a:Act)(d:Option Tmp)(v:Value):(a.put d v).defers=a.defers:=by cases d <;> rfl
abbrev A2(l:List AV):List AV:=.any::.any::l
abbrev A3(l:List AV):List AV:=.any::.any::.any::l
abbrev A4(l:List AV):List AV:=.any::.any::.any::.any::l
abbrev A5(l:List AV):List AV:=.any::A4 l
abbrev A6(l:List AV):List AV:=.any::A5 l
abbrev A7(l:List AV):List AV:=.any::A6 l
abbrev A8(l:List AV):List AV:=A4 (A4 l)
abbrev A9(l:List AV):List AV:=.any::A8 l
abbrev A10(l:List AV):List AV:=.any::A9 l
abbrev A20(l:List AV):List AV:=A10 (A10 l)
abbrev A40(l:List AV):List AV:=A20 (A20 l)
abbrev A80(l:List AV):List AV:=A40 (A40 l)
section
variable{P:Program}{C:Ctx}
def fnc:Option Nat→Fence
 |none=>Fence.wide
 |some l=>Fence.wide.inRound l
theorem P1(rd:Option Nat)(f:FuncId):(fnc rd).fn f:=by cases rd <;> trivial
theorem ZL(rd:Option Nat)(n:Nat):(fnc rd).room n:=by cases rd <;> exact fun _ h=>by simp[fnc,Fence.wide,Fence.inRound]at h
theorem P2(rd:Option Nat):(fnc rd).depth=none:=by cases rd <;> rfl
theorem Afy{rd:Option Nat}{n m:Nat}{c:Code}{Q:Exit→Act→World→Prop}{a:Act}{w:World}(h:c.wpIn (fnc rd) n P Q a w):c.wpIn (fnc rd) m P Q a w:=fun b k cs h1 h2 _=>h b k cs h1 h2 (ZL _ _)
theorem Xm{rd:Option Nat}{n:Nat}{f:FuncId}{args:Array Value}{w:World}{R:Ending→World→Prop}(h:Calls P f args w R):CallsIn (fnc rd) n P f args w R:=by
 cases rd with
 |none=>exact callsIn_wide.2 h
 |some l=>exact Nd h
theorem ZK{rd:Option Nat}{n:Nat}{row:String}{args:Array Value}{w:World}{R:Value→World→Prop}(h:Rows P row args w R):RowsIn (fnc rd) n P row args w R:=by
 cases rd with
 |none=>exact fun c cs _=>let ⟨v,w',r,s⟩:=h c cs;⟨v,w',r,stepsIn_wide.2 s⟩
 |some l=>exact Pi h
theorem Oj{rd:Option Nat}{n:Nat}{o:Oper}{a:Act}{w:World}{K:Act→World→Prop}{Q:Exit→Act→World→Prop}(hd:∀c,o.op≠.defer c)(hQ:¬LetsOut Q)(h:o.wp P a w K Q):o.wpIn (fnc rd) n P a w K Q:=by
 refine⟨fun _ _=>P1 _ _,?_⟩;rw[Oper.semAt_eq _ _ _ hd];unfold Oper.wp at h;generalize (execOp a.eval o).run P w=r at *;cases r with
 |ok x w'=>
  cases x <;> simp only[Oper.uponIn,Oper.upon]at h⊢
  case value=>exact h
  case skip=>exact h
  case defer=>exact h
  case enter=>exact⟨fun h=>(by rw[P2]at h;cases h),(Xm h).mono fun e w'' he=>by cases e <;> exact he⟩
  case row=>exact⟨fun h=>(by rw[P2]at h;cases h),(ZK h).mono fun _ _ he=>he⟩
 |halt x w'=>cases x <;> simp only[Oper.uponIn,Oper.upon]at h⊢<;> exact h
theorem Dw{rd:Option Nat}{n id:Nat}{ops:Array Oper}{Q:Exit→Act→World→Prop}{a:Act}{w:World}(hm:P.follows .mixedOrders=true)(hd:GC ops=true)
 (h:wpAny P .any ops (fun e a w=>e= .normal∧Q e a w) ops.size (Array.replicate ops.size false) a w.drew):(Code.region id ops true).wpIn (fnc rd) n P Q a w:=by
 cases rd with
 |none=>exact wpIn_wide.2 (wp_mono (wp_region_any hm h) fun e a w h=>h.2)
 |some l=>exact wpIn_mono (wpIn_region_any hm (MD (PG hd) (fun⟨_,_,h⟩=>by cases h.1) _ _ _ _ h)) fun e a w h=>h.2
def Awp(P:Program)(C:Ctx)(c:Code)(Q:Exit→St→Prop)(s:St):Prop:=
 ∀a w,s.rel C a w→c.wpIn (fnc C.rd) 4 P (fun e a' w'=>∃s',Q e s'∧s'.rel C a' w') a w
theorem Awp.wp{c:Code}{Q:Exit→St→Prop}{s:St}(hr:C.rd=none)(h:Awp P C c Q s){a:Act}{w:World}(H:s.rel C a w):c.wp P (fun e a' w'=>∃s',Q e s'∧s'.rel C a' w') a w:=by
 have:=h a w H;rw[hr]at this;exact wpIn_wide.1 this
def JK(K:St→Prop)(Q:Exit→St→Prop):Exit→St→Prop
 | .normal,s=>K s
 |e,s=>Q e s
def I5(id:Nat)(Q:Exit→St→Prop):Exit→St→Prop
 | .exit i,s=>if i=id then Q .normal s else Q (.exit i) s
 |e,s=>Q e s
def Acf(Q:Exit→St→Prop):Exit→St→Prop
 | .goto _,_=>False
 |e,s=>Q e s
def St.le(C:Ctx)(s s':St):Prop:=∀a w,s.rel C a w→s'.rel C a w
theorem Awp.mono{c:Code}{Q Q':Exit→St→Prop}{s:St}(h:Awp P C c Q s)(hq:∀e s,Q e s→Q' e s):Awp P C c Q' s:=
 fun a w H=>wpIn_mono (h a w H) fun e _ _ ⟨s',q,r⟩=>⟨s',hq e s' q,r⟩
theorem Awp.le{c:Code}{Q:Exit→St→Prop}{s s':St}(hl:St.le C s s')(h:Awp P C c Q s'):Awp P C c Q s:=fun a w H=>h a w (hl a w H)
theorem Ag{Q:Exit→St→Prop}{s:St}(h:Q .normal s):Awp P C .skip Q s:=fun _ _ H=>wpIn_skip ⟨s,h,H⟩
theorem Awp.label{l:Nat}{Q:Exit→St→Prop}{s:St}(h:Q .normal s):Awp P C (.label l) Q s:=fun _ _ H=>wpIn_label ⟨s,h,H⟩
theorem Aq{id:Nat}{Q:Exit→St→Prop}{s:St}(h:Q (.exit id) s):Awp P C (.exit id) Q s:=fun _ _ H=>wpIn_exit ⟨s,h,H⟩
theorem Aj{Q:Exit→St→Prop}{s:St}(h:Q .ret s):Awp P C .ret Q s:=fun _ _ H=>wpIn_ret ⟨s,h,H⟩
theorem Ac{x y:Code}{Q:Exit→St→Prop}{s:St}(h:∀K:St→Prop,(∀s,Awp P C y Q s→K s)→Awp P C x (JK K Q) s):Awp P C (.seq x y) Q s:=fun a w H=>
 wpIn_seq (wpIn_mono (h _ (fun _ h=>h) a w H) fun e a' w' ⟨s',q,r⟩=>by
  cases e with
  |normal=>exact q a' w' r
  |_=>exact⟨s',q,r⟩)
theorem Ae{k:Operand}{x y:Code}{b:Bool}{Q:Exit→St→Prop}{s:St}(hc:evA s.t k= .lit (.bool b))(ht:b=true→Awp P C x Q s)(hf:b=false→Awp P C y Q s):Awp P C (.cond k x y) Q s:=fun a w H=>by
 obtain⟨_,S,ψ,_,hl⟩:=id H;have:=Ba hl k;rw[hc]at this;unfold AV.rel at this;exact wpIn_cond_split this (fun e=>ht e a w H) (fun e=>hf e a w H)
theorem Af{id:Nat}{c:Code}{Q:Exit→St→Prop}{s:St}(h:Awp P C c (I5 id Q) s):Awp P C (.block id c) Q s:=fun a w H=>
 wpIn_block (wpIn_mono (h a w H) fun e a' w' ⟨s',q,r⟩=>by
  cases e with
  |exit i=>
   by_cases hi:i=id
   ·simp only[I5,Exit.inBlock,hi,if_true]at q⊢;exact⟨s',q,r⟩
   ·simp only[I5,Exit.inBlock,hi,if_false]at q⊢;exact⟨s',q,r⟩
  |_=>exact⟨s',q,r⟩)
theorem Hy{F:Fence}{n:Nat}{c:Code}{Q:Exit→Act→World→Prop}{a:Act}{w:World}(h:c.wpIn F n P (Exit.noGoto Q) a w):(Code.scope c).wpIn F n P Q a w:=by
 intro b k cs hro hb hr;obtain⟨e,a₁,w₁,hq,harr⟩:=h b (.inScope c::k) cs hro hb hr;have h0:(lone (b.atR a (.code (.scope c)::k)) cs w).fenced P F:=fenced_calm hb hr rfl;have s0:step P (lone (b.atR a (.code (.scope c)::k)) cs w)= .next (lone (b.atR a (.code c::.inScope c::k)) cs w):=step_lone_go (by simp[stepG,stepG.exec,Frame.atR]);have s1:step P (lone (b.atR a₁ (.inScope c::k)) cs w₁)= .next (lone (b.atR a₁ k) cs w₁):=step_lone_go (by simp[stepG,stepG.exec,Frame.atR]);have h1:(lone (b.atR a₁ (.inScope c::k)) cs w₁).fenced P F:=fenced_calm hb hr rfl;cases e with
 |normal=>exact⟨.normal,a₁,w₁,hq,.head h0 s0 (StepsIn.trans harr (.one h1 s1))⟩
 |exit id=>
  refine⟨.exit id,a₁,w₁,hq,fun k' hk=>.head h0 s0 (harr.1 k' (by simp[exitTo,hk])),fun hr' hk=>?_⟩;obtain⟨k₁,h2,h3⟩:=harr.2 hr' (by simp[exitTo,hk]);exact⟨k₁,h2,.head h0 s0 h3⟩
 |goto l=>exact hq.elim
 |ret=>exact⟨_,a₁,w₁,hq,.of_steps (.one h0 s0) harr⟩
 |panic ch=>exact⟨_,a₁,w₁,hq,.of_steps (.one h0 s0) harr⟩
 |outgrown=>exact⟨_,a₁,w₁,hq,.of_steps (.one h0 s0) harr⟩
theorem Awp.scope{c:Code}{Q:Exit→St→Prop}{s:St}(h:Awp P C c (Acf Q) s):Awp P C (.scope c) Q s:=fun a w H=>
 Hy (wpIn_mono (h a w H) fun e a' w' ⟨s',q,r⟩=>by
  cases e with
  |goto l=>exact q.elim
  |_=>exact⟨s',q,r⟩)
theorem F7{p:Nat→Prop}(h:∃m,p m):∃m,p m∧∀k,p k→m≤k:=by
 obtain⟨m,hm⟩:=h;induction m using Nat.strongRecOn with
 |_ m ih=>
  by_cases hk:∃k,k < m∧p k
  ·obtain⟨k,hkm,hpk⟩:=hk;exact ih k hkm hpk
  ·exact⟨m,hm,fun k hpk=>Nat.le_of_not_lt fun hlt=>hk ⟨k,hlt,hpk⟩⟩
theorem Awp.loop{c:Code}{Q:Exit→St→Prop}{s:St}(J:Nat→St→Prop)(m:Nat)(h0:∃s',St.le C s s'∧J m s')
 (hr:∀m s,J m s→Awp P C c (JK (fun s'=>∃m',m' < m∧∃s'',St.le C s' s''∧J m' s'') Q) s):Awp P C (.loop c) Q s:=fun a w H=>by
 classical
 let In:Act→World→Prop:=fun a w=>∃m,∃s,J m s∧s.rel C a w
 let μ:Act→World→Nat:=fun a w=>if h:∃m,∃s,J m s∧s.rel C a w then Classical.choose (F7 h)else 0
 obtain⟨s',hle,hJ⟩:=h0;refine wpIn_loop In μ ⟨m,s',hJ,hle a w H⟩ fun a w hI=>?_
 have hf:=(Classical.choose_spec (F7 hI)).1;obtain⟨s1,h1,h2⟩:=hf;have hμ:μ a w=Classical.choose (F7 hI):=dif_pos hI;refine wpIn_mono (hr _ s1 h1 a w h2) fun e a' w' ⟨s2,q,r⟩=>?_
 cases e with
 |normal=>
  obtain⟨m',hm,s3,hle3,hJ3⟩:=q;have hI':In a' w':=⟨m',s3,hJ3,hle3 a' w' r⟩
  refine⟨hI',?_⟩;have:μ a' w'=Classical.choose (F7 hI'):=dif_pos hI';rw[this,hμ];exact Nat.lt_of_le_of_lt ((Classical.choose_spec (F7 hI')).2 _ ⟨s3,hJ3,hle3 a' w' r⟩) hm
 |_=>exact⟨s2,q,r⟩
def AOp(P:Program)(C:Ctx)(o:Oper)(s:St)(K:St→Prop):Prop:=
 ∀(Q':Exit→Act→World→Prop) a w,s.rel C a w→(∀c,o.op≠.defer c)∧o.wp P a w (fun a' w'=>∃s',K s'∧s'.rel C a' w') Q'
def gA(ops:Array Oper)(t:List AV)(o:Oper):Option Bool:=
 match o.guard with
 |none=>some true
 |some (j,want)=>
  match((ops[j]?).bind (·.dst)).bind (t[·]?)with
  |some (.lit (.bool b))=>some (b ==want)
  |some (.lit (.tuple _))=>some false
  |_=>none
theorem CZ{ops:Array Oper}{t:List AV}{o:Oper}{b:Bool}{a:Act}{w:World}{S:Nat→Prop}{h:List ABlk}{ψ:Nat→Value}(hg:gA ops t o=some b)(hl:Ad w S h ψ t a.tmps.toList):
 Region.wanted o (yielded ops a.tmps)=b:=by
 unfold gA at hg;unfold Region.wanted;cases ho:o.guard with
 |none=>simpa[ho]using hg
 |some p=>
  obtain⟨j,want⟩:=p;rw[ho]at hg;simp only at hg⊢;unfold yielded;cases hd:(ops[j]?).bind (·.dst)with
  |none=>rw[hd]at hg;simp at hg
  |some d=>
   rw[hd]at hg;simp only[Option.bind_some]at hg⊢;cases hx:t[d]? with
   |none=>rw[hx]at hg;simp at hg
   |some x=>
    rw[hx]at hg;obtain⟨v,h1,h2⟩:=Bl hl hx;have h1':a.tmps[d]? =some v:=by simpa using h1
    rw[h1'];split at hg
    ·rename_i b' heq;cases heq;unfold AV.rel at h2;subst h2;simpa using hg
    ·rename_i vs heq;cases heq;unfold AV.rel at h2;subst h2;simpa using hg
    ·cases hg
def Ck(P:Program)(C:Ctx)(ops:Array Oper)(K:St→Prop):List Oper→St→Prop
 | [],s=>K s
 |o::rest,s=>∃b,gA ops s.t o=some b∧(b=true→AOp P C o s (Ck P C ops K rest))∧(b=false→Ck P C ops K rest ⟨AJ s.t o.dst (.lit undef),s.h⟩)
theorem Ej{s:St}{a:Act}{w:World}(H:s.rel C a w)(d:Option Tmp):St.rel C ⟨AJ s.t d (.lit undef),s.h⟩ (a.put d undef) w:=by
 obtain⟨hd,S,ψ,hh,hl⟩:=H;exact⟨by rw[put_defers];exact hd,S,ψ,hh,F0 hl d (by unfold AV.rel;rfl)⟩
theorem DD{ops:Array Oper}{K:St→Prop}{Q':Exit→Act→World→Prop}(hQ:∀s a w,K s→s.rel C a w→Q' .normal a w):∀(l:List Oper) (s:St) (a:Act) (w:World),Ck P C ops K l s→s.rel C a w→wpList P ops Q' l a w
 | [],s,a,w,h,H=>hQ s a w h H
 |o::rest,s,a,w,h,H=>by
  obtain⟨b,hg,ht,hf⟩:=h;obtain⟨_,S,ψ,_,hl⟩:=id H;have hw:=CZ hg hl;unfold wpList;rw[hw];cases b with
  |true=>
   rw[if_pos rfl];exact .inl (Oper.wp_mono (fun a' w' ⟨s',h1,h2⟩=>DD hQ rest s' a' w' h1 h2) (ht rfl Q' a w H).2)
  |false=>
   rw[if_neg (by simp)];exact DD hQ rest _ _ w (hf rfl) (Ej H o.dst)
theorem DY{rd:Option Nat}{ops:Array Oper}{K:St→Prop}{Q':Exit→Act→World→Prop}(hlo:¬LetsOut Q')(hQ:∀s a w,K s→s.rel C a w→Q' .normal a w):∀(l:List Oper) (s:St) (a:Act) (w:World),Ck P C ops K l s→s.rel C a w→wpListIn (fnc rd) 4 P ops Q' l a w
 | [],s,a,w,h,H=>hQ s a w h H
 |o::rest,s,a,w,h,H=>by
  obtain⟨b,hg,ht,hf⟩:=h;obtain⟨_,S,ψ,_,hl⟩:=id H;have hw:=CZ hg hl;unfold wpListIn;rw[hw];cases b with
  |true=>
   rw[if_pos rfl];exact Oj (ht rfl Q' a w H).1 hlo (Oper.wp_mono (fun a' w' ⟨s',h1,h2⟩=>DY hlo hQ rest s' a' w' h1 h2) (ht rfl Q' a w H).2)
  |false=>
   rw[if_neg (by simp)];exact⟨fun _ _=>P1 _ _,DY hlo hQ rest _ _ w (hf rfl) (Ej H o.dst)⟩
theorem Awp.region{id:Nat}{l:List Oper}{Q:Exit→St→Prop}{s:St}(h:Ck P C l.toArray (Q .normal) l s):Awp P C (.region id l.toArray false) Q s:=fun a w H=>
 wpIn_mono (wpIn_region_lit (DY (Q':=fun e a' w'=>e= .normal∧∃s',Q e s'∧s'.rel C a' w') (fun⟨_,_,h⟩=>by cases h.1) (fun s a w h H=>⟨rfl,s,h,H⟩) l s a w h H)) fun _ _ _ h=>h.2
def Vm(w:World)(S:Nat→Prop)(h:List ABlk)(ψ:Nat→Value)(r:AV)(v:Value)(w':World):Prop:=
 Below w.heap.size w w'∧∃S':Nat→Prop,(∀k,S k→S' k)∧(∀k,S' k→S k∨w.heap.size≤k)∧(∀k,S' k→k < w'.heap.size)∧AV.rel w' S' h ψ r v
def Rn(P:Program)(w:World)(S:Nat→Prop)(h:List ABlk)(ψ:Nat→Value)(r:AV):Result Next→Prop
 | .ok (.value v) w'=>Vm w S h ψ r v w'
 | .ok .skip w'=>Vm w S h ψ r undef w'
 | .ok (.enter f args) w1=>w1=w∧Calls P f args w fun e w'=>∃v,e= .returned v∧Vm w S h ψ r v w'
 |_=>False
def Av(P:Program)(C:Ctx)(t:List AV)(h:List ABlk)(o:Oper)(r:AV):Prop:=
 ∀S ψ w (ρ:Operand→Value),HRel C h S ψ w→(∀x∈o.op.operands,AV.rel w S h ψ (evA t x) (ρ x))→Rn P w S h ψ r ((execOp ρ o).run P w)
theorem Vm.same{w:World}{S:Nat→Prop}{h:List ABlk}{ψ:Nat→Value}{r:AV}{v:Value}(hl:∀k,S k→k < w.heap.size)(hr:AV.rel w S h ψ r v):Vm w S h ψ r v w:=
 ⟨Below.refl _ _,S,fun _ h=>h,fun _ h=>.inl h,hl,hr⟩
theorem Ir{o:Oper}{s:St}{r:AV}{a:Act}{w:World}{S:Nat→Prop}{ψ:Nat→Value}{K:Act→World→Prop}{Q':Exit→Act→World→Prop}{res:Result Next}(hd:a.defers=mkD s.h)(H:HRel C s.h S ψ w)(hl:Ad w S s.h ψ s.t a.tmps.toList)
 (hq:Rn P w S s.h ψ r res) (hK:∀a' w',St.rel C ⟨AJ s.t o.dst r,s.h⟩ a' w'→K a' w'):o.upon P a K Q' res:=by
 have key:∀v w',Vm w S s.h ψ r v w'→K (a.put o.dst v) w':=by
  rintro v w' ⟨hb,S',h1,h2,h3,h4⟩;have X:Ext w S s.h ψ w' S' s.h ψ:=Ext.grow s.h ψ (fun k hk=>hb.block k (H.lt k hk)) h1;exact hK _ _ ⟨by rw[put_defers];exact hd,S',ψ,H.grow hb h1 h2 h3,F0 (Al X _ _ hl) o.dst h4⟩
 cases res with
 |ok n w'=>
  cases n <;> simp only[Rn]at hq <;> simp only[Oper.upon]
  case value v=>exact key v w' hq
  case skip=>exact key undef w' hq
  case enter f args=>
   obtain⟨rfl,hc⟩:=hq;exact hc.mono fun e w'' ⟨v,he,hg⟩=>by subst he;exact key v w'' hg
 |halt x w'=>simp only[Rn]at hq
theorem Iz{o:Oper}{r:AV}{h:List ABlk}{w:World}{S:Nat→Prop}{ψ:Nat→Value}{ρ:Operand→Value}(hq:Rn P w S h ψ r ((execOp ρ o).run P w)):∀c,o.op≠.defer c:=fun c e=>by
 simp only[execOp,e,Sem.run_bind]at hq;generalize (resolve ρ c o.type).run P w=x at hq;cases x with
 |ok d w'=>exact hq
 |halt x w'=>exact hq
theorem QM{o:Oper}{s:St}{r:AV}{K:St→Prop}(hq:Av P C s.t s.h o r)(hK:K ⟨AJ s.t o.dst r,s.h⟩):AOp P C o s K:=by
 rintro Q' a w ⟨hd,S,ψ,H,hl⟩;refine⟨Iz (hq S ψ w a.eval H fun x _=>Ba hl x),?_⟩;exact Ir hd H hl (hq S ψ w a.eval H fun x _=>Ba hl x) fun a' w' h=>⟨_,hK,h⟩
section
variable{ops:Array Oper}{md:Region.Mode}{h:List ABlk}
def EA(P:Program)(C:Ctx)(ops:Array Oper)(h:List ABlk)(o:Oper)(r:AV)(t:List AV):Prop:=
 (gA ops t o=some true∧Av P C t h o r)∨(gA ops t o=some false∧r= .lit undef)
def aOp(P:Program)(C:Ctx)(ops:Array Oper)(h:List ABlk)(i:Nat)(K:List AV→Prop)(t:List AV):Prop:=
 match ops[i]? with
 |none=>K t
 |some o=>∃r,EA P C ops h o r t∧K (AJ t o.dst r)
theorem TA{i:Nat}{t:List AV}{K K':List AV→Prop}(hk:∀t,K t→K' t)(hh:aOp P C ops h i K t):aOp P C ops h i K' t:=by
 unfold aOp at *;split
 ·exact hk _ (by simpa[*]using hh)
 ·rename_i o ho;simp only[ho]at hh;obtain⟨r,h1,h2⟩:=hh;exact⟨r,h1,hk _ h2⟩
def YF(P:Program)(C:Ctx)(md:Region.Mode)(ops:Array Oper)(h:List ABlk)(n:Nat)(L:Array Bool→List AV→Prop):Nat→Array Bool→List AV→Prop
 |0,listed,t=>L listed t
 |f+1,listed,t=>
  Region.ready md ops listed≠[]∧∀i∈Region.ready md ops listed,i < n∧aOp P C ops h i (YF P C md ops h n L f (listed.setIfInBounds i true)) t
theorem QZ{i:Nat}{t:List AV}{a:Act}{w:World}{K:List AV→Prop}{K':Act→World→Prop}{Q':Exit→Act→World→Prop}(H:St.rel C ⟨t,h⟩ a w)(hK:∀t a w,K t→St.rel C ⟨t,h⟩ a w→K' a w)
 (hh:aOp P C ops h i K t):wpOp P ops Q' i K' a w:=by
 unfold aOp at hh;unfold wpOp;split
 ·rename_i ho;simp only[ho]at hh;exact hK _ _ _ hh H
 ·rename_i o ho;simp only[ho]at hh;obtain⟨r,hy,hk⟩:=hh;obtain⟨hd,S,ψ,hh',hl⟩:=id H;rcases hy with⟨hg,hq⟩|⟨hg,rfl⟩
  ·have hw:=CZ hg hl;rw[hw,if_pos rfl];exact .inl (Ir (s:=⟨t,h⟩) hd hh' hl (hq S ψ w a.eval hh' fun x _=>Ba hl x) fun a' w' h=>hK _ _ _ hk h)
  ·have hw:=CZ hg hl;rw[hw,if_neg (by simp)];exact hK _ _ _ hk (Ej H o.dst)
theorem Fd{n g:Nat}{L:Array Bool→List AV→Prop}{Q':Exit→Act→World→Prop}(hL:∀listed t a w,L listed t→St.rel C ⟨t,h⟩ a w→wpAny P md ops Q' g listed a w):
 ∀(f:Nat) (listed:Array Bool) (t:List AV) (a:Act) (w:World),YF P C md ops h n L f listed t→St.rel C ⟨t,h⟩ a w→wpAny P md ops Q' (f+g) listed a w
 |0,listed,t,a,w,hh,H=>by rw[Nat.zero_add];exact hL _ _ _ _ hh H
 |f+1,listed,t,a,w,hh,H=>by
  rw[show f+1+g=(f+g)+1 by omega];exact⟨fun h0=>absurd h0 hh.1,fun i hi=>QZ H (fun t' a' w' h' H'=>Fd hL f _ t' a' w' h' H') (hh.2 i hi).2⟩
theorem Af0{t:List AV}{dst:Option Tmp}{r:AV}{x:Operand}(hx:∀d,dst=some d→x≠.tmp d):evA (AJ t dst r) x=evA t x:=by
 cases dst with
 |none=>rfl
 |some d=>
  cases x with
  |tmp i=>
   have:d≠i:=fun e=>hx d rfl (by rw[e])
   simp[evA,AJ,List.getElem?_set_ne this]
  |_=>rfl
theorem Ps{o:Oper}{t:List AV}{dst:Option Tmp}{u r:AV}(hdst:∀d,dst=some d→d∉o.looksAt ops):Av P C (AJ t dst u) h o r↔Av P C t h o r:=by
 have key:∀x∈o.op.operands,evA (AJ t dst u) x=evA t x:=fun x hx=>Af0 fun d hd hxd=>hdst d hd (by
  subst hxd;exact List.mem_append_left _ (List.mem_filterMap.2 ⟨.tmp d,by simpa using hx,rfl⟩))
 constructor
 ·intro H S ψ w ρ h1 h2;exact H S ψ w ρ h1 fun x hx=>by rw[key x hx];exact h2 x hx
 ·intro H S ψ w ρ h1 h2;exact H S ψ w ρ h1 fun x hx=>by rw[←key x hx];exact h2 x hx
theorem Ab9{o:Oper}{t:List AV}{dst:Option Tmp}{u:AV}(hdst:∀d,dst=some d→d∉o.looksAt ops):gA ops (AJ t dst u) o=gA ops t o:=by
 cases dst with
 |none=>rfl
 |some d=>
  unfold gA;cases hg:o.guard with
  |none=>rfl
  |some p=>
   obtain⟨j,want⟩:=p;simp only;cases hd:(ops[j]?).bind (·.dst)with
   |none=>rfl
   |some k=>
    have:d≠k:=fun e=>hdst d rfl (by
     subst e;unfold Oper.looksAt;rw[hg];simp only;rw[hd];simp)
    simp[AJ,List.getElem?_set_ne this]
theorem L7{o:Oper}{t:List AV}{dst:Option Tmp}{u r:AV}(hdst:∀d,dst=some d→d∉o.looksAt ops):EA P C ops h o r (AJ t dst u)↔EA P C ops h o r t:=by
 unfold EA;rw[Ab9 hdst,Ps hdst]
theorem Pv(t:List AV){x y:Option Tmp}(v u:AV)(hne:∀d,x=some d→y≠some d):AJ (AJ t x v) y u=AJ (AJ t y u) x v:=by
 cases x with
 |none=>rfl
 |some d=>
  cases y with
  |none=>rfl
  |some e=>
   have:d≠e:=fun h=>hne d rfl (by rw[h])
   exact List.set_comm _ _ this
theorem Yb{j:Nat}{oi oj:Oper}{v:AV}(hj:ops[j]? =some oj)(hap:oi.apart ops oj=true){K:List AV→Prop}{t:List AV}(hy:EA P C ops h oi v t)(hh:aOp P C ops h j K (AJ t oi.dst v)):
 aOp P C ops h j (fun t'=>EA P C ops h oi v t'∧K (AJ t' oi.dst v)) t:=by
 obtain⟨h1,h2,h3⟩:=Oper.apart_spec hap;unfold aOp at *;simp only[hj]at *;obtain⟨r,hr,hk⟩:=hh;exact⟨r,(L7 h1).1 hr,(L7 h3).2 hy,by rw[←Pv t v r h2];exact hk⟩
theorem Nh{n i:Nat}{oi:Oper}{v:AV}{L:Array Bool→List AV→Prop}(hi:ops[i]? =some oi)
 (htail:∀listed i,HeadInv md ops n listed→i < n→listed.getD i true=false→∀t,n≤t→t∉Region.ready md ops listed) (hin:i < n)
 (hdone:∀listed t,L listed t→∀j∈Region.ready md ops listed,n≤j):
 ∀(f:Nat) (listed:Array Bool) (t:List AV),HeadInv md ops n listed→
  (∀j oj,ops[j]? =some oj→j≠i→listed.getD j true=false→(∀e∈oj.after,Region.binds md e=true→e.on≠i)→oi.apart ops oj=true)→
  i∈Region.ready md ops listed→EA P C ops h oi v t→
  YF P C md ops h n L f (listed.setIfInBounds i true) (AJ t oi.dst v)→YF P C md ops h n L (f+1) listed t:=by
 intro f;induction f with
 |zero=>
  intro listed t inv _ hr hy H;have hun:=(mem_ready.1 hr).1;refine⟨fun h=>(by rw[h]at hr;cases hr),fun j hj=>?_⟩;have hjn:j < n:=by
   rcases Nat.lt_or_ge j n with h|h
   ·exact h
   ·exact absurd hj (htail _ i inv hin hun j h)
  refine⟨hjn,?_⟩;by_cases hji:j=i
  ·subst hji;unfold aOp;simp only[hi];exact⟨v,hy,H⟩
  ·have:=hdone _ _ H j (ready_mono hj hji);omega
 |succ f ih=>
  intro listed t inv hfree hr hy H;have hun:=(mem_ready.1 hr).1;refine⟨fun h=>(by rw[h]at hr;cases hr),fun j hj=>?_⟩;have hjn:j < n:=by
   rcases Nat.lt_or_ge j n with h|h
   ·exact h
   ·exact absurd hj (htail _ i inv hin hun j h)
  refine⟨hjn,?_⟩;by_cases hji:j=i
  ·subst hji;unfold aOp;simp only[hi];exact⟨v,hy,H⟩
  ·have h1:=(H.2 j (ready_mono hj hji)).2;obtain⟨hjun,oj,hoj,hall⟩:=mem_ready.1 hj;have hnot:∀e∈oj.after,Region.binds md e=true→e.on≠i:=fun e he hb heq=>by
    have h1:=hall e he hb;rw[heq,getD_both hun]at h1;cases h1
   have h2:=Yb hoj (hfree j oj hoj hji hjun hnot) hy h1;have hfree':∀k ok,ops[k]? =some ok→k≠i→(listed.setIfInBounds j true).getD k true=false→
    (∀e∈ok.after,Region.binds md e=true→e.on≠i)→oi.apart ops ok=true:=fun k ok hk hki hun hno=>by
    refine hfree k ok hk hki ?_ hno;by_cases hjk:j=k
    ·subst hjk;exact hjun
    ·rw[getD_set_ne true hjk]at hun;exact hun
   refine TA (fun a' h3=>ih (listed.setIfInBounds j true) a' (inv.set hj hjn) hfree' (ready_mono hr (Ne.symm hji)) h3.1 ?_) h2;rw[Array.setIfInBounds_comm _ _ hji];exact h3.2
def aQ(P:Program)(C:Ctx)(ops:Array Oper)(h:List ABlk)(K:List AV→Prop):List Oper→List AV→Prop
 | [],t=>K t
 |o::rest,t=>∃r,EA P C ops h o r t∧aQ P C ops h K rest (AJ t o.dst r)
theorem Ow{n g:Nat}{Lq:List AV→Prop}(htail:∀listed i,HeadInv md ops n listed→i < n→listed.getD i true=false→∀t,n≤t→t∉Region.ready md ops listed):
 ∀(l:List Oper) (k:Nat) (listed:Array Bool) (t:List AV),(∀j,j < l.length→l[j]? =ops[k+j]?)→k+l.length=n→HeadInv md ops n listed→
 Region.lexHead md ops g l.length k listed=true→aQ P C ops h Lq l t→
 YF P C md ops h n (fun listed' t'=>Region.seqB md ops g n listed'=true∧Lq t') l.length listed t
 | [],k,listed,t,_,hk,_,hB,hh=>by
  have:k=n:=by simpa using hk
  subst this;exact⟨by simpa[Region.lexHead]using hB,hh⟩
 |o::l,k,listed,t,hl,hk,inv,hB,hh=>by
  have h0:ops[k]? =some o:=by simpa using(hl 0 (by simp)).symm
  simp only[List.length_cons,Region.lexHead,Bool.and_eq_true]at hB;obtain⟨⟨hr,hf⟩,hB'⟩:=hB;have hkn:k < n:=by simp only[List.length_cons]at hk;omega
  have hr':k∈Region.ready md ops listed:=by simpa using hr
  obtain⟨v,hy,hK⟩:=hh;exact Nh h0 htail hkn (fun listed' a' hL=>seqB_ready hL.1) l.length listed t inv (Region.free_spec h0 hf) hr' hy
   (Ow htail l (k+1) _ _ (fun j hj=>by have:=hl (j+1) (by simp;omega);simpa[Nat.add_assoc,Nat.add_comm 1 j]using this) (by simp only[List.length_cons]at hk;omega) (inv.set hr' hkn) hB' hK)
def Yy(ops:Array Oper)(n:Nat):Bool:=
 (Region.noSelect ops&&GC ops)&&decide (n≤ops.size)&&(n ==ops.size||(Region.sinkB .any ops n&&Region.chainB .any ops n))&&Region.lexHead .any ops (ops.size - n) n 0 (Array.replicate ops.size false)
end
theorem OG{id:Nat}{l:List Oper}{Q:Exit→St→Prop}{s:St}(n:Nat)(hm:P.follows .mixedOrders=true)(hB:Yy l.toArray n=true)
 (hh:aQ P C l.toArray s.h (fun t=>Ck P C l.toArray (Q .normal) (l.drop n) ⟨t,s.h⟩) (l.take n) s.t):Awp P C (.region id l.toArray true) Q s:=fun a w H=>by
 simp only[Yy,Bool.and_eq_true,decide_eq_true_eq,Bool.or_eq_true,beq_iff_eq]at hB;obtain⟨⟨⟨⟨hsel,hnd⟩,hn⟩,hs⟩,hlex⟩:=hB;have hn':n≤l.length:=by simpa using hn
 have htl:(l.take n).length=n:=by simp;omega
 have hdl:(l.drop n).length=l.toArray.size - n:=by simp
 have inv0:HeadInv .any l.toArray n (Array.replicate l.toArray.size false):=
  ⟨by simp,fun j oj _ hl=>(by rw[getD_replicate_false]at hl;cases hl),fun t _ ht=>getD_in (by simpa using ht) (getD_replicate_false _ _)⟩
 have htail:∀(listed:Array Bool) (i:Nat),HeadInv .any l.toArray n listed→i < n→listed.getD i true=false→∀t,n≤t→t∉Region.ready .any l.toArray listed:=by
  intro listed i inv hi hun t ht;rcases hs with hs|⟨hs,hc⟩
  ·intro hr;obtain⟨_,o,ho,_⟩:=mem_ready.1 hr;have:=(Array.getElem?_eq_some_iff.1 ho).1;omega
  ·by_cases hlt:n < l.toArray.size
   ·exact tail_waits hs hc hlt inv _ i rfl hi hun t ht
   ·intro hr;obtain⟨_,o,ho,_⟩:=mem_ready.1 hr;have:=(Array.getElem?_eq_some_iff.1 ho).1;omega
 have HH:=Ow (md:=.any) (g:=l.toArray.size - n) htail (l.take n) 0 _ s.t (fun j hj=>by
  have hj':j < n:=by rw[htl]at hj;exact hj
  simp[hj']) (by simpa using htl) inv0 (by rw[htl];exact hlex) hh
 refine Dw hm hnd ?_;have H':St.rel C ⟨s.t,s.h⟩ a {w with drawn:=w.drawn+1}:=by
  obtain⟨hd,S,ψ,hh',hl⟩:=H;have hb:Below w.heap.size w {w with drawn:=w.drawn+1}:=⟨rfl,rfl,rfl,Nat.le_refl _,fun _ _=>rfl⟩
  exact⟨hd,S,ψ,hh'.grow hb (fun _ h=>h) (fun _ h=>.inl h) hh'.lt,Al (show Ext w S s.h ψ {w with drawn:=w.drawn+1} S s.h ψ from Ext.grow s.h ψ (fun k hk=>rfl) fun _ h=>h) _ _ hl⟩
 have:=Fd (Q':=fun e a' w'=>e= .normal∧∃s',Q e s'∧s'.rel C a' w') (g:=l.toArray.size - n) (fun listed t a' w' hL H'=>by
  have:=wpAny_of_seq (md:=.any) (l.drop n) n listed a' w' (fun j=>by simp[List.getElem?_drop]) (by rw[hdl];exact hL.1) (DD (Q':=fun e a' w'=>e= .normal∧∃s',Q e s'∧s'.rel C a' w') (fun s a w h H=>⟨rfl,s,h,H⟩) _ _ _ _ hL.2 H');rwa [hdl]at this) _ _ _ _ _ HH H'
 rw[htl,show n+(l.toArray.size - n)=l.toArray.size by omega]at this;exact this
end
mutual
def AV.cl:AV→Bool
 | .own _ _=>false
 | .ptr _ _=>false
 | .rp _ _ _ _=>false
 | .agg l=>AZ l
 | .tup l=>AZ l
 | .fn _ l=>AZ l
 |_=>true
def AZ:List AV→Bool
 | []=>true
 |x::l=>AV.cl x&&AZ l
end
section
variable{w:World}{S:Nat→Prop}{h h':List ABlk}{ψ ψ':Nat→Value}
mutual
theorem Br:∀(x:AV) (v:Value),AV.cl x=true→AV.rel w S h ψ x v→AV.rel w S h' ψ' x v
 | .any,_,_,_=>by unfold AV.rel;trivial
 | .lit u,v,_,H=>by unfold AV.rel at H⊢;exact H
 | .bs T l,v,_,H=>by unfold AV.rel at H⊢;exact H
 | .tv T d,v,_,H=>by unfold AV.rel at H⊢;exact H
 | .own i ver,v,hc,H=>by simp[AV.cl]at hc
 | .ptr i off,v,hc,H=>by simp[AV.cl]at hc
 | .rp i ver k off,v,hc,H=>by simp[AV.cl]at hc
 | .bp T d off,v,_,H=>by unfold AV.rel at H⊢;exact H
 | .agg l,v,hc,H=>by
  unfold AV.cl at hc;unfold AV.rel at H⊢;obtain⟨cs,e,hl⟩:=H;exact⟨cs,e,AQ l cs hc hl⟩
 | .tup l,v,hc,H=>by
  unfold AV.cl at hc;unfold AV.rel at H⊢;obtain⟨cs,e,hl⟩:=H;exact⟨cs,e,AQ l cs hc hl⟩
 | .fn f l,v,hc,H=>by
  unfold AV.cl at hc;unfold AV.rel at H⊢;obtain⟨cs,e,hl⟩:=H;exact⟨cs,e,AQ l cs hc hl⟩
theorem AQ:∀(l:List AV) (cs:List Value),AZ l=true→Ad w S h ψ l cs→Ad w S h' ψ' l cs
 | [],cs,_,H=>by unfold Ad at H⊢;exact H
 |x::l,cs,hc,H=>by
  unfold AZ at hc;rw[Bool.and_eq_true]at hc;unfold Ad at H⊢;obtain⟨v,vs,e,h1,h2⟩:=H;exact⟨v,vs,e,Br x v hc.1 h1,AQ l vs hc.2 h2⟩
end
end
def ψ0:Nat→Value:=fun _=>undef
def Bw(P:Program)(f:FuncId):Bool:=
 match P.funcs[f]? with
 |some fn=>!(fn.name == "runtime.NumGoroutine")&&!fn.body.isNone
 |none=>false
def Fn(P:Program)(f:FuncId)(args:List AV)(r:AV):Prop:=
 Bw P f=true∧∀(w:World) (S:Nat→Prop) (vs:List Value),(∀k,S k→k < w.heap.size)→Ad w S [] ψ0 args vs→
  Calls P f vs.toArray w fun e w'=>∃v,e= .returned v∧Vm w S [] ψ0 r v w'
theorem QF{P:Program}{f:FuncId}{args:List AV}{α:Type}{T:Ty α}(h:Fn P f args (.lit (.slice none 0 0))):Fn P f args (.bs T []):=
 ⟨h.1,fun w S vs hS hr=>(h.2 w S vs hS hr).mono fun e w' ⟨v,he,hb,S',k1,k2,k3,k4⟩=>⟨v,he,hb,S',k1,k2,k3,by
  unfold AV.rel at k4⊢;rw[k4];exact T.slice_nilS _ _⟩⟩
theorem BY{w:World}{S:Nat→Prop}{h:List ABlk}{ψ:Nat→Value}{t:List AV}{ρ:Operand→Value}:∀{l:List Operand},(∀x∈l,AV.rel w S h ψ (evA t x) (ρ x))→Ad w S h ψ (l.map (evA t)) (l.map ρ)
 | [],_=>by unfold Ad;rfl
 |x::l,H=>by
  simp only[List.map_cons];unfold Ad;exact⟨_,_,rfl,H x (by simp),BY fun y hy=>H y (by simp[hy])⟩
theorem CJ{P:Program}{o:Oper}{f:FuncId}{args:Array Operand}{tys:Array TypeId}(ho:o.op= .call {callee:=.value (.func f),args:=args,argTypes:=tys})(hE:Bw P f=true)(ρ:Operand→Value)(w:World)(hρ:ρ (.func f)= .func (.func f) #[] #[]):
 (execOp ρ o).run P w= .ok (.enter f (args.map ρ)) w:=by
 unfold Bw at hE;cases hf:P.funcs[f]? with
 |none=>rw[hf]at hE;cases hE
 |some fn=>
  rw[hf]at hE;simp only[Bool.and_eq_true,Bool.not_eq_true']at hE;have h1:¬fn.name= "runtime.NumGoroutine" :=by simpa using hE.1
  have h2:¬fn.body=none:=fun e=>by have:=hE.2;rw[e]at this;cases this
  simp[execOp,ho,resolve,Deferred.ofValue,hρ,invoke,callFunc,hf,h1,h2]
theorem Av.call{P:Program}{C:Ctx}{t:List AV}{h:List ABlk}{o:Oper}{f:FuncId}{args:Array Operand}{tys:Array TypeId}{xs:List AV}{r:AV}
 (ho:o.op= .call {callee:=.value (.func f),args:=args,argTypes:=tys}) (hF:Fn P f xs r) (hx:args.toList.map (evA t)=xs) (hc:AZ xs=true) (hr:AV.cl r=true):Av P C t h o r:=by
 intro S ψ w ρ H hρ;have h1:ρ (.func f)= .func (.func f) #[] #[]:=by
  have:=hρ (.func f) (by rw[ho];exact Array.mem_append.2 (.inl (by simp)));simpa[evA,AV.rel]using this
 rw[CJ ho hF.1 ρ w h1];refine⟨rfl,?_⟩;have h2:Ad w S h ψ xs (args.toList.map ρ):=by
  rw[←hx];exact BY fun x hx'=>hρ x (by rw[ho];exact Array.mem_append.2 (.inr (Array.mem_toList_iff.1 hx')))
 have h3:=hF.2 w S (args.toList.map ρ) H.lt (AQ _ _ hc h2);rw[show(args.map ρ)=(args.toList.map ρ).toArray from(by rw[←Array.toList_map])];refine h3.mono ?_;rintro e w' ⟨v,he,hb,S',k1,k2,k3,k4⟩;exact⟨v,he,hb,S',k1,k2,k3,Br _ _ hr k4⟩
inductive Lent (h:List ABlk):List AV→List AV→Prop
 |nil:Lent h [] []
 |cl {x:AV} {l l':List AV} (hx:AV.cl x=true) (hl:Lent h l l'):Lent h (x::l) (x::l')
 |own {i ver:Nat} {e:TypeId} {α:Type} {T:Ty α} {d:List α} {l l':List AV} (hi:h[i]? =some (.row ver e T d)) (hl:Lent h l l'):Lent h (.own i ver::l) (.bs T d::l')
theorem Lent.rel{C:Ctx}{w:World}{S:Nat→Prop}{h:List ABlk}{ψ:Nat→Value}(H:HRel C h S ψ w):∀{l l':List AV} {vs:List Value},Lent h l l'→Ad w S h ψ l vs→Ad w (fun k=>k < w.heap.size) [] ψ0 l' vs
 | [],_,vs,hl,hr=>by
  cases hl;unfold Ad at hr⊢;exact hr
 |x::l,_,vs,hl,hr=>by
  have X:Ext w S h ψ w (fun k=>k < w.heap.size) h ψ:=Ext.grow h ψ (fun _ _=>rfl) H.lt;unfold Ad at hr;obtain⟨v,vs',e,h1,h2⟩:=hr;cases hl with
  |cl hx hl=>
   unfold Ad;exact⟨v,vs',e,Br _ _ hx (Dh X _ _ h1),Lent.rel H hl h2⟩
  |own hi hl=>
   unfold Ad;refine⟨v,vs',e,?_,Lent.rel H hl h2⟩;unfold AV.rel at h1⊢;have hv:=(h1.2 _ (by rw[hi];rfl)).2 rfl;subst hv;obtain⟨cells,k1,k0,k2,k3⟩:=H.blk _ _ hi;exact Ch k1 (fun i d hd=>Ty.keepS _ (k2 i d hd) (fun _ _=>rfl) H.lt) fun g hg=>(World.ownsRow.lt k1 g hg).2
theorem Hd{P:Program}{C:Ctx}{t:List AV}{h:List ABlk}{o:Oper}{f:FuncId}{args:Array Operand}{tys:Array TypeId}{xs:List AV}{u:Value}
 (ho:o.op= .call {callee:=.value (.func f),args:=args,argTypes:=tys}) (hF:Fn P f xs (.lit u)) (hx:Lent h (args.toList.map (evA t)) xs):Av P C t h o (.lit u):=by
 intro S ψ w ρ H hρ;have h1:ρ (.func f)= .func (.func f) #[] #[]:=by
  have:=hρ (.func f) (by rw[ho];exact Array.mem_append.2 (.inl (by simp)));simpa[evA,AV.rel]using this
 rw[CJ ho hF.1 ρ w h1];refine⟨rfl,?_⟩;have h2:Ad w S h ψ (args.toList.map (evA t)) (args.toList.map ρ):=BY fun x hx'=>hρ x (by rw[ho];exact Array.mem_append.2 (.inr (Array.mem_toList_iff.1 hx')))
 have h3:=hF.2 w _ (args.toList.map ρ) (fun _ h=>h) (Lent.rel H hx h2);rw[show(args.map ρ)=(args.toList.map ρ).toArray from(by rw[←Array.toList_map])];refine h3.mono ?_;rintro e w' ⟨v,he,hb,S',k1,k2,k3,k4⟩;refine⟨v,he,hb,S,fun _ h=>h,fun _ h=>.inl h,fun k hk=>Nat.lt_of_lt_of_le (H.lt k hk) hb.size,?_⟩;unfold AV.rel at k4⊢;exact k4
def Fin(h:List ABlk)(x r:AV):Prop:=mkD h= []∧
 ∀(C:Ctx) (S:Nat→Prop) (ψ:Nat→Value) (w:World) (v:Value),C.std→HRel C h S ψ w→AV.rel w S h ψ x v→
  ∃S':Nat→Prop,(∀k,S k→S' k)∧(∀k,S' k→S k∨C.w0.heap.size≤k)∧(∀k,S' k→k < w.heap.size)∧AV.rel w S' [] ψ0 r v
theorem Fin.cl{h:List ABlk}{r:AV}(hr:AV.cl r=true)(hm:mkD h= []:=by rfl):Fin h r r:=⟨hm,fun C S ψ w v _ H hv=>⟨S,fun _ h=>h,fun _ h=>.inl h,H.lt,Br _ _ hr hv⟩⟩
theorem Fin.own{h:List ABlk}{i ver:Nat}{e:TypeId}{α:Type}{T:Ty α}{l:List α}(hi:h[i]? =some (.row ver e T l))(hm:mkD h= []:=by rfl):Fin h (.own i ver) (.bs T l):=⟨hm,fun C S ψ w v hC H hv=>by
 unfold AV.rel at hv;have hv':=(hv.2 _ (by rw[hi];rfl)).2 rfl;subst hv';obtain⟨cells,h1,h0,h2,h3⟩:=H.blk i _ hi;refine⟨fun k=>S k∨(ψ i).ownBlock=some k,fun _ h=>.inl h,fun k hk=>?_,fun k hk=>?_,?_⟩
 ·rcases hk with hk|hk
  ·exact .inl hk
  ·exact .inr (Nat.le_of_not_lt fun hlt=>(h3 k hk).1 (hC k hlt))
 ·rcases hk with hk|hk
  ·exact H.lt k hk
  ·exact(World.ownsRow.lt h1 k hk).2
 ·unfold AV.rel;exact Ch h1 (fun i d hd=>T.keepS (h2 i d hd) (fun _ _=>rfl) fun _ h=>.inl h) fun g hg=>.inr hg⟩
def Ar0(t:Tmp)(r:AV):Exit→St→Prop:=fun e s=>(e= .normal∨e= .ret)∧Fin s.h (evA s.t (.tmp t)) r
def Aq5(t u:Tmp)(r q:AV):Exit→St→Prop:=fun e s=>(e= .normal∨e= .ret)∧∃r' q',Fin s.h (.tup [evA s.t (.tmp t),evA s.t (.tmp u)]) (.tup [r',q'])∧r'=r∧q'=q
theorem Em{w:World}{S:Nat→Prop}{args:List AV}{vs:List Value}{n:Nat}(hS:∀k,S k→k < w.heap.size)(hr:Ad w S [] ψ0 args vs):
 St.rel ⟨w,S,fun k=>k < w.heap.size,none⟩ ⟨args++List.replicate (n - args.length) (.lit undef),[]⟩ {tmps:=vs.toArray++Array.replicate (n - vs.toArray.size) undef,defers:=[]} w:=by
 refine⟨rfl,S,ψ0,⟨Kp.refl _ _,fun _ h=>h,hS,fun _ h=>h,fun _ h=>.inl h,fun i b hi=>by simp at hi,fun i j _ hi=>by simp[ABlk.live]at hi⟩,?_⟩;simp only[Array.toList_append,Array.toList_replicate,List.size_toArray];refine BK hr (Dm (by simp[AW hr]) fun i x v hx hv=>?_);rw[List.getElem?_replicate]at hx hv;split at hx <;> cases hx
 split at hv <;> cases hv
 unfold AV.rel;rfl
theorem G6{w:World}{S:Nat→Prop}{s:St}{w':World}{x r:AV}{v:Value}{S1:Nat→Prop}{ψ:Nat→Value}(H:HRel ⟨w,S,fun k=>k < w.heap.size,none⟩ s.h S1 ψ w')(hf:Fin s.h x r)(hv:AV.rel w' S1 s.h ψ x v):Vm w S [] ψ0 r v w':=by
 obtain⟨S',k1,k2,k3,k4⟩:=hf.2 _ _ _ _ _ (fun _ h=>h) H hv;refine⟨H.bel.below fun _ h=>h,S',fun k hk=>k1 k (H.sub k hk),fun k hk=>?_,k3,k4⟩;rcases k2 k hk with h1|h1
 ·exact H.new k h1
 ·exact .inr h1
theorem Ax{P:Program}{f:FuncId}{fn:Go.Func}{c:Code}{args:List AV}{r:AV}{t:Tmp}{n:Nat}(hf:P.funcs[f]? =some fn)(hb:fn.body=some c)(hE:Bw P f=true)(hres:fn.results= #[.tmp t])(hn:fn.ntmps=n)
 (h:∀C:Ctx,C.std→Awp P C c (Ar0 t r) ⟨args++List.replicate (n - args.length) (.lit undef),[]⟩):Fn P f args r:=by
 refine⟨hE,fun w S vs hS hr=>calls_of_wp hf hb ?_⟩;rw[hn];refine wp_mono ((h ⟨w,S,fun k=>k < w.heap.size,none⟩ (fun _ h=>h)).wp rfl (Em hS hr)) ?_;rintro e a' w' ⟨s,⟨he,hfin⟩,hd,S1,ψ,H,hl⟩;rw[hfin.1]at hd;have hv:=Ba hl (.tmp t);have hg:=G6 H hfin hv;have hres':(results fn a'.tmps).run P w'= .ok (a'.eval (.tmp t)) w':=results_tmp hres _ _ _;rcases he with rfl|rfl
 ·exact⟨hd,_,hres',_,rfl,hg⟩
 ·exact⟨hd,_,hres',_,rfl,hg⟩
theorem AP{P:Program}{f:FuncId}{fn:Go.Func}{c:Code}{args:List AV}{r q:AV}{t u:Tmp}{n:Nat}(hf:P.funcs[f]? =some fn)(hb:fn.body=some c)(hE:Bw P f=true)(hres:fn.results= #[.tmp t,.tmp u])(hn:fn.ntmps=n)
 (h:∀C:Ctx,C.std→Awp P C c (Aq5 t u r q) ⟨args++List.replicate (n - args.length) (.lit undef),[]⟩):Fn P f args (.tup [r,q]):=by
 refine⟨hE,fun w S vs hS hr=>calls_of_wp hf hb ?_⟩;rw[hn];refine wp_mono ((h ⟨w,S,fun k=>k < w.heap.size,none⟩ (fun _ h=>h)).wp rfl (Em hS hr)) ?_;rintro e a' w' ⟨s,⟨he,r',q',hfin,rfl,rfl⟩,hd,S1,ψ,H,hl⟩;rw[hfin.1]at hd;have hv:AV.rel w' S1 s.h ψ (.tup [evA s.t (.tmp t),evA s.t (.tmp u)]) (.tuple #[a'.eval (.tmp t),a'.eval (.tmp u)]):=by
  unfold AV.rel;refine⟨[a'.eval (.tmp t),a'.eval (.tmp u)],rfl,?_⟩;unfold Ad;refine⟨_,_,rfl,Ba hl (.tmp t),?_⟩;unfold Ad;refine⟨_,_,rfl,Ba hl (.tmp u),?_⟩;unfold Ad;rfl
 have hg:=G6 H hfin hv;have hres':(results fn a'.tmps).run P w'= .ok (.tuple #[a'.eval (.tmp t),a'.eval (.tmp u)]) w':=results_tmp2 hres _ _ _;rcases he with rfl|rfl
 ·exact⟨hd,_,hres',_,rfl,hg⟩
 ·exact⟨hd,_,hres',_,rfl,hg⟩
theorem nS{P:Program}{C:Ctx}{h:List ABlk}{c:Code}{Q:Exit→St→Prop}{t t':List AV}(hk:Awp P C c Q ⟨t',h⟩)(ht:t=t':=by(simp only[List.length_cons,List.length_nil,Nat.reduceAdd,Nat.reduceSub,List.replicate_succ,List.replicate_zero,List.cons_append,List.nil_append];exact rfl)):Awp P C c Q ⟨t,h⟩:=by
 subst ht;exact hk
end Mu
end
section
namespace Mu
open Go Go.RowKit Go.ChangeShapes Go.WideShapes
def Enc{α:Type}(T:Ty α)(enc:α→List AV):Prop:=∀(w:World) (S:Nat→Prop) (h:List ABlk) (ψ:Nat→Value) (cs:List Value) (d:α),T.RS w S cs d→Ad w S h ψ (enc d) cs
section
variable{P:Program}{C:Ctx}{t:List AV}{h:List ABlk}{o:Oper}
variable{w:World}{S:Nat→Prop}{ψ:Nat→Value}
theorem Xw(k:IntKind):Enc (Ty.int k) fun d=>[.lit (.int k d)]:=by
 rintro w S h ψ cs d ⟨rfl,_⟩;simp[Ad,AV.rel]
theorem ZR:Enc Ty.bool fun d=>[.lit (.bool d)]:=by
 rintro w S h ψ cs d rfl;simp[Ad,AV.rel]
theorem Xv{α:Type}(T:Ty α):Enc T.slice fun l=>[.bs T l]:=by
 intro w S h ψ cs d H;obtain⟨A,c,rfl,_⟩:=id H;unfold Ad;refine⟨_,_,rfl,?_,?_⟩
 ·unfold AV.rel;exact H
 ·unfold Ad;rfl
theorem Ap{r:AV}(H:∀S ψ w (ρ:Operand→Value),HRel C h S ψ w→(∀x∈o.op.operands,AV.rel w S h ψ (evA t x) (ρ x))→∃v,(execOp ρ o).run P w= .ok (.value v) w∧AV.rel w S h ψ r v):Av P C t h o r:=by
 intro S ψ w ρ h1 h2;obtain⟨v,e,hv⟩:=H S ψ w ρ h1 h2;rw[e];exact Vm.same h1.lt hv
theorem Av.move{x:Operand}{r:AV}(ho:o.op= .move x)(hx:evA t x=r):Av P C t h o r:=
 Ap fun S ψ w ρ _ hρ=>⟨ρ x,by simp[execOp,ho],by rw[←hx];exact hρ x (by simp[ho,Op.operands])⟩
theorem Av.assign{x:Operand}{r:AV}(ho:o.op= .assign x)(hx:evA t x=r):Av P C t h o r:=
 Ap fun S ψ w ρ _ hρ=>⟨ρ x,by simp[execOp,ho],by rw[←hx];exact hρ x (by simp[ho,Op.operands])⟩
theorem Av.pick{c a b:Operand}{q:Bool}{r:AV}(ho:o.op= .pick c a b)(hc:evA t c= .lit (.bool q))(hr:(if q then evA t a else evA t b)=r):Av P C t h o r:=
 Ap fun S ψ w ρ _ hρ=>by
  have h1:=hρ c (by simp[ho,Op.operands]);have h2:=hρ a (by simp[ho,Op.operands]);have h3:=hρ b (by simp[ho,Op.operands]);rw[hc]at h1;unfold AV.rel at h1;cases q
  ·exact⟨ρ b,by simp[execOp,ho,h1,asBool],by rw[←hr];exact h3⟩
  ·exact⟨ρ a,by simp[execOp,ho,h1,asBool],by rw[←hr];exact h2⟩
theorem Av.extract{x:Operand}{j:Nat}{xs:List AV}{r:AV}(ho:o.op= .extract x j)(hx:evA t x= .tup xs)(hr:xs[j]? =some r):Av P C t h o r:=
 Ap fun S ψ w ρ _ hρ=>by
  have h1:=hρ x (by simp[ho,Op.operands]);rw[hx]at h1;unfold AV.rel at h1;obtain⟨cs,e,hl⟩:=h1;obtain⟨v,h2,h3⟩:=Bl hl hr;exact⟨v,by simp[execOp,ho,e,Instr.extract,h2],h3⟩
def IP(op:BinOp)(k:IntKind)(a b:Int):Option Value:=
 match op with
 | .add=>some (.int k (k.wrap (a+b)))
 | .sub=>some (.int k (k.wrap (a - b)))
 | .mul=>some (.int k (k.wrap (a * b)))
 | .eql=>some (.bool (a ==b))
 | .neq=>some (.bool (a !=b))
 | .lss=>some (.bool (decide (a < b)))
 | .leq=>some (.bool (decide (a≤b)))
 | .gtr=>some (.bool (decide (a > b)))
 | .geq=>some (.bool (decide (a≥b)))
 | .quo=>if b=0 then none else some (.int k (k.wrap (a.tdiv b)))
 | .rem=>if b=0 then none else some (.int k (a.tmod b))
 |_=>none
theorem B7{op:BinOp}{xt yt:TypeId}{x y:Operand}{k:IntKind}{a b:Int}{v:Value}(ho:o.op= .binOp op xt x y yt)(hx:evA t x= .lit (.int k a))(hy:evA t y= .lit (.int k b))(hv:IP op k a b=some v):Av P C t h o (.lit v):=
 Ap fun S ψ w ρ _ hρ=>by
  have h1:=hρ x (by simp[ho,Op.operands]);have h2:=hρ y (by simp[ho,Op.operands]);rw[hx]at h1;rw[hy]at h2;unfold AV.rel at h1 h2;refine⟨v,?_,by unfold AV.rel;rfl⟩;cases op <;> simp only[IP,Option.some.injEq,reduceCtorEq]at hv
  case quo=>
   split at hv <;> simp only[Option.some.injEq,reduceCtorEq]at hv
   rename_i hb;subst hv;simp[execOp,ho,h1,h2,eqGuard,binOp,Op.intDiv,hb]
  case rem=>
   split at hv <;> simp only[Option.some.injEq,reduceCtorEq]at hv
   rename_i hb;subst hv;simp[execOp,ho,h1,h2,eqGuard,binOp,Op.intDiv,hb]
  all_goals
   subst hv;simp[execOp,ho,h1,h2,eqGuard,binOp,Op.intArith,Op.intCmp]
theorem EF{xt yt:TypeId}{x y:Operand}{a b:Int}(ho:o.op= .binOp .add xt x y yt)(hx:evA t x= .lit (.int .i64 a))(hy:evA t y= .lit (.int .i64 b))(hb:-9223372036854775808≤a+b∧a+b≤9223372036854775807):Av P C t h o (.lit (.int .i64 (a+b))):=by
 have:=B7 (P:=P) (C:=C) (h:=h) ho hx hy (v:=.int .i64 (a+b)) (by simp only[IP];rw[IntWalk.i64_in _ ⟨by omega,by omega⟩]);exact this
theorem EC{xt yt:TypeId}{x y:Operand}{a b:Int}(ho:o.op= .binOp .sub xt x y yt)(hx:evA t x= .lit (.int .i64 a))(hy:evA t y= .lit (.int .i64 b))(hb:-9223372036854775808≤a - b∧a - b≤9223372036854775807):Av P C t h o (.lit (.int .i64 (a - b))):=by
 have:=B7 (P:=P) (C:=C) (h:=h) ho hx hy (v:=.int .i64 (a - b)) (by simp only[IP];rw[IntWalk.i64_in _ ⟨by omega,by omega⟩]);exact this
theorem CE{xt:TypeId}{x:Operand}{b:Bool}(ho:o.op= .unOp .not xt x)(hx:evA t x= .lit (.bool b)):Av P C t h o (.lit (.bool (!b))):=
 Ap fun S ψ w ρ _ hρ=>by
  have h1:=hρ x (by simp[ho,Op.operands]);rw[hx]at h1;unfold AV.rel at h1;exact⟨_,by simp[execOp,ho,h1,Op.unary];rfl,by unfold AV.rel;rfl⟩
def OO(P:Program)(ty:TypeId):Option (Bool×Nat):=
 match P.underlying ty,P.info? ty with
 |some (.struct _),some i=>some (true,i.size)
 |some (.array _ _),some i=>some (true,i.size)
 |some _,some i=>some (false,i.size)
 |_,_=>none
theorem Kl{b o:Nat}{cs:List Value}(w:World)(hc:∀j u,cs[j]? =some u→w.cell? ⟨b,o+j,none⟩=some u):(loadCells ⟨b,o,none⟩ cs.length).run P w= .ok cs.toArray w:=
 run_loadCells_list w _ cs fun j v hv=>by
  have:=hc j v hv;unfold Addr.add;split
  ·rename_i hz;subst hz;exact this
  ·exact this
theorem ET{ty:TypeId}{n b off:Nat}{cs:List Value}{w:World}(ha:OO P ty=some (true,n))(hn:cs.length=n)(hc:∀j u,cs[j]? =some u→w.cell? ⟨b,off+j,none⟩=some u):
 (Instr.loadAt ty (.pointer (some ⟨b,off,none⟩))).run P w= .ok (.agg cs.toArray) w:=by
 have hl:=Kl (P:=P) w hc;rw[hn]at hl;unfold OO at ha;split at ha <;> simp only[Option.some.injEq,Prod.mk.injEq,reduceCtorEq,Bool.true_eq_false,Bool.false_eq_true,false_and,true_and]at ha
 ·rename_i h1 h2;simp[Instr.loadAt,Instr.sureAddr,loadVar,isAgg,underlying,h1,Go.sizeOf,typeInfo,h2,ha,hl]
 ·rename_i h1 h2;simp[Instr.loadAt,Instr.sureAddr,loadVar,isAgg,underlying,h1,Go.sizeOf,typeInfo,h2,ha,hl]
theorem Ph{ty:TypeId}{n b off:Nat}{u:Value}{w:World}(ha:OO P ty=some (false,n))(hc:w.cell? ⟨b,off,none⟩=some u):
 (Instr.loadAt ty (.pointer (some ⟨b,off,none⟩))).run P w= .ok u w:=by
 unfold OO at ha;split at ha <;> simp only[Option.some.injEq,Prod.mk.injEq,reduceCtorEq,Bool.true_eq_false,Bool.false_eq_true,false_and,true_and]at ha
 rename_i d i hs hi h1 h2;have:(isAgg ty).run P w= .ok false w:=by
  unfold isAgg underlying;simp only[Sem.run_bind,run_program,Result.andThen_ok,h1];cases d <;> first|rfl|exact absurd rfl (hs _)|exact absurd rfl (hi _ _)
 simp[Instr.loadAt,Instr.sureAddr,loadVar,this,hc]
def Ii(h:List ABlk)(x:AV)(cells:List AV):Prop:=∀(C:Ctx) (S:Nat→Prop) (ψ:Nat→Value) (w:World) (v:Value),HRel C h S ψ w→AV.rel w S h ψ x v→
 ∃b off,v= .pointer (some ⟨b,off,none⟩)∧∀j y,cells[j]? =some y→∃u,w.cell? ⟨b,off+j,none⟩=some u∧AV.rel w S h ψ y u
def Agi(h:List ABlk)(x:AV)(n:Nat)(y:AV):Prop:=∀(C:Ctx) (S:Nat→Prop) (ψ:Nat→Value) (w:World) (v:Value),HRel C h S ψ w→AV.rel w S h ψ x v→
 ∃b off,v= .pointer (some ⟨b,off,none⟩)∧AV.rel w S h ψ y (.pointer (some ⟨b,off+n,none⟩))
theorem Ii.ptr{i off:Nat}{cells:List AV}(hi:h[i]? =some (.box cells)):Ii h (.ptr i off) (cells.drop off):=fun C S ψ w v H hv=>by
 unfold AV.rel at hv;obtain⟨g,h1,rfl⟩:=hv.2 (by rw[hi];rfl);obtain⟨g',cs,e,h2,_,_,h3,h4⟩:=H.blk i _ hi;rw[h1]at h2;cases h2;refine⟨g,off,rfl,fun j y hy=>?_⟩;rw[List.getElem?_drop]at hy;obtain⟨u,h5,h6⟩:=Bl h4 hy;exact⟨u,by simp[World.cell?,h3,h5],h6⟩
theorem Agi.ptr{i off n:Nat}{cells:List AV}(hi:h[i]? =some (.box cells)):Agi h (.ptr i off) n (.ptr i (off+n)):=fun C S ψ w v H hv=>by
 unfold AV.rel at hv⊢;obtain⟨g,h1,rfl⟩:=hv.2 (by rw[hi];rfl);exact⟨g,off,rfl,hv.1,fun _=>⟨g,h1,rfl⟩⟩
theorem Ii.bp{α:Type}{T:Ty α}{d:α}{off:Nat}{enc:α→List AV}(E:Enc T enc):Ii h (.bp T d off) ((enc d).drop off):=fun C S ψ w v H hv=>by
 unfold AV.rel at hv;obtain⟨b,o,rfl,hS,cs,hR,hc⟩:=hv;refine⟨b,o+off,rfl,fun j y hy=>?_⟩;rw[List.getElem?_drop]at hy;obtain⟨u,h5,h6⟩:=Bl (E w S h ψ cs d hR) hy;exact⟨u,by rw[Nat.add_assoc];exact hc _ _ h5,h6⟩
theorem Agi.bp{α:Type}{T:Ty α}{d:α}{off n:Nat}:Agi h (.bp T d off) n (.bp T d (off+n)):=fun C S ψ w v H hv=>by
 unfold AV.rel at hv;obtain⟨b,o,rfl,hat⟩:=hv;exact⟨b,o+off,rfl,by unfold AV.rel;exact⟨b,o,by rw[Nat.add_assoc],hat⟩⟩
theorem Ii.rp{α:Type}{T:Ty α}{i ver k off:Nat}{e:TypeId}{l:List α}{d:α}{enc:α→List AV}(hi:h[i]? =some (.row ver e T l))(hk:l[k]? =some d)(E:Enc T enc):Ii h (.rp i ver k off) ((enc d).drop off):=fun C S ψ w v H hv=>by
 unfold AV.rel at hv;obtain⟨g,n,c,h1,rfl⟩:=(hv.2 _ (by rw[hi];rfl)).2 rfl;obtain⟨cells,h2,h0,h3,_⟩:=H.blk i _ hi;rw[h1]at h2;refine⟨g,_,rfl,fun j y hy=>?_⟩;rw[List.getElem?_drop]at hy;obtain⟨u,h5,h6⟩:=Bl (E w S h ψ _ d (h3 k d hk)) hy;have hj:off+j < T.size:=by
  have:=(List.getElem?_eq_some_iff.1 h5).1;simp at this;omega
 rw[List.getElem?_take_of_lt hj,List.getElem?_drop]at h5;have hkl:k < l.length:=(List.getElem?_eq_some_iff.1 hk).1;have hlt:k * T.size+(off+j) < n * T.size:=by
  have hn:n=l.length:=by
   rcases h2.2 with⟨e1,_⟩|⟨g',cap,cur,e1,_⟩
   ·cases e1
   ·cases e1;rfl
  have:(k+1) * T.size≤n * T.size:=Nat.mul_le_mul_right _ (by omega);rw[Nat.add_mul,Nat.one_mul]at this;omega
 refine⟨u,?_,h6⟩;have hcell:=World.ownsRow.cells h2 (g:=g) rfl _ _ h5;rw[hi];show w.cell? ⟨g,k * T.size+off+j,none⟩=some u;rw[add_plain,Nat.zero_add,←Nat.add_assoc]at hcell;exact hcell
theorem C9{ty:TypeId}{x:Operand}{n:Nat}{a r:AV}{cells:List AV}(ho:o.op= .load ty x)(ha:OO P ty=some (false,n))(hx:evA t x=a)(hc:Ii h a cells)(hr:cells[0]? =some r):Av P C t h o r:=
 Ap fun S ψ w ρ H hρ=>by
  have h1:=hρ x (by simp[ho,Op.operands]);rw[hx]at h1;obtain⟨b,off,e,hj⟩:=hc C S ψ w _ H h1;obtain⟨u,h2,h3⟩:=hj 0 r hr;exact⟨u,by simp[execOp,ho,e,Ph ha (by simpa using h2)],h3⟩
theorem ED{ty:TypeId}{x:Operand}{n:Nat}{a:AV}{cells rs:List AV}(ho:o.op= .load ty x)(ha:OO P ty=some (true,n))(hx:evA t x=a)(hc:Ii h a cells)(hr:cells.take n=rs)(hn:rs.length=n):Av P C t h o (.agg rs):=
 Ap fun S ψ w ρ H hρ=>by
  have h1:=hρ x (by simp[ho,Op.operands]);rw[hx]at h1;obtain⟨b,off,e,hj⟩:=hc C S ψ w _ H h1;have key:∀m,m≤n→∃cs:List Value,cs.length=m∧Ad w S h ψ (rs.take m) cs∧∀j u,cs[j]? =some u→w.cell? ⟨b,off+j,none⟩=some u:=by
   intro m;induction m with
   |zero=>exact fun _=>⟨[],rfl,by simp[Ad],by simp⟩
   |succ m ih=>
    intro hm;obtain⟨cs,hl,hr1,hr2⟩:=ih (by omega);have hy:rs[m]? =some (rs[m]'(by omega)):=List.getElem?_eq_getElem (by omega);have hy0:rs[m]? =cells[m]?:=by rw[←hr,List.getElem?_take_of_lt (by omega)]
    have hy':cells[m]? =some (rs[m]'(by omega)):=hy0.symm.trans hy;obtain⟨u,h2,h3⟩:=hj m _ hy';refine⟨cs++[u],by simp[hl],?_,fun j v hv=>?_⟩
    ·rw[List.take_succ_eq_append_getElem (by omega)];refine BK hr1 ?_;unfold Ad;refine⟨u,[],rfl,h3,?_⟩;unfold Ad;rfl
    ·by_cases hjm:j < m
     ·exact hr2 j v (by rwa [List.getElem?_append_left (by omega)]at hv)
     ·have:j=m:=by
       have:=(List.getElem?_eq_some_iff.1 hv).1;simp[hl]at this;omega
      subst this;rw[List.getElem?_append_right (by omega),hl]at hv;simp at hv;subst hv;exact h2
  obtain⟨cs,hl,hr1,hr2⟩:=key n (Nat.le_refl _);rw[List.take_of_length_le (by omega)]at hr1;refine⟨.agg cs.toArray,by simp[execOp,ho,e,ET ha hl hr2],?_⟩;unfold AV.rel;exact⟨cs,rfl,hr1⟩
def KM(P:Program)(st:TypeId)(j:Nat):Option Nat:=
 match P.underlying st with
 |some (.struct fs)=>
  match fs[j]? with
  |some f=>match P.info? f.type with
   |some i=>if i.size=0 then none else some f.offset
   |none=>none
  |none=>none
 |_=>none
theorem Le{st:TypeId}{j n b off:Nat}{w:World}(hf:KM P st j=some n):(Instr.fieldAt st (.pointer (some ⟨b,off,none⟩)) j).run P w= .ok (.pointer (some ⟨b,off+n,none⟩)) w:=by
 unfold KM at hf;split at hf <;> try(cases hf;done)
 rename_i fs h1;split at hf <;> try(cases hf;done)
 rename_i f h2;split at hf <;> try(cases hf;done)
 rename_i i h3;split at hf <;> try(cases hf;done)
 rename_i h4;cases hf;simp[Instr.fieldAt,underlying,h1,h2,Instr.sureAddr,fieldPlace,Go.sizeOf,typeInfo,h3,h4,add_plain]
theorem Av.fieldAddr{st:TypeId}{x:Operand}{j n:Nat}{a r:AV}(ho:o.op= .fieldAddr st x j)(hf:KM P st j=some n)(hx:evA t x=a)(hs:Agi h a n r):Av P C t h o r:=
 Ap fun S ψ w ρ H hρ=>by
  have h1:=hρ x (by simp[ho,Op.operands]);rw[hx]at h1;obtain⟨b,off,e,hr⟩:=hs C S ψ w _ H h1;exact⟨_,by simp[execOp,ho,e,Le hf],hr⟩
def LQ(P:Program)(ty:TypeId):Option Nat:=
 match P.underlying ty with
 |some (.slice e)=>(P.info? e).map (·.size)
 |_=>none
theorem E4{ty:TypeId}{sz b off n c k:Nat}{ik:IntKind}{w:World}(hs:LQ P ty=some sz)(hk:k < n):(Instr.indexAt ty (.slice (some ⟨b,off,none⟩) n c) (.int ik (k:Int))).run P w= .ok (.pointer (some ⟨b,off+k * sz,none⟩)) w:=by
 unfold LQ at hs;split at hs <;> try(cases hs;done)
 rename_i e h1;cases h2:P.info? e with
 |none=>rw[h2]at hs;cases hs
 |some i=>
  rw[h2]at hs;simp only[Option.map_some,Option.some.injEq]at hs;have h3:(0:Int)≤(k:Int)∧(k:Int) < (n:Int):=by omega
  simp[Instr.indexAt,asIntOf,underlying,h1,Go.sizeOf,typeInfo,h2,hs,add_plain,hk]
theorem Hw{ty:TypeId}{x y:Operand}{ik:IntKind}{n:Int}{α:Type}{T:Ty α}{l:List α}{d:α}(ho:o.op= .indexAddr ty x y)(hs:LQ P ty=some T.size)(hx:evA t x= .bs T l)(hy:evA t y= .lit (.int ik n))(h0:0≤n)(hd:l[n.toNat]? =some d):
 Av P C t h o (.bp T d 0):=
 Ap fun S ψ w ρ H hρ=>by
  have h1:=hρ x (by simp[ho,Op.operands]);have h2:=hρ y (by simp[ho,Op.operands]);rw[hx]at h1;rw[hy]at h2;unfold AV.rel at h1 h2;obtain⟨A,c,e,hc,-,hi⟩:=h1;obtain⟨b,off,rfl,hat⟩:=hi _ _ hd;have hk:n.toNat < l.length:=(List.getElem?_eq_some_iff.1 hd).1;have hn:n=(n.toNat:Int):=by omega
  simp only[List.cons.injEq,and_true]at e;have hr:=E4 (P:=P) (w:=w) (b:=b) (off:=off) (c:=c) (ik:=ik) hs hk;rw[←hn]at hr;refine⟨_,by simp[execOp,ho,e,h2,hr];rfl,?_⟩;unfold AV.rel;exact⟨b,_,rfl,hat⟩
theorem GQ{ty:TypeId}{x y:Operand}{ik:IntKind}{n:Int}{i ver:Nat}{e:TypeId}{α:Type}{T:Ty α}{l:List α}(ho:o.op= .indexAddr ty x y)(hx:evA t x= .own i ver)(hi:h[i]? =some (.row ver e T l))(hs:LQ P ty=some T.size)
 (hy:evA t y= .lit (.int ik n)) (h0:0≤n) (hk:n.toNat < l.length):Av P C t h o (.rp i ver n.toNat 0):=
 Ap fun S ψ w ρ H hρ=>by
  have h1:=hρ x (by simp[ho,Op.operands]);have h2:=hρ y (by simp[ho,Op.operands]);rw[hx]at h1;rw[hy]at h2;unfold AV.rel at h1 h2;have h3:=(h1.2 _ (by rw[hi];rfl)).2 rfl;obtain⟨cells,hown,h0',-,-⟩:=H.blk i _ hi;rcases hown.2 with⟨e1,e2⟩|⟨g,cap,cur,e1,-⟩
  ·omega
  ·have hn:n=(n.toNat:Int):=by omega
   have hr:=E4 (P:=P) (w:=w) (b:=g) (off:=0) (n:=l.length) (c:=cap) (ik:=ik) hs hk;rw[←hn]at hr;rw[e1]at h3;refine⟨_,by simp[execOp,ho,h3,h2,hr];rfl,?_⟩;unfold AV.rel;refine⟨h1.1,fun c' hc'=>⟨(h1.2 c' hc').1,fun _=>⟨g,l.length,cap,e1,?_⟩⟩⟩;rw[hi];show _=Value.pointer (some ⟨g,n.toNat * T.size+0,none⟩);simp
def GH(P:Program)(ty:TypeId):Bool:=
 match P.underlying ty with
 |some (.slice _)=>true
 |_=>false
theorem NO{ty ty':TypeId}{a:Option Addr}{n c:Nat}{w:World}(hs:GH P ty=true):(Builtin.len_ #[ty] ty' #[.slice a n c]).run P w= .ok (.int .i64 (n:Int)) w:=by
 unfold GH at hs;split at hs <;> try(cases hs;done)
 rename_i e h1;simp[Builtin.len_,underlying,h1,goInt]
theorem Qv{ty:TypeId}{x:Operand}{α:Type}{T:Ty α}{l:List α}(ho:o.op= .call {callee:=.builtin .len,args:=#[x],argTypes:=#[ty]})(hs:GH P ty=true)(hx:evA t x= .bs T l):Av P C t h o (.lit (.int .i64 (l.length:Int))):=
 Ap fun S ψ w ρ H hρ=>by
  have h1:=hρ x (by simp[ho,Op.operands,Call.operands]);rw[hx]at h1;unfold AV.rel at h1;obtain⟨A,c,e,-⟩:=h1;simp only[List.cons.injEq,and_true]at e;refine⟨_,by simp[execOp,ho,resolve,invoke,builtin,e,NO hs];rfl,?_⟩;unfold AV.rel;rfl
theorem Oz{ty:TypeId}{x:Operand}{i ver:Nat}{e:TypeId}{α:Type}{T:Ty α}{l:List α}(ho:o.op= .call {callee:=.builtin .len,args:=#[x],argTypes:=#[ty]})(hx:evA t x= .own i ver)(hi:h[i]? =some (.row ver e T l))(hs:GH P ty=true):Av P C t h o (.lit (.int .i64 (l.length:Int))):=
 Ap fun S ψ w ρ H hρ=>by
  have h1:=hρ x (by simp[ho,Op.operands,Call.operands]);rw[hx]at h1;unfold AV.rel at h1;have h3:=(h1.2 _ (by rw[hi];rfl)).2 rfl;obtain⟨cells,hown,h0',-,-⟩:=H.blk i _ hi;rcases hown.2 with⟨e1,e2⟩|⟨g,cap,cur,e1,-⟩
  ·rw[e1]at h3;refine⟨_,by simp[execOp,ho,resolve,invoke,builtin,h3,NO hs];rfl,?_⟩;unfold AV.rel;rw[e2];rfl
  ·rw[e1]at h3;refine⟨_,by simp[execOp,ho,resolve,invoke,builtin,h3,NO hs];rfl,?_⟩;unfold AV.rel;rfl
theorem OA{ty:TypeId}{x:Operand}{a:Option Addr}{n c:Nat}(ho:o.op= .call {callee:=.builtin .len,args:=#[x],argTypes:=#[ty]})(hx:evA t x= .lit (.slice a n c))(hs:GH P ty=true):Av P C t h o (.lit (.int .i64 (n:Int))):=
 Ap fun S ψ w ρ H hρ=>by
  have h1:=hρ x (by simp[ho,Op.operands,Call.operands]);rw[hx]at h1;unfold AV.rel at h1;refine⟨_,by simp[execOp,ho,resolve,invoke,builtin,h1,NO hs];rfl,?_⟩;unfold AV.rel;rfl
theorem Av.max2{tys:Array TypeId}{x y:Operand}{k:IntKind}{a b:Int}(ho:o.op= .call {callee:=.builtin .max,args:=#[x,y],argTypes:=tys})(hx:evA t x= .lit (.int k a))(hy:evA t y= .lit (.int k b)):Av P C t h o (.lit (.int k (if b > a then b else a))):=
 Ap fun S ψ w ρ H hρ=>by
  have h1:=hρ x (by simp[ho,Op.operands,Call.operands]);have h2:=hρ y (by simp[ho,Op.operands,Call.operands]);rw[hx]at h1;rw[hy]at h2;unfold AV.rel at h1 h2;refine⟨_,by simp[execOp,ho,resolve,invoke,builtin,h1,h2,Builtin.max_,Builtin.max2];rfl,?_⟩;unfold AV.rel;rfl
theorem Av.min2{tys:Array TypeId}{x y:Operand}{k:IntKind}{a b:Int}(ho:o.op= .call {callee:=.builtin .min,args:=#[x,y],argTypes:=tys})(hx:evA t x= .lit (.int k a))(hy:evA t y= .lit (.int k b)):Av P C t h o (.lit (.int k (if b < a then b else a))):=
 Ap fun S ψ w ρ H hρ=>by
  have h1:=hρ x (by simp[ho,Op.operands,Call.operands]);have h2:=hρ y (by simp[ho,Op.operands,Call.operands]);rw[hx]at h1;rw[hy]at h2;unfold AV.rel at h1 h2;refine⟨_,by simp[execOp,ho,resolve,invoke,builtin,h1,h2,Builtin.min_,Builtin.min2];rfl,?_⟩;unfold AV.rel;rfl
end
end Mu
end
section
namespace Mu
open Go Go.RowKit
theorem UT{cells cs:List Value}{m i sz:Nat}(hl:cells.length=m * sz)(hi:i < m):((cells++cs).drop (i * sz)).take sz=(cells.drop (i * sz)).take sz:=by
 have h1:(i+1) * sz≤m * sz:=Nat.mul_le_mul (by omega) (Nat.le_refl _);rw[Nat.succ_mul]at h1;rw[List.drop_append_of_le_length (by omega),List.take_append_of_le_length (by rw[List.length_drop];omega)]
theorem UU{cells cs:List Value}{m sz:Nat}(hl:cells.length=m * sz)(hc:cs.length=sz):((cells++cs).drop (m * sz)).take sz=cs:=by
 rw[←hl,List.drop_left,←hc,List.take_length]
theorem Rb{α:Type}{T:Ty α}{w:World}{S:Nat→Prop}{A:Option Addr}{n c:Nat}{ds:List α}(h:T.slice.RS w S [.slice A n c] ds)(h1:∀cs d,T.RS w S cs d→∀u∈cs,u.oneCell'=true):
 ∃cells:List Value,cells.length=n * T.size∧(∀b o,A=some ⟨b,o,none⟩→∀j u,cells[j]? =some u→w.cell? ⟨b,o+j,none⟩=some u)∧
  (∀i d,ds[i]? =some d→T.RS w S ((cells.drop (i * T.size)).take T.size) d)∧∀u∈cells,u.oneCell'=true:=by
 obtain⟨hn,_,_⟩:=O6 h;have key:∀m,m≤ds.length→∃cells:List Value,cells.length=m * T.size∧(∀b o,A=some ⟨b,o,none⟩→∀j u,cells[j]? =some u→w.cell? ⟨b,o+j,none⟩=some u)∧
  (∀i d,i < m→ds[i]? =some d→T.RS w S ((cells.drop (i * T.size)).take T.size) d)∧∀u∈cells,u.oneCell'=true:=by
  intro m;induction m with
  |zero=>intro _;exact⟨[],by simp,by simp,by simp,by simp⟩
  |succ m ih=>
   intro hm;obtain⟨cells,hl,hc,hr,ho⟩:=ih (by omega);have hd:ds[m]? =some ds[m]:=List.getElem?_eq_getElem (by omega);obtain⟨b,o,rfl,_,cs,hR,hC⟩:=GV h hd;have hcs:=T.len hR;refine⟨cells++cs,by rw[List.length_append,hl,hcs,Nat.succ_mul],?_,?_,?_⟩
   ·intro b' o' e j u hu;cases e;rw[List.getElem?_append]at hu;by_cases hj:j < cells.length
    ·rw[if_pos hj]at hu;exact hc b o rfl j u hu
    ·rw[if_neg hj]at hu;have:=hC _ u hu;rw[show o+m * T.size+(j - cells.length)=o+j from by omega]at this;exact this
   ·intro i d hi hdi;by_cases e:i=m
    ·subst e;rw[hd]at hdi;cases hdi;rw[UU hl hcs];exact hR
    ·rw[UT hl (by omega)];exact hr i d (by omega) hdi
   ·intro u hu;rcases List.mem_append.1 hu with hu|hu
    ·exact ho u hu
    ·exact h1 _ _ hR u hu
 obtain⟨cells,hl,hc,hr,ho⟩:=key ds.length (Nat.le_refl _);exact⟨cells,by rw[hn];exact hl,hc,fun i d hd=>hr i d (List.getElem?_eq_some_iff.1 hd).1 hd,ho⟩
structure Src(w:World)(size:Nat)(A:Option Addr)(m:Nat)(news:List Value):Prop where
 len:news.length=m * size
 cells:∀j u,news[j]? =some u→∃ad,A=some ad∧w.cell? (ad.add j)=some u
theorem Acz{w:World}{B:Nat}{cs:Array Value}{t:TypeId}{fr:Nat×Nat}{size m:Nat}(h:w.heap[B]? =some (.cells cs t fr))(hl:cs.size=m * size):Src w size (some ⟨B,0,none⟩) m cs.toList:=
 ⟨by simpa using hl,fun j u hu=>⟨_,rfl,World.news_of_block h j u hu⟩⟩
section
variable{P:Program}{w:World}
theorem KA{base:Nat}{t ty e:TypeId}{i:TypeInfo}{z:Value}{size bytes:Nat}(ht:P.underlying t=some (.slice e))(hi:P.info? e=some i)(hz:i.zero=some z)
 (hsize:i.size=size) (hby:i.bytes=bytes) (hzs:z.cells.size=size) (hsz:0 < size)
 {v:Value} {n:Nat} {xs:List Value} (hown:w.ownsRow base e size v n xs) {A:Option Addr} {m c:Nat} {news:List Value} (hs:Src w size A m news) (h1:∀u∈news,u.oneCell'=true)
 (h63:n+m≤maxLen) (hbytes:(n+m) * bytes≤140737488355328) (hbase:base≤w.heap.size):
 ∃v' w',(Builtin.append_ #[t,t] ty #[v,.slice A m c]).run P w= .ok v' w'∧w'.ownsRow base e size v' (n+m) (xs++news)∧w.grownBy w' v.ownBlock∧(v'.ownBlock=v.ownBlock∨v'.ownBlock=some w.heap.size):=by
 have key:∀c,(Builtin.append_ #[t,t] ty #[v,.slice none 0 c]).run P w= .ok v w:=by
  intro c;rcases hown.2 with⟨rfl,rfl⟩|⟨g,cap,cur,rfl,_,_,hnc,_⟩
  ·simp[Builtin.append_,run_underlying ht,Go.sizeOf,typeInfo,hi,Builtin.lenOf,Builtin.firstCells]
  ·simp[Builtin.append_,run_underlying ht,Go.sizeOf,typeInfo,hi,Builtin.lenOf,Builtin.firstCells,hnc,storeCells]
 rcases A with _|ad
 ·have hn:news= []:=by
   rcases news with _|⟨u,l⟩
   ·rfl
   ·obtain⟨ad,e,_⟩:=hs.cells 0 u rfl;cases e
  subst hn;have hm:m=0:=by
   have:=hs.len;rcases Nat.eq_zero_or_pos m with h|h
   ·exact h
   ·have:=Nat.mul_pos h hsz;simp at *;omega
  subst hm;exact⟨v,w,key c,by simpa using hown,World.grownBy.refl w _,.inl rfl⟩
 ·obtain⟨v',w',hr,h2,h3,_,h5⟩:=run_append_own_at (P:=P) w base t ty e i z size bytes ht hi hz hsize hby hzs hsz v n xs hown ad m c news hs.len
   (fun j u hu=>by obtain⟨ad',e',hc⟩:=hs.cells j u hu;cases e';exact hc) h1 h63 hbytes hbase
  exact⟨v',w',hr,h2,h3,h5⟩
theorem VD{o:Oper}{a:Act}{K:Act→World→Prop}{Q:Exit→Act→World→Prop}(s x:Operand)(t:TypeId)
 (ho:o.op= .call {callee:=.builtin .append,args:=#[s,x],argTypes:=#[t,t]}) (base:Nat) (e:TypeId) (i:TypeInfo) (z:Value) (size bytes:Nat)
 (ht:P.underlying t=some (.slice e)) (hi:P.info? e=some i) (hz:i.zero=some z) (hsize:i.size=size) (hby:i.bytes=bytes) (hzs:z.cells.size=size) (hsz:0 < size)
 {v:Value} {n:Nat} {xs:List Value} (hs:a.eval s=v) (hown:w.ownsRow base e size v n xs) {A:Option Addr} {m c:Nat} {news:List Value} (hx:a.eval x= .slice A m c)
 (hr:Src w size A m news) (h1:∀u∈news,u.oneCell'=true) (h63:n+m≤maxLen) (hbytes:(n+m) * bytes≤140737488355328) (hbase:base≤w.heap.size)
 (h:∀v' w',w'.ownsRow base e size v' (n+m) (xs++news)→w.grownBy w' v.ownBlock→(v'.ownBlock=v.ownBlock∨v'.ownBlock=some w.heap.size)→K (a.put o.dst v') w'):o.wp P a w K Q:=by
 obtain⟨v',w',hrun,h2,h3,h4⟩:=KA (P:=P) (ty:=o.type) (c:=c) ht hi hz hsize hby hzs hsz hown hr h1 h63 hbytes hbase;unfold Oper.wp execOp;simp only[ho,resolve,invoke,builtin,Sem.run_bind,Sem.run_pure,Result.andThen_ok,List.map_toArray,List.map_cons,List.map_nil,hs,hx,hrun];exact h v' w' h2 h3 h4
theorem WU{ops:Array Oper}{rest:List Oper}{o:Oper}{a:Act}{Q:Exit→Act→World→Prop}(hgd:o.guard=none)(s x:Operand)(t:TypeId)
 (ho:o.op= .call {callee:=.builtin .append,args:=#[s,x],argTypes:=#[t,t]}) (base:Nat) (e:TypeId) (i:TypeInfo) (z:Value) (size bytes:Nat)
 (ht:P.underlying t=some (.slice e)) (hi:P.info? e=some i) (hz:i.zero=some z) (hsize:i.size=size) (hby:i.bytes=bytes) (hzs:z.cells.size=size) (hsz:0 < size)
 {v:Value} {n:Nat} {xs:List Value} (hs:a.eval s=v) (hown:w.ownsRow base e size v n xs) {A:Option Addr} {m c:Nat} {news:List Value} (hx:a.eval x= .slice A m c)
 (hr:Src w size A m news) (h1:∀u∈news,u.oneCell'=true) (h63:n+m≤maxLen) (hbytes:(n+m) * bytes≤140737488355328) (hbase:base≤w.heap.size)
 (h:∀v' w',w'.ownsRow base e size v' (n+m) (xs++news)→w.grownBy w' v.ownBlock→(v'.ownBlock=v.ownBlock∨v'.ownBlock=some w.heap.size)→wpList P ops Q rest (a.put o.dst v') w'):wpList P ops Q (o::rest) a w:=
 wpList_plain hgd fun _ hK=>VD s x t ho base e i z size bytes ht hi hz hsize hby hzs hsz hs hown hx hr h1 h63 hbytes hbase fun v' w' h2 h3 h4=>hK _ _ (h v' w' h2 h3 h4)
end
theorem NQ{w:World}{base sz n g:Nat}{e:TypeId}{cs:List Value}(hg:w.heap[g]? =some (.cells cs.toArray e (0,0)))(hb:base≤g)(hn:cs.length=n * sz)(hm:n≤maxLen):
 w.ownsRow base e sz (.slice (some ⟨g,0,none⟩) n n) n cs:=
 ⟨by simpa using hn,.inr ⟨_,n,_,rfl,hb,hg,Nat.le_refl _,hm,by simp[hn],by simp[←hn]⟩⟩
theorem XV{w:World}{B:Nat}{c:Array Value}{t:TypeId}{fr:Nat×Nat}(h:w.heap[B]? =some (.cells c t fr))(o:Obj):(w.alloc o).heap[B]? =some (.cells c t fr):=
 (Below.heap_alloc w o B (by rcases Nat.lt_or_ge B w.heap.size with hl|hg;exact hl;rw[Array.getElem?_eq_none hg]at h;cases h)).trans h
theorem Om{w:World}{B j:Nat}{cs:List Value}{t:TypeId}{fr:Nat×Nat}{v:Value}(h:w.heap[B]? =some (.cells cs.toArray t fr))(hv:cs[j]? =some v):w.cell? ⟨B,j,none⟩=some v:=by
 rw[cell_of_row w B j cs.toArray t fr h];simpa using hv
theorem Gp{α:Type}{T:Ty α}{w:World}{S:Nat→Prop}{A:Option Addr}{n c:Nat}{ds:List α}(h:T.slice.RS w S [.slice A n c] ds)(h1:∀cs d,T.RS w S cs d→∀u∈cs,u.oneCell'=true):
 ∃cells:List Value,cells.length=n * T.size∧(∀w':World,(∀k,S k→w'.heap[k]? =w.heap[k]?)→Src w' T.size A n cells)∧(∀i d,ds[i]? =some d→T.RS w S ((cells.drop (i * T.size)).take T.size) d)∧∀u∈cells,u.oneCell'=true:=by
 obtain⟨cells,hl,hc,hr,ho⟩:=Rb h h1;refine⟨cells,hl,fun w' hk=>⟨hl,fun j u hu=>?_⟩,hr,ho⟩;have hj:j < n * T.size:=by
  rw[←hl];exact(List.getElem?_eq_some_iff.1 hu).1
 have hn:0 < ds.length:=by
  rw[←(O6 h).1];rcases Nat.eq_zero_or_pos n with e|e
  ·rw[e]at hj;simp at hj
  ·exact e
 obtain⟨b,o,rfl,hS,_⟩:=GV h (List.getElem?_eq_getElem hn);refine⟨_,rfl,?_⟩;rw[Go.WideShapes.add_plain];exact(World.cell?_of_block (w:=w) (a:=⟨b,o+j,none⟩) (hk b hS)).trans (hc b o rfl j u hu)
section
variable{g:Nat}{w w1 w2:World}
end
end Mu
end
section
namespace Mu
open Go Go.RowKit Go.ChangeShapes Go.WideShapes
section
variable{C:Ctx}{h:List ABlk}{S:Nat→Prop}{ψ:Nat→Value}{w w':World}
def Bk(ψ:Nat→Value)(i:Nat)(v:Value):Nat→Value:=fun j=>if j=i then v else ψ j
theorem Bi{ψ:Nat→Value}{i:Nat}{v:Value}:Bk ψ i v i=v:=if_pos rfl
theorem BH{ψ:Nat→Value}{i j:Nat}{v:Value}(hne:j≠i):Bk ψ i v j=ψ j:=if_neg hne
theorem DM{h:List ABlk}{i:Nat}(hl:ABlk.live h[i]? =true):∃b,h[i]? =some b:=by
 cases hb:h[i]? with
 |none=>rw[hb]at hl;simp[ABlk.live]at hl
 |some b=>exact⟨b,rfl⟩
theorem Ext.push(b:ABlk)(v:Value)(hb:∀k,S k→w'.heap[k]? =w.heap[k]?):Ext w S h ψ w' S (h++[b]) (Bk ψ h.length v):=by
 refine⟨hb,fun _ h=>h,by simp,fun i c' hi hv=>?_,fun i hi hv=>?_⟩
 ·rw[List.getElem?_append_left hi]at hv;refine⟨c',hv,Nat.le_refl _,fun _=>⟨BH (by omega),?_⟩⟩;rw[List.getElem?_append_left hi]
 ·rw[List.getElem?_append_left hi]at hv;exact⟨hv,BH (by omega)⟩
theorem HRel.push{b:ABlk}{v:Value}(H:HRel C h S ψ w)(hb:Below w.heap.size w w')(hB:Ho C.N w' S (h++[b]) (Bk ψ h.length v) v b)(hn:∀g,ftp (some b) v g→w.heap.size≤g):
 HRel C (h++[b]) S (Bk ψ h.length v) w':=by
 have X:Ext w S h ψ w' S (h++[b]) (Bk ψ h.length v):=Ext.push b v fun k hk=>hb.block k (H.lt k hk)
 have hold:∀i c,i < h.length→(h++[b])[i]? =some c→h[i]? =some c:=fun i c hi hc=>by rwa [List.getElem?_append_left hi]at hc
 have hlt:∀i,i < h.length→ABlk.live h[i]? =true→∀g,ftp h[i]? (ψ i) g→g < w.heap.size:=fun i hi hl g hg=>by
  obtain⟨c,hc⟩:=DM hl;rw[hc]at hg;exact((H.blk i c hc).lt (by rw[←hc];exact hl) g hg).2.1
 refine⟨H.bel.trans (Mk hb fun k hk=>Nat.lt_of_lt_of_le (H.nlt k hk) H.bel.size),H.nlt,fun k hk=>Nat.lt_of_lt_of_le (H.lt k hk) hb.size,H.sub,H.new,fun i c hc=>?_,fun i j hij hi hj g hg hg'=>?_⟩
 ·by_cases hi:i < h.length
  ·have hc':=hold i c hi hc;rw[BH (by omega)];by_cases hlv:ABlk.live (some c)=true
   ·exact(H.blk i c hc').keep X fun g hg=>⟨hb.block g ((H.blk i c hc').lt hlv g hg).2.1,fun h=>h⟩
   ·cases c <;> simp[ABlk.live]at hlv
    trivial
  ·have hi':i=h.length:=by
    have:=(List.getElem?_eq_some_iff.1 hc).1;simp at this;omega
   subst hi';simp at hc;subst hc;rw[Bi];exact hB
 ·have hil:i < h.length+1:=by
   obtain⟨c,hc⟩:=DM hi;have:=(List.getElem?_eq_some_iff.1 hc).1;simpa using this
  have hjl:j < h.length+1:=by
   obtain⟨c,hc⟩:=DM hj;have:=(List.getElem?_eq_some_iff.1 hc).1;simpa using this
  by_cases h1:i < h.length
  ·rw[BH (by omega),List.getElem?_append_left h1]at hg;rw[List.getElem?_append_left h1]at hi;by_cases h2:j < h.length
   ·rw[BH (by omega),List.getElem?_append_left h2]at hg';rw[List.getElem?_append_left h2]at hj;exact H.dis i j hij hi hj g hg hg'
   ·have:j=h.length:=by omega
    subst this;rw[Bi,List.getElem?_concat_length]at hg';have:=hlt i h1 hi g hg;have:=hn g hg';omega
  ·have:i=h.length:=by omega
   subst this;rw[Bi,List.getElem?_concat_length]at hg;have h2:j < h.length:=by omega
   rw[BH (by omega),List.getElem?_append_left h2]at hg';rw[List.getElem?_append_left h2]at hj;have:=hlt j h2 hj g hg';have:=hn g hg;omega
theorem Ext.set{i:Nat}{b b':ABlk}{v':Value}(hb:∀k,S k→w'.heap[k]? =w.heap[k]?)(hi:h[i]? =some b)
 (hv:∀c',ABlk.ver (some b')=some c'→∃c,ABlk.ver (some b)=some c∧c≤c'∧(c=c'→v'=ψ i∧EI (some b')=EI (some b)))
 (hx:AN (some b')=true→AN (some b)=true∧v'=ψ i):Ext w S h ψ w' S (h.set i b') (Bk ψ i v'):=by
 have hil:=(List.getElem?_eq_some_iff.1 hi).1;refine⟨hb,fun _ h=>h,by simp,fun j c' hj hc=>?_,fun j hj hc=>?_⟩
 ·by_cases hji:j=i
  ·subst hji;rw[List.getElem?_set_self hil]at hc⊢;obtain⟨c,h1,h2,h3⟩:=hv c' hc;rw[hi];exact⟨c,h1,h2,fun e=>⟨by rw[Bi];exact(h3 e).1,(h3 e).2⟩⟩
  ·rw[List.getElem?_set_ne (Ne.symm hji)]at hc⊢;exact⟨c',hc,Nat.le_refl _,fun _=>⟨BH hji,rfl⟩⟩
 ·by_cases hji:j=i
  ·subst hji;rw[List.getElem?_set_self hil]at hc;rw[hi,Bi];exact hx hc
  ·rw[List.getElem?_set_ne (Ne.symm hji)]at hc;exact⟨hc,BH hji⟩
structure Gr(F:Nat→Prop)(w w':World):Prop where
 os:w'.os=w.os
 tape:w'.tape=w.tape
 output:w'.output=w.output
 size:w.heap.size≤w'.heap.size
 block:∀k,k < w.heap.size→¬F k→w'.heap[k]? =w.heap[k]?
theorem BC{w w':World}{o:Option Nat}(h:w.grownBy w' o):Gr (fun g=>o=some g) w w':=⟨h.os,h.tape,h.output,h.size,fun k hk hn=>h.block k hk fun e=>hn e.symm⟩
theorem HRel.set{i:Nat}{b b':ABlk}{v':Value}(H:HRel C h S ψ w)(hi:h[i]? =some b)(hlive:ABlk.live (some b)=true)(hg:Gr (ftp (some b) (ψ i)) w w')(X:Ext w S h ψ w' S (h.set i b') (Bk ψ i v'))
 (hB:Ho C.N w' S (h.set i b') (Bk ψ i v') v' b') (hn:∀g,ftp (some b') v' g→ftp (some b) (ψ i) g∨w.heap.size≤g):HRel C (h.set i b') S (Bk ψ i v') w':=by
 have hil:=(List.getElem?_eq_some_iff.1 hi).1;have hbi:=(H.blk i b hi).lt hlive;refine⟨H.bel.trans ⟨hg.os,hg.tape,hg.output,hg.size,fun k hk=>hg.block k (Nat.lt_of_lt_of_le (H.nlt k hk) H.bel.size) fun e=>(hbi k e).1 hk⟩,H.nlt,fun k hk=>Nat.lt_of_lt_of_le (H.lt k hk) hg.size,H.sub,H.new,fun j c hc=>?_,fun j k hjk hj hk g hgj hgk=>?_⟩
 ·by_cases hji:j=i
  ·subst hji;rw[List.getElem?_set_self hil]at hc;cases hc;rw[Bi];exact hB
  ·rw[List.getElem?_set_ne (Ne.symm hji)]at hc;rw[BH hji];by_cases hlv:ABlk.live (some c)=true
   ·refine(H.blk j c hc).keep X fun g hgg=>⟨hg.block g ((H.blk j c hc).lt hlv g hgg).2.1 fun e=>?_,fun h=>h⟩
    exact H.dis j i hji (by rw[hc];exact hlv) (by rw[hi];exact hlive) g (by rw[hc];exact hgg) (by rw[hi];exact e)
   ·cases c <;> simp[ABlk.live]at hlv
    trivial
 ·have key:∀j k,j≠i→k=i→ABlk.live (h.set i b')[j]? =true→ftp (h.set i b')[j]? (Bk ψ i v' j) g→ftp (h.set i b')[k]? (Bk ψ i v' k) g→False:=by
   intro j k hji hki hj hgj hgk;subst hki;rw[BH hji,List.getElem?_set_ne (Ne.symm hji)]at hgj;rw[Bi,List.getElem?_set_self hil]at hgk;rw[List.getElem?_set_ne (Ne.symm hji)]at hj;rcases hn g hgk with h1|h1
   ·exact H.dis j k hji hj (by rw[hi];exact hlive) g hgj (by rw[hi];exact h1)
   ·obtain⟨c,hc⟩:=DM hj;rw[hc]at hgj;have:=((H.blk j c hc).lt (by rw[←hc];exact hj) g hgj).2.1;omega
  by_cases hji:j=i
  ·exact key k j (by omega) hji hk hgk hgj
  ·by_cases hki:k=i
   ·exact key j k hji hki hj hgj hgk
   ·rw[BH hji,List.getElem?_set_ne (Ne.symm hji)]at hgj;rw[BH hki,List.getElem?_set_ne (Ne.symm hki)]at hgk;rw[List.getElem?_set_ne (Ne.symm hji)]at hj;rw[List.getElem?_set_ne (Ne.symm hki)]at hk;exact H.dis j k hjk hj hk g hgj hgk
end
section
variable{P:Program}{C:Ctx}{s:St}{o:Oper}{K:St→Prop}
def OC(h:List ABlk)(x:AV)(cells:List AV):Prop:=∀(C:Ctx) (S:Nat→Prop) (ψ:Nat→Value) (w:World) (v:Value),HRel C h S ψ w→AV.rel w S h ψ x v→
 Ad w S h ψ cells v.cells.toList∧∀u∈v.cells.toList,u.oneCell'=true
def One(h:List ABlk)(x:AV):Prop:=∀(C:Ctx) (S:Nat→Prop) (ψ:Nat→Value) (w:World) (v:Value),HRel C h S ψ w→AV.rel w S h ψ x v→v.oneCell'=true
theorem CM{v:Value}(hv:v.oneCell'=true):v.cells= #[v]:=by cases v <;> simp[Value.cells,Value.oneCell']at hv⊢
theorem One.lit{h:List ABlk}{v:Value}(hv:v.oneCell'=true):One h (.lit v):=fun C S ψ w u H hu=>by unfold AV.rel at hu;rw[hu];exact hv
theorem One.bs{h:List ABlk}{α:Type}{T:Ty α}{l:List α}:One h (.bs T l):=fun C S ψ w u H hu=>by
 unfold AV.rel at hu;obtain⟨A,c,e,_⟩:=hu;simp only[List.cons.injEq,and_true]at e;rw[e];rfl
theorem OC.one{h:List ABlk}{x:AV}(hx:One h x):OC h x [x]:=fun C S ψ w v H hv=>by
 have h1:=hx C S ψ w v H hv;rw[CM h1];refine⟨?_,fun u hu=>?_⟩
 ·unfold Ad;refine⟨v,[],rfl,hv,?_⟩;unfold Ad;rfl
 ·simp at hu;subst hu;exact h1
theorem OC.agg{h:List ABlk}{l:List AV}(hx:∀x∈l,One h x):OC h (.agg l) l:=fun C S ψ w v H hv=>by
 unfold AV.rel at hv;obtain⟨cs,rfl,hl⟩:=hv;refine⟨hl,fun u hu=>?_⟩;obtain⟨j,hj⟩:=List.mem_iff_getElem?.1 hu;have hj':cs[j]? =some u:=hj;have hlt:j < l.length:=by rw[←AW hl];exact(List.getElem?_eq_some_iff.1 hj').1
 obtain⟨u',h1,h2⟩:=Bl hl (List.getElem?_eq_getElem hlt);rw[hj']at h1;cases h1;exact hx _ (List.getElem_mem _) C S ψ w u H h2
def Qz(h:List ABlk)(x:AV)(cells:List AV):Prop:=∀(C:Ctx) (S:Nat→Prop) (ψ:Nat→Value) (w:World) (v:Value),HRel C h S ψ w→AV.rel w S h ψ x v→Ad w S h ψ cells v.cells.toList
theorem Qz.agg{h:List ABlk}{l:List AV}:Qz h (.agg l) l:=fun C S ψ w v H hv=>by
 unfold AV.rel at hv;obtain⟨cs,rfl,hl⟩:=hv;exact hl
theorem NK{a:Act}{w w':World}{S:Nat→Prop}{ψ:Nat→Value}{b:ABlk}{v:Value}{r:AV}{dst:Option Tmp}(hd:a.defers=mkD s.h)(hl:Ad w S s.h ψ s.t a.tmps.toList)(H':HRel C (s.h++[b]) S (Bk ψ s.h.length v) w')
 (X:Ext w S s.h ψ w' S (s.h++[b]) (Bk ψ s.h.length v)) (hr:AV.rel w' S (s.h++[b]) (Bk ψ s.h.length v) r v) (hm:b.mrk= []:=by rfl):St.rel C ⟨AJ s.t dst r,s.h++[b]⟩ (a.put dst v) w':=
 ⟨by rw[put_defers,F5,hm];exact hd,S,_,H',F0 (Al X _ _ hl) dst hr⟩
theorem Mu{r:Result Next}{cs:List Value}{e:TypeId}{cells:List AV}{a:Act}{w:World}{S:Nat→Prop}{ψ:Nat→Value}{Q':Exit→Act→World→Prop}(hd:a.defers=mkD s.h)(H:HRel C s.h S ψ w)(hl:Ad w S s.h ψ s.t a.tmps.toList)
 (hr:r= .ok (.value (.pointer (some ⟨w.heap.size,0,none⟩))) (w.alloc (.cells cs.toArray e))) (hc:Ad w S s.h ψ cells cs) (hK:K ⟨AJ s.t o.dst (.ptr s.h.length 0),s.h++[.box cells]⟩):
 o.upon P a (fun a' w'=>∃s',K s'∧s'.rel C a' w') Q' r:=by
 subst hr;have hb:Below w.heap.size w (w.alloc (.cells cs.toArray e)):=(Below.refl _ _).alloc (Nat.le_refl _) _;have X:Ext w S s.h ψ (w.alloc (.cells cs.toArray e)) S (s.h++[.box cells]) (Bk ψ s.h.length (.pointer (some ⟨w.heap.size,0,none⟩))):=Ext.push _ _ fun k hk=>hb.block k (H.lt k hk)
 have hB:Ho C.N (w.alloc (.cells cs.toArray e)) S (s.h++[.box cells]) (Bk ψ s.h.length (.pointer (some ⟨w.heap.size,0,none⟩))) (.pointer (some ⟨w.heap.size,0,none⟩)) (.box cells):=
  ⟨w.heap.size,cs,e,rfl,fun hN=>by have:=H.nlt _ hN;have:=H.bel.size;omega,fun hS=>by have:=H.lt _ hS;omega,heap_alloc_new w _,Al X _ _ hc⟩
 refine⟨_,hK,NK hd hl (H.push hb hB fun g hg=>by simp[ftp,BX]at hg;omega) X ?_⟩;unfold AV.rel;exact⟨by simp,fun _=>⟨w.heap.size,Bi,rfl⟩⟩
theorem AOp.box{elem:TypeId}{x:Operand}{cells:List AV}(ho:o.op= .box elem x)(hp:Qz s.h (evA s.t x) cells)(hK:K ⟨AJ s.t o.dst (.ptr s.h.length 0),s.h++[.box cells]⟩):AOp P C o s K:=by
 rintro Q' a w ⟨hd,S,ψ,H,hl⟩;refine⟨fun c e=>(by rw[ho]at e;cases e),?_⟩;have hx:=Ba hl x;unfold Oper.wp;refine Mu (cs:=(a.eval x).cells.toList) (e:=elem) hd H hl ?_ (hp C S ψ w _ H hx) hK;simp[execOp,ho,Instr.box,newVar,newRow]
theorem DK{w:World}{S:Nat→Prop}{h:List ABlk}{ψ:Nat→Value}(l:List Value):Ad w S h ψ (l.map .lit) l:=
 Dm (by simp) fun i x v hx hv=>by
  rw[List.getElem?_map,hv]at hx;cases hx;unfold AV.rel;rfl
def Bj(P:Program)(t:TypeId):Option (List Value):=((P.info? t).bind (·.zero)).map fun z=>z.cells.toList
theorem AOp.alloc{elem:TypeId}{zs:List Value}(ho:o.op= .alloc elem)(hz:Bj P elem=some zs)(hK:K ⟨AJ s.t o.dst (.ptr s.h.length 0),s.h++[.box (zs.map .lit)]⟩):AOp P C o s K:=by
 rintro Q' a w ⟨hd,S,ψ,H,hl⟩;refine⟨fun c e=>(by rw[ho]at e;cases e),?_⟩;unfold Bj at hz;obtain⟨z,hz1,rfl⟩:=Option.map_eq_some_iff.1 hz;obtain⟨i,hi,hz2⟩:=Option.bind_eq_some_iff.1 hz1;unfold Oper.wp;refine Mu (cs:=z.cells.toList) (e:=elem) hd H hl ?_ (DK _) hK;simp[execOp,ho,Instr.alloc,zeroValue,typeInfo,hi,hz2,newVar,newRow]
end
section
variable{P:Program}{C:Ctx}{s:St}{o:Oper}{K:St→Prop}
theorem JZ{a:Act}{w w':World}{S:Nat→Prop}{ψ:Nat→Value}{i:Nat}{b b':ABlk}{v' v:Value}{r:AV}{dst:Option Tmp}(hi:s.h[i]? =some b)(hd:a.defers=mkD s.h)(hl:Ad w S s.h ψ s.t a.tmps.toList)(H':HRel C (s.h.set i b') S (Bk ψ i v') w')
 (X:Ext w S s.h ψ w' S (s.h.set i b') (Bk ψ i v')) (hr:AV.rel w' S (s.h.set i b') (Bk ψ i v') r v) (hm:b'.mrk=b.mrk:=by rfl):St.rel C ⟨AJ s.t dst r,s.h.set i b'⟩ (a.put dst v) w':=
 ⟨by rw[put_defers,Do hi hm];exact hd,S,_,H',F0 (Al X _ _ hl) dst hr⟩
theorem DP(w:World)(g:Nat)(cs:Array Value):w.grownBy (w.setRow g cs) (some g):=
 ⟨rfl,rfl,rfl,by simp,fun k _ hk=>setRow_other w g k cs fun e=>hk (by rw[e])⟩
def VZ(P:Program)(ty:TypeId):Option Nat:=(P.info? ty).map (·.size)
theorem FV{ty:TypeId}{g off:Nat}{cur:Array Value}{e:TypeId}{v:Value}{w:World}(hs:VZ P ty=some v.cells.toList.length)(hg:w.heap[g]? =some (.cells cur e (0,0)))(hle:off+v.cells.toList.length≤cur.size)(h1:∀u∈v.cells.toList,u.oneCell'=true):
 (Instr.storeAt ty (.pointer (some ⟨g,off,none⟩)) v).run P w= .ok () (w.setRow g (cur.toList.take off++v.cells.toList++cur.toList.drop (off+v.cells.toList.length)).toArray):=by
 unfold VZ at hs;obtain⟨i,hi,hsz⟩:=Option.map_eq_some_iff.1 hs;have hr:=run_storeCells_at (P:=P) g off e v.cells.toList 0 cur w hg (by simpa using hle) h1;simp only[Nat.add_zero]at hr;have hz:v.cells.size=i.size:=by rw[hsz];simp
 simp[Instr.storeAt,Instr.sureAddr,storeVar,Go.sizeOf,typeInfo,hi,hz,hr]
theorem QL{ty:TypeId}{x y:Operand}{i off:Nat}{cells new:List AV}(ho:o.op= .store ty x y)(hx:evA s.t x= .ptr i off)(hi:s.h[i]? =some (.box cells))(hp:OC s.h (evA s.t y) new)(hs:VZ P ty=some new.length)(hle:off+new.length≤cells.length)
 (hK:K ⟨AJ s.t o.dst (.lit undef),s.h.set i (.box (cells.take off++new++cells.drop (off+new.length)))⟩):AOp P C o s K:=by
 rintro Q' a w ⟨hd,S,ψ,H,hl⟩;refine⟨fun c e=>(by rw[ho]at e;cases e),?_⟩;have hx':=Ba hl x;have hy':=Ba hl y;rw[hx]at hx';unfold AV.rel at hx';obtain⟨g,e1,e2⟩:=hx'.2 (by rw[hi];rfl);obtain⟨g',cs,e,e3,hN,hS,hg,hcs⟩:=H.blk i _ hi;rw[e1]at e3;cases e3;obtain⟨hn,h1⟩:=hp C S ψ w _ H hy';have hnl:=AW hn;have hcl:=AW hcs;have hr:=FV (P:=P) (ty:=ty) (v:=a.eval y) (off:=off) (w:=w) (by rw[hs,hnl]) hg (by rw[hnl,List.size_toArray,hcl];exact hle) h1;rw[hnl]at hr;have hgr:=DP w g (cs.take off++(a.eval y).cells.toList++cs.drop (off+new.length)).toArray;have hblk:∀k,S k→(w.setRow g (cs.take off++(a.eval y).cells.toList++cs.drop (off+new.length)).toArray).heap[k]? =w.heap[k]?:=fun k hk=>setRow_other _ _ _ _ fun e=>hS (by rw[←e];exact hk)
 have X:Ext w S s.h ψ _ S (s.h.set i (.box (cells.take off++new++cells.drop (off+new.length)))) (Bk ψ i (ψ i)):=Ext.set hblk hi (fun c' hc=>by simp[ABlk.ver]at hc) fun _=>⟨rfl,rfl⟩
 have hB:Ho C.N (w.setRow g (cs.take off++(a.eval y).cells.toList++cs.drop (off+new.length)).toArray) S (s.h.set i (.box (cells.take off++new++cells.drop (off+new.length)))) (Bk ψ i (ψ i)) (ψ i) (.box (cells.take off++new++cells.drop (off+new.length))):=
  ⟨g,_,e,e1,hN,hS,setRow_heap w g _ _ e _ hg,Al X _ _ (BK (BK (Iw hcs off) hn) (Ix hcs _))⟩
 unfold Oper.wp;simp only[execOp,ho,e2,Sem.run_bind,hr,Result.andThen_ok,Sem.run_pure,Oper.upon];refine⟨_,hK,JZ hi hd hl (H.set hi rfl (by rw[e1];exact BC hgr) X hB fun g' hg'=>.inl hg') X ?_⟩;unfold AV.rel;rfl
def Nn(h:List ABlk){α:Type}(T:Ty α)(d:α)(off:Nat)(x:AV)(n:Nat)(d':α):Prop:=
 ∀(C:Ctx) (S:Nat→Prop) (ψ:Nat→Value) (w:World) (v:Value) (cs:List Value),HRel C h S ψ w→AV.rel w S h ψ x v→T.RS w S cs d→
  v.cells.toList.length=n∧off+n≤T.size∧(∀u∈v.cells.toList,u.oneCell'=true)∧T.RS w S (cs.take off++v.cells.toList++cs.drop (off+n)) d'
theorem OZ{cells new:List Value}{k sz off n:Nat}(hn:new.length=n)(ho:off+n≤sz)(hk:k * sz+sz≤cells.length):
 (((cells.take (k * sz+off)++new++cells.drop (k * sz+off+n)).drop (k * sz)).take sz)=((cells.drop (k * sz)).take sz).take off++new++((cells.drop (k * sz)).take sz).drop (off+n):=by
 apply List.ext_getElem?;intro j;have hl1:(cells.take (k * sz+off)).length=k * sz+off:=by simp;omega
 have hl2:(((cells.drop (k * sz)).take sz).take off).length=off:=by simp;omega
 by_cases hj:j < sz
 ·rw[List.getElem?_take_of_lt hj,List.getElem?_drop];by_cases h1:j < off
  ·rw[List.getElem?_append_left (by simp;omega),List.getElem?_append_left (by omega),List.getElem?_append_left (by simp;omega),List.getElem?_append_left (by omega),List.getElem?_take_of_lt (by omega),List.getElem?_take_of_lt h1,List.getElem?_take_of_lt hj,List.getElem?_drop]
  ·by_cases h2:j < off+n
   ·rw[List.getElem?_append_left (by simp;omega),List.getElem?_append_right (by omega),List.getElem?_append_left (by simp;omega),List.getElem?_append_right (by omega),hl1,hl2];congr 1;omega
   ·rw[List.getElem?_append_right (by simp;omega),List.getElem?_append_right (by simp;omega),List.getElem?_drop,List.getElem?_drop,List.getElem?_take_of_lt (by simp;omega),List.getElem?_drop];congr 1;simp;omega
 ·rw[List.getElem?_eq_none (by simp;omega),List.getElem?_eq_none (by simp;omega)]
theorem OY{cells new:List Value}{k sz off n i:Nat}(hn:new.length=n)(ho:off+n≤sz)(hk:k * sz+sz≤cells.length)(hi:i≠k):
 (((cells.take (k * sz+off)++new++cells.drop (k * sz+off+n)).drop (i * sz)).take sz)=((cells.drop (i * sz)).take sz):=by
 apply List.ext_getElem?;intro j;have hl1:(cells.take (k * sz+off)).length=k * sz+off:=by simp;omega
 by_cases hj:j < sz
 ·rw[List.getElem?_take_of_lt hj,List.getElem?_take_of_lt hj,List.getElem?_drop,List.getElem?_drop];have:i * sz+j < k * sz+off∨k * sz+off+n≤i * sz+j:=by
   rcases Nat.lt_or_gt_of_ne hi with h1|h1
   ·left;have:(i+1) * sz≤k * sz:=Nat.mul_le_mul_right _ h1;rw[Nat.add_mul,Nat.one_mul]at this;omega
   ·right;have:(k+1) * sz≤i * sz:=Nat.mul_le_mul_right _ h1;rw[Nat.add_mul,Nat.one_mul]at this;omega
  rcases this with h1|h1
  ·rw[List.getElem?_append_left (by simp;omega),List.getElem?_append_left (by omega),List.getElem?_take_of_lt h1]
  ·rw[List.getElem?_append_right (by simp;omega),List.getElem?_drop];congr 1;simp;omega
 ·rw[List.getElem?_eq_none (by simp;omega),List.getElem?_eq_none (by simp;omega)]
theorem QJ{ty:TypeId}{x y:Operand}{i ver k off n:Nat}{e:TypeId}{α:Type}{T:Ty α}{l:List α}{d d':α}(ho:o.op= .store ty x y)(hx:evA s.t x= .rp i ver k off)(hi:s.h[i]? =some (.row ver e T l))(hk:l[k]? =some d)
 (hu:Nn s.h T d off (evA s.t y) n d') (hs:VZ P ty=some n) (hK:K ⟨AJ s.t o.dst (.lit undef),s.h.set i (.row ver e T (l.set k d'))⟩):AOp P C o s K:=by
 rintro Q' a w ⟨hd,S,ψ,H,hl⟩;refine⟨fun c e=>(by rw[ho]at e;cases e),?_⟩;have hx':=Ba hl x;have hy':=Ba hl y;rw[hx]at hx';unfold AV.rel at hx';obtain⟨g,n0,c0,e1,e2⟩:=(hx'.2 _ (by rw[hi];rfl)).2 rfl;obtain⟨cells,hown,h0,hR,hNS⟩:=H.blk i _ hi;obtain⟨hN,hS⟩:=hNS g (by rw[e1];rfl);rw[hi]at e2;simp only[EI]at e2;have hkl:k < l.length:=(List.getElem?_eq_some_iff.1 hk).1;obtain⟨hn,hle,h1,hnew⟩:=hu C S ψ w _ _ H hy' (hR k d hk);have hmul:(k+1) * T.size≤l.length * T.size:=Nat.mul_le_mul_right _ hkl;rw[Nat.add_mul,Nat.one_mul]at hmul;rcases hown.2 with⟨e3,_⟩|⟨g',cap,cur,e3,hb0,hg,hnc,hcm,hsz,htk⟩
 ·rw[e1]at e3;cases e3
 rw[e1]at e3;simp only[Value.slice.injEq,Option.some.injEq,Addr.mk.injEq]at e3;obtain⟨⟨rfl,-,-⟩,rfl,rfl⟩:=e3;have hmin:min l.length c0=l.length:=by omega
 have hcap:l.length * T.size≤c0 * T.size:=Nat.mul_le_mul_right _ hnc;have hr:=FV (P:=P) (ty:=ty) (v:=a.eval y) (off:=k * T.size+off) (w:=w) (by rw[hs,hn]) hg (by rw[hn,hsz];omega) h1;rw[hn]at hr;obtain⟨vs,hvs⟩:∃vs:List Value,vs=(a.eval y).cells.toList:=⟨_,rfl⟩
 rw[←hvs]at hn h1 hnew hr;have hgr:=DP w g (cur.toList.take (k * T.size+off)++vs++cur.toList.drop (k * T.size+off+n)).toArray;have hblk:∀j,S j→(w.setRow g (cur.toList.take (k * T.size+off)++vs++cur.toList.drop (k * T.size+off+n)).toArray).heap[j]? =w.heap[j]?:=fun j hj=>setRow_other _ _ _ _ fun e=>hS (by rw[←e];exact hj)
 have X:Ext w S s.h ψ _ S (s.h.set i (.row ver e T (l.set k d'))) (Bk ψ i (ψ i)):=Ext.set hblk hi (fun c' hc=>⟨c',hc,Nat.le_refl _,fun _=>⟨rfl,rfl⟩⟩) fun h=>by simp[AN]at h
 have hcl:cells.length=l.length * T.size:=hown.1;have hB:Ho C.N (w.setRow g (cur.toList.take (k * T.size+off)++vs++cur.toList.drop (k * T.size+off+n)).toArray) S (s.h.set i (.row ver e T (l.set k d'))) (Bk ψ i (ψ i)) (ψ i) (.row ver e T (l.set k d')):=by
  refine⟨cells.take (k * T.size+off)++vs++cells.drop (k * T.size+off+n),⟨by simp[hn,hcl];omega,.inr ⟨g,c0,_,by rw[e1];simp,Nat.zero_le _,setRow_heap w g _ _ e _ hg,by simpa using hnc,hcm,by simp[hn,hsz,hmin];omega,?_⟩⟩,h0,fun j d1 hj=>?_,fun g' hg'=>?_⟩
  ·simp only[List.length_set];rw[←htk];apply List.ext_getElem?;intro j;have hl1:(cur.toList.take (k * T.size+off)).length=k * T.size+off:=by simp[hsz,hmin];omega
   have hl2:((cur.toList.take (l.length * T.size)).take (k * T.size+off)).length=k * T.size+off:=by simp[hsz,hmin];omega
   by_cases hj:j < l.length * T.size
   ·rw[List.getElem?_take_of_lt hj];by_cases h2:j < k * T.size+off
    ·rw[List.getElem?_append_left (by simp[hsz,hmin];omega),List.getElem?_append_left (by omega),List.getElem?_append_left (by simp[hsz,hmin];omega),List.getElem?_append_left (by omega),List.getElem?_take_of_lt h2,List.getElem?_take_of_lt h2,List.getElem?_take_of_lt hj]
    ·by_cases h3:j < k * T.size+off+n
     ·rw[List.getElem?_append_left (by simp[hsz,hmin];omega),List.getElem?_append_right (by omega),List.getElem?_append_left (by simp[hsz,hmin];omega),List.getElem?_append_right (by omega),hl1,hl2]
     ·rw[List.getElem?_append_right (by simp[hsz,hmin];omega),List.getElem?_append_right (by simp[hsz,hmin];omega),List.getElem?_drop,List.getElem?_drop,List.getElem?_take_of_lt (by simp[hsz,hmin];omega)];congr 1;simp[hsz,hmin];omega
   ·rw[List.getElem?_eq_none (by simp;omega),List.getElem?_eq_none (by simp[hn,hsz,hmin];omega)]
  ·have hj':=hj;by_cases hjk:j=k
   ·subst hjk;rw[List.getElem?_set_self hkl]at hj;cases hj;rw[OZ hn hle (by omega)];exact T.keepS hnew hblk fun _ h=>h
   ·rw[List.getElem?_set_ne (Ne.symm hjk)]at hj;rw[OY hn hle (by omega) hjk];exact T.keepS (hR j d1 hj) hblk fun _ h=>h
  ·rw[e1]at hg';cases hg';exact⟨hN,hS⟩
 unfold Oper.wp;simp only[execOp,ho,e2,Sem.run_bind,hr,Result.andThen_ok,Sem.run_pure,Oper.upon];refine⟨_,hK,JZ hi hd hl (H.set hi rfl (by rw[e1];exact BC hgr) X hB fun g' hg'=>.inl hg') X ?_⟩;unfold AV.rel;rfl
end
section
variable{P:Program}{C:Ctx}{s:St}{o:Oper}{K:St→Prop}
def QW{α:Type}(T:Ty α):Prop:=∀(w:World) (S:Nat→Prop) (cs:List Value) (d:α),T.RS w S cs d→∀u∈cs,u.oneCell'=true
theorem N3{k:IntKind}:QW (Ty.int k):=by
 rintro w S cs d ⟨rfl,_⟩ u hu;simp at hu;subst hu;rfl
theorem Wu:QW Ty.bool:=by
 rintro w S cs d rfl u hu;simp at hu;subst hu;rfl
theorem one1_slice{α:Type}{T:Ty α}:QW T.slice:=by
 rintro w S cs d ⟨A,c,rfl,_⟩ u hu;simp at hu;subst hu;rfl
theorem Ct{α:Type}{T:Ty α}{enc:α→List AV}(E:Enc T enc)(h:∀d x,x∈enc d→(∃v:Value,x= .lit v∧v.oneCell'=true)∨∃(β:Type) (U:Ty β) (l:List β),x= .bs U l):QW T:=by
 intro w S cs d H u hu;have hl:=E w S [] ψ0 cs d H;obtain⟨j,hj⟩:=List.mem_iff_getElem?.1 hu;have hlt:j < (enc d).length:=by rw[←AW hl];exact(List.getElem?_eq_some_iff.1 hj).1
 obtain⟨u',h1,h2⟩:=Bl hl (List.getElem?_eq_getElem hlt);rw[hj]at h1;cases h1;rcases h d _ (List.getElem_mem hlt)with⟨v,e,hv⟩|⟨β,U,l,e⟩
 ·rw[e]at h2;unfold AV.rel at h2;rw[h2];exact hv
 ·rw[e]at h2;unfold AV.rel at h2;obtain⟨A,c,e',_⟩:=h2;simp only[List.cons.injEq,and_true]at e';rw[e'];rfl
def Hm(P:Program)(ty:TypeId):Option (TypeId×Nat×Nat):=
 match P.underlying ty with
 |some (.slice e)=>(P.info? e).bind fun i=>i.zero.bind fun z=>if z.cells.size=i.size then some (e,i.size,i.bytes)else none
 |_=>none
theorem Ec{ty e:TypeId}{sz bytes:Nat}(h:Hm P ty=some (e,sz,bytes)):P.underlying ty=some (.slice e)∧∃i z,P.info? e=some i∧i.zero=some z∧i.size=sz∧i.bytes=bytes∧z.cells.size=sz:=by
 unfold Hm at h;split at h <;> try(cases h;done)
 rename_i e' h1;obtain⟨i,hi,h2⟩:=Option.bind_eq_some_iff.1 h;obtain⟨z,hz,h3⟩:=Option.bind_eq_some_iff.1 h2;split at h3 <;> try(cases h3;done)
 rename_i h4;cases h3;exact⟨h1,i,z,hi,hz,rfl,rfl,h4⟩
theorem LE{cells news:List Value}{n sz i:Nat}(hc:cells.length=n * sz)(hi:i < n):(((cells++news).drop (i * sz)).take sz)=(cells.drop (i * sz)).take sz:=by
 have:(i+1) * sz≤n * sz:=Nat.mul_le_mul_right _ hi;rw[Nat.add_mul,Nat.one_mul]at this;rw[List.drop_append_of_le_length (by omega),List.take_append_of_le_length (by simp;omega)]
theorem G4{cells news:List Value}{n sz j:Nat}(hc:cells.length=n * sz):(((cells++news).drop ((n+j) * sz)).take sz)=(news.drop (j * sz)).take sz:=by
 rw[Nat.add_mul,←hc,List.drop_append,List.drop_eq_nil_of_le (by omega)];simp
theorem AOp.append{ty:TypeId}{x y:Operand}{i ver:Nat}{e:TypeId}{bytes:Nat}{α:Type}{T:Ty α}{l l2:List α}(ho:o.op= .call {callee:=.builtin .append,args:=#[x,y],argTypes:=#[ty,ty]})(hT:Hm P ty=some (e,T.size,bytes))
 (hx:evA s.t x= .own i ver) (hi:s.h[i]? =some (.row ver e T l)) (hy:evA s.t y= .bs T l2) (h1T:QW T) (hlen:l.length+l2.length≤maxLen) (hbytes:(l.length+l2.length) * bytes≤140737488355328)
 (hK:K ⟨AJ s.t o.dst (.own i (ver+1)),s.h.set i (.row (ver+1) e T (l++l2))⟩):AOp P C o s K:=by
 rintro Q' a w ⟨hd,S,ψ,H,hl⟩;refine⟨fun c e=>(by rw[ho]at e;cases e),?_⟩;have hx':=Ba hl x;have hy':=Ba hl y;rw[hx]at hx';rw[hy]at hy';unfold AV.rel at hx' hy';have hv:=(hx'.2 _ (by rw[hi];rfl)).2 rfl;obtain⟨cells,hown,h0,hR,hNS⟩:=H.blk i _ hi;obtain⟨h1,ti,z,h2,h3,h4,h5,h6⟩:=Ec hT;obtain⟨A,c,hyv⟩:=BB hy';rw[hyv]at hy';obtain⟨news,hnl,hsrc,hnR,hn1⟩:=Gp hy' fun cs d hcs=>h1T _ _ _ _ hcs
 refine VD (P:=P) x y ty ho 0 e ti z T.size bytes h1 h2 h3 h4 h5 h6 h0 hv hown hyv (hsrc w fun _ _=>rfl) hn1 hlen hbytes (Nat.zero_le _) fun v' w' hown' hgr hb'=>?_
 have hbv:∀g,BX v'=some g→v'.ownBlock=some g:=fun g hg=>by
  rcases hown'.2 with⟨e1,_⟩|⟨g',cap,cur,e1,_⟩
  ·rw[e1]at hg;simp[BX]at hg
  ·rw[e1]at hg⊢;simpa[BX,Value.ownBlock]using hg
 have hbψ:(ψ i).ownBlock=BX (ψ i):=by
  rcases hown.2 with⟨e1,_⟩|⟨g',cap,cur,e1,_⟩ <;> rw[e1] <;> rfl
 have hblk:∀k,S k→w'.heap[k]? =w.heap[k]?:=fun k hk=>hgr.block k (H.lt k hk) fun e=>(hNS k e.symm).2 hk
 have X:Ext w S s.h ψ w' S (s.h.set i (.row (ver+1) e T (l++l2))) (Bk ψ i v'):=Ext.set hblk hi (fun c' hc=>by
  simp only[ABlk.ver,Option.some.injEq]at hc;exact⟨ver,rfl,by omega,fun e=>by omega⟩) fun h=>by simp[AN]at h
 have hNew:∀g,v'.ownBlock=some g→¬C.N g∧¬S g:=fun g hg=>by
  rcases hb' with e1|e1
  ·rw[e1]at hg;exact hNS g hg
  ·rw[e1]at hg;cases hg;exact⟨fun hN=>by have:=H.nlt _ hN;have:=H.bel.size;omega,fun hS=>by have:=H.lt _ hS;omega⟩
 have hB:Ho C.N w' S (s.h.set i (.row (ver+1) e T (l++l2))) (Bk ψ i v') v' (.row (ver+1) e T (l++l2)):=by
  refine⟨cells++news,by rw[List.length_append];exact hown',h0,fun j d hj=>?_,hNew⟩;by_cases hjl:j < l.length
  ·rw[List.getElem?_append_left hjl]at hj;rw[LE hown.1 hjl];exact T.keepS (hR j d hj) hblk fun _ h=>h
  ·rw[List.getElem?_append_right (by omega)]at hj;obtain⟨m,rfl⟩:∃m,j=l.length+m:=⟨j - l.length,by omega⟩
   rw[G4 hown.1];exact T.keepS (hnR m d (by simpa using hj)) hblk fun _ h=>h
 refine⟨_,hK,JZ hi hd hl (H.set hi rfl (BC (by rw[←hbψ];exact hgr)) X hB fun g hg=>?_) X ?_⟩
 ·have hg':=hbv g hg;rcases hb' with e1|e1
  ·left;show BX (ψ i)=some g;rw[←hbψ,←e1];exact hg'
  ·right;rw[e1]at hg';cases hg';exact Nat.le_refl _
 ·unfold AV.rel;refine⟨by simp[(List.getElem?_eq_some_iff.1 hi).1],fun c' hc'=>?_⟩;rw[List.getElem?_set_self (List.getElem?_eq_some_iff.1 hi).1]at hc';simp only[ABlk.ver,Option.some.injEq]at hc';exact⟨by omega,fun _=>by rw[Bi]⟩
theorem AOp.newRow{r:Result Next}{n cap:Nat}{e:TypeId}{α:Type}{T:Ty α}{l:List α}{cells:List Value}{a:Act}{w w':World}{S:Nat→Prop}{ψ:Nat→Value}{Q':Exit→Act→World→Prop}(hd:a.defers=mkD s.h)(H:HRel C s.h S ψ w)(hl:Ad w S s.h ψ s.t a.tmps.toList)
 (hr:r= .ok (.value (.slice (some ⟨w.heap.size,0,none⟩) n cap)) w') (hb:Below w.heap.size w w') (hown:w'.ownsRow 0 e T.size (.slice (some ⟨w.heap.size,0,none⟩) n cap) l.length cells) (h0:0 < T.size)
 (hR:∀i d,l[i]? =some d→T.RS w' S ((cells.drop (i * T.size)).take T.size) d) (hK:K ⟨AJ s.t o.dst (.own s.h.length 0),s.h++[.row 0 e T l]⟩):
 o.upon P a (fun a' w'=>∃s',K s'∧s'.rel C a' w') Q' r:=by
 subst hr;have X:Ext w S s.h ψ w' S (s.h++[.row 0 e T l]) (Bk ψ s.h.length (.slice (some ⟨w.heap.size,0,none⟩) n cap)):=Ext.push _ _ fun k hk=>hb.block k (H.lt k hk)
 have hB:Ho C.N w' S (s.h++[.row 0 e T l]) (Bk ψ s.h.length (.slice (some ⟨w.heap.size,0,none⟩) n cap)) (.slice (some ⟨w.heap.size,0,none⟩) n cap) (.row 0 e T l):=
  ⟨cells,hown,h0,hR,fun g hg=>by
   obtain rfl:w.heap.size=g:=by simpa[Value.ownBlock]using hg
   exact⟨fun hN=>by have:=H.nlt _ hN;have:=H.bel.size;omega,fun hS=>by have:=H.lt _ hS;omega⟩⟩
 refine⟨_,hK,NK hd hl (H.push hb hB fun g hg=>by simp[ftp,BX]at hg;omega) X ?_⟩;unfold AV.rel;refine⟨by simp,fun c' hc'=>?_⟩;rw[List.getElem?_append_right (Nat.le_refl _)]at hc';simp[ABlk.ver]at hc';exact⟨by omega,fun _=>Bi.symm⟩
def E2(P:Program)(ty:TypeId):Option (TypeId×Value×Nat):=
 match P.underlying ty with
 |some (.slice e)=>(P.info? e).bind fun i=>i.zero.bind fun z=>if i.size=1∧z.oneCell'=true then some (e,z,i.bytes)else none
 |_=>none
theorem IL(z:Value)(n:Nat):madeCells #[z] n=(List.replicate n z).toArray:=by
 apply Array.ext
 ·simp[madeCells]
 ·intro i h1 h2;simp[madeCells,Nat.mod_one]
theorem Aa0{ty:TypeId}{x y:Operand}{k k':IntKind}{n:Nat}{e:TypeId}{z:Value}{bytes:Nat}{α:Type}{T:Ty α}{d:α}(ho:o.op= .makeSlice ty x y)(hz:E2 P ty=some (e,z,bytes))(hT:T.size=1)(hd0:∀w S,T.RS w S [z] d)
 (hx:evA s.t x= .lit (.int k (n:Int))) (hy:evA s.t y= .lit (.int k' (n:Int))) (hb:bytes * n≤281474976710656) (hn:n≤maxLen)
 (hK:K ⟨AJ s.t o.dst (.own s.h.length 0),s.h++[.row 0 e T (List.replicate n d)]⟩):AOp P C o s K:=by
 rintro Q' a w ⟨hd,S,ψ,H,hl⟩;refine⟨fun c e=>(by rw[ho]at e;cases e),?_⟩;have hx':=Ba hl x;have hy':=Ba hl y;rw[hx]at hx';rw[hy]at hy';unfold AV.rel at hx' hy';unfold E2 at hz;split at hz <;> try(cases hz;done)
 rename_i e' h1;obtain⟨i,hi,h2⟩:=Option.bind_eq_some_iff.1 hz;obtain⟨z',hz',h3⟩:=Option.bind_eq_some_iff.1 h2;split at h3 <;> try(cases h3;done)
 rename_i h4;cases h3;have hzc:=CM h4.2;have hrun:=run_make_row' (P:=P) ty e z i.bytes h1 (by rw[hi];simp[hz',h4.1]) hzc k k' n hb (by unfold maxLen at hn;omega) w;unfold Oper.wp;rw[IL]at hrun;refine AOp.newRow (T:=T) (l:=List.replicate n d) (e:=e) (cells:=List.replicate n z) (n:=n) (cap:=n) (w':=w.alloc (.cells (List.replicate n z).toArray e)) hd H hl ?_ ((Below.refl _ _).alloc (Nat.le_refl _) _) ?_ (by omega) ?_ hK
 ·simp[execOp,ho,hx',hy',hrun]
 ·rw[List.length_replicate,hT];refine⟨by simp,.inr ⟨_,n,_,rfl,Nat.zero_le _,heap_alloc_new w _,Nat.le_refl _,hn,by simp,by simp⟩⟩
 ·intro j d' hj;rw[List.getElem?_replicate]at hj;split at hj <;> cases hj
  rename_i hjn;rw[hT,Nat.mul_one,List.drop_replicate,List.take_replicate];have:min 1 (n - j)=1:=by omega
  rw[this];exact hd0 _ _
def Fit(h:List ABlk){α:Type}(T:Ty α)(x:AV)(d:α):Prop:=∀(C:Ctx) (S:Nat→Prop) (ψ:Nat→Value) (w:World) (v:Value),HRel C h S ψ w→AV.rel w S h ψ x v→T.RS w S v.cells.toList d
theorem Fit.int{h:List ABlk}{k:IntKind}{n:Int}(hn:wfI k n):Fit h (Ty.int k) (.lit (.int k n)) n:=fun C S ψ w v H hv=>by
 unfold AV.rel at hv;subst hv;exact⟨rfl,hn⟩
theorem Fit.bool{h:List ABlk}{b:Bool}:Fit h Ty.bool (.lit (.bool b)) b:=fun C S ψ w v H hv=>by
 unfold AV.rel at hv;subst hv;rfl
theorem Fit.bs{h:List ABlk}{α:Type}{T:Ty α}{l:List α}:Fit h T.slice (.bs T l) l:=fun C S ψ w v H hv=>by
 unfold AV.rel at hv;obtain⟨A,c,e,_⟩:=id hv;simp only[List.cons.injEq,and_true]at e;subst e;exact hv
theorem Hc{h:List ABlk}{α:Type}{T:Ty α}{d d':α}{x:AV}(hf:Fit h T x d')(h1:QW T):Nn h T d 0 x T.size d':=fun C S ψ w v cs H hv hcs=>by
 have hr:=hf C S ψ w v H hv;have hl:=T.len hr;refine⟨hl,by omega,h1 _ _ _ _ hr,?_⟩;rw[List.take_zero,List.nil_append,List.drop_eq_nil_of_le (by rw[T.len hcs];omega),List.append_nil];exact hr
inductive Fits (h:List ABlk) {α:Type} (T:Ty α):List AV→List α→Prop
 |nil:Fits h T [] []
 |cons {x:AV} {d:α} {xs:List AV} {ds:List α} (hx:Fit h T x d) (hs:Fits h T xs ds):Fits h T (x::xs) (d::ds)
theorem V2:∀(vs:List Value) (A M B:List Value) (off k:Nat),M.length=vs.length→off+k=A.length→
 (vs.zipIdx k).foldl (fun(cs:Array Value) (p:Value×Nat)=>cs.setIfInBounds (off+p.2) p.1) (A++M++B).toArray=(A++vs++B).toArray
 | [],A,M,B,off,k,hM,hk=>by
  have:M= []:=List.eq_nil_of_length_eq_zero (by simpa using hM);subst this;simp
 |v::vs,A,m::M,B,off,k,hM,hk=>by
  have ih:=V2 vs (A++[v]) M B off (k+1) (by simpa using hM) (by simp;omega);simp only[List.zipIdx_cons,List.foldl_cons];rw[show((A++(m::M)++B).toArray.setIfInBounds (off+k) v)=(A++[v]++M++B).toArray from by
   rw[List.setIfInBounds_toArray,hk];congr 1;simp]
  rw[ih];simp
theorem Tf{sz:Nat}:∀(vs:List Value) (k:Nat) (A B:List Value),A.length=k * sz→B.length=vs.length * sz→(∀v∈vs,v.cells.size=sz)→
 Instr.fill (fun i=>some (i * sz,sz)) (A++B).toArray ((vs.zipIdx k).map fun p=>(p.2,p.1))=some (A++vs.flatMap fun v=>v.cells.toList).toArray
 | [],k,A,B,hA,hB,_=>by
  have:B= []:=List.eq_nil_of_length_eq_zero (by simpa using hB);subst this;simp[Instr.fill]
 |v::vs,k,A,B,hA,hB,hv=>by
  have h1:=hv v (by simp);have hB':B.length=sz+vs.length * sz:=by rw[hB,List.length_cons,Nat.add_mul,Nat.one_mul];omega
  simp only[List.zipIdx_cons,List.map_cons,Instr.fill];have hc:¬((decide (v.cells.size≠sz)||decide (k * sz+v.cells.size > (A++B).toArray.size))=true):=by
   simp[h1];omega
  rw[if_neg hc];have e:(A++B)=A++B.take sz++B.drop sz:=by rw[List.append_assoc,List.take_append_drop]
  have hs:=V2 v.cells.toList A (B.take sz) (B.drop sz) (k * sz) 0 (by simp[h1];omega) (by omega);have hz:v.cells.zipIdx.foldl (fun cs (c,j)=>cs.setIfInBounds (k * sz+j) c) (A++B).toArray=(A++v.cells.toList++B.drop sz).toArray:=by
   rw[e,←hs,←Array.foldl_toList,Array.toList_zipIdx]
  rw[hz,Tf vs (k+1) (A++v.cells.toList) (B.drop sz) (by simp[h1,hA,Nat.add_mul]) (by simp[hB']) fun u hu=>hv u (by simp[hu])];simp
def DF(xs:List Operand):Array (Nat×Operand):=(xs.zipIdx.map fun p=>(p.2,p.1)).toArray
theorem NN{ty e:TypeId}{sz bytes:Nat}{vs:List Value}{w:World}(hT:Hm P ty=some (e,sz,bytes))(hn:vs.length * sz≤16777216)(hv:∀v∈vs,v.cells.size=sz):
 (Instr.buildSlice ty vs.length (vs.zipIdx.map fun p=>(p.2,p.1)).toArray).run P w= .ok (.slice (some ⟨w.heap.size,0,none⟩) vs.length vs.length) (w.alloc (.cells (vs.flatMap fun v=>v.cells.toList).toArray e)):=by
 obtain⟨h1,i,z,h2,h3,h4,h5,h6⟩:=Ec hT;have hfill:∀c:Array Value,c.size=vs.length * sz→Instr.fill (fun i=>some (i * sz,sz)) c (vs.zipIdx.map fun p=>(p.2,p.1))=some (vs.flatMap fun v=>v.cells.toList).toArray:=fun c hc=>by
  have:=Tf (sz:=sz) vs 0 [] c.toList (by simp) (by simpa using hc) hv;simpa using this
 have hlt:¬vs.length * sz > 2 ^ 24:=by simp;omega
 unfold Instr.buildSlice;simp only[underlying,Sem.run_bind,run_program,Result.andThen_ok,h1,Sem.run_pure,Go.sizeOf,typeInfo,h2,h4,hlt,if_false];by_cases hz:vs.length * sz=0
 ·simp only[hz,if_true,pure_bind];rw[hfill _ (by simp[hz])];simp[newRow]
 ·simp only[hz,if_false,zeroValue,typeInfo,Sem.run_bind,run_program,Result.andThen_ok,h2,h3,Sem.run_pure];rw[hfill _ (by simp)];simp[newRow]
theorem JH{h:List ABlk}{α:Type}{T:Ty α}{C:Ctx}{S:Nat→Prop}{ψ:Nat→Value}{w:World}(H:HRel C h S ψ w):∀{xs:List AV} {ds:List α} {vs:List Value},Fits h T xs ds→Ad w S h ψ xs vs→
 vs.length=ds.length∧(∀v∈vs,v.cells.size=T.size)∧(vs.flatMap fun v=>v.cells.toList).length=ds.length * T.size∧∀i d,ds[i]? =some d→T.RS w S (((vs.flatMap fun v=>v.cells.toList).drop (i * T.size)).take T.size) d
 | [],ds,vs,hf,hr=>by
  cases hf;unfold Ad at hr;subst hr;simp
 |x::xs,ds,vs,hf,hr=>by
  cases hf with
  |cons hx hs=>
   unfold Ad at hr;obtain⟨v,vs',rfl,h1,h2⟩:=hr;obtain⟨k1,k2,k3,k4⟩:=JH H hs h2;have hv:=hx C S ψ w v H h1;have hvl:v.cells.size=T.size:=by have:=T.len hv;simpa using this
   have hfl:((v::vs').flatMap fun v=>v.cells.toList)=v.cells.toList++vs'.flatMap fun v=>v.cells.toList:=by simp
   rw[hfl];refine⟨by simp[k1],fun u hu=>?_,by simp[hvl,k3,Nat.add_mul];omega,fun i d hd=>?_⟩
   ·rcases List.mem_cons.1 hu with rfl|hu
    ·exact hvl
    ·exact k2 u hu
   ·cases i with
    |zero=>
     simp only[List.getElem?_cons_zero,Option.some.injEq]at hd;subst hd;rw[Nat.zero_mul,List.drop_zero,List.take_append_of_le_length (by simp[hvl]),List.take_of_length_le (by simp[hvl])];exact hv
    |succ i=>
     have:=G4 (news:=vs'.flatMap fun v=>v.cells.toList) (n:=1) (j:=i) (sz:=T.size) (cells:=v.cells.toList) (by simp[hvl]);rw[show(i+1) * T.size=(1+i) * T.size from by rw[Nat.add_comm],this];exact k4 i d (by simpa using hd)
theorem FW{ty:TypeId}{xs:List Operand}{ρ:Operand→Value}{w:World}(ho:o.op= .buildSlice ty xs.length (DF xs)):(execOp ρ o).run P w=((Instr.buildSlice ty (xs.map ρ).length ((xs.map ρ).zipIdx.map fun p=>(p.2,p.1)).toArray).run P w).andThen fun v w'=>.ok (.value v) w':=by
 have e:(DF xs).map (fun p:Nat×Operand=>(p.1,ρ p.2))=((xs.map ρ).zipIdx.map fun p=>(p.2,p.1)).toArray:=by
  unfold DF;simp[List.zipIdx_map]
 simp only[execOp,ho,Sem.run_bind,Sem.run_pure,List.length_map];rw[←e]
theorem Av.lit{t:List AV}{h:List ABlk}{ty e:TypeId}{bytes n:Nat}{parts:Array (Nat×Operand)}{xs:List Operand}{α:Type}{T:Ty α}{ds:List α}(ho:o.op= .buildSlice ty n parts)(hp:parts=DF xs)(hn:n=xs.length)
 (hT:Hm P ty=some (e,T.size,bytes)) (h0:0 < T.size) (hsz:n * T.size≤16777216) (hf:Fits h T (xs.map (evA t)) ds):Av P C t h o (.bs T ds):=by
 subst hp hn;intro S ψ w ρ H hρ;have hrel:Ad w S h ψ (xs.map (evA t)) (xs.map ρ):=BY fun x hx=>hρ x (by
  rw[ho];simp only[Op.operands,DF,List.map_map];refine List.mem_toArray.2 (List.mem_map.2 ?_);obtain⟨j,hj⟩:=List.mem_iff_getElem?.1 hx;exact⟨(x,j),by rw[List.mem_zipIdx_iff_getElem?];exact hj,rfl⟩)
 obtain⟨k1,k2,k3,k4⟩:=JH H hf hrel;have hds:ds.length=xs.length:=by rw[←k1];simp
 rw[FW ho,NN hT (by rw[List.length_map];exact hsz) k2];have hb:Below w.heap.size w (w.alloc (.cells ((xs.map ρ).flatMap fun v=>v.cells.toList).toArray e)):=(Below.refl _ _).alloc (Nat.le_refl _) _;refine⟨hb,fun k=>S k∨k=w.heap.size,fun k hk=>.inl hk,fun k hk=>hk.imp id fun e=>by omega,fun k hk=>?_,?_⟩
 ·rcases hk with hk|hk
  ·have:=H.lt k hk;simp;omega
  ·simp;omega
 ·unfold AV.rel;have hmx:xs.length≤maxLen:=by
   have:xs.length * 1≤xs.length * T.size:=Nat.mul_le_mul_left _ h0;unfold maxLen;omega
  refine Ch (base:=0) (e:=e) (cells:=(xs.map ρ).flatMap fun v=>v.cells.toList) ?_ (fun i d hd=>T.keepS (k4 i d hd) (fun k hk=>hb.block k (H.lt k hk)) fun _ h=>.inl h) fun g hg=>.inr (by simpa[Value.ownBlock]using hg.symm)
  rw[hds];exact NQ (heap_alloc_new w _) (Nat.zero_le _) (by rw[k3,hds]) hmx |> fun h=>by simpa using h
theorem AOp.lit{ty e:TypeId}{bytes n:Nat}{parts:Array (Nat×Operand)}{xs:List Operand}{α:Type}{T:Ty α}{ds:List α}(ho:o.op= .buildSlice ty n parts)(hp:parts=DF xs)(hn:n=xs.length)
 (hT:Hm P ty=some (e,T.size,bytes)) (h0:0 < T.size) (hsz:n * T.size≤16777216) (hf:Fits s.h T (xs.map (evA s.t)) ds) (hK:K ⟨AJ s.t o.dst (.own s.h.length 0),s.h++[.row 0 e T ds]⟩):AOp P C o s K:=by
 subst hp hn;rintro Q' a w ⟨hd,S,ψ,H,hl⟩;refine⟨fun c e=>(by rw[ho]at e;cases e),?_⟩;have hrel:Ad w S s.h ψ (xs.map (evA s.t)) (xs.map a.eval):=BY fun x _=>Ba hl x
 obtain⟨k1,k2,k3,k4⟩:=JH H hf hrel;have hds:ds.length=xs.length:=by rw[←k1];simp
 unfold Oper.wp;rw[FW ho,NN hT (by rw[List.length_map];exact hsz) k2];have hb:Below w.heap.size w (w.alloc (.cells ((xs.map a.eval).flatMap fun v=>v.cells.toList).toArray e)):=(Below.refl _ _).alloc (Nat.le_refl _) _;have hmx:xs.length≤maxLen:=by
  have:xs.length * 1≤xs.length * T.size:=Nat.mul_le_mul_left _ h0;unfold maxLen;omega
 refine AOp.newRow (T:=T) (l:=ds) (e:=e) (cells:=(xs.map a.eval).flatMap fun v=>v.cells.toList) (n:=xs.length) (cap:=xs.length) (w':=w.alloc (.cells ((xs.map a.eval).flatMap fun v=>v.cells.toList).toArray e)) hd H hl ?_ hb ?_ h0 (fun i d hd=>T.keepS (k4 i d hd) (fun k hk=>hb.block k (H.lt k hk)) fun _ h=>h) hK
 ·simp
 ·rw[hds];exact NQ (heap_alloc_new w _) (Nat.zero_le _) (by rw[k3,hds]) hmx
end
theorem St.le.refl{C:Ctx}{s:St}:St.le C s s:=fun _ _ h=>h
theorem St.le.trans{C:Ctx}{s s' s'':St}(h:St.le C s s')(h':St.le C s' s''):St.le C s s'':=fun a w H=>h' a w (h a w H)
mutual
def AV.bd(n:Nat):AV→Bool
 | .own i _=>decide (i < n)
 | .ptr i _=>decide (i < n)
 | .rp i _ _ _=>decide (i < n)
 | .agg l=>Mp n l
 | .tup l=>Mp n l
 | .fn _ l=>Mp n l
 |_=>true
def Mp(n:Nat):List AV→Bool
 | []=>true
 |x::l=>AV.bd n x&&Mp n l
end
structure Cut(h h':List ABlk):Prop where
 len:h'.length≤h.length
 blk:∀(i:Nat) (b:ABlk),h'[i]? =some b→b= .dead∨h[i]? =some b
section
variable{w:World}{S:Nat→Prop}{h h':List ABlk}{ψ:Nat→Value}
theorem Cut.ver(hc:Cut h h'){i c:Nat}(hv:ABlk.ver h'[i]? =some c):ABlk.ver h[i]? =some c∧EI h'[i]? =EI h[i]?:=by
 cases hb:h'[i]? with
 |none=>rw[hb]at hv;simp[ABlk.ver]at hv
 |some b=>
  rcases hc.blk i b hb with rfl|h1
  ·rw[hb]at hv;simp[ABlk.ver]at hv
  ·rw[h1,←hb];exact⟨hv,rfl⟩
theorem Cut.box(hc:Cut h h'){i:Nat}(hv:AN h'[i]? =true):AN h[i]? =true:=by
 cases hb:h'[i]? with
 |none=>rw[hb]at hv;simp[AN]at hv
 |some b=>
  rcases hc.blk i b hb with rfl|h1
  ·rw[hb]at hv;simp[AN]at hv
  ·rw[h1,←hb];exact hv
theorem Cut.live(hc:Cut h h'){i:Nat}(hv:ABlk.live h'[i]? =true):ABlk.live h[i]? =true:=by
 cases hb:h'[i]? with
 |none=>rw[hb]at hv;simp[ABlk.live]at hv
 |some b=>
  rcases hc.blk i b hb with rfl|h1
  ·rw[hb]at hv;simp[ABlk.live]at hv
  ·rw[h1,←hb];exact hv
theorem Cut.same(hc:Cut h h'){i:Nat}(hv:ABlk.live h'[i]? =true):h'[i]? =h[i]?:=by
 cases hb:h'[i]? with
 |none=>rw[hb]at hv;simp[ABlk.live]at hv
 |some b=>
  rcases hc.blk i b hb with rfl|h1
  ·rw[hb]at hv;simp[ABlk.live]at hv
  ·rw[h1]
mutual
theorem Nz(hc:Cut h h'):∀(x:AV) (v:Value),AV.bd h'.length x=true→AV.rel w S h ψ x v→AV.rel w S h' ψ x v
 | .any,_,_,_=>by unfold AV.rel;trivial
 | .lit u,v,_,H=>by unfold AV.rel at H⊢;exact H
 | .bs T l,v,_,H=>by unfold AV.rel at H⊢;exact H
 | .tv T d,v,_,H=>by unfold AV.rel at H⊢;exact H
 | .own i ver,v,hb,H=>by
  unfold AV.bd at hb;unfold AV.rel at H⊢;exact⟨by simpa using hb,fun c hv=>H.2 c (hc.ver hv).1⟩
 | .ptr i off,v,hb,H=>by
  unfold AV.bd at hb;unfold AV.rel at H⊢;exact⟨by simpa using hb,fun hv=>H.2 (hc.box hv)⟩
 | .rp i ver k off,v,hb,H=>by
  unfold AV.bd at hb;unfold AV.rel at H⊢;refine⟨by simpa using hb,fun c hv=>?_⟩;rw[(hc.ver hv).2];exact H.2 c (hc.ver hv).1
 | .bp T d off,v,_,H=>by unfold AV.rel at H⊢;exact H
 | .agg l,v,hb,H=>by
  unfold AV.bd at hb;unfold AV.rel at H⊢;obtain⟨cs,e,hl⟩:=H;exact⟨cs,e,DC hc l cs hb hl⟩
 | .tup l,v,hb,H=>by
  unfold AV.bd at hb;unfold AV.rel at H⊢;obtain⟨cs,e,hl⟩:=H;exact⟨cs,e,DC hc l cs hb hl⟩
 | .fn f l,v,hb,H=>by
  unfold AV.bd at hb;unfold AV.rel at H⊢;obtain⟨cs,e,hl⟩:=H;exact⟨cs,e,DC hc l cs hb hl⟩
theorem DC(hc:Cut h h'):∀(l:List AV) (cs:List Value),Mp h'.length l=true→Ad w S h ψ l cs→Ad w S h' ψ l cs
 | [],cs,_,H=>by unfold Ad at H⊢;exact H
 |x::l,cs,hb,H=>by
  unfold Mp at hb;rw[Bool.and_eq_true]at hb;unfold Ad at H⊢;obtain⟨v,vs,e,h1,h2⟩:=H;exact⟨v,vs,e,Nz hc x v hb.1 h1,DC hc l vs hb.2 h2⟩
end
end
def Z5(n:Nat):ABlk→Bool
 | .box cells=>Mp n cells
 |_=>true
inductive Fgt (n:Nat):List AV→List AV→Prop
 |nil:Fgt n [] []
 |any {x:AV} {t t':List AV} (h:Fgt n t t'):Fgt n (x::t) (.any::t')
 |keep {x:AV} {t t':List AV} (hx:AV.bd n x=true) (h:Fgt n t t'):Fgt n (x::t) (x::t')
theorem Fgt.rel{w:World}{S:Nat→Prop}{h h':List ABlk}{ψ:Nat→Value}(hc:Cut h h'){t t':List AV}(hf:Fgt h'.length t t'):∀{cs:List Value},Ad w S h ψ t cs→Ad w S h' ψ t' cs:=by
 induction hf with
 |nil=>intro cs H;unfold Ad at H⊢;exact H
 |any _ ih=>
  intro cs H;unfold Ad at H⊢;obtain⟨v,vs,e,_,h2⟩:=H;exact⟨v,vs,e,by unfold AV.rel;trivial,ih h2⟩
 |keep hx _ ih=>
  intro cs H;unfold Ad at H⊢;obtain⟨v,vs,e,h1,h2⟩:=H;exact⟨v,vs,e,Nz hc _ _ hx h1,ih h2⟩
theorem Qt{C:Ctx}{t t':List AV}{h h':List ABlk}(hc:Cut h h')(hb:∀b∈h',Z5 h'.length b=true)(hf:Fgt h'.length t t')(hm:mkD h'=mkD h:=by rfl):St.le C ⟨t,h⟩ ⟨t',h'⟩:=fun a w ⟨hd,S,ψ,H,hl⟩=>by
 refine⟨hd.trans hm.symm,S,ψ,⟨H.bel,H.nlt,H.lt,H.sub,H.new,fun i b hi=>?_,fun i j hij h1 h2=>by rw[hc.same h1,hc.same h2];exact H.dis i j hij (hc.live h1) (hc.live h2)⟩,hf.rel hc hl⟩;rcases hc.blk i b hi with rfl|h1
 ·trivial
 ·have hB:=H.blk i b h1;cases b with
  |dead=>trivial
  |box cells=>
   obtain⟨g,cs,e,k1,k2,k3,k4,k5⟩:=hB;exact⟨g,cs,e,k1,k2,k3,k4,DC hc _ _ (hb _ (List.mem_of_getElem? hi)) k5⟩
  |row ver e T l=>exact hB
  |res R=>exact hB
theorem Cut.refl(h:List ABlk):Cut h h:=⟨Nat.le_refl _,fun _ _ h=>.inr h⟩
theorem Cut.cons{b:ABlk}{h h':List ABlk}(hc:Cut h h'):Cut (b::h) (b::h'):=⟨by have:=hc.len;simp;omega,fun i c hi=>by
 cases i with
 |zero=>exact .inr hi
 |succ i=>exact hc.blk i c (by simpa using hi)⟩
theorem Cut.dead{b:ABlk}{h h':List ABlk}(hc:Cut h h'):Cut (b::h) (.dead::h'):=⟨by have:=hc.len;simp;omega,fun i c hi=>by
 cases i with
 |zero=>exact .inl (by simpa using hi.symm)
 |succ i=>exact hc.blk i c (by simpa using hi)⟩
theorem Cut.nil(h:List ABlk):Cut h []:=⟨Nat.zero_le _,fun i c hi=>by simp at hi⟩
theorem Cz{C:Ctx}{t:List AV}{h:List ABlk}(j:Nat)(e:TypeId){α:Type}(T:Ty α)(hj:t[j]? =some (.lit (.slice none 0 0)))(h0:0 < T.size):St.le C ⟨t,h⟩ ⟨t.set j (.own h.length 0),h++[.row 0 e T []]⟩:=fun a w ⟨hd,S,ψ,H,hl⟩=>by
 have X:Ext w S h ψ w S (h++[.row 0 e T []]) (Bk ψ h.length (.slice none 0 0)):=Ext.push _ _ fun _ _=>rfl
 have hB:Ho C.N w S (h++[.row 0 e T []]) (Bk ψ h.length (.slice none 0 0)) (.slice none 0 0) (.row 0 e T []):=
  ⟨[],World.ownsRow_nil _ _ _ _,h0,fun i d hi=>by simp at hi,fun g hg=>by simp[Value.ownBlock]at hg⟩
 obtain⟨v,h1,h2⟩:=Bl hl hj;unfold AV.rel at h2;subst h2;refine⟨by rw[hd];show mkD h=mkD (h++[_]);rw[F5];rfl,S,_,H.push (Below.refl _ _) hB (fun g hg=>by simp[ftp,BX]at hg),?_⟩;have h3:=DE (Al X _ _ hl) j (x:=.own h.length 0) (v:=.slice none 0 0) (by
  unfold AV.rel;refine⟨by simp,fun c' hc'=>?_⟩;rw[List.getElem?_append_right (Nat.le_refl _)]at hc';simp[ABlk.ver]at hc';exact⟨by omega,fun _=>Bi.symm⟩)
 have h4:a.tmps.toList.set j (.slice none 0 0)=a.tmps.toList:=by
  have hjl:=(List.getElem?_eq_some_iff.1 h1).1;apply List.ext_getElem?;intro k;by_cases hk:j=k
  ·subst hk;rw[List.getElem?_set_self hjl,h1]
  ·rw[List.getElem?_set_ne hk]
 rw[h4]at h3;exact h3
mutual
def AV.fz(i ver:Nat)(r:AV):AV→AV
 | .own j v=>if j=i∧v=ver then r else .own j v
 | .agg l=>.agg (Gj i ver r l)
 | .tup l=>.tup (Gj i ver r l)
 | .fn f l=>.fn f (Gj i ver r l)
 |x=>x
def Gj(i ver:Nat)(r:AV):List AV→List AV
 | []=>[]
 |x::l=>AV.fz i ver r x::Gj i ver r l
end
def ABlk.fz(i ver:Nat)(r:AV):ABlk→ABlk
 | .box cells=>.box (Gj i ver r cells)
 |b=>b
def fzH(i ver:Nat)(r:AV)(h:List ABlk):List ABlk:=(h.map (ABlk.fz i ver r)).set i .dead
section
variable{w:World}{S:Nat→Prop}{h:List ABlk}{ψ:Nat→Value}
theorem RJ{i ver j c:Nat}{r:AV}(hv:ABlk.ver (fzH i ver r h)[j]? =some c):j≠i∧ABlk.ver h[j]? =some c∧EI (fzH i ver r h)[j]? =EI h[j]?:=by
 unfold fzH at *;by_cases hj:j=i
 ·subst hj;exfalso;by_cases hl:j < (h.map (ABlk.fz j ver r)).length
  ·rw[List.getElem?_set_self hl]at hv;simp[ABlk.ver]at hv
  ·rw[List.getElem?_eq_none (by simpa using hl)]at hv;simp[ABlk.ver]at hv
 ·rw[List.getElem?_set_ne (Ne.symm hj),List.getElem?_map]at hv⊢;cases hb:h[j]? with
  |none=>rw[hb]at hv;simp[ABlk.ver]at hv
  |some b=>rw[hb]at hv;cases b <;> simp[ABlk.fz,ABlk.ver,EI]at hv⊢<;> exact⟨hj,hv⟩
theorem Afv{i ver j:Nat}{r:AV}(hv:AN (fzH i ver r h)[j]? =true):AN h[j]? =true:=by
 unfold fzH at hv;by_cases hj:j=i
 ·subst hj;exfalso;by_cases hl:j < (h.map (ABlk.fz j ver r)).length
  ·rw[List.getElem?_set_self hl]at hv;simp[AN]at hv
  ·rw[List.getElem?_eq_none (by simpa using hl)]at hv;simp[AN]at hv
 ·rw[List.getElem?_set_ne (Ne.symm hj),List.getElem?_map]at hv;cases hb:h[j]? with
  |none=>rw[hb]at hv;simp[AN]at hv
  |some b=>rw[hb]at hv;cases b <;> simp[ABlk.fz,AN]at hv⊢
theorem Xk{i ver j:Nat}{r:AV}{v:Value}{g:Nat}(hv:ABlk.live (fzH i ver r h)[j]? =true)(hg:ftp (fzH i ver r h)[j]? v g):ftp h[j]? v g:=by
 unfold fzH at hv hg;by_cases hj:j=i
 ·subst hj;exfalso;by_cases hl:j < (h.map (ABlk.fz j ver r)).length
  ·rw[List.getElem?_set_self hl]at hv;simp[ABlk.live]at hv
  ·rw[List.getElem?_eq_none (by simpa using hl)]at hv;simp[ABlk.live]at hv
 ·rw[List.getElem?_set_ne (Ne.symm hj),List.getElem?_map]at hv hg;cases hb:h[j]? with
  |none=>rw[hb]at hv;simp[ABlk.live]at hv
  |some b=>rw[hb]at hg;cases b <;> simpa[ABlk.fz,ftp]using hg
theorem Aos{i ver:Nat}{r:AV}{b:ABlk}(hi:h[i]? =some b)(hb:b.mrk= []):mkD (fzH i ver r h)=mkD h:=by
 have e:∀l:List ABlk,mkD (l.map (ABlk.fz i ver r))=mkD l:=fun l=>by
  induction l with
  |nil=>rfl
  |cons c l ih=>
   simp only[List.map_cons,mkD,ih];cases c <;> rfl
 unfold fzH;rw[Do (b:=b.fz i ver r) (by rw[List.getElem?_map,hi];rfl) (by cases b <;> simp_all[ABlk.fz,ABlk.mrk]),e]
theorem RK{i ver:Nat}{r:AV}:(fzH i ver r h).length=h.length:=by simp[fzH]
mutual
theorem Yu{i ver:Nat}{r:AV}{S':Nat→Prop}(hS:∀k,S k→S' k)(hr:∀v,AV.rel w S h ψ (.own i ver) v→AV.rel w S' (fzH i ver r h) ψ r v):∀(x:AV) (v:Value),AV.rel w S h ψ x v→AV.rel w S' (fzH i ver r h) ψ (AV.fz i ver r x) v
 | .any,_,_=>by unfold AV.fz AV.rel;trivial
 | .lit u,v,H=>by unfold AV.fz;unfold AV.rel at H⊢;exact H
 | .bs T l,v,H=>by unfold AV.fz;unfold AV.rel at H⊢;exact T.slice.keepS H (fun _ _=>rfl) hS
 | .tv T d,v,H=>by unfold AV.fz;unfold AV.rel at H⊢;exact T.keepS H (fun _ _=>rfl) hS
 | .own j c,v,H=>by
  unfold AV.fz;split
  ·rename_i e;obtain⟨rfl,rfl⟩:=e;exact hr v H
  ·unfold AV.rel at H⊢;exact⟨by rw[RK];exact H.1,fun c' hv=>H.2 c' (RJ hv).2.1⟩
 | .ptr j off,v,H=>by
  unfold AV.fz;unfold AV.rel at H⊢;exact⟨by rw[RK];exact H.1,fun hv=>H.2 (Afv hv)⟩
 | .rp j c k off,v,H=>by
  unfold AV.fz;unfold AV.rel at H⊢;refine⟨by rw[RK];exact H.1,fun c' hv=>?_⟩;rw[(RJ hv).2.2];exact H.2 c' (RJ hv).2.1
 | .bp T d off,v,H=>by
  unfold AV.fz;unfold AV.rel at H⊢;obtain⟨b,o,e,hat⟩:=H;exact⟨b,o,e,hat.keep (fun _ _=>rfl) hS⟩
 | .agg l,v,H=>by
  unfold AV.fz;unfold AV.rel at H⊢;obtain⟨cs,e,hl⟩:=H;exact⟨cs,e,Ei hS hr l cs hl⟩
 | .tup l,v,H=>by
  unfold AV.fz;unfold AV.rel at H⊢;obtain⟨cs,e,hl⟩:=H;exact⟨cs,e,Ei hS hr l cs hl⟩
 | .fn f l,v,H=>by
  unfold AV.fz;unfold AV.rel at H⊢;obtain⟨cs,e,hl⟩:=H;exact⟨cs,e,Ei hS hr l cs hl⟩
theorem Ei{i ver:Nat}{r:AV}{S':Nat→Prop}(hS:∀k,S k→S' k)(hr:∀v,AV.rel w S h ψ (.own i ver) v→AV.rel w S' (fzH i ver r h) ψ r v):∀(l:List AV) (cs:List Value),Ad w S h ψ l cs→Ad w S' (fzH i ver r h) ψ (Gj i ver r l) cs
 | [],cs,H=>by unfold Gj;unfold Ad at H⊢;exact H
 |x::l,cs,H=>by
  unfold Gj;unfold Ad at H⊢;obtain⟨v,vs,e,h1,h2⟩:=H;exact⟨v,vs,e,Yu hS hr x v h1,Ei hS hr l vs h2⟩
end
end
theorem Oy{C:Ctx}(hC:C.std){t:List AV}{h:List ABlk}(i:Nat){ver:Nat}{e:TypeId}{α:Type}{T:Ty α}{l:List α}(hi:h[i]? =some (.row ver e T l)):St.le C ⟨t,h⟩ ⟨Gj i ver (.bs T l) t,fzH i ver (.bs T l) h⟩:=fun a w ⟨hd,S,ψ,H,hl⟩=>by
 obtain⟨cells,hown,h0,hR,hNS⟩:=H.blk i _ hi;have hil:=(List.getElem?_eq_some_iff.1 hi).1;have hS:∀k,S k→(S k∨(ψ i).ownBlock=some k):=fun k hk=>.inl hk
 have hr:∀v,AV.rel w S h ψ (.own i ver) v→AV.rel w (fun k=>S k∨(ψ i).ownBlock=some k) (fzH i ver (.bs T l) h) ψ (.bs T l) v:=fun v hv=>by
  unfold AV.rel at hv⊢;have:=(hv.2 _ (by rw[hi];rfl)).2 rfl;subst this;exact Ch hown (fun i d hd=>T.keepS (hR i d hd) (fun _ _=>rfl) hS) fun g hg=>.inr hg
 have hbψ:∀g,(ψ i).ownBlock=some g→BX (ψ i)=some g:=fun g hg=>AR hg
 refine⟨hd.trans (Aos hi rfl).symm,fun k=>S k∨(ψ i).ownBlock=some k,ψ,⟨H.bel,H.nlt,fun k hk=>?_,fun k hk=>.inl (H.sub k hk),fun k hk=>?_,fun j b hj=>?_,fun j k hjk hj hk=>?_⟩,Ei hS hr _ _ hl⟩
 ·rcases hk with hk|hk
  ·exact H.lt k hk
  ·exact(World.ownsRow.lt hown k hk).2
 ·rcases hk with hk|hk
  ·exact H.new k hk
  ·exact .inr (Nat.le_of_not_lt fun hlt=>(hNS k hk).1 (hC k hlt))
 ·by_cases hji:j=i
  ·subst hji;unfold fzH at hj;rw[List.getElem?_set_self (by simpa using hil)]at hj;cases hj;trivial
  ·have hj':=hj;unfold fzH at hj';rw[List.getElem?_set_ne (Ne.symm hji),List.getElem?_map]at hj';obtain⟨b0,hb0,rfl⟩:=Option.map_eq_some_iff.1 hj';have hB:=H.blk j b0 hb0;have hdis:ABlk.live (some b0)=true→∀g,ftp (some b0) (ψ j) g→(ψ i).ownBlock≠some g:=fun hlv g hg e=>H.dis j i hji (by rw[hb0];exact hlv) (by rw[hi];rfl) g (by rw[hb0];exact hg) (by rw[hi];exact hbψ g e)
   cases b0 with
   |dead=>trivial
   |box cells'=>
    obtain⟨g,cs,e',k1,k2,k3,k4,k5⟩:=hB;exact⟨g,cs,e',k1,k2,fun hk=>hk.elim k3 (hdis rfl g (by rw[k1];rfl)),k4,Ei hS hr _ _ k5⟩
   |row v' e' T' l'=>
    obtain⟨cells',k1,k2,k3,k4⟩:=hB;exact⟨cells',k1,k2,fun i d hd=>T'.keepS (k3 i d hd) (fun _ _=>rfl) hS,fun g hg=>⟨(k4 g hg).1,fun hk=>hk.elim (k4 g hg).2 (hdis rfl g (AR hg))⟩⟩
   |res R=>
    obtain⟨k1,k2⟩:=hB;exact⟨fun g hg=>⟨(k1 g hg).1,fun hk=>hk.elim (k1 g hg).2.1 (hdis rfl g hg),(k1 g hg).2.2⟩,R.keep k2 (fun _ _=>rfl) (fun _ _=>rfl) hS⟩
 ·have key:∀j,ABlk.live (fzH i ver (.bs T l) h)[j]? =true→ABlk.live h[j]? =true:=fun j hj=>by
   unfold fzH at hj;by_cases hji:j=i
   ·subst hji;rw[List.getElem?_set_self (by simpa using hil)]at hj;simp[ABlk.live]at hj
   ·rw[List.getElem?_set_ne (Ne.symm hji),List.getElem?_map]at hj;cases hb:h[j]? with
    |none=>rw[hb]at hj;simp[ABlk.live]at hj
    |some b=>rw[hb]at hj;cases b <;> simp[ABlk.fz,ABlk.live]at hj⊢
  exact fun g h1 h2=>H.dis j k hjk (key j hj) (key k hk) g (Xk hj h1) (Xk hk h2)
end Mu
end
section
namespace Mu
open Go Go.RowKit Go.ChangeShapes Go.WideShapes Go.Proofs
class AG(P:Program)(ty:TypeId)(b:outParam Bool)(n:outParam Nat):Prop where
 eq:OO P ty=some (b,n)
class FO(P:Program)(st:TypeId)(j:Nat)(n:outParam Nat):Prop where
 eq:KM P st j=some n
class ES(P:Program)(ty:TypeId)(n:outParam Nat):Prop where
 eq:LQ P ty=some n
class SL(P:Program)(ty:TypeId):Prop where
 eq:GH P ty=true
class RT(P:Program)(ty:TypeId)(e:outParam TypeId)(n bytes:outParam Nat):Prop where
 eq:Hm P ty=some (e,n,bytes)
class SZ(P:Program)(ty:TypeId)(n:outParam Nat):Prop where
 eq:VZ P ty=some n
class TyOf(P:Program)(e:TypeId)(α:outParam Type)(T:outParam (Ty α)):Prop where
 eq:True
class ZC(P:Program)(ty:TypeId)(zs:outParam (List Value)):Prop where
 eq:Bj P ty=some zs
class EncOf{α:Type}(T:Ty α)(enc:outParam (α→List AV)):Prop where
 ok:Enc T enc
 one:QW T
 pos:0 < T.size
section
variable{P:Program}{C:Ctx}{s:St}{o:Oper}{K:St→Prop}{t:List AV}{h:List ABlk}{ops:Array Oper}{rest:List Oper}
theorem X9{r:AV}{K:St→Prop}(hg:gA ops t o=some true)(hq:Av P C t h o r)(hk:Ck P C ops K rest ⟨AJ t o.dst r,h⟩):Ck P C ops K (o::rest) ⟨t,h⟩:=
 ⟨true,hg,fun _=>QM hq hk,fun e=>by cases e⟩
theorem Apb{K:St→Prop}(hg:gA ops t o=some true)(hq:AOp P C o ⟨t,h⟩ (Ck P C ops K rest)):Ck P C ops K (o::rest) ⟨t,h⟩:=
 ⟨true,hg,fun _=>hq,fun e=>by cases e⟩
theorem L8{K:St→Prop}(hg:gA ops t o=some false)(hk:Ck P C ops K rest ⟨AJ t o.dst (.lit undef),h⟩):Ck P C ops K (o::rest) ⟨t,h⟩:=
 ⟨false,hg,(fun e=>by cases e),fun _=>hk⟩
theorem Ao{K:St→Prop}{s:St}(hg:gA ops s.t o=some true)(hq:AOp P C o s (Ck P C ops K rest)):Ck P C ops K (o::rest) s:=
 ⟨true,hg,fun _=>hq,fun e=>by cases e⟩
theorem BG{r:AV}{K:St→Prop}(hq:Av P C t h o r)(hk:K ⟨AJ t o.dst r,h⟩):AOp P C o ⟨t,h⟩ K:=QM hq hk
theorem Agf{K:St→Prop}{l:List Oper}{t':List AV}{h':List ABlk}(ht:t=t')(hh:h=h')(hk:Ck P C ops K l ⟨t',h'⟩):Ck P C ops K l ⟨t,h⟩:=by subst ht hh;exact hk
def QOp(P:Program)(C:Ctx)(o:Oper)(t:List AV)(h:List ABlk)(K:List AV→Prop):Prop:=∃r,Av P C t h o r∧K (AJ t o.dst r)
theorem DA{r:AV}{K:List AV→Prop}(hq:Av P C t h o r)(hk:K (AJ t o.dst r)):QOp P C o t h K:=⟨r,hq,hk⟩
theorem Ar{K:St→Prop}{s:St}(hk:K s):Ck P C ops K [] s:=hk
theorem Arf{r:AV}{K:List AV→Prop}(hg:gA ops t o=some true)(hq:Av P C t h o r)(hk:aQ P C ops h K rest (AJ t o.dst r)):aQ P C ops h K (o::rest) t:=⟨r,.inl ⟨hg,hq⟩,hk⟩
theorem Agh{K:List AV→Prop}(hg:gA ops t o=some false)(hk:aQ P C ops h K rest (AJ t o.dst (.lit undef))):aQ P C ops h K (o::rest) t:=⟨_,.inr ⟨hg,rfl⟩,hk⟩
theorem FD{K:List AV→Prop}(hk:K t):aQ P C ops h K [] t:=hk
theorem Dr{c:Code}{Q:Exit→St→Prop}{t t':List AV}{h h':List ABlk}(ht:t=t')(hh:h=h')(hk:Awp P C c Q ⟨t',h'⟩):Awp P C c Q ⟨t,h⟩:=by subst ht hh;exact hk
theorem OF{x y:Code}{Q:Exit→St→Prop}{s:St}(M:St)(h1:Awp P C x (JK (fun s'=>St.le C s' M) fun _ _=>False) s)(h2:Awp P C y Q M):Awp P C (.seq x y) Q s:=
 Ac fun K hK=>h1.mono fun e s' hq=>by
  cases e with
  |normal=>exact hK _ (h2.le hq)
  |_=>exact hq.elim
theorem As{c:Code}{Q:Exit→St→Prop}{s:St}(M:St)(h1:St.le C s M)(h2:Awp P C c Q M):Awp P C c Q s:=h2.le h1
theorem FJ{op:BinOp}{xt yt:TypeId}{x y:Operand}{k:IntKind}{a b:Int}{c q:Bool}(ho:o.op= .binOp op xt x y yt)(hx:evA t x= .lit (.int k a))(hy:evA t y= .lit (.int k b))(hv:IP op k a b=some (.bool c))(hc:c=q):Av P C t h o (.lit (.bool q)):=by
 subst hc;exact B7 ho hx hy hv
def Us:AV→Bool
 | .lit v=>v.oneCell'
 | .bs _ _=>true
 |_=>false
theorem Jf{x:AV}(hx:Mu.Us x=true):One h x:=by
 cases x <;> simp[Mu.Us]at hx
 ·exact One.lit hx
 ·exact One.bs
theorem Eh{l:List AV}(hl:l.all Mu.Us=true):OC h (.agg l) l:=OC.agg fun x hx=>Jf (List.all_eq_true.1 hl x hx)
theorem Agu{ty:TypeId}{x y:Operand}{k k':IntKind}{n:Nat}{e:TypeId}{z:Value}{bytes:Nat}{α:Type}{T:Ty α}{K:St→Prop}(d:α)(ho:o.op= .makeSlice ty x y)(hz:E2 P ty=some (e,z,bytes))(hT:T.size=1)(hd0:∀w S,T.RS w S [z] d)
 (hx:evA t x= .lit (.int k (n:Int))) (hy:evA t y= .lit (.int k' (n:Int))) (hb:bytes * n≤281474976710656) (hn:n≤maxLen) (hK:K ⟨AJ t o.dst (.own h.length 0),h++[.row 0 e T (List.replicate n d)]⟩):AOp P C o ⟨t,h⟩ K:=
 Aa0 (s:=⟨t,h⟩) ho hz hT hd0 hx hy hb hn hK
theorem AOp.al{elem:TypeId}{zs:List Value}{K:St→Prop}[ZC P elem zs](ho:o.op= .alloc elem)(hK:K ⟨AJ t o.dst (.ptr h.length 0),h++[.box (zs.map .lit)]⟩):AOp P C o ⟨t,h⟩ K:=AOp.alloc (s:=⟨t,h⟩) ho ZC.eq hK
theorem athen_n{K:St→Prop}{Q:Exit→St→Prop}{s:St}(hk:K s):JK K Q .normal s:=hk
def bdH(h:List ABlk):Bool:=h.all (Z5 h.length)
theorem BD{t t':List AV}{h:List ABlk}(hb:bdH h=true)(hf:Fgt h.length t t'):St.le C ⟨t,h⟩ ⟨t',h⟩:=Qt (Cut.refl h) (fun b hm=>List.all_eq_true.1 hb b hm) hf rfl
theorem B5{t t':List AV}{h h':List ABlk}(hc:Cut h h')(hb:bdH h'=true)(hf:Fgt h'.length t t')(hm:mkD h'=mkD h:=by rfl):St.le C ⟨t,h⟩ ⟨t',h'⟩:=Qt hc (fun b hm=>List.all_eq_true.1 hb b hm) hf hm
theorem Au{c:Code}{Q:Exit→St→Prop}{s:St}{β:Type}(F:β→St)(I:β→Prop)(μ:β→Nat)(b0:β)(hI:I b0)(h0:St.le C s (F b0))
 (hr:∀b,I b→Awp P C c (JK (fun s'=>∃b',I b'∧μ b' < μ b∧St.le C s' (F b')) Q) (F b)):Awp P C (.loop c) Q s:=
 Awp.loop (fun m s=>∃b,I b∧m=μ b∧s=F b) (μ b0) ⟨_,h0,b0,hI,rfl,rfl⟩ fun m s ⟨b,hb,hm,hs⟩=>by
  subst hm hs;refine(hr b hb).mono fun e s' hq=>?_
  cases e with
  |normal=>
   obtain⟨b',h1,h2,h3⟩:=hq;exact⟨μ b',h2,F b',h3,b',h1,rfl,rfl⟩
  |_=>exact hq
theorem Bh{ty:TypeId}{x:Operand}{n i off:Nat}{r:AV}{cells:List AV}[AG P ty false n](ho:o.op= .load ty x)(hx:evA t x= .ptr i off)(hi:h[i]? =some (.box cells))(hr:(cells.drop off)[0]? =some r):Av P C t h o r:=
 C9 ho AG.eq hx (Ii.ptr hi) hr
theorem Dq{ty:TypeId}{x:Operand}{n off:Nat}{r:AV}{α:Type}{T:Ty α}{d:α}{enc:α→List AV}[AG P ty false n][EncOf T enc](ho:o.op= .load ty x)(hx:evA t x= .bp T d off)(hr:((enc d).drop off)[0]? =some r):Av P C t h o r:=
 C9 ho AG.eq hx (Ii.bp EncOf.ok) hr
theorem Cw{ty:TypeId}{x:Operand}{n i ver k off:Nat}{e:TypeId}{r:AV}{α:Type}{T:Ty α}{l:List α}{d:α}{enc:α→List AV}[AG P ty false n][EncOf T enc](ho:o.op= .load ty x)(hx:evA t x= .rp i ver k off)(hi:h[i]? =some (.row ver e T l))(hk:l[k]? =some d)
 (hr:((enc d).drop off)[0]? =some r):Av P C t h o r:=
 C9 ho AG.eq hx (Ii.rp hi hk EncOf.ok) hr
theorem Bt{ty:TypeId}{x:Operand}{n i off:Nat}{cells:List AV}[AG P ty true n](ho:o.op= .load ty x)(hx:evA t x= .ptr i off)(hi:h[i]? =some (.box cells))(hn:((cells.drop off).take n).length=n):Av P C t h o (.agg ((cells.drop off).take n)):=
 ED ho AG.eq hx (Ii.ptr hi) rfl hn
theorem CD{ty:TypeId}{x:Operand}{n off:Nat}{α:Type}{T:Ty α}{d:α}{enc:α→List AV}[AG P ty true n][EncOf T enc](ho:o.op= .load ty x)(hx:evA t x= .bp T d off)(hn:(((enc d).drop off).take n).length=n):Av P C t h o (.agg (((enc d).drop off).take n)):=
 ED ho AG.eq hx (Ii.bp EncOf.ok) rfl hn
theorem Bz{st:TypeId}{x:Operand}{j n i off:Nat}{cells:List AV}[FO P st j n](ho:o.op= .fieldAddr st x j)(hx:evA t x= .ptr i off)(hi:h[i]? =some (.box cells)):Av P C t h o (.ptr i (off+n)):=
 Av.fieldAddr ho FO.eq hx (Agi.ptr hi)
theorem Da{st:TypeId}{x:Operand}{j n off:Nat}{α:Type}{T:Ty α}{d:α}[FO P st j n](ho:o.op= .fieldAddr st x j)(hx:evA t x= .bp T d off):Av P C t h o (.bp T d (off+n)):=
 Av.fieldAddr ho FO.eq hx Agi.bp
theorem Jc{ty:TypeId}{x y:Operand}{ik:IntKind}{k n:Nat}{α:Type}{T:Ty α}{l:List α}{d:α}[ES P ty n](ho:o.op= .indexAddr ty x y)(hx:evA t x= .bs T l)(hy:evA t y= .lit (.int ik (k:Int)))(hs:T.size=n)(hd:l[k]? =some d):Av P C t h o (.bp T d 0):=
 Hw ho (by rw[hs];exact ES.eq) hx hy (by omega) (by simpa using hd)
theorem FH{ty:TypeId}{x y:Operand}{ik:IntKind}{m:Int}{n:Nat}{α:Type}{T:Ty α}{l:List α}{d:α}[ES P ty n](ho:o.op= .indexAddr ty x y)(hx:evA t x= .bs T l)(hy:evA t y= .lit (.int ik m))(hs:T.size=n)(h0:0≤m)(hd:l[m.toNat]? =some d):Av P C t h o (.bp T d 0):=
 Hw ho (by rw[hs];exact ES.eq) hx hy h0 hd
theorem FG{ty:TypeId}{x y:Operand}{ik:IntKind}{k n i ver:Nat}{e:TypeId}{α:Type}{T:Ty α}{l:List α}[ES P ty n](ho:o.op= .indexAddr ty x y)(hx:evA t x= .own i ver)(hi:h[i]? =some (.row ver e T l))(hy:evA t y= .lit (.int ik (k:Int)))(hs:T.size=n)(hk:k < l.length):
 Av P C t h o (.rp i ver k 0):=by
 have:=GQ (P:=P) (C:=C) (h:=h) ho hx hi (by rw[hs];exact ES.eq) hy (by omega) (by simpa using hk);simpa using this
theorem Eg{ty:TypeId}{x y:Operand}{ik:IntKind}{m:Int}{n i ver:Nat}{e:TypeId}{α:Type}{T:Ty α}{l:List α}[ES P ty n](ho:o.op= .indexAddr ty x y)(hx:evA t x= .own i ver)(hi:h[i]? =some (.row ver e T l))(hy:evA t y= .lit (.int ik m))(hs:T.size=n)(h0:0≤m)(hk:m.toNat < l.length):
 Av P C t h o (.rp i ver m.toNat 0):=GQ ho hx hi (by rw[hs];exact ES.eq) hy h0 hk
theorem Av.ln{ty:TypeId}{x:Operand}{α:Type}{T:Ty α}{l:List α}[SL P ty](ho:o.op= .call {callee:=.builtin .len,args:=#[x],argTypes:=#[ty]})(hx:evA t x= .bs T l):Av P C t h o (.lit (.int .i64 (l.length:Int))):=Qv ho SL.eq hx
theorem FF{ty:TypeId}{x:Operand}{i ver:Nat}{e:TypeId}{α:Type}{T:Ty α}{l:List α}[SL P ty](ho:o.op= .call {callee:=.builtin .len,args:=#[x],argTypes:=#[ty]})(hx:evA t x= .own i ver)(hi:h[i]? =some (.row ver e T l)):Av P C t h o (.lit (.int .i64 (l.length:Int))):=Oz ho hx hi SL.eq
theorem C5{ty:TypeId}{x:Operand}{a:Option Addr}{n c:Nat}[SL P ty](ho:o.op= .call {callee:=.builtin .len,args:=#[x],argTypes:=#[ty]})(hx:evA t x= .lit (.slice a n c)):Av P C t h o (.lit (.int .i64 (n:Int))):=OA ho hx SL.eq
theorem Dt{ty:TypeId}{x y:Operand}{i off n:Nat}{cells new:List AV}[SZ P ty n](ho:o.op= .store ty x y)(hx:evA t x= .ptr i off)(hi:h[i]? =some (.box cells))(hp:OC h (evA t y) new)(hs:n=new.length)(hle:off+new.length≤cells.length)
 (hK:K ⟨AJ t o.dst (.lit undef),h.set i (.box (cells.take off++new++cells.drop (off+new.length)))⟩):AOp P C o ⟨t,h⟩ K:=QL (s:=⟨t,h⟩) ho hx hi hp (by rw[←hs];exact SZ.eq) hle hK
theorem Mq{ty:TypeId}{x y:Operand}{i ver k n:Nat}{e:TypeId}{α:Type}{T:Ty α}{l:List α}{d d':α}{enc:α→List AV}[SZ P ty n][EncOf T enc](ho:o.op= .store ty x y)(hx:evA t x= .rp i ver k 0)(hi:h[i]? =some (.row ver e T l))(hk:l[k]? =some d)
 (hf:Fit h T (evA t y) d') (hs:T.size=n) (hK:K ⟨AJ t o.dst (.lit undef),h.set i (.row ver e T (l.set k d'))⟩):AOp P C o ⟨t,h⟩ K:=QJ (s:=⟨t,h⟩) ho hx hi hk (Hc hf EncOf.one) (by rw[hs];exact SZ.eq) hK
theorem OK{ty:TypeId}{x y:Operand}{i ver:Nat}{e:TypeId}{bytes n:Nat}{α:Type}{T:Ty α}{l l2:List α}{enc:α→List AV}[RT P ty e n bytes][EncOf T enc](ho:o.op= .call {callee:=.builtin .append,args:=#[x,y],argTypes:=#[ty,ty]})
 (hx:evA t x= .own i ver) (hi:h[i]? =some (.row ver e T l)) (hy:evA t y= .bs T l2) (hs:T.size=n) (hlen:l.length+l2.length≤maxLen) (hbytes:(l.length+l2.length) * bytes≤140737488355328)
 (hK:K ⟨AJ t o.dst (.own i (ver+1)),h.set i (.row (ver+1) e T (l++l2))⟩):AOp P C o ⟨t,h⟩ K:=AOp.append (s:=⟨t,h⟩) ho (by rw[hs];exact RT.eq) hx hi hy EncOf.one hlen hbytes hK
theorem Av.lt{ty e:TypeId}{bytes n m:Nat}{parts:Array (Nat×Operand)}{xs:List Operand}{α:Type}{T:Ty α}{ds:List α}{enc:α→List AV}[RT P ty e m bytes][EncOf T enc](ho:o.op= .buildSlice ty n parts)(hp:parts=DF xs)(hn:n=xs.length)
 (hs:T.size=m) (hsz:n * T.size≤16777216) (hf:Fits h T (xs.map (evA t)) ds):Av P C t h o (.bs T ds):=Av.lit ho hp hn (by rw[hs];exact RT.eq) (EncOf.pos (T:=T) (enc:=enc)) hsz hf
end
section
variable{P:Program}{C:Ctx}{o:Oper}{t:List AV}{h:List ABlk}
theorem CB{ty e:TypeId}{bytes n m:Nat}{parts:Array (Nat×Operand)}{x:Operand}{α:Type}{T:Ty α}{d:α}{enc:α→List AV}[RT P ty e m bytes][TyOf P e α T][EncOf T enc](ho:o.op= .buildSlice ty n parts)(hp:parts= #[(0,x)])(hn:n=1)
 (hs:T.size=m) (hsz:T.size≤16777216) (hf:Fit h T (evA t x) d):Av P C t h o (.bs T [d]):=Av.lt (xs:=[x]) ho hp hn hs (by subst hn;omega) (.cons hf .nil)
end
instance Adx(k:IntKind):EncOf (Ty.int k) fun d=>[.lit (.int k d)]:=⟨Xw k,N3,Nat.zero_lt_one⟩
instance Alf:EncOf tInt fun d=>[.lit (.int .i64 d)]:=⟨Xw .i64,N3,by decide⟩
instance Ale:EncOf Ty.bool fun d=>[.lit (.bool d)]:=⟨ZR,Wu,by decide⟩
instance Adw{α:Type}(T:Ty α):EncOf T.slice fun l=>[.bs T l]:=⟨Xv T,one1_slice,Nat.zero_lt_one⟩
@[reducible] def AL(x:Ins):List AV:=[.lit (.int .u8 x.op),.lit (.int .i64 x.d),.lit (.int .i64 x.a),.lit (.int .i64 x.b),.lit (.int .u32 x.n),.lit (.int .i64 x.f),.bs tInt x.args,.lit (.int .i64 x.l1),.lit (.int .i64 x.l2)]
@[reducible] def BZ(x:Block):List AV:=[.lit (.string x.name),.bs Dj x.ins]
@[reducible] def Ak(x:Func):List AV:=[.lit (.string x.name),.lit (.int .i64 x.args),.lit (.int .i64 x.regs),.bs Bs x.blocks]
@[reducible] def AU(x:Prog):List AV:=[.lit (.int .i64 x.heap),.bs tInt x.threads,.bs B4 x.funcs]
theorem Xx:Enc Dj AL:=by
 intro w S h ψ cs d H;obtain⟨A,c,hI⟩:=It.1 H;rw[hI.cs];have ha:=hI.args;simp only[AL,Ad,AV.rel];exact⟨_,_,rfl,rfl,_,_,rfl,rfl,_,_,rfl,rfl,_,_,rfl,rfl,_,_,rfl,rfl,_,_,rfl,rfl,_,_,rfl,ha,_,_,rfl,rfl,_,_,rfl,rfl,rfl⟩
theorem P7:Enc Bs BZ:=by
 intro w S h ψ cs d H;obtain⟨A,c,rfl,_,hs⟩:=Ky.1 H;simp only[BZ,Ad,AV.rel];exact⟨_,_,rfl,rfl,_,_,rfl,hs,rfl⟩
theorem Tj:Enc B4 Ak:=by
 intro w S h ψ cs d H;obtain⟨A,c,rfl,_,_,_,hs⟩:=NJ.1 H;simp only[Ak,Ad,AV.rel];exact⟨_,_,rfl,rfl,_,_,rfl,rfl,_,_,rfl,rfl,_,_,rfl,hs,rfl⟩
theorem Ti:Enc Dl AU:=by
 intro w S h ψ cs d H;obtain⟨A,c,A',c',rfl,_,ht,hs⟩:=KV.1 H;simp only[AU,Ad,AV.rel];exact⟨_,_,rfl,rfl,_,_,rfl,ht,_,_,rfl,hs,rfl⟩
theorem Zi:QW Dj:=Ct Xx fun d x hx=>by
 simp only[AL,List.mem_cons,List.not_mem_nil,or_false]at hx;rcases hx with rfl|rfl|rfl|rfl|rfl|rfl|rfl|rfl|rfl <;> first|exact .inl ⟨_,rfl,rfl⟩|exact .inr ⟨_,_,_,rfl⟩
theorem Uf:QW Bs:=Ct P7 fun d x hx=>by
 simp only[BZ,List.mem_cons,List.not_mem_nil,or_false]at hx;rcases hx with rfl|rfl <;> first|exact .inl ⟨_,rfl,rfl⟩|exact .inr ⟨_,_,_,rfl⟩
theorem Wt:QW B4:=Ct Tj fun d x hx=>by
 simp only[Ak,List.mem_cons,List.not_mem_nil,or_false]at hx;rcases hx with rfl|rfl|rfl|rfl <;> first|exact .inl ⟨_,rfl,rfl⟩|exact .inr ⟨_,_,_,rfl⟩
theorem Ws:QW Dl:=Ct Ti fun d x hx=>by
 simp only[AU,List.mem_cons,List.not_mem_nil,or_false]at hx;rcases hx with rfl|rfl|rfl <;> first|exact .inl ⟨_,rfl,rfl⟩|exact .inr ⟨_,_,_,rfl⟩
instance Ald:EncOf Dj AL:=⟨Xx,Zi,by decide⟩
instance Alc:EncOf Bs BZ:=⟨P7,Uf,by decide⟩
instance Alb:EncOf B4 Ak:=⟨Tj,Wt,by decide⟩
instance Ala:EncOf Dl AU:=⟨Ti,Ws,by decide⟩
instance Ak9:AG Tryz.prog 3 false 1:=⟨by kernel_rfl⟩
instance Ak8:SZ Tryz.prog 3 1:=⟨by kernel_rfl⟩
instance Aix:AG Tryz.prog 4 false 1:=⟨by kernel_rfl⟩
instance Aiw:SZ Tryz.prog 4 1:=⟨by kernel_rfl⟩
instance Aiv:AG Tryz.prog 5 false 1:=⟨by kernel_rfl⟩
instance Aiu:AG Tryz.prog 38 false 1:=⟨by kernel_rfl⟩
instance Ait:SZ Tryz.prog 38 1:=⟨by kernel_rfl⟩
instance Ais:AG Tryz.prog 9 false 1:=⟨by kernel_rfl⟩
instance Air:AG Tryz.prog 22 false 1:=⟨by kernel_rfl⟩
instance Aiq:SZ Tryz.prog 22 1:=⟨by kernel_rfl⟩
instance Aip:ES Tryz.prog 22 1:=⟨by kernel_rfl⟩
instance Aio:SL Tryz.prog 22:=⟨by kernel_rfl⟩
instance Ain:RT Tryz.prog 22 3 1 8:=⟨by kernel_rfl⟩
instance Aim:AG Tryz.prog 116 false 1:=⟨by kernel_rfl⟩
instance Ail:ES Tryz.prog 116 1:=⟨by kernel_rfl⟩
instance Aik:AG Tryz.prog 46 false 1:=⟨by kernel_rfl⟩
instance Aij:SZ Tryz.prog 46 1:=⟨by kernel_rfl⟩
instance Aii:ES Tryz.prog 46 9:=⟨by kernel_rfl⟩
instance Aih:SL Tryz.prog 46:=⟨by kernel_rfl⟩
instance Aig:RT Tryz.prog 46 40 9 88:=⟨by kernel_rfl⟩
instance Aif:AG Tryz.prog 43 false 1:=⟨by kernel_rfl⟩
instance Aie:SZ Tryz.prog 43 1:=⟨by kernel_rfl⟩
instance Aid:ES Tryz.prog 43 2:=⟨by kernel_rfl⟩
instance Aic:SL Tryz.prog 43:=⟨by kernel_rfl⟩
instance Aib:RT Tryz.prog 43 48 2 40:=⟨by kernel_rfl⟩
instance Aia:AG Tryz.prog 23 false 1:=⟨by kernel_rfl⟩
instance Ah9:SZ Tryz.prog 23 1:=⟨by kernel_rfl⟩
instance Ah8:ES Tryz.prog 23 4:=⟨by kernel_rfl⟩
instance Ah7:SL Tryz.prog 23:=⟨by kernel_rfl⟩
instance Ah6:RT Tryz.prog 23 45 4 56:=⟨by kernel_rfl⟩
instance Ah5:RT Tryz.prog 78 22 1 24:=⟨by kernel_rfl⟩
instance Ah4:ES Tryz.prog 115 1:=⟨by kernel_rfl⟩
instance Ah3:RT Tryz.prog 115 116 1 24:=⟨by kernel_rfl⟩
instance Ah2:RT Tryz.prog 71 78 1 24:=⟨by kernel_rfl⟩
instance Ah1:AG Tryz.prog 40 true 9:=⟨by kernel_rfl⟩
instance Ah0:SZ Tryz.prog 40 9:=⟨by kernel_rfl⟩
instance Ahz:AG Tryz.prog 48 true 2:=⟨by kernel_rfl⟩
instance Ahy:SZ Tryz.prog 48 2:=⟨by kernel_rfl⟩
instance Ahx:AG Tryz.prog 45 true 4:=⟨by kernel_rfl⟩
instance Ahw:SZ Tryz.prog 45 4:=⟨by kernel_rfl⟩
instance Ahv:AG Tryz.prog 25 true 3:=⟨by kernel_rfl⟩
instance Ahu:SZ Tryz.prog 25 3:=⟨by kernel_rfl⟩
instance Aht:TyOf Tryz.prog 3 _ tInt:=⟨trivial⟩
instance Ahs:TyOf Tryz.prog 38 _ (Ty.int .u32):=⟨trivial⟩
instance Ahr:TyOf Tryz.prog 22 _ tInt.slice:=⟨trivial⟩
instance Ahq:TyOf Tryz.prog 116 _ Ty.bool.slice:=⟨trivial⟩
instance Ahp:TyOf Tryz.prog 78 _ tInt.slice.slice:=⟨trivial⟩
instance Aho:ZC Tryz.prog 40 [.int .u8 0,.int .i64 0,.int .i64 0,.int .i64 0,.int .u32 0,.int .i64 0,.slice none 0 0,.int .i64 0,.int .i64 0]:=⟨by kernel_rfl⟩
instance Ahn:ZC Tryz.prog 48 [.string ⟨#[]⟩,.slice none 0 0]:=⟨by kernel_rfl⟩
instance Ahm:ZC Tryz.prog 45 [.string ⟨#[]⟩,.int .i64 0,.int .i64 0,.slice none 0 0]:=⟨by kernel_rfl⟩
instance Ahl:ZC Tryz.prog 25 [.int .i64 0,.slice none 0 0,.slice none 0 0]:=⟨by kernel_rfl⟩
instance Ahk:FO Tryz.prog 40 0 0:=⟨by kernel_rfl⟩
instance Ahj:FO Tryz.prog 40 1 1:=⟨by kernel_rfl⟩
instance Ahi:FO Tryz.prog 40 2 2:=⟨by kernel_rfl⟩
instance Ahh:FO Tryz.prog 40 3 3:=⟨by kernel_rfl⟩
instance Ahg:FO Tryz.prog 40 4 4:=⟨by kernel_rfl⟩
instance Ahf:FO Tryz.prog 40 5 5:=⟨by kernel_rfl⟩
instance Ahe:FO Tryz.prog 40 6 6:=⟨by kernel_rfl⟩
instance Ahd:FO Tryz.prog 40 7 7:=⟨by kernel_rfl⟩
instance Ahc:FO Tryz.prog 40 8 8:=⟨by kernel_rfl⟩
instance Ahb:FO Tryz.prog 48 0 0:=⟨by kernel_rfl⟩
instance Aha:FO Tryz.prog 48 1 1:=⟨by kernel_rfl⟩
instance Ag9:FO Tryz.prog 45 0 0:=⟨by kernel_rfl⟩
instance Ag8:FO Tryz.prog 45 1 1:=⟨by kernel_rfl⟩
instance Ag7:FO Tryz.prog 45 2 2:=⟨by kernel_rfl⟩
instance Ag6:FO Tryz.prog 45 3 3:=⟨by kernel_rfl⟩
instance Ad0:FO Tryz.prog 25 0 0:=⟨by kernel_rfl⟩
instance Adz:FO Tryz.prog 25 1 1:=⟨by kernel_rfl⟩
instance Ady:FO Tryz.prog 25 2 2:=⟨by kernel_rfl⟩
end Mu
end
section
namespace Go.Proofs
open Go.Shelf
def Tryz.lays189_ren:Go.Shelf.Ren:=⟨fun|189=>88|125=>148|257=>147|128=>194|129=>195|294=>185|295=>186|296=>187|297=>188|298=>189|299=>190|216=>191|300=>192|301=>193|328=>211|329=>212|330=>213|331=>214|332=>215|215=>183|343=>248|n=>n,fun|28=>22|3=>3|46=>202|0=>0|51=>38|53=>237|4=>4|183=>230|182=>229|131=>160|5=>5|9=>9|218=>259|222=>263|228=>278|229=>279|n=>n,fun|n=>n⟩
theorem Tryz.lays189:Go.Proofs.Lays.n189 Tryz.prog Tryz.lays189_ren:={
 mixed:=by kernel_rfl
 f125:=Tryz.func148.trans (congrArg some (by kernel_rfl))
 f128:=Tryz.func194.trans (congrArg some (by kernel_rfl))
 f129:=Tryz.func195.trans (congrArg some (by kernel_rfl))
 f189:=Tryz.func88.trans (congrArg some (by kernel_rfl))
 f215:=Tryz.func183.trans (congrArg some (by kernel_rfl))
 f216:=Tryz.func191.trans (congrArg some (by kernel_rfl))
 f257:=Tryz.func147.trans (congrArg some (by kernel_rfl))
 f294:=Tryz.func185.trans (congrArg some (by kernel_rfl))
 f295:=Tryz.func186.trans (congrArg some (by kernel_rfl))
 f296:=Tryz.func187.trans (congrArg some (by kernel_rfl))
 f297:=Tryz.func188.trans (congrArg some (by kernel_rfl))
 f298:=Tryz.func189.trans (congrArg some (by kernel_rfl))
 f299:=Tryz.func190.trans (congrArg some (by kernel_rfl))
 f300:=Tryz.func192.trans (congrArg some (by kernel_rfl))
 f301:=Tryz.func193.trans (congrArg some (by kernel_rfl))
 f328:=Tryz.func211.trans (congrArg some (by kernel_rfl))
 f329:=Tryz.func212.trans (congrArg some (by kernel_rfl))
 f330:=Tryz.func213.trans (congrArg some (by kernel_rfl))
 f331:=Tryz.func214.trans (congrArg some (by kernel_rfl))
 f332:=Tryz.func215.trans (congrArg some (by kernel_rfl))
 f343:=Tryz.func248.trans (congrArg some (by kernel_rfl))
 t0:=Tryz.underlying0
 a0:=Tryz.isAgg0
 z0:=Tryz.sizeOf0
 v0:=Tryz.zeroValue0
 t3:=Tryz.underlying3
 a3:=Tryz.isAgg3
 z3:=Tryz.sizeOf3
 v3:=Tryz.zeroValue3
 t4:=Tryz.underlying4
 a4:=Tryz.isAgg4
 z4:=Tryz.sizeOf4
 v4:=Tryz.zeroValue4
 t5:=Tryz.underlying5
 a5:=Tryz.isAgg5
 z5:=Tryz.sizeOf5
 v5:=Tryz.zeroValue5
 t9:=Tryz.underlying9
 a9:=Tryz.isAgg9
 z9:=Tryz.sizeOf9
 v9:=Tryz.zeroValue9
 t28:=Tryz.underlying22
 a28:=Tryz.isAgg22
 z28:=Tryz.sizeOf22
 v28:=Tryz.zeroValue22
 t46:=Tryz.underlying202
 a46:=Tryz.isAgg202
 z46:=Tryz.sizeOf202
 v46:=Tryz.zeroValue202
 t51:=Tryz.underlying38
 a51:=Tryz.isAgg38
 z51:=Tryz.sizeOf38
 v51:=Tryz.zeroValue38
 t53:=Tryz.underlying237
 a53:=Tryz.isAgg237
 z53:=Tryz.sizeOf237
 v53:=Tryz.zeroValue237
 t131:=Tryz.underlying160
 a131:=Tryz.isAgg160
 z131:=Tryz.sizeOf160
 v131:=Tryz.zeroValue160
 t182:=Tryz.underlying229
 a182:=Tryz.isAgg229
 z182:=Tryz.sizeOf229
 v182:=Tryz.zeroValue229
 t183:=Tryz.underlying230
 a183:=Tryz.isAgg230
 z183:=Tryz.sizeOf230
 v183:=Tryz.zeroValue230
 t218:=Tryz.underlying259
 a218:=Tryz.isAgg259
 z218:=Tryz.sizeOf259
 v218:=Tryz.zeroValue259
 t222:=Tryz.underlying263
 a222:=Tryz.isAgg263
 z222:=Tryz.sizeOf263
 v222:=Tryz.zeroValue263
 t228:=Tryz.underlying278
 a228:=Tryz.isAgg278
 z228:=Tryz.sizeOf278
 v228:=Tryz.zeroValue278
 t229:=Tryz.underlying279
 a229:=Tryz.isAgg279
 z229:=Tryz.sizeOf279
 v229:=Tryz.zeroValue279}
open Go.Sort Go.RowKit in
theorem Tryz.slices_Sort_int(blk off cap:Nat)(zs:List Int)(w:World)(hH:Holds (Value.int .i64) w blk off zs.toArray)(hblk:blk < w.heap.size)(hsz:zs.length < 4611686018427387904):
 Calls Tryz.prog 88 #[.slice (some ⟨blk,off,none⟩) zs.length cap] w fun e w'=>
  e= .returned (.tuple #[])∧∃n os,w'=grow (putRow (Value.int .i64) (Sort.ahead w n) blk off (zs.mergeSort fun x y=>decide (x≤y)).toArray) os:=Any.slices_Sort_int Tryz.lays189 blk off cap zs w hH hblk hsz
def Tryz.laysNm215_ren:Go.Shelf.Ren:=⟨fun|15=>95|n=>n,fun|22=>22|3=>3|4=>4|n=>n,fun|n=>n⟩
theorem Tryz.laysNm215:Go.Proofs.Lays2.n15 Tryz.prog Tryz.laysNm215_ren:={
 mixed:=by kernel_rfl
 f15:=Tryz.func95.trans (congrArg some (by kernel_rfl))
 t3:=Tryz.underlying3
 a3:=Tryz.isAgg3
 z3:=Tryz.sizeOf3
 v3:=Tryz.zeroValue3
 t4:=Tryz.underlying4
 a4:=Tryz.isAgg4
 z4:=Tryz.sizeOf4
 v4:=Tryz.zeroValue4
 t22:=Tryz.underlying22
 a22:=Tryz.isAgg22
 z22:=Tryz.sizeOf22
 v22:=Tryz.zeroValue22
 i3:=by kernel_rfl}
open Go.RowKit Go.Lib in
theorem Tryz.slices_Clone_int(b off n c:Nat)(zs:List Int)(w:World)(hz:n≤zs.length)(hbig:n * 8≤140737488355328)(hc:∀j,j < zs.length→w.cell? ⟨b,off+j,none⟩=some (.int .i64 (zs.getD j 0))):
 Calls Tryz.prog 95 #[.slice (some ⟨b,off,none⟩) n c] w fun e w'=>∃v',e= .returned v'∧w'.ownsRow w.heap.size 3 1 v' n ((zs.take n).map (Value.int .i64))∧v'≠.slice none 0 0∧Below w.heap.size w w':=Any.slices_Clone_int Tryz.laysNm215 b off n c zs w hz hbig hc
open Go.RowKit Go.Lib in
theorem Tryz.slices_Clone_int_nil(n c:Nat)(w:World):
 Calls Tryz.prog 95 #[.slice none n c] w fun e w'=>e= .returned (.slice none 0 0)∧w'=w:=Any.slices_Clone_int_nil Tryz.laysNm215 n c w
open Go.RowKit Go.Lib in
theorem Tryz.slices_Clone_int_zero(a:Addr)(c:Nat)(w:World):
 Calls Tryz.prog 95 #[.slice (some a) 0 c] w fun e w'=>∃v',e= .returned v'∧w'.ownsRow w.heap.size 3 1 v' 0 []∧v'≠.slice none 0 0∧Below w.heap.size w w':=Any.slices_Clone_int_zero Tryz.laysNm215 a c w
open Go.RowKit Go.Sort in
theorem Tryz.slices_Sort_int_none(p:Option Addr)(cap:Nat)(w:World):
 Calls Tryz.prog 88 #[.slice p 0 cap] w fun e w'=>e= .returned (.tuple #[])∧w'=w:=Any.slices_Sort_int_none Tryz.lays189 p cap w
end Go.Proofs
end
section
namespace Mu
open Go Go.RowKit Go.Proofs Go.Sort
theorem Uz{w:World}{g:Nat}{e:TypeId}{cur:Array Value}{zs:List Int}(hb:w.heap[g]? =some (.cells cur e (0,0)))(h4:cur.toList.take (zs.length * 1)=zs.map (Value.int .i64)):
 Holds (Value.int .i64) w g 0 zs.toArray:=by
 intro j hj;have hj':j < zs.length:=by simpa using hj
 have h5:cur[j]? =some (.int .i64 zs[j]):=by
  have:(cur.toList.take (zs.length * 1))[j]? =some (.int .i64 zs[j]):=by rw[h4];simp[hj']
  rw[List.getElem?_take_of_lt (by omega)]at this;simpa using this
 refine⟨?_,by simp[World.frozen?,hb]⟩;have e1:zs.toArray[j]! =zs[j]:=by simp[getElem!_pos,hj']
 rw[e1,Nat.zero_add];simp[World.cell?,hb,h5]
def Ks(w:World)(base:Nat)(v:Value)(l:List Int):Prop:=w.ownsRow base 3 1 v l.length (l.map (Value.int .i64))
theorem Ks.of{w:World}{base n:Nat}{v:Value}{l:List Int}{cs:List Value}(h:w.ownsRow base 3 1 v n cs)(hn:n=l.length)(hc:cs=l.map (Value.int .i64)):Ks w base v l:=by
 subst hn hc;exact h
theorem Ks.nil(w:World)(base:Nat):Ks w base (.slice none 0 0) []:=World.ownsRow_nil _ _ _ _
theorem Ks.base{w:World}{base base':Nat}{v:Value}{l:List Int}(h:Ks w base v l)(hb:base'≤base):Ks w base' v l:=by
 obtain⟨h1,h2⟩:=h;refine⟨h1,?_⟩;rcases h2 with h2|⟨g,cap,cur,hv,hg,r⟩
 ·exact .inl h2
 ·exact .inr ⟨g,cap,cur,hv,by omega,r⟩
theorem Ks.lt{w:World}{base:Nat}{v:Value}{l:List Int}(h:Ks w base v l):∀k,v.ownBlock=some k→base≤k∧k < w.heap.size:=World.ownsRow.lt h
theorem Zy:(Tryz.prog.info? 3).map (fun i=>(i.zero,i.size,i.bytes))=some (some (.int .i64 0),1,8):=by kernel_rfl
theorem XR{v:Value}{xs:List Int}{w:World}(h:(Ty.int .i64).slice.R w w.heap.size [v] xs)(hn:xs.length≤2147483648):
 Calls Tryz.prog 95 #[v] w fun e w'=>∃v',e= .returned v'∧Ks w' w.heap.size v' xs∧Below w.heap.size w w':=by
 obtain⟨A,c,rfl⟩:=BB h;rcases A with _|ad
 ·obtain⟨rfl,_,rfl⟩:=ER h;refine(Tryz.slices_Clone_int_nil _ _ _).mono fun e w' ⟨he,hw⟩=>?_
  subst hw;exact⟨_,he,Ks.nil _ _,Below.refl _ _⟩
 ·by_cases hz:xs= []
  ·subst hz;refine(Tryz.slices_Clone_int_zero ad c w).mono fun e w' ⟨v',he,ho,_,hb⟩=>?_
   exact⟨v',he,ho,hb⟩
  ·have hpos:0 < xs.length:=List.length_pos_iff.2 hz;obtain⟨b,o,e,_⟩:=PV h (List.getElem?_eq_getElem hpos);cases e;refine(Tryz.slices_Clone_int b o xs.length c xs w (Nat.le_refl _) (by omega) (fun j hj=>?_)).mono fun e w' ⟨v',he,ho,_,hb⟩=>?_
   ·obtain⟨b',o',e',_,hc,_⟩:=PV h (List.getElem?_eq_getElem hj);cases e';rw[hc];simp[List.getD,hj]
   ·rw[List.take_length]at ho;exact⟨v',he,ho,hb⟩
theorem YR{base:Nat}{v:Value}{zs:List Int}{w:World}(hown:Ks w base v zs)(hn:zs.length≤2147483648):
 Calls Tryz.prog 88 #[v] w fun e w'=>e= .returned (.tuple #[])∧Ks w' base v (zs.mergeSort fun x y=>decide (x≤y))∧w.grownBy w' v.ownBlock:=by
 rcases hown.2 with⟨rfl,h0⟩|⟨g,cap,cur,rfl,hbase,hb,h1,h2,h3,h4⟩
 ·have:zs= []:=List.eq_nil_of_length_eq_zero h0;subst this;refine(Tryz.slices_Sort_int_none _ _ _).mono fun e w' ⟨he,hw⟩=>?_
  subst hw;exact⟨he,by simpa using hown,World.grownBy.refl _ _⟩
 ·have hgl:g < w.heap.size:=(Array.getElem?_eq_some_iff.1 hb).1;refine(Tryz.slices_Sort_int g 0 cap zs w (Uz hb h4) hgl (by omega)).mono fun e w' ⟨he,nn,os,hw⟩=>?_
  subst hw;exact⟨he,.of (ownsRow_sortedI (by simp) hbase hb h1 h2 h3) (by simp) rfl,grownBy_sortedI _⟩
end Mu
end
section
namespace Mu
variable{succ:Nat→List Nat}
section
variable{n:Nat}(hs:∀k l,l∈succ k→l < n)
include hs
end
section
variable{n:Nat}(hs:∀k l,l∈succ k→l < n)
include hs
end
section
variable{n:Nat}
end
end Mu
end
section
namespace Mu
open Go
end Mu
end
section
namespace Mu
open Go Go.RowKit
theorem Ls(x:Int):1≤tInt.bulk x:=Nat.le_refl _
theorem Wq(x:Ins):1≤Dj.bulk x:=by simp only[Dj,Ty.via];omega
theorem Wr(x:Block):1≤Bs.bulk x:=by simp only[Bs,Ty.via];omega
theorem Zh(x:Func):1≤B4.bulk x:=by simp only[B4,Ty.via];omega
theorem LW(p:Prog):Dl.bulk p=CK tInt.bulk p.threads+CK B4.bulk p.funcs+4:=by
 simp only[Dl,Ty.via,Ty.cons,Ty.slice,tInt,Ty.int,CV];omega
theorem GK(p:Func):B4.bulk p=p.name.size+CK Bs.bulk p.blocks+5:=by
 simp only[B4,Ty.via,Ty.cons,Ty.slice,tInt,Ty.int,CV,Qq];omega
theorem Ee(p:Block):Bs.bulk p=p.name.size+CK Dj.bulk p.ins+3:=by
 simp only[Bs,Ty.via,Ty.cons,Ty.slice,CV,Qq];omega
theorem KO(p:Ins):Dj.bulk p=CK tInt.bulk p.args+10:=by
 simp only[Dj,Ty.via,Ty.cons,Ty.slice,tInt,Ty.int,CV];omega
theorem IB(p:Prog):p.funcs.length≤Dl.bulk p:=by
 have:=Ci Zh p.funcs;rw[LW];omega
theorem Lm(p:Prog):p.threads.length≤Dl.bulk p:=by
 have:=Ci Ls p.threads;rw[LW];omega
theorem GB{p:Prog}{fn:Func}(h:fn∈p.funcs):B4.bulk fn≤Dl.bulk p:=by
 have:=LX (f:=B4.bulk) h;rw[LW];omega
theorem E9(p:Func):p.blocks.length≤B4.bulk p:=by
 have:=Ci Wr p.blocks;rw[GK];omega
theorem D6{p:Func}{b:Block}(h:b∈p.blocks):Bs.bulk b≤B4.bulk p:=by
 have:=LX (f:=Bs.bulk) h;rw[GK];omega
theorem GL(p:Block):p.ins.length≤Bs.bulk p:=by
 have:=Ci Wq p.ins;rw[Ee];omega
theorem LZ{p:Block}{x:Ins}(h:x∈p.ins):Dj.bulk x≤Bs.bulk p:=by
 have:=LX (f:=Dj.bulk) h;rw[Ee];omega
theorem RG(p:Ins):p.args.length≤Dj.bulk p:=by
 have:=Ci Ls p.args;rw[KO];omega
theorem Ao6{B:Nat}{a w:World}(h:Below B a w)(n:Nat):Below B a (w.drewN n):=⟨h.os,h.tape,h.output,h.size,h.block⟩
theorem FY{a b:Bool}(h:a=b):Ending.returned (.bool a)= .returned (.bool b):=by rw[h]
theorem UY{w wr:World}{cs:List Value}{T:TypeId}(h:Below (w.heap.size+1) (w.alloc (.cells cs.toArray T)) wr):
 (∀a:Addr,a.block < w.heap.size→wr.cell? a=w.cell? a)∧(∀j v,cs[j]? =some v→wr.cell? ⟨w.heap.size,j,none⟩=some v)∧w.heap.size < wr.heap.size∧Below w.heap.size w wr:=by
 have h0:Below w.heap.size w (w.alloc (.cells cs.toArray T)):=(Below.refl _ _).alloc (Nat.le_refl _) _;have hb:Below w.heap.size w wr:=h0.trans (h.mono (by omega));refine⟨fun a ha=>hb.cell ha,fun j v hv=>?_,?_,hb⟩
 ·rw[h.cell (p:=⟨w.heap.size,j,none⟩) (by show w.heap.size < _;omega)];have e:=cell_of_row _ _ j _ _ _ (heap_alloc_new w (.cells cs.toArray T));rw[e];simpa using hv
 ·have h1:(w.alloc (.cells cs.toArray T)).heap.size=w.heap.size+1:=by simp
  have:=h.size;omega
end Mu
end
section
namespace Mu
open Go Go.RowKit Go.Proofs
theorem J3{w w':World}{base n size:Nat}{e:TypeId}{v:Value}{xs:List Value}(h:w.ownsRow base e size v n xs)(hk:∀g,v.ownBlock=some g→w'.heap[g]? =w.heap[g]?):w'.ownsRow base e size v n xs:=by
 obtain⟨h1,h2⟩:=h;refine⟨h1,?_⟩;rcases h2 with h2|⟨g,cap,cur,rfl,hg,hh,r⟩
 ·exact .inl h2
 ·exact .inr ⟨g,cap,cur,rfl,hg,(hk g rfl).trans hh,r⟩
end Mu
end
section
namespace Mu
open Go Go.RowKit
variable{α:Type}
section
variable{T:Ty α}{e:TypeId}{w w' w2 X:World}{base:Nat}{v v':Value}{ds:List α}{S S':Nat→Prop}
end
end Mu
end
section
namespace Mu
open Go Go.RowKit Go.Proofs
def E6(op:Int):List UInt8:=
 if op=0 then [100,110]else if op=1 then [100,97,98,110]else if op=2 then [100,97]else if op=3 then [100,97]else if op=4 then [97,98]else if op=5 then [100,102,120]
 else if op=6 then [97]else if op=7 then []else if op=8 then [108]else if op=9 then [97,108,109]else if op=10 then [97]else []
def readsC(x:Ins):List Int:=(if(E6 x.op).contains 97 then [x.a]else [])++(if(E6 x.op).contains 98 then [x.b]else [])++(if(E6 x.op).contains 120 then x.args else [])
def Aop(s:ByteArray)(c:UInt8):Bool:=s.data.toList.contains c
def Az(x:Ins):Bool:=(E6 x.op).contains 100
theorem Wh(op:Int)(w:World)(h0:0≤op)(h1:op≤255):
 Calls Tryz.prog 174 #[.int .u8 op] w fun e w'=>e= .returned (.string ⟨(E6 op).toArray⟩)∧Below w.heap.size w w':=by
 have hc:op=0∨op=1∨op=2∨op=3∨op=4∨op=5∨op=6∨op=7∨op=8∨op=9∨op=10∨11≤op:=by omega
 rcases hc with rfl|rfl|rfl|rfl|rfl|rfl|rfl|rfl|rfl|rfl|rfl|h
 case inr.inr.inr.inr.inr.inr.inr.inr.inr.inr.inr=>
  have hd:decide (11≤op)=true:=decide_eq_true h;have hs:Hid (E6 op= []):=by
   unfold E6;show _=_;repeat rw[if_neg (by omega)]
  go_enter Tryz.func174,Tryz.ntmps174
  go_wp2_with fail
  go_ret
  exact⟨by rw[hs.out];rfl,(Below.refl _ _).alloc (Nat.le_refl _) _⟩
 all_goals
  go_enter Tryz.func174,Tryz.ntmps174
  go_wp2_with fail
  go_ret
  exact⟨rfl,(Below.refl _ _).alloc (Nat.le_refl _) _⟩
theorem SN(s:ByteArray)(c:UInt8)(w:World)(hs:s.size≤65536):
 Calls Tryz.prog 175 #[.string s,.int .u8 c.toNat] w fun e w'=>e= .returned (.bool (Aop s c))∧w=w':=by
 go_enter Tryz.func175,Tryz.ntmps175
 go_wp2_with fail
 go_loop [5] (fun i=>∃k:Nat,k≤s.size∧i= .int .i64 k∧Hid ((s.data.toList.take k).contains c=false)) (fun i=>s.size - (RowKit.intOf i).toNat)
 case atStart=>exact⟨0,Nat.zero_le _,rfl,by simp[Hid]⟩
 case round=>
  obtain⟨k,hk,rfl,hno⟩:=hrel;by_cases hlt:k < s.size
  ·have hts:Hid (s.data.toList.take (k+1)=s.data.toList.take k++[s[k]]):=by
    show _=_;rw[List.take_succ_eq_append_getElem (by simpa using hlt)];rfl
   by_cases he:s[k]=c
   ·have hfin:Hid (Aop s c=true):=by
     show s.data.toList.contains c=true;rw[List.contains_iff_mem];have:s[k]∈s.data.toList:=by
      have h1:s.data.toList[k]? =some s[k]:=by
       rw[List.getElem?_eq_getElem (by simpa using hlt)];rfl
      exact List.mem_of_getElem? h1
     rwa [he]at this
    have hb:((s[k].toNat:Int) ==(c.toNat:Int))=true:=by rw[he];simp
    clear hts hno he
    go_wp2_with fail
    go_ret
    exact⟨FY hfin.out.symm,rfl⟩
   ·have hb:((s[k].toNat:Int) ==(c.toNat:Int))=false:=by
     rw[beq_eq_false_iff_ne];intro h;exact he (UInt8.toNat_inj.1 (by omega))
    have hno2:Hid ((s.data.toList.take (k+1)).contains c=false):=by
     show _=_;rw[hts.out];have:=hno.out;simp only[List.contains_eq_mem,decide_eq_false_iff_not,List.mem_append,List.mem_singleton,not_or]at this⊢;exact⟨this,fun h=>he h.symm⟩
    clear hts hno he
    go_wp2_with fail
    go_round
    case rel=>exact⟨k+1,by omega,by go_num,hno2⟩
    case measure=>simp[RowKit.intOf];omega
  ·obtain rfl:k=s.size:=by omega
   have hfin:Hid (Aop s c=false):=by
    have:=hno.out;rw[List.take_of_length_le (by simp)]at this;exact this
   clear hno
   go_wp2_with fail
   go_ret
   exact⟨FY hfin.out.symm,rfl⟩
theorem Xf(op:Int)(c:UInt8):Aop ⟨(E6 op).toArray⟩ c=(E6 op).contains c:=rfl
theorem ZE(op:Int):(E6 op).length≤4:=by
 unfold E6
 repeat' split
 all_goals simp
theorem PX(op:Int):(⟨(E6 op).toArray⟩:ByteArray).size≤65536:=by
 have:=ZE op;show(E6 op).toArray.size≤_;rw[List.size_toArray];omega
def Bx(w0:World)(cs:List Value)(T:TypeId)(w':World):Prop:=Below (w0.heap.size+1) (w0.alloc (.cells cs.toArray T)) w'
section
variable{w0 w' w'':World}{cs:List Value}{T:TypeId}
theorem Bx.refl:Bx w0 cs T (w0.alloc (.cells cs.toArray T)):=Below.refl _ _
theorem Bx.cell(h:Bx w0 cs T w'){j:Nat}{v:Value}(hv:cs[j]? =some v):w'.cell? ⟨w0.heap.size,j,none⟩=some v:=(UY h).2.1 j v hv
theorem Bx.lt(h:Bx w0 cs T w'):w0.heap.size < w'.heap.size:=(UY h).2.2.1
theorem Bx.below(h:Bx w0 cs T w'):Below w0.heap.size w0 w':=(UY h).2.2.2
theorem Bx.call(h:Bx w0 cs T w')(hb:Below w'.heap.size w' w''):Bx w0 cs T w'':=Below.trans h (hb.mono h.lt)
end
theorem Wp:1≤maxLen:=by decide
theorem CL{a b c:World}{row:Option Nat}(h:a.grownBy b row)(k:b.grownBy c row):a.grownBy c row:=
 ⟨k.os.trans h.os,k.tape.trans h.tape,k.output.trans h.output,Nat.le_trans h.size k.size,fun i hi hr=>(k.block i (Nat.lt_of_lt_of_le hi h.size) hr).trans (h.block i hi hr)⟩
theorem SP{w:World}{base:Nat}{v:Value}{l:List Int}(h:Ks w base v l):∃A c,v= .slice A l.length c:=by
 rcases h.2 with⟨rfl,h0⟩|⟨g,cap,cur,rfl,_⟩
 ·rw[h0];exact⟨_,_,rfl⟩
 ·exact⟨_,_,rfl⟩
theorem SQ{w:World}{base g cap n:Nat}{l:List Int}{i:Nat}{z:Int}(h:Ks w base (.slice (some ⟨g,0,none⟩) n cap) l)(hz:l[i]? =some z):w.cell? ⟨g,i,none⟩=some (.int .i64 z):=by
 have hi:=(List.getElem?_eq_some_iff.1 hz).1;rcases h.2 with⟨h0,_⟩|⟨g',cap',cur,e,_,hh,_,_,_,h4⟩
 ·cases h0
 ·cases e;have h5:=h.cells (g:=g) rfl i (.int .i64 z) (by simp[hz]);have e1:(⟨g,0,none⟩:Addr).add i=⟨g,i,none⟩:=by
   unfold Addr.add;by_cases hz:i=0 <;> simp[hz]
  rwa [e1]at h5
theorem PB{w:World}{base:Nat}{v:Value}{l:List Int}(h:Ks w base v l)(hp:0 < l.length):∃g c,v= .slice (some ⟨g,0,none⟩) l.length c∧base≤g∧g < w.heap.size:=by
 rcases h.2 with⟨rfl,h0⟩|⟨g,cap,cur,rfl,hg,hh,_⟩
 ·omega
 ·exact⟨g,cap,rfl,hg,(Array.getElem?_eq_some_iff.1 hh).1⟩
def FQ(x:Ins):Value:=if Az x then .tuple #[.int .i64 x.d,.bool true]else .tuple #[.int .i64 0,.bool false]
section
variable{w w':World}{cs:List Value}{T:TypeId}
theorem Acc(op:Int)(h0:0≤op)(h1:op≤255)(h:Bx w cs T w'):
 Calls Tryz.prog 174 #[.int .u8 op] w' fun e w''=>e= .returned (.string ⟨(E6 op).toArray⟩)∧Bx w cs T w'':=
 (Wh op w' h0 h1).mono fun _ _ hp=>⟨hp.1,h.call hp.2⟩
theorem Tp(op:Int){b:Bool}(hb:(E6 op).contains 100=b)(w':World):
 Calls Tryz.prog 175 #[.string ⟨(E6 op).toArray⟩,.int .u8 100] w' fun e w''=>e= .returned (.bool b)∧w'=w'':=
 (SN ⟨(E6 op).toArray⟩ 100 w' (PX op)).mono fun _ _ hp=>⟨by rw[hp.1,Xf,hb],hp.2⟩
end
theorem Hx{x:Ins}(h:Az x=true):FQ x= .tuple #[.int .i64 x.d,.bool true]:=by unfold FQ;rw[if_pos h]
theorem Jk{x:Ins}(h:Az x=false):FQ x= .tuple #[.int .i64 0,.bool false]:=by unfold FQ;rw[if_neg (by simp[h])]
theorem T8(x:Ins)(w:World)(cs:List Value)(hR:Dj.R w w.heap.size cs x):
 Calls Tryz.prog 135 #[.agg cs.toArray] w fun e w'=>e= .returned (FQ x)∧Below w.heap.size w w':=by
 obtain⟨A,c,hI⟩:=It.1 hR;obtain⟨rfl,hop,_,_,_,_,_,_,_,_⟩:=hI;obtain⟨h0,h255⟩:=OP hop;obtain⟨cs,hcs⟩:∃cs:List Value,cs= [.int .u8 x.op,.int .i64 x.d,.int .i64 x.a,.int .i64 x.b,.int .u32 x.n,.int .i64 x.f,.slice A x.args.length c,.int .i64 x.l1,.int .i64 x.l2]:=⟨_,rfl⟩
 have q1:∀w',Bx w cs 40 w'→w'.cell? ⟨w.heap.size,1,none⟩=some (.int .i64 x.d):=fun w' h=>h.cell (by rw[hcs];rfl)
 have hstart:Hid (Bx w cs 40 (w.alloc (.cells #[.int .u8 x.op,.int .i64 x.d,.int .i64 x.a,.int .i64 x.b,.int .u32 x.n,.int .i64 x.f,.slice A x.args.length c,.int .i64 x.l1,.int .i64 x.l2] 40))):=by
  have h:=Bx.refl (w0:=w) (cs:=cs) (T:=40);rw[hcs]at h;rw[hcs];exact h
 clear hcs hR;rcases hq:Az x with _|_
 ·have HQ:=Lib.hid hq;clear hq
  go_enter Tryz.func135,Tryz.ntmps135
  go_wp2_with fail
  refine(Acc x.op h0 h255 hstart.out).mono ?_;rintro e w1 ⟨rfl,hx1⟩
  go_wp2_with fail
  refine(Tp x.op HQ.out w1).mono ?_;rintro e w' ⟨rfl,rfl⟩
  go_wp2_with fail
  go_ret2
  exact⟨by rw[Jk HQ.out];rfl,hx1.below⟩
 ·have HQ:=Lib.hid hq;clear hq
  go_enter Tryz.func135,Tryz.ntmps135
  go_wp2_with fail
  refine(Acc x.op h0 h255 hstart.out).mono ?_;rintro e w1 ⟨rfl,hx1⟩
  go_wp2_with fail
  refine(Tp x.op HQ.out w1).mono ?_;rintro e w' ⟨rfl,rfl⟩
  go_wp2_with fail
  go_ret2
  exact⟨by rw[Hx HQ.out];rfl,hx1.below⟩
theorem Gs(x:Ins)(w:World)(cs:List Value)(hR:Dj.R w w.heap.size cs x):
 Calls Tryz.prog 120 #[.agg cs.toArray] w fun e w'=>e= .returned (FQ x)∧Below w.heap.size w w':=by
 obtain⟨A,c,hI⟩:=It.1 hR;obtain⟨rfl,hop,_,_,_,_,_,_,_,_⟩:=hI;obtain⟨h0,h255⟩:=OP hop;clear hR;have hc:(x.op=0∨x.op=1∨x.op=2∨x.op=3∨x.op=5)∨(x.op≠0∧x.op≠1∧x.op≠2∧x.op≠3∧x.op≠5):=by omega
 rcases hc with hc|⟨n0,n1,n2,n3,n5⟩
 ·have HQ:Hid (Az x=true):=by
   show _=_;unfold Az E6;rcases hc with h|h|h|h|h <;> rw[h] <;> decide
  rcases hc with h|h|h|h|h
  all_goals
   rw[h]
   go_enter Tryz.func120,Tryz.ntmps120
   go_wp2_with fail
   go_ret2
   exact⟨by rw[Hx HQ.out];rfl,(Below.refl _ _).alloc (Nat.le_refl _) _⟩
 ·have HQ:Hid (Az x=false):=by
   show _=_;unfold Az E6;rw[if_neg n0,if_neg n1,if_neg n2,if_neg n3];by_cases h4:x.op=4
   ·rw[h4];decide
   ·rw[if_neg h4,if_neg n5]
    repeat' split
    all_goals decide
  have e0:(x.op ==0)=false:=beq_eq_false_iff_ne.2 n0;have e1:(x.op ==1)=false:=beq_eq_false_iff_ne.2 n1;have e2:(x.op ==2)=false:=beq_eq_false_iff_ne.2 n2;have e3:(x.op ==3)=false:=beq_eq_false_iff_ne.2 n3;have e5:(x.op ==5)=false:=beq_eq_false_iff_ne.2 n5;clear n0 n1 n2 n3 n5
  go_enter Tryz.func120,Tryz.ntmps120
  go_wp2_with fail
  go_ret2
  exact⟨by rw[Jk HQ.out];rfl,(Below.refl _ _).alloc (Nat.le_refl _) _⟩
theorem Adc(w:World)(o:Obj)(a:Value):((w.alloc o).alloc (.cells #[a] 3)).ownsRow (w.heap.size+1) 3 1 (.slice (some ⟨w.heap.size+1,0,none⟩) 1 1) 1 [a]:=by
 have h:=heap_alloc_new (w.alloc o) (.cells #[a] 3);rw[show(w.alloc o).heap.size=w.heap.size+1 from by simp]at h;exact NQ (cs:=[a]) h (Nat.le_refl _) rfl Wp
theorem SB(w:World)(o:Obj)(a b:Value):(((w.alloc o).alloc (.cells #[b] 3)).alloc (.cells #[a] 3)).ownsRow (w.heap.size+1) 3 1 (.slice (some ⟨w.heap.size+1+1,0,none⟩) 1 1) 1 [a]∧
 Src (((w.alloc o).alloc (.cells #[b] 3)).alloc (.cells #[a] 3)) 1 (some ⟨w.heap.size+1,0,none⟩) 1 [b]:=by
 have h:=heap_alloc_new ((w.alloc o).alloc (.cells #[b] 3)) (.cells #[a] 3);rw[show((w.alloc o).alloc (.cells #[b] 3)).heap.size=w.heap.size+1+1 from by simp]at h;have h2:=heap_alloc_new (w.alloc o) (.cells #[b] 3);rw[show(w.alloc o).heap.size=w.heap.size+1 from by simp]at h2;exact⟨NQ (cs:=[a]) h (by omega) rfl Wp,Acz (cs:=#[b]) (XV h2 _) rfl⟩
theorem FT(x:Ins)(w:World)(cs:List Value)(hR:Dj.R w w.heap.size cs x)(hl:x.args.length≤2097152):
 Calls Tryz.prog 161 #[.agg cs.toArray] w fun e w'=>∃v,e= .returned v∧Ks w' w.heap.size v (readsC x)∧Below w.heap.size w w':=by
 obtain⟨A,c,hI⟩:=It.1 hR;obtain⟨rfl,hop,_,_,_,_,_,_,_,hA⟩:=hI;obtain⟨h0,h255⟩:=OP hop;obtain⟨i0,hi,hz0,hz1,hz2⟩:=info_parts Zy;have hb0:Hid (Below w.heap.size w (w.alloc (.cells #[.int .u8 x.op,.int .i64 x.d,.int .i64 x.a,.int .i64 x.b,.int .u32 x.n,.int .i64 x.f,.slice A x.args.length c,.int .i64 x.l1,.int .i64 x.l2] 40))):=(Below.refl _ _).alloc (Nat.le_refl _) _;have HA:Hid (tInt.slice.R (w.alloc (.cells #[.int .u8 x.op,.int .i64 x.d,.int .i64 x.a,.int .i64 x.b,.int .u32 x.n,.int .i64 x.f,.slice A x.args.length c,.int .i64 x.l1,.int .i64 x.l2] 40)) (w.alloc (.cells #[.int .u8 x.op,.int .i64 x.d,.int .i64 x.a,.int .i64 x.b,.int .u32 x.n,.int .i64 x.f,.slice A x.args.length c,.int .i64 x.l1,.int .i64 x.l2] 40)).heap.size [.slice A x.args.length c] x.args):=Ty.below hA hb0.out hb0.out.size;clear hR hA;have hc:(x.op=1∨x.op=4)∨(x.op=2∨x.op=3∨x.op=6∨x.op=9∨x.op=10)∨x.op=5∨(x.op=0∨x.op=7∨x.op=8)∨11≤x.op:=by omega
 rcases hc with hc|hc|hc|hc|hc
 ·have HQ:Hid (readsC x= [x.a,x.b]):=by
   show _=_;unfold readsC E6;rcases hc with h|h <;> rw[h] <;> rfl
  rcases hc with h|h
  all_goals
   rw[h]at hb0 HA⊢
   go_enter Tryz.func161,Tryz.ntmps161
   go_wp2_with (at_builtin;refine WU rfl (.tmp 22) (.tmp 23) _ rfl (w.heap.size+1) 3 i0 _ 1 8 Tryz.underlying22 hi hz0 hz1 hz2 rfl (by decide) rfl (SB _ _ _ _).1 rfl (SB _ _ _ _).2 (by simp[Value.oneCell']) (by unfold maxLen;omega) (by omega) (by simp) ?_)
   intro v2 w2 ho2 hg2 _;have hbn:Hid (Below w.heap.size w w2):=((hb0.out.alloc (by simp) _).alloc (by simp;omega) _).grown hg2 (by simp;omega) (fun q hq=>by simp[Value.ownBlock]at hq;omega);have HO:=Lib.hid ho2;clear ho2 hg2
   go_wp2_with fail
   go_ret
   exact⟨_,rfl,by rw[HQ.out];exact Ks.base (Ks.of HO.out rfl rfl) (by omega),hbn.out⟩
 ·have HQ:Hid (readsC x= [x.a]):=by
   show _=_;unfold readsC E6;rcases hc with h|h|h|h|h <;> rw[h] <;> rfl
  rcases hc with h|h|h|h|h
  all_goals
   rw[h]at hb0 HA⊢
   go_enter Tryz.func161,Tryz.ntmps161
   have hbn:Hid (Below w.heap.size w _):=hb0.out.alloc (by simp) (.cells #[.int .i64 x.a] 3)
   go_wp2_with fail
   go_ret
   exact⟨_,rfl,by rw[HQ.out];exact Ks.base (Ks.of (Adc _ _ _) rfl rfl) (by omega),hbn.out⟩
 ·have HQ:Hid (readsC x=x.args):=by
   show _=_;unfold readsC E6;rw[hc];rfl
  rw[hc]at hb0 HA⊢
  go_enter Tryz.func161,Tryz.ntmps161
  go_wp2_with fail
  refine(XR HA.out (by omega)).mono ?_;rintro e w1 ⟨v,rfl,ho,hb⟩;have HO:=Lib.hid ho;have HB:=Lib.hid hb;clear ho hb
  go_wp2_with fail
  go_ret
  exact⟨_,rfl,by rw[HQ.out];exact HO.out.base (by simp),hb0.out.trans (HB.out.mono hb0.out.size)⟩
 ·have HQ:Hid (readsC x= []):=by
   show _=_;unfold readsC E6;rcases hc with h|h|h <;> rw[h] <;> rfl
  rcases hc with h|h|h
  all_goals
   rw[h]at hb0 HA⊢
   go_enter Tryz.func161,Tryz.ntmps161
   go_wp2_with fail
   go_ret
   exact⟨_,rfl,by rw[HQ.out];exact Ks.nil _ _,hb0.out⟩
 ·have HQ:Hid (readsC x= []):=by
   show _=_;have e:E6 x.op= []:=by
    unfold E6;repeat rw[if_neg (by omega)]
   unfold readsC;rw[e];rfl
  have e1:(x.op ==1)=false:=beq_eq_false_iff_ne.2 (by omega);have e2:(x.op ==2)=false:=beq_eq_false_iff_ne.2 (by omega);have e3:(x.op ==3)=false:=beq_eq_false_iff_ne.2 (by omega);have e4:(x.op ==4)=false:=beq_eq_false_iff_ne.2 (by omega);have e5:(x.op ==5)=false:=beq_eq_false_iff_ne.2 (by omega);have e6:(x.op ==6)=false:=beq_eq_false_iff_ne.2 (by omega);have e9:(x.op ==9)=false:=beq_eq_false_iff_ne.2 (by omega);have e10:(x.op ==10)=false:=beq_eq_false_iff_ne.2 (by omega)
  go_enter Tryz.func161,Tryz.ntmps161
  go_wp2_with fail
  go_ret
  exact⟨_,rfl,by rw[HQ.out];exact Ks.nil _ _,hb0.out⟩
theorem Ac1{xs ys:List Int}{j:Nat}{x y:Int}(hx:xs[j]? =some x)(hy:ys[j]? =some y)(h:x≠y):false=decide (xs=ys):=by
 symm;rw[decide_eq_false_iff_not];rintro rfl;rw[hx]at hy;injection hy with hy
 exact h hy
theorem V5{xs ys:List Int}{j:Nat}{x y:Int}(hx:xs[j]? =some x)(hy:ys[j]? =some y)(h:x=y)(hs:xs.take j=ys.take j):Hid (xs.take (j+1)=ys.take (j+1)):=by
 show _=_;rw[List.take_add_one,List.take_add_one,hx,hy,h,hs]
theorem far{B:Nat}{w wr:World}(h:Below B w wr):∀a:Addr,a.block < B→wr.cell? a=w.cell? a:=fun _ ha=>h.cell ha
theorem Y5(xs ys:List Int)(va vb:Value)(w:World)(hA:tInt.slice.R w w.heap.size [va] xs)(hB:tInt.slice.R w w.heap.size [vb] ys)(hx:xs.length≤2097152):
 Calls Tryz.prog 36 #[va,vb] w fun e w'=>e= .returned (.bool (decide (xs=ys)))∧Below w.heap.size w w':=by
 obtain⟨A,c,rfl⟩:=BB hA;obtain⟨A',c',rfl⟩:=BB hB;have HA:=Lib.hid hA;have HB:=Lib.hid hB;clear hA hB;by_cases hl:xs.length=ys.length
 ·have dl:((xs.length:Int) !=(ys.length:Int))=false:=by simp[hl]
  have HL:=Lib.hid hl;clear hl
  go_enter Tryz.func36,Tryz.ntmps36
  go_wp2
  go_loopw [5] (fun i wr=>∃j:Nat,j≤xs.length∧i= .int .i64 j∧Hid (xs.take j=ys.take j)∧Below w.heap.size w wr) (fun i _=>xs.length - (RowKit.intOf i).toNat)
  case atStart=>exact⟨0,Nat.zero_le _,rfl,rfl,Below.refl _ _⟩
  case round=>
   obtain⟨j,hj,rfl,hs,hbe⟩:=hrel;have HBE:=Lib.hid hbe;have hfar:=far hbe;clear hbe;by_cases hlt:j < xs.length
   ·obtain⟨x,hx1⟩:∃x,xs[j]? =some x:=⟨_,List.getElem?_eq_getElem hlt⟩
    obtain⟨y,hy1⟩:∃y,ys[j]? =some y:=⟨_,List.getElem?_eq_getElem (by have:=HL.out;omega)⟩
    obtain⟨b1,o1,rfl,hb1,e1,_⟩:=PV HA.out hx1;obtain⟨b2,o2,rfl,hb2,e2,_⟩:=PV HB.out hy1;have hlt2:j < ys.length:=by have:=HL.out;omega
    have HX:=Lib.hid hx1;have HY:=Lib.hid hy1;clear hx1 hy1;by_cases hxy:x=y
    ·have d:(x !=y)=false:=by simp[hxy]
     have HXY:=Lib.hid hxy;clear hxy
     go_wp2
     go_quiet (fail)
     go_wp2
     go_roundw
     case rel=>exact⟨j+1,by omega,by go_num,V5 HX.out HY.out HXY.out hs.out,Ao6 HBE.out _⟩
     case measure=>simp[RowKit.intOf];omega
    ·have d:(x !=y)=true:=by simp[hxy]
     have HXY:=Lib.hid hxy;clear hxy
     go_wp2
     go_quiet (fail)
     go_wp2
     go_ret
     exact⟨FY (Ac1 HX.out HY.out HXY.out),Ao6 HBE.out _⟩
   ·obtain rfl:j=xs.length:=by omega
    go_wp2
    go_ret
    have hs':=hs.out;rw[List.take_length,HL.out,List.take_length]at hs';exact⟨FY (by simp[hs']),HBE.out⟩
 ·have dl:((xs.length:Int) !=(ys.length:Int))=true:=by simp;omega
  have HL:=Lib.hid hl;clear hl
  go_enter Tryz.func36,Tryz.ntmps36
  go_wp2
  go_ret
  exact⟨FY (by symm;rw[decide_eq_false_iff_not];rintro rfl;exact HL.out rfl),Below.refl _ _⟩
theorem Adv{xs:List Int}{j:Nat}{x n:Int}(hx:xs[j]? =some x)(h:¬x=n)(hs:(xs.take j).contains n=false):Hid ((xs.take (j+1)).contains n=false):=by
 show _=_;rw[List.contains_eq_any_beq]at hs⊢;rw[List.take_add_one,hx,List.any_append,hs];simpa using fun e=>h e.symm
theorem Ak5{xs:List Int}{j:Nat}{x n:Int}(hx:xs[j]? =some x)(h:x=n):true=xs.contains n:=by
 subst h;simpa using(List.mem_of_getElem? hx)
theorem Y6(xs:List Int)(n:Int)(va:Value)(w:World)(hA:tInt.slice.R w w.heap.size [va] xs)(hx:xs.length≤2097152):
 Calls Tryz.prog 142 #[va,.int .i64 n] w fun e w'=>e= .returned (.bool (xs.contains n))∧Below w.heap.size w w':=by
 obtain⟨A,c,rfl⟩:=BB hA;have HA:=Lib.hid hA;clear hA
 go_enter Tryz.func142,Tryz.ntmps142
 go_wp2
 go_loopw [5] (fun i wr=>∃j:Nat,j≤xs.length∧i= .int .i64 j∧Hid ((xs.take j).contains n=false)∧Below w.heap.size w wr) (fun i _=>xs.length - (RowKit.intOf i).toNat)
 case atStart=>exact⟨0,Nat.zero_le _,rfl,rfl,Below.refl _ _⟩
 case round=>
  obtain⟨j,hj,rfl,hs,hbe⟩:=hrel;have HBE:=Lib.hid hbe;have hfar:=far hbe;clear hbe;by_cases hlt:j < xs.length
  ·obtain⟨x,hx1⟩:∃x,xs[j]? =some x:=⟨_,List.getElem?_eq_getElem hlt⟩
   obtain⟨b1,o1,rfl,hb1,e1,_⟩:=PV HA.out hx1;have HX:=Lib.hid hx1;clear hx1;by_cases hxy:x=n
   ·have d:(x ==n)=true:=by simp[hxy]
    have HXY:=Lib.hid hxy;clear hxy
    go_wp2
    go_ret
    exact⟨FY (Ak5 HX.out HXY.out),HBE.out⟩
   ·have d:(x ==n)=false:=by simp[hxy]
    have HXY:=Lib.hid hxy;clear hxy
    go_wp2
    go_roundw
    case rel=>exact⟨j+1,by omega,by go_num,Adv HX.out HXY.out hs.out,HBE.out⟩
    case measure=>simp[RowKit.intOf];omega
  ·obtain rfl:j=xs.length:=by omega
   go_wp2
   go_ret
   have hs':=hs.out;rw[List.take_length]at hs';exact⟨FY hs'.symm,HBE.out⟩
end Mu
end
section
namespace Mu
open Go
abbrev Blk(f:Func):={k:Nat // k < f.blocks.length}
def TP(f:Func)(k:Int):Option (Blk f):=if h:0≤k∧k < f.blocks.length then some ⟨k.toNat,by omega⟩else none
def Xu(f:Func)(l:List Int):List (Blk f):=l.filterMap (TP f)
def Eq(x:Ins):List Int:=if x.op=9 then [x.l1,if x.l2=x.l1 then -1 else x.l2]else if x.op=8 then [x.l1,-1]else []
def Kn(f:Func)(b:Block):List (Blk f):=
 match b.ins.getLast? with
 |none=>[]
 |some x=>Xu f (Eq x)
def F4(f:Func)(b:Int):List (Blk f):=
 if 0≤b then
  match f.blocks[b.toNat]? with
  |none=>[]
  |some bl=>Kn f bl
 else []
theorem OS{f:Func}{m:Nat}(h:m < f.blocks.length):TP f (m:Int)=some ⟨m,h⟩:=by
 unfold TP;rw[dif_pos ⟨by omega,by omega⟩];simp
theorem YJ{f:Func}{k:Int}(h:¬(0≤k∧k < f.blocks.length)):TP f k=none:=by
 unfold TP;rw[dif_neg h]
theorem Rl(x:Ins):(Eq x).length≤2:=by
 unfold Eq
 repeat' split
 all_goals simp
theorem Xt(f:Func)(l:List Int):(Xu f l).length≤l.length:=List.length_filterMap_le _ _
theorem WA(f:Func)(b:Block):(Kn f b).length≤2:=by
 unfold Kn;split
 ·simp
 ·exact Nat.le_trans (Xt _ _) (Rl _)
theorem Lv(f:Func)(b:Int):(F4 f b).length≤2:=by
 unfold F4
 repeat' split
 ·simp
 ·exact WA _ _
 ·simp
def D3{f:Func}(x:Blk f):Int:=((x.1:Nat):Int)
def Dk(f:Func)(b:Int):List Int:=(F4 f b).map D3
theorem PH{f:Func}{b:Int}(h:¬(0≤b∧b < f.blocks.length)):Dk f b= []:=by
 unfold Dk F4;split
 ·rw[List.getElem?_eq_none (by omega)];rfl
 ·rfl
theorem N8{f:Func}{k:Nat}{bl:Block}(h:f.blocks[k]? =some bl):Dk f (k:Int)=(Kn f bl).map D3:=by
 unfold Dk F4;rw[if_pos (by omega)];simp[h]
theorem PI{f:Func}{bl:Block}(h:bl.ins= []):(Kn f bl).map D3= []:=by
 unfold Kn;rw[h];rfl
def inB(f:Func)(k:Int):Bool:=decide (k≥0)&&decide (k < (f.blocks.length:Int))
def ME(f:Func)(x:Ins):Bool:=((x.op ==8)||(x.op ==9))&&inB f x.l1
def YI(f:Func)(x:Ins):Bool:=(x.op ==9)&&(x.l2 !=x.l1)&&inB f x.l2
theorem P4(f:Func)(l:List Int):(Xu f l).map D3=l.filter (inB f):=by
 unfold Xu;induction l with
 |nil=>rfl
 |cons k l ih=>
  by_cases h:0≤k∧k < f.blocks.length
  ·obtain⟨m,rfl⟩:=Int.eq_ofNat_of_zero_le h.1;have hm:m < f.blocks.length:=by omega
   rw[List.filterMap_cons,OS hm,List.map_cons,ih,List.filter_cons_of_pos (by simp[inB];omega)];rfl
  ·rw[List.filterMap_cons,YJ h,ih,List.filter_cons_of_neg (by simp[inB];omega)]
theorem Ul{f:Func}{bl:Block}{x:Ins}(h:bl.ins.getLast? =some x):(Kn f bl).map D3=(if ME f x then [x.l1]else [])++if YI f x then [x.l2]else []:=by
 unfold Kn;rw[h];simp only;rw[P4];unfold Eq ME YI;have hneg:inB f (-1)=false:=by simp[inB]
 by_cases h9:x.op=9
 ·rw[if_pos h9];by_cases he:x.l2=x.l1
  ·rw[if_pos he];cases h1:inB f x.l1 <;> simp[h9,he,h1,hneg]
  ·rw[if_neg he];cases h1:inB f x.l1 <;> cases h2:inB f x.l2 <;> simp[h9,he,h1,h2]
 ·rw[if_neg h9];by_cases h8:x.op=8
  ·rw[if_pos h8];cases h1:inB f x.l1 <;> simp[h8,h1,hneg]
  ·rw[if_neg h8];simp[h8,h9]
end Mu
end
section
namespace Mu
open Go Go.RowKit Go.Proofs Go.Shelf
structure KS(S:Nat→Prop)(W W':World):Prop where
 size:W.heap.size≤W'.heap.size
 block:∀k,S k→W'.heap[k]? =W.heap[k]?
theorem KS.refl{S:Nat→Prop}{W:World}:KS S W W:=⟨Nat.le_refl _,fun _ _=>rfl⟩
theorem KS.trans{S:Nat→Prop}{A B C:World}(h:KS S A B)(k:KS S B C):KS S A C:=⟨Nat.le_trans h.size k.size,fun i hi=>(k.block i hi).trans (h.block i hi)⟩
theorem KS.cell{S:Nat→Prop}{W W':World}(h:KS S W W'){a:Addr}{v:Value}(ha:S a.block)(hc:W.cell? a=some v):W'.cell? a=some v:=(World.cell?_of_block (h.block a.block ha)).trans hc
end Mu
end
section
namespace Mu
open Go Go.RowKit Go.Proofs
def Bo(l:List Int):Prop:=∀x∈l,wfI .i64 x
structure okIns(x:Ins):Prop where
 op:wfI .u8 x.op
 d:wfI .i64 x.d
 a:wfI .i64 x.a
 b:wfI .i64 x.b
 n:wfI .u32 x.n
 f:wfI .i64 x.f
 l1:wfI .i64 x.l1
 l2:wfI .i64 x.l2
 args:Bo x.args
structure okBlock(b:Block):Prop where
 name:b.name.size≤maxLen
 ins:∀x∈b.ins,okIns x
structure okFunc(f:Func):Prop where
 name:f.name.size≤maxLen
 args:wfI .i64 f.args
 regs:wfI .i64 f.regs
 blocks:∀b∈f.blocks,okBlock b
section
variable{w:World}{S:Nat→Prop}{cs:List Value}
theorem KH{α:Type}{T:Ty α}{p:α→Prop}{l:List α}(hp:∀cs d,T.RS w S cs d→p d)(h:T.slice.RS w S cs l):∀x∈l,p x:=by
 obtain⟨A,c,rfl,_,_,hi⟩:=h;intro x hx;obtain⟨j,hj⟩:=List.mem_iff_getElem?.1 hx;obtain⟨b,o,_,_,cs',h1,_⟩:=hi j x hj;exact hp cs' x h1
theorem Adf{l:List Int}(h:tInt.slice.RS w S cs l):Bo l:=KH (T:=tInt) (p:=wfI .i64) (fun _ _ h=>(JX.1 h).2) h
theorem Akx{x:Ins}(h:Dj.RS w S cs x):okIns x:=by
 obtain⟨A,c,hI⟩:=It.1 h;exact⟨hI.op,hI.d,hI.a,hI.b,hI.n,hI.f,hI.l1,hI.l2,Adf hI.args⟩
theorem Zk{x:Block}(h:Bs.RS w S cs x):okBlock x:=by
 obtain⟨A,c,_,h1,h2⟩:=Ky.1 h;exact⟨h1,KH (fun _ _ h=>Akx h) h2⟩
theorem Adg{x:Func}(h:B4.RS w S cs x):okFunc x:=by
 obtain⟨A,c,_,h1,h2,h3,h4⟩:=NJ.1 h;exact⟨h1,h2,h3,KH (fun _ _ h=>Zk h) h4⟩
variable{h:List ABlk}{ψ:Nat→Value}
theorem F1{x:Ins}(ho:okIns x)(H:Ad w S h ψ (AL x) cs):Dj.RS w S cs x:=by
 simp only[AL,Ad,AV.rel]at H;obtain⟨_,_,rfl,rfl,_,_,rfl,rfl,_,_,rfl,rfl,_,_,rfl,rfl,_,_,rfl,rfl,_,_,rfl,rfl,_,_,rfl,ha,_,_,rfl,rfl,_,_,rfl,rfl,rfl⟩:=H;obtain⟨A,c,rfl⟩:=BB ha;exact It.2 ⟨A,c,rfl,ho.op,ho.d,ho.a,ho.b,ho.n,ho.f,ho.l1,ho.l2,ha⟩
theorem Pt{x:Block}(ho:x.name.size≤maxLen)(H:Ad w S h ψ (BZ x) cs):Bs.RS w S cs x:=by
 simp only[BZ,Ad,AV.rel]at H;obtain⟨_,_,rfl,rfl,_,_,rfl,ha,rfl⟩:=H;obtain⟨A,c,rfl⟩:=BB ha;exact Ky.2 ⟨A,c,rfl,ho,ha⟩
theorem SO{x:Func}(ho:okFunc x)(H:Ad w S h ψ (Ak x) cs):B4.RS w S cs x:=by
 simp only[Ak,Ad,AV.rel]at H;obtain⟨_,_,rfl,rfl,_,_,rfl,rfl,_,_,rfl,rfl,_,_,rfl,ha,rfl⟩:=H;obtain⟨A,c,rfl⟩:=BB ha;exact NJ.2 ⟨A,c,rfl,ho.name,ho.args,ho.regs,ha⟩
end
section
variable{P:Program}
theorem Jg{f:FuncId}{args:List AV}{v:Value}(hE:Bw P f=true)(h:∀(w:World) (vs:List Value),Ad w (fun k=>k < w.heap.size) [] ψ0 args vs→Calls P f vs.toArray w fun e w'=>e= .returned v∧Below w.heap.size w w'):Fn P f args (.lit v):=
 ⟨hE,fun w S vs hS hr=>(h w vs (Al (Ext.grow [] ψ0 (fun _ _=>rfl) hS) _ _ hr)).mono fun e w' ⟨he,hb⟩=>⟨v,he,hb,S,fun _ h=>h,fun _ h=>.inl h,fun k hk=>Nat.lt_of_lt_of_le (hS k hk) hb.size,by unfold AV.rel;rfl⟩⟩
theorem JP{f:FuncId}{args:List AV}{v u:Value}(hE:Bw P f=true)(h:∀(w:World) (vs:List Value),Ad w (fun k=>k < w.heap.size) [] ψ0 args vs→Calls P f vs.toArray w fun e w'=>e= .returned (.tuple #[v,u])∧Below w.heap.size w w'):Fn P f args (.tup [.lit v,.lit u]):=
 ⟨hE,fun w S vs hS hr=>(h w vs (Al (Ext.grow [] ψ0 (fun _ _=>rfl) hS) _ _ hr)).mono fun e w' ⟨he,hb⟩=>⟨_,he,hb,S,fun _ h=>h,fun _ h=>.inl h,fun k hk=>Nat.lt_of_lt_of_le (hS k hk) hb.size,by
  unfold AV.rel;exact⟨[v,u],rfl,by simp[Ad,AV.rel]⟩⟩⟩
theorem Vn{f:FuncId}{args:List AV}{l:List Int}(hE:Bw P f=true)(hl:Bo l)(h:∀(w:World) (vs:List Value),Ad w (fun k=>k < w.heap.size) [] ψ0 args vs→Calls P f vs.toArray w fun e w'=>∃v,e= .returned v∧Ks w' w.heap.size v l∧Below w.heap.size w w'):Fn P f args (.bs tInt l):=
 ⟨hE,fun w S vs hS hr=>(h w vs (Al (Ext.grow [] ψ0 (fun _ _=>rfl) hS) _ _ hr)).mono fun e w' ⟨v,he,ho,hb⟩=>by
  refine⟨v,he,hb,fun k=>S k∨v.ownBlock=some k,fun _ h=>.inl h,fun k hk=>hk.imp id fun e=>(ho.lt k e).1,fun k hk=>?_,?_⟩
  ·rcases hk with hk|hk
   ·exact Nat.lt_of_lt_of_le (hS k hk) hb.size
   ·exact(ho.lt k hk).2
  ·unfold AV.rel;exact tInt.slice.keepS (Lr ho hl) (fun _ _=>rfl) fun k hk=>.inr hk⟩
theorem Aaa{w:World}{S:Nat→Prop}{h:List ABlk}{ψ:Nat→Value}{x:AV}{vs:List Value}(H:Ad w S h ψ [x] vs):∃v,vs= [v]∧AV.rel w S h ψ x v:=by
 simp only[Ad]at H;obtain⟨v,_,rfl,h1,rfl⟩:=H;exact⟨v,rfl,h1⟩
theorem Apa{w:World}{S:Nat→Prop}{h:List ABlk}{ψ:Nat→Value}{x y:AV}{vs:List Value}(H:Ad w S h ψ [x,y] vs):∃v u,vs= [v,u]∧AV.rel w S h ψ x v∧AV.rel w S h ψ y u:=by
 simp only[Ad]at H;obtain⟨v,_,rfl,h1,u,_,rfl,h2,rfl⟩:=H;exact⟨v,u,rfl,h1,h2⟩
theorem H7{w:World}{S:Nat→Prop}{h:List ABlk}{ψ:Nat→Value}{l:List AV}{v:Value}(H:AV.rel w S h ψ (.agg l) v):∃cs,v= .agg cs.toArray∧Ad w S h ψ l cs:=by unfold AV.rel at H;exact H
theorem Lh{w:World}{S:Nat→Prop}{h:List ABlk}{ψ:Nat→Value}{u v:Value}(H:AV.rel w S h ψ (.lit u) v):v=u:=by unfold AV.rel at H;exact H
theorem Wd{w:World}{S:Nat→Prop}{h:List ABlk}{ψ:Nat→Value}{α:Type}{T:Ty α}{l:List α}{v:Value}(H:AV.rel w S h ψ (.bs T l) v):T.slice.RS w S [v] l:=by unfold AV.rel at H;exact H
end
theorem Ep{x:Ins}(h:okIns x):Bo (readsC x):=by
 intro r hr;unfold readsC at hr;simp only[List.mem_append]at hr;rcases hr with(hr|hr)|hr <;> split at hr <;> first|(simp at hr;done)|(simp at hr;subst hr;first|exact h.a|exact h.b)|exact h.args r hr
theorem FZ(x:Ins)(ho:okIns x):Fn Tryz.prog 135 [.agg (AL x)] (.tup [.lit (.int .i64 (if Az x then x.d else 0)),.lit (.bool (Az x))]):=
 JP (by kernel_rfl) fun w vs hr=>by
  obtain⟨v,rfl,hv⟩:=Aaa hr;obtain⟨cs,rfl,hc⟩:=H7 hv;refine(T8 x w cs (F1 ho hc)).mono fun e w' ⟨he,hb⟩=>⟨?_,hb⟩
  rw[he];unfold FQ;cases Az x <;> rfl
theorem V6(xs ys:List Int)(hx:xs.length≤2097152):Fn Tryz.prog 36 [.bs tInt xs,.bs tInt ys] (.lit (.bool (decide (xs=ys)))):=
 Jg (by kernel_rfl) fun w vs hr=>by
  obtain⟨v,u,rfl,hv,hu⟩:=Apa hr;exact(Y5 xs ys v u w (Wd hv) (Wd hu) hx).mono fun e w' ⟨he,hb⟩=>⟨he,hb⟩
theorem RH(xs:List Int)(n:Int)(hx:xs.length≤2097152):Fn Tryz.prog 142 [.bs tInt xs,.lit (.int .i64 n)] (.lit (.bool (xs.contains n))):=
 Jg (by kernel_rfl) fun w vs hr=>by
  obtain⟨v,u,rfl,hv,hu⟩:=Apa hr;obtain rfl:=Lh hu;exact(Y6 xs n v w (Wd hv) hx).mono fun e w' h=>by first|exact h|exact⟨h.1,by rw[←h.2];exact Below.refl _ _⟩|exact⟨h.1,by rw[h.2];exact Below.refl _ _⟩
section
variable{P:Program}
def KG(P:Program):List Field→Option (List (Nat×Nat))
 | []=>some []
 |f::fs=>
  match P.info? f.type with
  |some i=>(KG P fs).map fun l=>(f.offset,i.size)::l
  |none=>none
def Cf(P:Program)(t:TypeId):Option (List (Nat×Nat)):=
 match P.underlying t with
 |some (.struct fs)=>KG P fs.toList
 |_=>none
theorem GW(w:World):∀(fs:List Field) (l:List (Nat×Nat)),KG P fs=some l→(fs.mapM (m:=Sem) fun f=>do pure (f.offset,←Go.sizeOf f.type)).run P w= .ok l w
 | [],l,h=>by cases h;rfl
 |f::fs,l,h=>by
  unfold KG at h;split at h <;> try(cases h;done)
  rename_i i hi;obtain⟨l',h1,rfl⟩:=Option.map_eq_some_iff.1 h;have ih:=GW w fs l' h1;have h0:(do pure (f.offset,←Go.sizeOf f.type):Sem (Nat×Nat)).run P w= .ok (f.offset,i.size) w:=by simp[Go.sizeOf,typeInfo,hi]
  rw[List.mapM_cons,Sem.run_bind,h0];simp only[Result.andThen_ok,Sem.run_bind,ih,Sem.run_pure]
def putCells(pl:List (Nat×Nat)):List AV→List (Nat×AV)→Option (List AV)
 |cs,[]=>some cs
 |cs,(j,x)::ps=>
  match pl[j]? with
  |some (off,1)=>if off < cs.length then putCells pl (cs.set off x) ps else none
  |_=>none
theorem Td{w:World}{S:Nat→Prop}{h:List ABlk}{ψ:Nat→Value}{pl:List (Nat×Nat)}:∀(ps:List (Nat×AV)) (cs rs:List AV) (vs:List (Nat×Value)) (us:List Value),putCells pl cs ps=some rs→Ad w S h ψ cs us→
 vs.map (·.1)=ps.map (·.1)→(∀(j:Nat) (p:Nat×AV) (v:Nat×Value),ps[j]? =some p→vs[j]? =some v→AV.rel w S h ψ p.2 v.2∧v.2.oneCell'=true)→
 ∃us',Instr.fill (fun i=>pl[i]?) us.toArray vs=some us'.toArray∧Ad w S h ψ rs us'
 | [],cs,rs,vs,us,hp,hr,hv,_=>by
  cases hp;have:vs= []:=by simpa using hv
  subst this;exact⟨us,rfl,hr⟩
 |(j,x)::ps,cs,rs,vs,us,hp,hr,hv,hrel=>by
  cases vs with
  |nil=>simp at hv
  |cons v vs=>
   simp only[List.map_cons,List.cons.injEq]at hv;obtain⟨hv1,hv2⟩:=hv;unfold putCells at hp;split at hp <;> try(cases hp;done)
   rename_i off hpl;split at hp <;> try(cases hp;done)
   rename_i hoff;obtain⟨h1,h2⟩:=hrel 0 _ _ rfl rfl;have hul:=AW hr;obtain⟨us',h3,h4⟩:=Td ps (cs.set off x) rs vs (us.set off v.2) hp (DE hr off h1) hv2 fun j p v hp hv=>hrel (j+1) p v (by simpa using hp) (by simpa using hv)
   refine⟨us',?_,h4⟩;obtain⟨i,v⟩:=v;dsimp only at hv1 h1 h2 h3;subst hv1;unfold Instr.fill;simp only[hpl,CM h2];have hc:¬((decide ((#[v]:Array Value).size≠1)||decide (off+(#[v]:Array Value).size > us.toArray.size))=true):=by
    simp;omega
   rw[if_neg hc];simpa using h3
theorem Av.build{C:Ctx}{t:List AV}{h:List ABlk}{o:Oper}{ty:TypeId}{parts:Array (Nat×Operand)}{zs:List Value}{pl:List (Nat×Nat)}{rs:List AV}(ho:o.op= .build ty parts)(hz:Bj P ty=some zs)(hpl:Cf P ty=some pl)
 (hr:putCells pl (zs.map .lit) (parts.toList.map fun p=>(p.1,evA t p.2))=some rs) (h1:∀p∈parts.toList,One h (evA t p.2)):Av P C t h o (.agg rs):=
 Ap fun S ψ w ρ H hρ=>by
  unfold Bj at hz;obtain⟨z,hz1,rfl⟩:=Option.map_eq_some_iff.1 hz;obtain⟨i,hi,hz2⟩:=Option.bind_eq_some_iff.1 hz1;unfold Cf at hpl;split at hpl <;> try(cases hpl;done)
  rename_i fs hu;have hrp:=GW (P:=P) w fs.toList pl hpl;have hmem:∀p∈parts.toList,AV.rel w S h ψ (evA t p.2) (ρ p.2):=fun p hp=>hρ p.2 (by rw[ho];exact List.mem_toArray.2 (List.mem_map.2 ⟨p,hp,rfl⟩))
  obtain⟨us',h3,h4⟩:=Td (w:=w) (S:=S) (h:=h) (ψ:=ψ) _ _ rs (parts.toList.map fun p=>(p.1,ρ p.2)) z.cells.toList hr (DK _) (by simp) fun j p v hp hv=>by
   rw[List.getElem?_map]at hp hv;obtain⟨q,hq,rfl⟩:=Option.map_eq_some_iff.1 hp;rw[hq]at hv;cases hv;have hqm:=List.mem_of_getElem? hq;exact⟨hmem q hqm,h1 q hqm C S ψ w _ H (hmem q hqm)⟩
  refine⟨.agg us'.toArray,?_,by unfold AV.rel;exact⟨us',rfl,h4⟩⟩;have hpa:(fs.mapM (m:=Sem) fun f=>do pure (f.offset,←Go.sizeOf f.type)).run P w= .ok pl.toArray w:=by
   rw[←Array.toArray_toList (xs:=fs),List.mapM_toArray,Sem.run_map,hrp];rfl
  have hf:Instr.fill (fun i=>pl.toArray[i]?) z.cells (parts.map fun p=>(p.1,ρ p.2)).toList=some us'.toArray:=by simpa using h3
  simp only[execOp,ho,Instr.build,zeroValue,typeInfo,underlying,Sem.run_bind,run_program,Result.andThen_ok,hi,hz2,Sem.run_pure,hu,hpa,hf]
def Aq4(t:Tmp)(r:AV):Exit→St→Prop:=fun e s=>(e= .normal∨e= .ret)∧∃i cells,evA s.t (.tmp t)= .ptr i 0∧s.h[i]? =some (.box cells)∧Fin s.h (.agg cells) r
theorem FL{f:FuncId}{fn:Go.Func}{c:Code}{args:List AV}{r:AV}{t:Tmp}{ty:TypeId}{n m:Nat}(hf:P.funcs[f]? =some fn)(hb:fn.body=some c)(hE:Bw P f=true)(hres:fn.results= #[.cell t ty])(ha:OO P ty=some (true,m))(hn:fn.ntmps=n)
 (h:∀C:Ctx,C.std→Awp P C c (fun e s=>Aq4 t r e s∧∀i cells,evA s.t (.tmp t)= .ptr i 0→s.h[i]? =some (.box cells)→cells.length=m) ⟨args++List.replicate (n - args.length) (.lit undef),[]⟩):Fn P f args r:=by
 refine⟨hE,fun w S vs hS hr=>calls_of_wp hf hb ?_⟩;rw[hn];refine wp_mono ((h ⟨w,S,fun k=>k < w.heap.size,none⟩ (fun _ h=>h)).wp rfl (Em hS hr)) ?_;rintro e a' w' ⟨s,⟨⟨he,i,cells,hev,hi,hfin⟩,hlen⟩,hd,S1,ψ,H,hl⟩;rw[hfin.1]at hd;have hm:=hlen i cells hev hi;have hv:=Ba hl (.tmp t);rw[hev]at hv;unfold AV.rel at hv;obtain⟨g,h1,h2⟩:=hv.2 (by rw[hi];rfl);obtain⟨g',cs,e',h3,_,_,h4,h5⟩:=H.blk i _ hi;rw[h1]at h3;cases h3;have hc:∀j u,cs[j]? =some u→w'.cell? ⟨g,0+j,none⟩=some u:=fun j u hu=>by simp[World.cell?,h4,hu]
 have hload:=ET (P:=P) (ty:=ty) (b:=g) (off:=0) ha (by rw[AW h5];exact hm) hc;have hres':(results fn a'.tmps).run P w'= .ok (.agg cs.toArray) w':=by
  have e1:(a'.tmps[t]?).getD undef= .pointer (some ⟨g,0,none⟩):=by rw[←Array.getD_eq_getD_getElem?];exact h2
  unfold Instr.loadAt Instr.sureAddr at hload;simp only[Sem.run_bind,Sem.run_pure,Result.andThen_ok]at hload;simp[results,hres,e1,asAddr,hload]
 have hg:=G6 H hfin (by unfold AV.rel;exact⟨cs,rfl,h5⟩);rcases he with rfl|rfl
 ·exact⟨hd,_,hres',_,rfl,hg⟩
 ·exact⟨hd,_,hres',_,rfl,hg⟩
end
end Mu
end
section
namespace Mu
open Go Go.RowKit
mutual
def EH(p:Nat):AV→Bool
 | .own i _=>i !=p
 | .ptr i _=>i !=p
 | .rp i _ _ _=>i !=p
 | .agg l=>CQ p l
 | .tup l=>CQ p l
 | .fn _ l=>CQ p l
 |_=>true
def CQ(p:Nat):List AV→Bool
 | []=>true
 |x::l=>EH p x&&CQ p l
end
def nrB(p:Nat):ABlk→Bool
 | .box cells=>CQ p cells
 |_=>true
section
variable{w:World}{S:Nat→Prop}{h:List ABlk}{ψ ψ':Nat→Value}{p:Nat}{b:ABlk}
mutual
theorem GT(hψ:∀i,i≠p→ψ' i=ψ i):∀(x:AV) (v:Value),EH p x=true→AV.rel w S h ψ x v→AV.rel w S (h.set p b) ψ' x v
 | .any,_,_,_=>by unfold AV.rel;trivial
 | .lit u,v,_,H=>by unfold AV.rel at H⊢;exact H
 | .bs T l,v,_,H=>by unfold AV.rel at H⊢;exact H
 | .tv T d,v,_,H=>by unfold AV.rel at H⊢;exact H
 | .own i ver,v,hn,H=>by
  have hi:i≠p:=by simpa[EH]using hn
  unfold AV.rel at H⊢;rw[List.getElem?_set_ne (Ne.symm hi),hψ i hi];exact⟨by simpa using H.1,H.2⟩
 | .ptr i off,v,hn,H=>by
  have hi:i≠p:=by simpa[EH]using hn
  unfold AV.rel at H⊢;rw[List.getElem?_set_ne (Ne.symm hi),hψ i hi];exact⟨by simpa using H.1,H.2⟩
 | .rp i ver k off,v,hn,H=>by
  have hi:i≠p:=by simpa[EH]using hn
  unfold AV.rel at H⊢;rw[List.getElem?_set_ne (Ne.symm hi),hψ i hi];exact⟨by simpa using H.1,H.2⟩
 | .bp T d off,v,_,H=>by unfold AV.rel at H⊢;exact H
 | .agg l,v,hn,H=>by
  unfold EH at hn;unfold AV.rel at H⊢;obtain⟨cs,e,hl⟩:=H;exact⟨cs,e,Di hψ l cs hn hl⟩
 | .tup l,v,hn,H=>by
  unfold EH at hn;unfold AV.rel at H⊢;obtain⟨cs,e,hl⟩:=H;exact⟨cs,e,Di hψ l cs hn hl⟩
 | .fn f l,v,hn,H=>by
  unfold EH at hn;unfold AV.rel at H⊢;obtain⟨cs,e,hl⟩:=H;exact⟨cs,e,Di hψ l cs hn hl⟩
theorem Di(hψ:∀i,i≠p→ψ' i=ψ i):∀(l:List AV) (cs:List Value),CQ p l=true→Ad w S h ψ l cs→Ad w S (h.set p b) ψ' l cs
 | [],cs,_,H=>by unfold Ad at H⊢;exact H
 |x::l,cs,hn,H=>by
  unfold CQ at hn;rw[Bool.and_eq_true]at hn;unfold Ad at H⊢;obtain⟨v,vs,e,h1,h2⟩:=H;exact⟨v,vs,e,GT hψ x v hn.1 h1,Di hψ l vs hn.2 h2⟩
end
variable{h':List ABlk}
mutual
theorem Ij(hc:Cut h h')(hl:h'.length=h.length):∀(x:AV) (v:Value),AV.rel w S h ψ x v→AV.rel w S h' ψ x v
 | .any,_,_=>by unfold AV.rel;trivial
 | .lit u,v,H=>by unfold AV.rel at H⊢;exact H
 | .bs T l,v,H=>by unfold AV.rel at H⊢;exact H
 | .tv T d,v,H=>by unfold AV.rel at H⊢;exact H
 | .own i ver,v,H=>by
  unfold AV.rel at H⊢;exact⟨by omega,fun c hv=>H.2 c (hc.ver hv).1⟩
 | .ptr i off,v,H=>by
  unfold AV.rel at H⊢;exact⟨by omega,fun hv=>H.2 (hc.box hv)⟩
 | .rp i ver k off,v,H=>by
  unfold AV.rel at H⊢;refine⟨by omega,fun c hv=>?_⟩;rw[(hc.ver hv).2];exact H.2 c (hc.ver hv).1
 | .bp T d off,v,H=>by unfold AV.rel at H⊢;exact H
 | .agg l,v,H=>by
  unfold AV.rel at H⊢;obtain⟨cs,e,hL⟩:=H;exact⟨cs,e,DX hc hl l cs hL⟩
 | .tup l,v,H=>by
  unfold AV.rel at H⊢;obtain⟨cs,e,hL⟩:=H;exact⟨cs,e,DX hc hl l cs hL⟩
 | .fn f l,v,H=>by
  unfold AV.rel at H⊢;obtain⟨cs,e,hL⟩:=H;exact⟨cs,e,DX hc hl l cs hL⟩
theorem DX(hc:Cut h h')(hl:h'.length=h.length):∀(l:List AV) (cs:List Value),Ad w S h ψ l cs→Ad w S h' ψ l cs
 | [],cs,H=>by unfold Ad at H⊢;exact H
 |x::l,cs,H=>by
  unfold Ad at H⊢;obtain⟨v,vs,e,h1,h2⟩:=H;exact⟨v,vs,e,Ij hc hl x v h1,DX hc hl l vs h2⟩
end
theorem HRel.cute{C:Ctx}(H:HRel C h S ψ w)(hc:Cut h h')(hl:h'.length=h.length):HRel C h' S ψ w:=
 ⟨H.bel,H.nlt,H.lt,H.sub,H.new,fun i b hi=>by
  rcases hc.blk i b hi with rfl|h1
  ·trivial
  ·have hB:=H.blk i b h1;cases b with
   |dead=>trivial
   |box cells=>
    obtain⟨g,cs,e,k1,k2,k3,k4,k5⟩:=hB;exact⟨g,cs,e,k1,k2,k3,k4,DX hc hl _ _ k5⟩
   |row ver e T l=>exact hB
   |res R=>exact hB,fun i j hij h1 h2=>by rw[hc.same h1,hc.same h2];exact H.dis i j hij (hc.live h1) (hc.live h2)⟩
theorem Vo(hp:h[p]? =some .dead):Cut (h.set p b) h:=⟨by simp,fun i c hi=>by
 by_cases hip:i=p
 ·subst hip;rw[hp]at hi;exact .inl (by injection hi with e;exact e.symm)
 ·exact .inr (by rw[List.getElem?_set_ne (Ne.symm hip)];exact hi)⟩
theorem Av.up{P:Program}{C:Ctx}{t:List AV}{o:Oper}{r:AV}(hp:h[p]? =some .dead)(hr:EH p r=true)(hq:Av P C t h o r):Av P C t (h.set p b) o r:=by
 intro S ψ w ρ H hx;have hc:Cut (h.set p b) h:=Vo hp;have hl:h.length=(h.set p b).length:=by simp
 have h1:=hq S ψ w ρ (H.cute hc hl) fun x hxm=>Ij hc hl _ _ (hx x hxm)
 have key:∀v w',Vm w S h ψ r v w'→Vm w S (h.set p b) ψ r v w':=fun v w' ⟨hb,S',k1,k2,k3,k4⟩=>⟨hb,S',k1,k2,k3,GT (fun _ _=>rfl) r v hr k4⟩
 cases hres:(execOp ρ o).run P w with
 |ok n w'=>
  rw[hres]at h1;cases n <;> simp only[Rn]at h1⊢
  case value v=>exact key _ _ h1
  case skip=>exact key _ _ h1
  case enter f args=>exact⟨h1.1,h1.2.mono fun e w'' ⟨v,he,hg⟩=>⟨v,he,key _ _ hg⟩⟩
 |halt x w'=>rw[hres]at h1;simp only[Rn]at h1
theorem HRel.revive{C:Ctx}{w':World}{v:Value}(H:HRel C h S ψ w)(hp:h[p]? =some .dead)(hn:h.all (nrB p)=true)(hb:Below w.heap.size w w')(hB:Ho C.N w' S (h.set p b) (Bk ψ p v) v b)(hg:∀g,ftp (some b) v g→w.heap.size≤g):
 HRel C (h.set p b) S (Bk ψ p v) w':=by
 have hpl:=(List.getElem?_eq_some_iff.1 hp).1;have H':=H.grow (S':=S) hb (fun _ h=>h) (fun _ h=>.inl h) fun k hk=>Nat.lt_of_lt_of_le (H.lt k hk) hb.size
 have hlt:∀i,ABlk.live h[i]? =true→∀g,ftp h[i]? (ψ i) g→g < w.heap.size:=fun i hl g hgg=>by
  obtain⟨c,hc⟩:=DM hl;rw[hc]at hgg;exact((H.blk i c hc).lt (by rw[←hc];exact hl) g hgg).2.1
 refine⟨H'.bel,H'.nlt,H'.lt,H'.sub,H'.new,fun i c hi=>?_,fun i j hij hi hj g h1 h2=>?_⟩
 ·by_cases hip:i=p
  ·subst hip;rw[List.getElem?_set_self hpl]at hi;cases hi;rw[Bi];exact hB
  ·rw[List.getElem?_set_ne (Ne.symm hip)]at hi;rw[BH hip];have hc:=H'.blk i c hi;have hnr:=List.all_eq_true.1 hn c (List.mem_of_getElem? hi);cases c with
   |dead=>trivial
   |box cells=>
    obtain⟨g,cs,e,k1,k2,k3,k4,k5⟩:=hc;exact⟨g,cs,e,k1,k2,k3,k4,Di (fun i hi=>BH hi) _ _ hnr k5⟩
   |row ver e T l=>exact hc
   |res R=>exact hc
 ·by_cases hip:i=p
  ·subst hip;rw[Bi,List.getElem?_set_self hpl]at h1;have hji:j≠i:=Ne.symm hij;rw[BH hji,List.getElem?_set_ne (Ne.symm hji)]at h2;rw[List.getElem?_set_ne (Ne.symm hji)]at hj;have:=hlt j hj g h2;have:=hg g h1;omega
  ·rw[BH hip,List.getElem?_set_ne (Ne.symm hip)]at h1;rw[List.getElem?_set_ne (Ne.symm hip)]at hi;by_cases hjp:j=p
   ·subst hjp;rw[Bi,List.getElem?_set_self hpl]at h2;have:=hlt i hi g h1;have:=hg g h2;omega
   ·rw[BH hjp,List.getElem?_set_ne (Ne.symm hjp)]at h2;rw[List.getElem?_set_ne (Ne.symm hjp)]at hj;exact H.dis i j hij hi hj g h1 h2
end
section
variable{P:Program}{C:Ctx}{ops:Array Oper}{md:Region.Mode}{h:List ABlk}{p ip:Nat}{zs:List Value}{elem:TypeId}
def Abp(o:Oper):Bool:=
 match o.op with
 | .alloc _=>true
 |_=>false
def GN(P:Program)(C:Ctx)(ops:Array Oper)(h:List ABlk)(p:Nat)(zs:List Value)(o:Oper)(r:AV)(t:List AV):Prop:=
 (Abp o=false∧gA ops t o=some true∧Av P C t h o r∧EH p r=true)∨(Abp o=false∧gA ops t o=some false∧r= .lit undef)∨(Abp o=true∧o.guard=none∧r= .ptr p 0∧∃elem,o.op= .alloc elem∧Bj P elem=some zs)
def bOp(P:Program)(C:Ctx)(ops:Array Oper)(h:List ABlk)(p ip:Nat)(zs:List Value)(i:Nat)(K:List AV→Prop)(t:List AV):Prop:=
 match ops[i]? with
 |none=>K t
 |some o=>∃r,GN P C ops h p zs o r t∧Abp o=decide (i=ip)∧K (AJ t o.dst r)
theorem Z9{i:Nat}{t:List AV}{K K':List AV→Prop}(hk:∀t,K t→K' t)(hh:bOp P C ops h p ip zs i K t):bOp P C ops h p ip zs i K' t:=by
 unfold bOp at *;split
 ·exact hk _ (by simpa[*]using hh)
 ·rename_i o ho;simp only[ho]at hh;obtain⟨r,h1,h2,h3⟩:=hh;exact⟨r,h1,h2,hk _ h3⟩
def Ao9(P:Program)(C:Ctx)(md:Region.Mode)(ops:Array Oper)(h:List ABlk)(p ip:Nat)(zs:List Value)(n:Nat)(L:Array Bool→List AV→Prop):Nat→Array Bool→List AV→Prop
 |0,listed,t=>L listed t
 |f+1,listed,t=>
  Region.ready md ops listed≠[]∧∀i∈Region.ready md ops listed,i < n∧bOp P C ops h p ip zs i (Ao9 P C md ops h p ip zs n L f (listed.setIfInBounds i true)) t
def Mv(h:List ABlk)(p ip:Nat)(zs:List Value)(listed:Array Bool):List ABlk:=if listed.getD ip false=true then h.set p (.box (zs.map .lit))else h
theorem Xd{listed:Array Bool}{i:Nat}(hi:i≠ip):Mv h p ip zs (listed.setIfInBounds i true)=Mv h p ip zs listed:=by
 unfold Mv;rw[getD_set_ne false hi]
theorem Afp{listed:Array Bool}:Mv h p ip zs listed=h∨Mv h p ip zs listed=h.set p (.box (zs.map .lit)):=by
 unfold Mv;split
 ·exact .inr rfl
 ·exact .inl rfl
theorem Adh{t:List AV}{d:Option Tmp}{r:AV}(ht:CQ p t=true)(hr:EH p r=true):CQ p (AJ t d r)=true:=by
 cases d with
 |none=>exact ht
 |some d=>
  unfold AJ;simp only;induction t generalizing d with
  |nil=>exact ht
  |cons x t ih=>
   unfold CQ at ht;rw[Bool.and_eq_true]at ht;cases d with
   |zero=>unfold List.set CQ;rw[hr,ht.2];rfl
   |succ d=>unfold List.set CQ;rw[ht.1,ih ht.2];rfl
theorem QY{i:Nat}{t:List AV}{a:Act}{w:World}{K:List AV→Prop}{K':Act→World→Prop}{Q':Exit→Act→World→Prop}{listed:Array Bool}(hp:h[p]? =some .dead)(hn:h.all (nrB p)=true)(hnt:listed.getD ip false=false→CQ p t=true)
 (hip:ip < listed.size) (hr:i∈Region.ready md ops listed) (H:St.rel C ⟨t,Mv h p ip zs listed⟩ a w)
 (hK:∀t a w,K t→((listed.setIfInBounds i true).getD ip false=false→CQ p t=true)→St.rel C ⟨t,Mv h p ip zs (listed.setIfInBounds i true)⟩ a w→K' a w)
 (hh:bOp P C ops h p ip zs i K t):wpOp P ops Q' i K' a w:=by
 obtain⟨hun,o,ho,-⟩:=mem_ready.1 hr;unfold bOp at hh;unfold wpOp;simp only[ho]at hh⊢;obtain⟨r,hy,hal,hk⟩:=hh;obtain⟨hd,S,ψ,hh',hl⟩:=id H;have hnr:∀{r:AV},i≠ip→EH p r=true→((listed.setIfInBounds i true).getD ip false=false→CQ p (AJ t o.dst r)=true):=fun hi hr hl=>by
  rw[getD_set_ne false hi]at hl;exact Adh (hnt hl) hr
 rcases hy with⟨ha,hg,hq,hrn⟩|⟨ha,hg,rfl⟩|⟨ha,hgd,rfl,el,hop,hz⟩
 ·have hw:=CZ hg hl;rw[hw,if_pos rfl];have hi:i≠ip:=fun e=>by rw[ha]at hal;simp[e]at hal
  refine .inl ?_;have hq':Av P C t (Mv h p ip zs listed) o r:=by
   rcases Afp (h:=h) (p:=p) (ip:=ip) (zs:=zs) (listed:=listed)with e|e <;> rw[e]
   ·exact hq
   ·exact hq.up hp hrn
  exact Ir (s:=⟨t,Mv h p ip zs listed⟩) hd hh' hl (hq' S ψ w a.eval hh' fun x _=>Ba hl x) fun a' w' h'=>hK _ _ _ hk (hnr hi hrn) (by rw[Xd hi];exact h')
 ·have hw:=CZ hg hl;rw[hw,if_neg (by simp)];have hi:i≠ip:=fun e=>by rw[ha]at hal;simp[e]at hal
  exact hK _ _ _ hk (hnr hi rfl) (by rw[Xd hi];exact Ej H o.dst)
 ·have hi:i=ip:=by rw[ha]at hal;simpa using hal.symm
  subst hi;have hw:Region.wanted o (yielded ops a.tmps)=true:=by unfold Region.wanted;rw[hgd]
  rw[hw,if_pos rfl];refine .inl ?_;have hun':listed.getD i false=false:=getD_both hun;have hc0:Mv h p i zs listed=h:=by unfold Mv;rw[if_neg (by simp[hun'])]
  have hc1:Mv h p i zs (listed.setIfInBounds i true)=h.set p (.box (zs.map .lit)):=by
   unfold Mv;rw[if_pos (by simp[Array.getD_eq_getD_getElem?,hip])]
  rw[hc0]at hh' hl;unfold Bj at hz;obtain⟨z,hz1,rfl⟩:=Option.map_eq_some_iff.1 hz;obtain⟨ti,hti,hz2⟩:=Option.bind_eq_some_iff.1 hz1;have hrun:(execOp a.eval o).run P w= .ok (.value (.pointer (some ⟨w.heap.size,0,none⟩))) (w.alloc (.cells z.cells el)):=by
   simp[execOp,hop,Instr.alloc,zeroValue,typeInfo,hti,hz2,newVar,newRow]
  unfold Oper.wp;rw[hrun];have hb:Below w.heap.size w (w.alloc (.cells z.cells el)):=(Below.refl _ _).alloc (Nat.le_refl _) _;have hB:Ho C.N (w.alloc (.cells z.cells el)) S (h.set p (.box (z.cells.toList.map .lit))) (Bk ψ p (.pointer (some ⟨w.heap.size,0,none⟩))) (.pointer (some ⟨w.heap.size,0,none⟩)) (.box (z.cells.toList.map .lit)):=
   ⟨w.heap.size,z.cells.toList,el,rfl,fun hN=>by have:=hh'.nlt _ hN;have:=hh'.bel.size;omega,fun hS=>by have:=hh'.lt _ hS;omega,by simpa using heap_alloc_new w (.cells z.cells el),DK _⟩
  have H1:=hh'.revive hp hn hb hB fun g hg=>by simp[ftp,BX]at hg;omega
  have hl1:=Al (Ext.grow h ψ (fun k hk=>hb.block k (hh'.lt k hk)) fun _ h=>h) _ _ hl;have hl2:=Di (b:=.box (z.cells.toList.map .lit)) (ψ':=Bk ψ p (.pointer (some ⟨w.heap.size,0,none⟩))) (fun i hi=>BH hi) _ _ (hnt hun') hl1;refine hK _ _ _ hk (fun hl=>?_) ?_
  ·simp[Array.getD_eq_getD_getElem?,hip]at hl
  ·rw[hc1];refine⟨by rw[put_defers,hd];show mkD (Mv _ _ _ _ _)=mkD (h.set p _);rw[hc0];exact(Do (b':=.box (z.cells.toList.map .lit)) hp rfl).symm,S,_,H1,F0 hl2 o.dst ?_⟩;unfold AV.rel;exact⟨by simpa using(List.getElem?_eq_some_iff.1 hp).1,fun _=>⟨w.heap.size,Bi,rfl⟩⟩
theorem MB{n g:Nat}{L:Array Bool→List AV→Prop}{Q':Exit→Act→World→Prop}(hp:h[p]? =some .dead)(hn:h.all (nrB p)=true)(hL:∀listed t a w,L listed t→St.rel C ⟨t,Mv h p ip zs listed⟩ a w→wpAny P md ops Q' g listed a w):
 ∀(f:Nat) (listed:Array Bool) (t:List AV) (a:Act) (w:World),ip < listed.size→(listed.getD ip false=false→CQ p t=true)→Ao9 P C md ops h p ip zs n L f listed t→St.rel C ⟨t,Mv h p ip zs listed⟩ a w→wpAny P md ops Q' (f+g) listed a w
 |0,listed,t,a,w,_,_,hh,H=>by rw[Nat.zero_add];exact hL _ _ _ _ hh H
 |f+1,listed,t,a,w,hip,hnt,hh,H=>by
  rw[show f+1+g=(f+g)+1 by omega];exact⟨fun h0=>absurd h0 hh.1,fun i hi=>QY hp hn hnt hip hi H (fun t' a' w' h' hnt' H'=>MB hp hn hL f _ t' a' w' (by simpa using hip) hnt' h' H') (hh.2 i hi).2⟩
theorem L2{o:Oper}{t:List AV}{dst:Option Tmp}{u r:AV}(hdst:∀d,dst=some d→d∉o.looksAt ops):GN P C ops h p zs o r (AJ t dst u)↔GN P C ops h p zs o r t:=by
 unfold GN;rw[Ab9 hdst,Ps hdst]
theorem Af8{j:Nat}{oi oj:Oper}{v:AV}(hj:ops[j]? =some oj)(hap:oi.apart ops oj=true){K:List AV→Prop}{t:List AV}(hy:GN P C ops h p zs oi v t)(hh:bOp P C ops h p ip zs j K (AJ t oi.dst v)):
 bOp P C ops h p ip zs j (fun t'=>GN P C ops h p zs oi v t'∧K (AJ t' oi.dst v)) t:=by
 obtain⟨h1,h2,h3⟩:=Oper.apart_spec hap;unfold bOp at *;simp only[hj]at *;obtain⟨r,hr,ha,hk⟩:=hh;exact⟨r,(L2 h1).1 hr,ha,(L2 h3).2 hy,by rw[←Pv t v r h2];exact hk⟩
theorem UZ{n i:Nat}{oi:Oper}{v:AV}{L:Array Bool→List AV→Prop}(hi:ops[i]? =some oi)(hial:Abp oi=decide (i=ip))
 (htail:∀listed i,HeadInv md ops n listed→i < n→listed.getD i true=false→∀t,n≤t→t∉Region.ready md ops listed) (hin:i < n)
 (hdone:∀listed t,L listed t→∀j∈Region.ready md ops listed,n≤j):
 ∀(f:Nat) (listed:Array Bool) (t:List AV),HeadInv md ops n listed→
  (∀j oj,ops[j]? =some oj→j≠i→listed.getD j true=false→(∀e∈oj.after,Region.binds md e=true→e.on≠i)→oi.apart ops oj=true)→
  i∈Region.ready md ops listed→GN P C ops h p zs oi v t→
  Ao9 P C md ops h p ip zs n L f (listed.setIfInBounds i true) (AJ t oi.dst v)→Ao9 P C md ops h p ip zs n L (f+1) listed t:=by
 intro f;induction f with
 |zero=>
  intro listed t inv _ hr hy H;have hun:=(mem_ready.1 hr).1;refine⟨fun h=>(by rw[h]at hr;cases hr),fun j hj=>?_⟩;have hjn:j < n:=by
   rcases Nat.lt_or_ge j n with h|h
   ·exact h
   ·exact absurd hj (htail _ i inv hin hun j h)
  refine⟨hjn,?_⟩;by_cases hji:j=i
  ·subst hji;unfold bOp;simp only[hi];exact⟨v,hy,hial,H⟩
  ·have:=hdone _ _ H j (ready_mono hj hji);omega
 |succ f ih=>
  intro listed t inv hfree hr hy H;have hun:=(mem_ready.1 hr).1;refine⟨fun h=>(by rw[h]at hr;cases hr),fun j hj=>?_⟩;have hjn:j < n:=by
   rcases Nat.lt_or_ge j n with h|h
   ·exact h
   ·exact absurd hj (htail _ i inv hin hun j h)
  refine⟨hjn,?_⟩;by_cases hji:j=i
  ·subst hji;unfold bOp;simp only[hi];exact⟨v,hy,hial,H⟩
  ·have h1:=(H.2 j (ready_mono hj hji)).2;obtain⟨hjun,oj,hoj,hall⟩:=mem_ready.1 hj;have hnot:∀e∈oj.after,Region.binds md e=true→e.on≠i:=fun e he hb heq=>by
    have h1:=hall e he hb;rw[heq,getD_both hun]at h1;cases h1
   have h2:=Af8 hoj (hfree j oj hoj hji hjun hnot) hy h1;have hfree':∀k ok,ops[k]? =some ok→k≠i→(listed.setIfInBounds j true).getD k true=false→
    (∀e∈ok.after,Region.binds md e=true→e.on≠i)→oi.apart ops ok=true:=fun k ok hk hki hun hno=>by
    refine hfree k ok hk hki ?_ hno;by_cases hjk:j=k
    ·subst hjk;exact hjun
    ·rw[getD_set_ne true hjk]at hun;exact hun
   refine Z9 (fun a' h3=>ih (listed.setIfInBounds j true) a' (inv.set hj hjn) hfree' (ready_mono hr (Ne.symm hji)) h3.1 ?_) h2;rw[Array.setIfInBounds_comm _ _ hji];exact h3.2
def bQ(P:Program)(C:Ctx)(ops:Array Oper)(h:List ABlk)(p ip:Nat)(zs:List Value)(K:List AV→Prop):Nat→List Oper→List AV→Prop
 |_,[],t=>K t
 |k,o::rest,t=>∃r,GN P C ops h p zs o r t∧Abp o=decide (k=ip)∧bQ P C ops h p ip zs K (k+1) rest (AJ t o.dst r)
theorem Tv{n g:Nat}{Lq:List AV→Prop}(htail:∀listed i,HeadInv md ops n listed→i < n→listed.getD i true=false→∀t,n≤t→t∉Region.ready md ops listed)(hipn:ip < n):
 ∀(l:List Oper) (k:Nat) (listed:Array Bool) (t:List AV),(∀j,j < l.length→l[j]? =ops[k+j]?)→k+l.length=n→HeadInv md ops n listed→(∀j,j < k→listed.getD j false=true)→
 Region.lexHead md ops g l.length k listed=true→bQ P C ops h p ip zs Lq k l t→
 Ao9 P C md ops h p ip zs n (fun listed' t'=>Region.seqB md ops g n listed'=true∧listed'.getD ip false=true∧Lq t') l.length listed t
 | [],k,listed,t,_,hk,_,hset,hB,hh=>by
  have:k=n:=by simpa using hk
  subst this;exact⟨by simpa[Region.lexHead]using hB,hset ip hipn,hh⟩
 |o::l,k,listed,t,hl,hk,inv,hset,hB,hh=>by
  have h0:ops[k]? =some o:=by simpa using(hl 0 (by simp)).symm
  simp only[List.length_cons,Region.lexHead,Bool.and_eq_true]at hB;obtain⟨⟨hr,hf⟩,hB'⟩:=hB;have hkn:k < n:=by simp only[List.length_cons]at hk;omega
  have hr':k∈Region.ready md ops listed:=by simpa using hr
  obtain⟨v,hy,ha,hK⟩:=hh;have hks:k < listed.size:=by rw[inv.size];exact(Array.getElem?_eq_some_iff.1 h0).1
  refine UZ h0 ha htail hkn (fun listed' a' hL=>seqB_ready hL.1) l.length listed t inv (Region.free_spec h0 hf) hr' hy
   (Tv htail hipn l (k+1) _ _ (fun j hj=>by have:=hl (j+1) (by simp;omega);simpa[Nat.add_assoc,Nat.add_comm 1 j]using this) (by simp only[List.length_cons]at hk;omega) (inv.set hr' hkn) (fun j hj=>?_) hB' hK)
  by_cases hjk:k=j
  ·subst hjk;simp[Array.getD_eq_getD_getElem?,hks]
  ·exact getD_set_true (hset j (by omega))
end
theorem Nl{C:Ctx}{t:List AV}{h:List ABlk}:St.le C ⟨t,h⟩ ⟨t,h++[.dead]⟩:=fun a w ⟨hd,S,ψ,H,hl⟩=>by
 have X:Ext w S h ψ w S (h++[.dead]) (Bk ψ h.length (.slice none 0 0)):=Ext.push _ _ fun _ _=>rfl
 exact⟨by rw[hd];show mkD h=mkD (h++[_]);rw[F5];rfl,S,_,H.push (Below.refl _ _) trivial (fun g hg=>by simp[ftp,BX]at hg),Al X _ _ hl⟩
theorem Yt{P:Program}{C:Ctx}{id:Nat}{l:List Oper}{Q:Exit→St→Prop}{t:List AV}{h:List ABlk}{zs:List Value}(n ip:Nat)(hm:P.follows .mixedOrders=true)(hB:Yy l.toArray n=true)(hip:decide (ip < n)=true)
 (hn:CQ h.length t=true) (hnh:h.all (nrB h.length)=true)
 (hh:bQ P C l.toArray (h++[.dead]) h.length ip zs (fun t=>Ck P C l.toArray (Q .normal) (l.drop n) ⟨t,h++[.box (zs.map .lit)]⟩) 0 (l.take n) t):Awp P C (.region id l.toArray true) Q ⟨t,h⟩:=fun a w H0=>by
 have H:=Nl a w H0;have hipn:ip < n:=by simpa using hip
 simp only[Yy,Bool.and_eq_true,decide_eq_true_eq,Bool.or_eq_true,beq_iff_eq]at hB;obtain⟨⟨⟨⟨hsel,hnd⟩,hn'⟩,hs⟩,hlex⟩:=hB;have hn'':n≤l.length:=by simpa using hn'
 have htl:(l.take n).length=n:=by simp;omega
 have hdl:(l.drop n).length=l.toArray.size - n:=by simp
 have inv0:HeadInv .any l.toArray n (Array.replicate l.toArray.size false):=
  ⟨by simp,fun j oj _ hl=>(by rw[getD_replicate_false]at hl;cases hl),fun t _ ht=>getD_in (by simpa using ht) (getD_replicate_false _ _)⟩
 have htail:∀(listed:Array Bool) (i:Nat),HeadInv .any l.toArray n listed→i < n→listed.getD i true=false→∀t,n≤t→t∉Region.ready .any l.toArray listed:=by
  intro listed i inv hi hun t ht;rcases hs with hs|⟨hs,hc⟩
  ·intro hr;obtain⟨_,o,ho,_⟩:=mem_ready.1 hr;have:=(Array.getElem?_eq_some_iff.1 ho).1;omega
  ·by_cases hlt:n < l.toArray.size
   ·exact tail_waits hs hc hlt inv _ i rfl hi hun t ht
   ·intro hr;obtain⟨_,o,ho,_⟩:=mem_ready.1 hr;have:=(Array.getElem?_eq_some_iff.1 ho).1;omega
 have HH:=Tv (md:=.any) (g:=l.toArray.size - n) htail hipn (l.take n) 0 _ t (fun j hj=>by
  have hj':j < n:=by rw[htl]at hj;exact hj
  simp[hj']) (by simpa using htl) inv0 (fun j hj=>by omega) (by rw[htl];exact hlex) hh
 refine Dw hm hnd ?_;have hp:(h++[ABlk.dead])[h.length]? =some .dead:=by simp
 have hna:(h++[ABlk.dead]).all (nrB h.length)=true:=by rw[List.all_append,hnh];rfl
 have hset:(h++[ABlk.dead]).set h.length (.box (zs.map .lit))=h++[.box (zs.map .lit)]:=by simp
 have H':St.rel C ⟨t,Mv (h++[.dead]) h.length ip zs (Array.replicate l.toArray.size false)⟩ a {w with drawn:=w.drawn+1}:=by
  obtain⟨hd,S,ψ,hh',hl⟩:=H;have hb:Below w.heap.size w {w with drawn:=w.drawn+1}:=⟨rfl,rfl,rfl,Nat.le_refl _,fun _ _=>rfl⟩
  have e:Mv (h++[.dead]) h.length ip zs (Array.replicate l.toArray.size false)=h++[.dead]:=by unfold Mv;rw[getD_replicate_false];rfl
  rw[e];exact⟨hd,S,ψ,hh'.grow hb (fun _ h=>h) (fun _ h=>.inl h) hh'.lt,Al (show Ext w S (h++[.dead]) ψ {w with drawn:=w.drawn+1} S (h++[.dead]) ψ from Ext.grow _ ψ (fun k hk=>rfl) fun _ h=>h) _ _ hl⟩
 have:=MB (Q':=fun e a' w'=>e= .normal∧∃s',Q e s'∧s'.rel C a' w') (g:=l.toArray.size - n) hp hna (fun listed t a' w' hL H'=>by
  have hc:Mv (h++[.dead]) h.length ip zs listed=h++[.box (zs.map .lit)]:=by unfold Mv;rw[if_pos hL.2.1];exact hset
  rw[hc]at H';have:=wpAny_of_seq (md:=.any) (l.drop n) n listed a' w' (fun j=>by simp[List.getElem?_drop]) (by rw[hdl];exact hL.1) (DD (Q':=fun e a' w'=>e= .normal∧∃s',Q e s'∧s'.rel C a' w') (fun s a w h H=>⟨rfl,s,h,H⟩) _ _ _ _ hL.2.2 H');rwa [hdl]at this) _ _ _ _ _ (by simp;omega) (fun _=>hn) HH H'
 rw[htl,show n+(l.toArray.size - n)=l.toArray.size by omega]at this;exact this
section
variable{P:Program}{C:Ctx}{ops:Array Oper}{h:List ABlk}{p ip k:Nat}{zs:List Value}{K:List AV→Prop}{o:Oper}{rest:List Oper}{t:List AV}
theorem Ys{id:Nat}{l:List Oper}{Q:Exit→St→Prop}(elem:TypeId)[ZC P elem zs](n ip:Nat)(hm:P.follows .mixedOrders=true)(hB:Yy l.toArray n=true)(hip:decide (ip < n)=true)
 (hn:CQ h.length t=true) (hnh:h.all (nrB h.length)=true)
 (hh:bQ P C l.toArray (h++[.dead]) h.length ip zs (fun t=>Ck P C l.toArray (Q .normal) (l.drop n) ⟨t,h++[.box (zs.map .lit)]⟩) 0 (l.take n) t):Awp P C (.region id l.toArray true) Q ⟨t,h⟩:=Yt n ip hm hB hip hn hnh hh
def BOp(P:Program)(C:Ctx)(o:Oper)(t:List AV)(h:List ABlk)(p:Nat)(K:List AV→Prop):Prop:=∃r,Av P C t h o r∧EH p r=true∧K (AJ t o.dst r)
theorem DB{r:AV}{K:List AV→Prop}(hq:Av P C t h o r)(hk:EH p r=true∧K (AJ t o.dst r)):BOp P C o t h p K:=⟨r,hq,hk.1,hk.2⟩
theorem Ary(ha:Abp o=false)(hi:decide (k=ip)=false)(hg:gA ops t o=some true)(hq:BOp P C o t h p (bQ P C ops h p ip zs K (k+1) rest)):bQ P C ops h p ip zs K k (o::rest) t:=
 let ⟨r,h1,h2,h3⟩:=hq;⟨r,.inl ⟨ha,hg,h1,h2⟩,by rw[ha,hi],h3⟩
theorem Aqx{elem:TypeId}[ZC P elem zs](ha:Abp o=true)(hi:decide (k=ip)=true)(hgd:o.guard=none)(ho:o.op= .alloc elem)(hk:bQ P C ops h p ip zs K (k+1) rest (AJ t o.dst (.ptr p 0))):bQ P C ops h p ip zs K k (o::rest) t:=⟨_,.inr (.inr ⟨ha,hgd,rfl,elem,ho,ZC.eq⟩),by rw[ha,hi],hk⟩
theorem Aqw{l:List Oper}{t':List AV}(ht:t=t')(hk:bQ P C ops h p ip zs K k l t'):bQ P C ops h p ip zs K k l t:=by subst ht;exact hk
theorem Ao8(hk:K t):bQ P C ops h p ip zs K k [] t:=hk
end
def Ago(P:Program)(f:FuncId)(e:TypeId){α:Type}(T:Ty α)(l l':List α):Prop:=
 Bw P f=true∧∀(N S:Nat→Prop) (w:World) (v:Value),(∀k,N k→k < w.heap.size)→(∀k,S k→k < w.heap.size)→Ho N w S [] ψ0 v (.row 0 e T l)→
  Calls P f #[v] w fun x w'=>∃v',x= .returned v'∧w.grownBy w' (BX v)∧Ho N w' S [] ψ0 v' (.row 0 e T l')∧∀g,BX v'=some g→BX v=some g∨w.heap.size≤g
def Agk(t:Tmp)(e:TypeId){α:Type}(T:Ty α)(l':List α):Exit→St→Prop:=fun x s=>(x= .normal∨x= .ret)∧∃i ver,evA s.t (.tmp t)= .own i ver∧s.h[i]? =some (.row ver e T l')∧mkD s.h= []
theorem QD{P:Program}{f:FuncId}{fn:Go.Func}{c:Code}{e:TypeId}{α:Type}{T:Ty α}{l l':List α}{t:Tmp}{n:Nat}(hf:P.funcs[f]? =some fn)(hb:fn.body=some c)(hE:Bw P f=true)(hres:fn.results= #[.tmp t])(hn:fn.ntmps=n)(hflat:∀w S S' cs d,T.RS w S cs d→T.RS w S' cs d)
 (h:∀C:Ctx,Awp P C c (Agk t e T l') ⟨[.own 0 0]++List.replicate (n - 1) (.lit undef),[.row 0 e T l]⟩):Ago P f e T l l':=by
 refine⟨hE,fun N S w v hN hS hB=>calls_of_wp hf hb ?_⟩;rw[hn];have hlv:=hB.lt rfl;have hst:St.rel ⟨w,S,fun k=>k < w.heap.size∧BX v≠some k,none⟩ ⟨[.own 0 0]++List.replicate (n - 1) (.lit undef),[.row 0 e T l]⟩ {tmps:=#[v]++Array.replicate (n - (#[v]:Array Value).size) undef,defers:=[]} w:=by
  refine⟨rfl,S,fun _=>v,⟨Kp.refl _ _,fun k hk=>hk.1,hS,fun _ h=>h,fun _ h=>.inl h,fun i b hi=>?_,fun i j hij hi hj=>?_⟩,?_⟩
  ·cases i with
   |zero=>
    simp only[List.getElem?_cons_zero,Option.some.injEq]at hi;subst hi;obtain⟨cells,k1,k2,k3,k4⟩:=hB;exact⟨cells,k1,k2,k3,fun g hg=>⟨fun hc=>hc.2 (AR hg),(k4 g hg).2⟩⟩
   |succ i=>simp at hi
  ·cases i with
   |zero=>cases j with
    |zero=>exact absurd rfl hij
    |succ j=>simp[ABlk.live]at hj
   |succ i=>simp[ABlk.live]at hi
  ·simp only[Array.toList_append,Array.toList_replicate];refine BK ?_ (Dm (by simp) fun i x u hx hu=>?_)
   ·unfold Ad;refine⟨v,[],rfl,?_,by unfold Ad;rfl⟩;unfold AV.rel;refine⟨by simp,fun c hc=>?_⟩;simp[ABlk.ver]at hc;exact⟨by omega,fun _=>rfl⟩
   ·rw[List.getElem?_replicate]at hx hu;split at hx <;> cases hx
    split at hu <;> cases hu
    unfold AV.rel;rfl
 refine wp_mono ((h ⟨w,S,fun k=>k < w.heap.size∧BX v≠some k,none⟩).wp rfl hst) ?_;rintro x a' w' ⟨s,⟨hx,i,ver,hev,hi,hmk⟩,hd,S1,ψ,H,hl⟩;rw[hmk]at hd;have hv:=Ba hl (.tmp t);rw[hev]at hv;unfold AV.rel at hv;have hv':=(hv.2 _ (by rw[hi];rfl)).2 rfl;have hBi:=H.blk i _ hi;have hlt:=hBi.lt rfl;have hres':(results fn a'.tmps).run P w'= .ok (a'.eval (.tmp t)) w':=results_tmp hres _ _ _;have hg:w.grownBy w' (BX v):=⟨H.bel.os,H.bel.tape,H.bel.output,H.bel.size,fun k hk hne=>H.bel.block k ⟨hk,fun e=>hne e.symm⟩⟩
 have hfin:∃v',Ending.returned (a'.eval (.tmp t))= .returned v'∧w.grownBy w' (BX v)∧Ho N w' S [] ψ0 v' (.row 0 e T l')∧∀g,BX v'=some g→BX v=some g∨w.heap.size≤g:=by
  have hor:∀g,BX (ψ i)=some g→BX v=some g∨w.heap.size≤g:=fun g hgg=>by
   have:=(hlt g hgg).1;by_cases hc:BX v=some g
   ·exact .inl hc
   ·exact .inr (Nat.le_of_not_lt fun h=>this ⟨h,hc⟩)
  obtain⟨cells,k1,k2,k3,k4⟩:=hBi;rw[hv'];refine⟨_,rfl,hg,⟨cells,k1,k2,?_,fun g hgg=>?_⟩,hor⟩
  ·intro j d hj;exact hflat _ _ _ _ _ (k3 j d hj)
  ·refine⟨fun hNg=>?_,fun hSg=>(k4 g hgg).2 (H.sub g hSg)⟩;rcases hor g (AR hgg)with h1|h1
   ·exact(hlv g h1).1 hNg
   ·have:=hN g hNg;omega
 rcases hx with rfl|rfl
 ·exact⟨hd,_,hres',hfin⟩
 ·exact⟨hd,_,hres',hfin⟩
theorem Sw{P:Program}{C:Ctx}{o:Oper}{t:List AV}{h:List ABlk}{K:St→Prop}{f:FuncId}{x:Operand}{tys:Array TypeId}{i ver:Nat}{e:TypeId}{α:Type}{T:Ty α}{l l':List α}
 (ho:o.op= .call {callee:=.value (.func f),args:=#[x],argTypes:=tys}) (hF:Ago P f e T l l') (hx:evA t x= .own i ver) (hi:h[i]? =some (.row ver e T l))
 (hK:K ⟨AJ t o.dst (.own i (ver+1)),h.set i (.row (ver+1) e T l')⟩):AOp P C o ⟨t,h⟩ K:=by
 rintro Q' a w ⟨hd,S,ψ,H,hl⟩;refine⟨fun c e=>(by rw[ho]at e;cases e),?_⟩;have hx':=Ba hl x;rw[show evA (St.mk t h).t x= .own i ver from hx]at hx';unfold AV.rel at hx';have hv:=(hx'.2 _ (by rw[hi];rfl)).2 rfl;have hBi:=H.blk i _ hi;have hlt:=hBi.lt rfl;unfold Oper.wp;rw[CJ ho hF.1 a.eval w rfl];simp only[Oper.upon];have hc:=hF.2 C.N S w (ψ i) (fun k hk=>Nat.lt_of_lt_of_le (H.nlt k hk) H.bel.size) H.lt hBi;rw[show(#[x].map a.eval)= #[ψ i]from by simp[hv]];refine hc.mono ?_;rintro r w' ⟨v',rfl,hgr,hB',hor⟩;have hblk:∀k,S k→w'.heap[k]? =w.heap[k]?:=fun k hk=>hgr.block k (H.lt k hk) fun e=>(hlt k e.symm).2.2 hk
 have X:Ext w S h ψ w' S (h.set i (.row (ver+1) e T l')) (Bk ψ i v'):=Ext.set hblk hi (fun c' hc=>by
  simp only[ABlk.ver,Option.some.injEq]at hc;exact⟨ver,rfl,by omega,fun e=>by omega⟩) fun h=>by simp[AN]at h
 refine⟨_,hK,JZ (s:=⟨t,h⟩) hi hd hl (H.set hi rfl (BC hgr) X hB' hor) X ?_⟩;unfold AV.rel;refine⟨by simp[(List.getElem?_eq_some_iff.1 hi).1],fun c' hc'=>?_⟩;rw[List.getElem?_set_self (List.getElem?_eq_some_iff.1 hi).1]at hc';simp only[ABlk.ver,Option.some.injEq]at hc';exact⟨by omega,fun _=>by rw[Bi]⟩
end Mu
end
