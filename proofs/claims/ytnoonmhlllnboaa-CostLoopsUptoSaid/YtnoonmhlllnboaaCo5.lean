/-
  Own texts laid together, part 5: MuCostQ, MuLaw19P, MuOpen, MuLaw19L, MuLaw19M.
  Conditions: as each part says.
-/
import Derived.Test.YtnoonmhlllnboaaCo4
import Derived.Test.YtnoonmhlllnboaaRows
import Derived.Carry
import Derived.OpenShut
import Derived.ProofKit
set_option linter.unusedSimpArgs false
set_option linter.unusedVariables false
section
namespace Mu
open Go Go.RowKit Go.Proofs
section
variable{f:Func}{out:List (List Int)}
def timesL(x:Ins)(r:Int):Nat:=(AZ x).count r
theorem SE{x:Ins}(ho:okIns x)(hl:x.args.length≤2097152)(r:Int):(FK x r).to ((timesL x r:Nat):Int):=by
 have h1:(JM x).to (readsC x):=Ae (by rw[Bool.and_eq_true];exact⟨BP.2 ho,decide_eq_true hl⟩) (Ad _);have h2:(Ih x).to (if Bo x then x.d else 0,Bo x):=Ae (BP.2 ho) (Ad _);have h3:=Ie hl;have hc:=List.count_le_length (a:=r) (l:=readsC x);unfold FK;refine Ac h1 (Ac (a:=(((readsC x).count r:Nat):Int)) ?_ (Ac h2 (Ac (a:=((timesL x r:Nat):Int)) ?_ (Ad _))))
 ·have hall:∀k:Nat,k≤(readsC x).length→((readsC x).take k).count r≤2097155:=fun k hk=>by
   have:=List.count_le_length (a:=r) (l:=(readsC x).take k);rw[List.length_take]at this;omega
  have:=Ay (step:=DF r (readsC x)) (fun k:Nat=>((((readsC x).take k).count r:Nat),(k:Int))) (readsC x).length (r:=(((readsC x).count r:Nat):Int)) (fun k hk=>?_) ?_ (Nat.zero_le _)
  ·exact this
  ·obtain⟨y,hy⟩:∃y,(readsC x)[k]? =some y:=⟨_,List.getElem?_eq_getElem hk⟩
   have htk:(readsC x).take (k+1)=(readsC x).take k++[y]:=by rw[List.take_add_one,hy];rfl
   have:=hall k (by omega);simp only[DF,Bj hy];rw[htk,List.count_append,List.count_singleton];refine Ax (decide_eq_true (by omega)) (Ac (a:=((((readsC x).take k).count r+if y ==r then 1 else 0:Nat):Int)) (Ae (AW hk) ?_) (by rw[Kq hk (by omega)];exact Ad _));cases y ==r with
   |true=>
    refine Ax rfl ?_;rw[IntWalk.i64_in _ (by omega)];simp only[if_true];rw[show((((readsC x).take k).count r:Nat):Int)+1=(((readsC x).take k).count r+1:Nat)by omega];exact Ad _
   |false=>exact Ao rfl (Ad _)
  ·rw[List.take_length];simp only[DF];exact Ao (decide_eq_false (by omega)) (Ad _)
 ·unfold timesL AZ;rw[List.count_append];cases hw:Bo x with
  |false=>
   simp only[Bool.false_and,Bool.false_eq_true,if_false,List.count_nil,Nat.add_zero];exact Ao rfl (Ad _)
  |true=>
   simp only[Bool.true_and,if_true,List.count_singleton];cases x.d ==r with
   |true=>
    refine Ax rfl ?_;rw[IntWalk.i64_in _ (by omega)];simp only[if_true];rw[show(((readsC x).count r:Nat):Int)+1=((readsC x).count r+1:Nat)by omega];exact Ad _
   |false=>exact Ao rfl (Ad _)
theorem Nf(r p:Int)(l:List Int):B6 r (l.map fun x=>(x,p))=p *(l.count r:Int):=by
 induction l with
 |nil=>simp[B6]
 |cons x l ih=>
  rw[List.map_cons,show(x,p)::l.map (fun x=>(x,p))= [(x,p)]++l.map (fun x=>(x,p))from rfl,CJ,E5,ih,List.count_cons];cases hx:x ==r with
  |true=>
   simp only[if_true];rw[show((l.count r+1:Nat):Int)=(l.count r:Int)+1 by omega,Int.mul_add];omega
  |false=>simp
theorem SV{d:Int}(h:0≤d):Bq [(1:Int),10,100,1000,10000] (if 4 < d then 4 else d)=true∧ixD [(1:Int),10,100,1000,10000] (if 4 < d then 4 else d)=BS d:=by
 rw[←Re h];rcases II d with⟨e1,e2⟩|⟨e1,e2⟩|⟨e1,e2⟩|⟨e1,e2⟩|⟨e1,e2⟩ <;> rw[e1,e2] <;> exact⟨rfl,rfl⟩
theorem Kc(c:FineF f)(r:Int):(Eu f (AK f out) r).to (B6 r (Wu f (AK f out))):=by
 have hn:=c.small.blocks;have hdl:(AK f out).length=f.blocks.length:=CV _;unfold Eu;refine Ac (a:=B6 r (Wu f (AK f out))) ?_ (Ad _);rw[←Q8];refine Ay (step:=Ej f (AK f out) r) (fun k:Nat=>(B6 r (Wr f (AK f out) k),(k:Int))) f.blocks.length (fun k hk=>?_) ?_ (Nat.zero_le _)
 ·obtain⟨b,hb⟩:∃b,f.blocks[k]? =some b:=⟨_,List.getElem?_eq_getElem hk⟩
  have hin:=c.ins b (List.mem_of_getElem? hb);simp only[Ej];refine Ax (decide_eq_true (by omega)) (Ac (a:=B6 r (Wr f (AK f out) (k+1))) ?_ (by rw[Kq hk (by omega)];exact Ad _));rw[←Q9 hb,←OV (b:=b)];refine Ay (step:=DL f (AK f out) r (k:Int)) (fun i:Nat=>(B6 r (Ws f (AK f out) k b i),(i:Int))) b.ins.length (fun i hi=>?_) ?_ (Nat.zero_le _)
  ·obtain⟨x,hx⟩:∃x,b.ins[i]? =some x:=⟨_,List.getElem?_eq_getElem hi⟩
   obtain⟨hox,hax⟩:=La c (List.mem_of_getElem? hb) (List.mem_of_getElem? hx);have hd:=Ix (f:=f) (out:=out) hk;obtain⟨p1,p2⟩:=SV hd;have hpre:=JO c (NW (dl:=AK f out) hb (i:=i+1)) r;have e1:Ws f (AK f out) k b (i+1)=Ws f (AK f out) k b i++(AZ x).map fun r=>(r,BS (ixD (AK f out) (k:Int))):=by
    unfold Ws;rw[Eo hx,List.map_append,List.append_assoc]
   have h0:=JO c (NW (dl:=AK f out) hb (i:=i)) r;rw[e1,CJ,Nf]at hpre;simp only[DL,Bj hb,Bj hx];refine Ae (AW hk) (Ax (decide_eq_true (by omega)) (Ae (AW (by omega)) (Ae p1 (Ae (AW hk) (Ae (AW hi) (Ac (SE hox hax r) ?_))))));rw[p2,e1,CJ,Nf];unfold timesL;have hpr:=Ii (ixD (AK f out) (k:Int));have hmn:0≤BS (ixD (AK f out) (k:Int)) *((AZ x).count r:Int):=Int.mul_nonneg (by omega) (by omega);rw[IntWalk.i64_in (BS (ixD (AK f out) (k:Int)) * _) (by omega),IntWalk.i64_in _ (by omega),Kq hi (by omega)];exact Ad _
  ·simp only[DL,Bj hb];exact Ae (AW hk) (Ao (decide_eq_false (by omega)) (Ad _))
 ·simp only[Ej];exact Ao (decide_eq_false (by omega)) (Ad _)
structure BestP(val:Int→Int)(l:List Int)(i b:Nat):Prop where
 lt:b < l.length
 min:∀j x y,j < i→l[j]? =some x→l[b]? =some y→val y≤val x
 first:∀j x y,j < b→l[j]? =some x→l[b]? =some y→val y < val x
 le:b < i
theorem K0(c:FineF f)(H:AboveP f out):(FM f).to (E6 f (AK f out)):=by
 have hall:=c.all;have hrl:(CO f).length≤2097152:=Nat.le_trans (E3 _).1 hall;have hasc:=(EV f).1;have hw:∀x∈CO f,Wd .i64 x=true:=fun x hx=>Sd c.ok x (((EV f).2 x).1 hx)
 unfold FM;refine Ac (Ae (BL.2 c) (Ad _)) (Ac (Iy c H) (Ac (a:=E6 f (AK f out)) ?_ (Ad _)));generalize hm:ER (Wu f (AK f out))=m;have hval:∀x,G6 m x=B6 x (Wu f (AK f out)):=fun x=>by rw[←hm];exact G5 _ _
 obtain⟨r,h1,h2⟩:=M.loop_inv (step:=Ev f (AK f out)) (fun q=>(q.2++q.1).Perm (CO f)∧Xa q.1∧q.2.Pairwise (fun x y=>¬WF m y x)∧∀o∈q.2,∀x∈q.1,¬WF m x o) (fun q=>q.1.length) (fun r=>r=E6 f (AK f out)) (by
  rintro⟨left,o⟩ ⟨hp,ha,hs,hx⟩;have hp:(o++left).Perm (CO f):=hp;have ha:Xa left:=ha;have hs:o.Pairwise fun x y=>¬WF m y x:=hs
  have hx:∀q∈o,∀x∈left,¬WF m x q:=hx;have hlen:=hp.length_eq;rw[List.length_append]at hlen;simp only[Ev];cases hl:left with
  |nil=>
   subst hl;refine⟨.inr o,Ao rfl (Ad _),(fun s' e=>by cases e),fun r e=>?_⟩;cases e;rw[List.append_nil]at hp;unfold E6;rw[hm];exact KO hp hs
  |cons x0 l0=>
   rw[←hl];have hpos:0 < left.length:=by rw[hl];simp
   have hall2:∀j,j < left.length→∃x,left[j]? =some x∧(Eu f (AK f out) x).to (G6 m x):=fun j hj=>⟨_,List.getElem?_eq_getElem hj,by rw[hval];exact Kc c _⟩
   obtain⟨b,hbest,hB⟩:∃b:Nat,(M.loop (C3 f (AK f out) left) (0,1)).to (b:Int)∧BestP (G6 m) left left.length b:=by
    obtain⟨r,k1,b,k2,k3⟩:=M.loop_inv (step:=C3 f (AK f out) left) (fun q=>∃i b:Nat,q.2=(i:Int)∧q.1=(b:Int)∧i≤left.length∧BestP (G6 m) left i b) (fun q=>left.length - q.2.toNat) (fun r=>∃b:Nat,r=(b:Int)∧BestP (G6 m) left left.length b) (by
     rintro⟨bI,iI⟩ ⟨i,b,e1,e2,hi,B⟩;have e1:iI=(i:Int):=e1;have e2:bI=(b:Int):=e2;subst e1 e2;simp only[C3];by_cases hil:i < left.length
     ·obtain⟨x,hxi,hcx⟩:=hall2 i hil;obtain⟨y,hyb,hcy⟩:=hall2 b B.lt;rw[Bj hxi,Bj hyb];by_cases hlt:G6 m x < G6 m y
      ·refine⟨.inl ((i:Int),((i+1:Nat):Int)),Ax (decide_eq_true (by omega)) (Ac (Ae (AW hil) (Ac hcx (Ae (AW B.lt) (Ac hcy (Ax (decide_eq_true hlt) (Ad _)))))) (by rw[Kq hil (by omega)];exact Ad _)),fun s' e=>?_,fun r e=>by cases e⟩;cases e;refine⟨⟨i+1,i,rfl,rfl,hil,hil,fun j u v hj hu hv=>?_,fun j u v hj hu hv=>?_,by omega⟩,by simp only[Int.toNat_natCast];omega⟩
       ·rw[hxi]at hv;cases hv;by_cases e:j=i
        ·subst e;rw[hxi]at hu;cases hu;exact Int.le_refl _
        ·have:=B.min j u y (by omega) hu hyb;omega
       ·rw[hxi]at hv;cases hv;have:=B.min j u y hj hu hyb;omega
      ·refine⟨.inl ((b:Int),((i+1:Nat):Int)),Ax (decide_eq_true (by omega)) (Ac (Ae (AW hil) (Ac hcx (Ae (AW B.lt) (Ac hcy (Ao (decide_eq_false hlt) (Ad _)))))) (by rw[Kq hil (by omega)];exact Ad _)),fun s' e=>?_,fun r e=>by cases e⟩;cases e;refine⟨⟨i+1,b,rfl,rfl,hil,B.lt,fun j u v hj hu hv=>?_,B.first,by have:=B.le;omega⟩,by simp only[Int.toNat_natCast];omega⟩;by_cases e:j=i
       ·subst e;rw[hxi]at hu;cases hu;rw[hyb]at hv;cases hv;omega
       ·exact B.min j u v (by omega) hu hv
     ·have:i=left.length:=by omega
      subst this;refine⟨.inr (b:Int),Ao (decide_eq_false (by omega)) (Ad _),(fun s' e=>by cases e),fun r e=>?_⟩;cases e;exact⟨b,rfl,B⟩)
     ((0:Int),(1:Int)) ⟨1,0,rfl,rfl,hpos,hpos,fun j u v hj hu hv=>by
      have:j=0:=by omega
      subst this;rw[hu]at hv;cases hv;exact Int.le_refl _,(fun j u v hj=>absurd hj (Nat.not_lt_zero _)),Nat.zero_lt_one⟩
    exact⟨b,by rw[←k2];exact k1,k3⟩
   obtain⟨y,hyb,_⟩:=hall2 b hB.lt;have hyl:y∈left:=List.mem_of_getElem? hyb;have hyr:y∈CO f:=hp.subset (List.mem_append_right _ hyl);have hsl1:Wj left 0 (b:Int)=left.take b:=by simp[Wj]
   have hsl2:Wj left ((b+1:Nat):Int) (left.length:Int)=left.drop (b+1):=by
    unfold Wj;rw[Int.toNat_natCast,Int.toNat_natCast,List.take_length]
   have hblt:=hB.lt;have hsplit:left=left.take b++y::left.drop (b+1):=by
    conv=>lhs;rw[←List.take_append_drop b left]
    rw[List.drop_eq_getElem_cons hB.lt];congr 2;have:=List.getElem?_eq_getElem hB.lt;rw[hyb]at this;cases this;rfl
   have hsub:(left.take b++left.drop (b+1)).Sublist left:=by
    conv=>rhs;rw[hsplit]
    exact List.Sublist.append (List.Sublist.refl _) (List.sublist_cons_self _ _)
   have hymin:∀x∈left,¬WF m x y:=fun x hxl hlt=>by
    obtain⟨j,hj⟩:=List.getElem?_of_mem hxl;have hjl:=(List.getElem?_eq_some_iff.1 hj).1;rcases hlt with h|⟨h,h'⟩
    ·have:=hB.min j x y hjl hj hyb;omega
    ·by_cases hjb:j < b
     ·have:=hB.first j x y hjb hj hyb;omega
     ·have hxy:y≤x:=by
       by_cases e:j=b
       ·subst e;rw[hj]at hyb;cases hyb;exact Int.le_refl _
       ·have hlt2:=List.pairwise_iff_getElem.1 ha b j hB.lt hjl (by omega);have h5:=List.getElem?_eq_getElem hB.lt;have h6:=List.getElem?_eq_getElem hjl;rw[hyb]at h5;rw[hj]at h6;cases h5;cases h6;omega
      omega
   refine⟨.inl (left.take b++left.drop (b+1),o++[y]),Ax (decide_eq_true (by omega)) (Ac hbest ?_),fun s' e=>?_,fun r e=>by cases e⟩
   ·rw[Bj hyb,Kq hB.lt (by omega),hsl1,hsl2,List.nil_append];refine Ae (AW hB.lt) (Ae (hw y hyr) (Ae (Ku (by simp only[List.length_cons,List.length_nil];omega)) (Ae ?_ (Ae (Ku (by rw[List.length_take];simp only[List.length_nil];omega)) (Ae ?_ (Ae (Ku (by rw[List.length_take,List.length_drop];omega)) (Ad _)))))))
    ·unfold Wk;simp;omega
    ·unfold Wk;simp;omega
   ·cases e;refine⟨⟨?_,List.Pairwise.sublist hsub ha,?_,fun q hq x hxl=>?_⟩,?_⟩
    ·refine List.Perm.trans ?_ hp;rw[List.append_assoc];refine List.Perm.append_left o ?_
     conv=>rhs;rw[hsplit]
     exact(List.perm_middle (a:=y) (l₁:=left.take b) (l₂:=left.drop (b+1))).symm
    ·rw[List.pairwise_append];exact⟨hs,List.pairwise_singleton _ _,fun q hq z hz=>by rw[List.mem_singleton.1 hz];exact hx q hq y hyl⟩
    ·have hxl':=hsub.subset hxl;rcases List.mem_append.1 hq with hq|hq
     ·exact hx q hq x hxl'
     ·rw[List.mem_singleton.1 hq];exact hymin x hxl'
    ·have h7:=congrArg List.length hsplit;simp only[List.length_append,List.length_cons]at h7⊢;omega)
  (CO f,[]) ⟨by simp,hasc,List.Pairwise.nil,fun o ho=>by cases ho⟩
 rw[←h2];exact h1
end
theorem Ff{l:List Int}(h:l.length≤2097152):(Bw l l).to true:=Ae (decide_eq_true h) (Ab.2 (decide_eq_true rfl))
def J9:Func:=⟨⟨#[]⟩,2,2,[⟨⟨#[]⟩,[⟨0,0,0,0,9,0,[],0,0⟩,⟨8,0,0,0,0,0,[],1,0⟩]⟩,⟨⟨#[]⟩,[⟨1,0,0,1,1,0,[],0,0⟩,⟨9,0,0,0,0,0,[],1,2⟩]⟩,⟨⟨#[]⟩,[⟨10,0,0,0,0,0,[],0,0⟩]⟩]⟩
theorem UH:D3.to J9:=⟨1,by kernel_rfl⟩
theorem RZ:M8 J9=true:=by kernel_rfl
theorem E1:Ci.to true:=by
 have c:=BL.1 RZ;obtain⟨out,ho,H⟩:=HV c;have k1:Cf J9 out= [1]:=Cd (Gj c H) ⟨60,by kernel_rfl⟩;have k2:Bp J9 out 1= [1]:=Cd (Hw c H 1) ⟨60,by kernel_rfl⟩;have k3:Bp J9 out 0= []:=Cd (Hw c H 0) ⟨60,by kernel_rfl⟩;have k4:AK J9 out= [0,1,0]:=Cd (Iy c H) ⟨60,by kernel_rfl⟩;have h5:=fun r=>Kc (out:=out) c r
 have h6:=fun r=>Iz c ho H r
 have h7:=K0 c H;have h8:=L2 c ho H;have h2:=Ik c ho H 1;have h3:=Ik c ho H 0;have h1:=Jh c ho H;have h4:=HM c ho H;rw[k1]at h1;rw[k2]at h2;rw[k3]at h3;rw[k4]at h4 h8;simp only[k4]at h5 h6;have k5:B6 0 (Wu J9 [0,1,0])=32:=Cd (h5 0) ⟨60,by kernel_rfl⟩;have k6:B6 1 (Wu J9 [0,1,0])=10:=Cd (h5 1) ⟨60,by kernel_rfl⟩;have k7:B6 7 (Wu J9 [0,1,0])=0:=Cd (h5 7) ⟨60,by kernel_rfl⟩;have k8:E6 J9 (AK J9 out)= [1,0]:=Cd h7 ⟨60,by kernel_rfl⟩;rw[k4]at k8;rw[k8]at h8;have g5:=h6 0;have g6:=h6 1;have g7:=h6 7;rw[k5]at g5;rw[k6]at g6;rw[k7]at g7;clear h5 h6 h7;unfold Ci;exact Ac UH (Ac h1 (Ac (Ff (by decide)) (Ac (AN rfl h2) (Ac (AN rfl (Ff (by decide))) (Ac (AN rfl h3) (Ac (AN rfl h4) (Ac (AN rfl (Ff (by decide)))
  (Ac (AN rfl g5) (Ac (AN rfl g6) (Ac (AN rfl g7) (Ac (AN rfl h8) (Ac (AN rfl (Ff (by decide))) (Ad _)))))))))))))
theorem Pw{f:Func}(c:FineF f)(h r:Int):(Da f h r).to true:=by
 have hf:=BL.2 c;have hn:=c.small.blocks;obtain⟨out,ho,H⟩:=HV c;have s1:=Ff (l:=Cf f out) (Nat.le_trans Gk hn);have s2:=Ff (l:=Bp f out h) (Nat.le_trans (FR h) hn);have s3:=Ff (l:=AK f out) (by rw[show(AK f out).length=f.blocks.length from CV _];exact hn);have s4:=Ff (l:=E6 f (AK f out)) (by unfold E6;rw[(Dn _ _).length_eq];exact Nat.le_trans (E3 _).1 c.all);unfold Da;refine Ac (Ae hf (Ad (Fm f))) ?_;rcases Fm f with _|_
 ·exact Ao rfl (Ac (Iy c H) (Ac (Jh c ho H) (Ac (Gj c H) (Ac s1 (Ac (AN rfl (Ik c ho H h)) (Ac (AN rfl (Hw c H h)) (Ac (AN rfl s2)
   (Ac (AN rfl (HM c ho H)) (Ac (AN rfl s3) (Ac (AN rfl (Iz c ho H r)) (Ac (AN rfl (Kc c r)) (Ac (AN (by simp) (L2 c ho H)) (Ac (AN (by simp) (K0 c H)) (Ac (AN (by simp) s4)
   (Ac (AN (by simp) E1) (Ab.2 (by simp)))))))))))))))))
 ·exact Ax rfl (Ac E1 (Ad _))
theorem KB(f:Func)(h r:Int)(ho:okFunc f)(hbk:Cl.bulk f≤2097152):Fn Try.prog 3 [.agg (Ap f),.lit (.int .i64 h),.lit (.int .i64 r)] (.lit (.bool true)):=Io (Pw (HJ ho hbk) h r)
end Mu
end
section
namespace Mu
open Go Go.RowKit Go.ChangeShapes Go.WideShapes Go.Proofs
theorem Tc:laidOutB Try.prog=true:=by kernel_rfl
mutual
theorem Sa{H:Type}:∀d:DataW H,Ep d≤Ytnoonmhlllnboaa.Rows.uptoBulk d
 | .lit (.string _)=>Nat.le_refl _
 | .lit (.bool _)=>Nat.le_refl _
 | .lit (.int _ _)=>Nat.le_refl _
 | .lit (.float _ _)=>Nat.le_refl _
 | .lit .nil=>Nat.le_refl _
 | .nil=>Nat.le_refl _
 | .ptr d=>by show 1≤Ytnoonmhlllnboaa.Rows.uptoBulk d+1;omega
 | .slice e s=>by
  have h1:=Jm e;have h2:=Jm s;show Ep.go e+Ep.go s+1≤Ytnoonmhlllnboaa.Rows.uptoBulkAll e+Ytnoonmhlllnboaa.Rows.uptoBulkAll s+1;omega
 | .agg p=>by
  have h1:=Jm p;show Ep.go p+1≤Ytnoonmhlllnboaa.Rows.uptoBulkAll p+1;omega
 | .iface _ d=>by show 1≤Ytnoonmhlllnboaa.Rows.uptoBulk d+1;omega
 | .map m=>by show 1≤Ytnoonmhlllnboaa.Rows.uptoBulkEntries m+1;omega
 | .held _=>Nat.le_refl _
theorem Jm{H:Type}:∀l:List (DataW H),Ep.go l≤Ytnoonmhlllnboaa.Rows.uptoBulkAll l
 | []=>Nat.le_refl _
 |d::r=>by
  have h1:=Sa d;have h2:=Jm r;show Ep d+Ep.go r≤Ytnoonmhlllnboaa.Rows.uptoBulk d+Ytnoonmhlllnboaa.Rows.uptoBulkAll r;omega
end
theorem JQ{α:Type}{t:TypeId}{T:Ty α}{H:Type}{enc:TypeId×Value→H}{W:World}{v:Value}{d:DataW H}{p:List MemPlace}(ho:Opens Try.prog t T)(hs:1 < T.size)
 (h:DataW.Trod enc Try.prog W 0 (fun _=>true) true t v d p) (hp:∀x∈p,x.block < W.heap.size):
 ∃cs x,v= .agg cs.toArray∧T.R W W.heap.size cs x∧T.bulk x≤Ytnoonmhlllnboaa.Rows.uptoBulk d:=by
 obtain⟨fuel,hf⟩:=h;obtain⟨x,hR,hb⟩:=ho.go H enc W 0 _ true fuel _ (d,p) W.heap.size hf hp;have hl:=T.len hR;refine⟨v.cells.toList,x,?_,hR,Nat.le_trans hb (Sa d)⟩;cases v <;> first
  |(simp[Value.cells]at hl;omega)
  |simp[Value.cells]
theorem T4{t:TypeId}{H:Type}{enc:TypeId×Value→H}{W W':World}{v:Value}{d:DataW H}{p:List MemPlace}(hr:Try.prog.readableRec t=true)(ht:t < Try.prog.types.size)
 (h:DataW.Trod enc Try.prog W 0 (fun _=>true) true t v d p) (hb:Below W.heap.size W W') (hp:∀x∈p,x.block < W.heap.size):
 DataW.Trod enc Try.prog W' 0 (fun b=>decide (b < W.heap.size)) true t v d p:=Below.trod Tc hr ht h hb hp
end Mu
end
section
namespace Mu
open Go Go.RowKit Go.Proofs
section
variable{f:Func}{out:List (List Int)}
theorem LoopI.dom{h b:Int}(H:LoopI f h b):¬RchF f h b:=by
 induction H with
 |tail _ _ _ h4=>exact h4
 |step _ _ h3 h4 _ ih=>exact fun e=>ih (.step e h3 h4)
theorem LoopI.ahead{h b:Int}(H:LoopI f h b):∃s∈nextL f h,s≠h∧LoopI f h s:=by
 have key:∀x,RchF f (-1) x→LoopI f h x→RchF f h x∨∃s∈nextL f h,s≠h∧LoopI f h s:=fun x hx=>by
  induction hx with
  |start h1 h2=>exact fun L=>.inl (.start (fun e=>L.ne e.symm) h2)
  |@step a x ha hb hn ih=>
   intro L;by_cases e:a=h
   ·exact .inr ⟨x,e▸hb,L.ne,L⟩
   ·rcases ih (.step e ha hb L.ne L)with h1|h1
    ·exact .inl (.step h1 hb L.ne)
    ·exact .inr h1
 rcases key b H.rch H with h1|h1
 ·exact absurd h1 H.dom
 ·exact h1
theorem LU(H:AboveP f out){h:Int}(ht:BO f out h≠[]):RchF f (-1) h:=by
 obtain⟨b,hb⟩:=List.exists_mem_of_ne_nil _ ht;have h1:=(Dy H).1 hb;have h2:=BM h1.1;exact .step h1.2.1 h1.1 (by omega)
theorem Il(H:AboveP f out){h b:Int}(hb:b∈Bp f out h):h∈Cp out b:=by
 have ht:BO f out h≠[]:=fun e=>by unfold Bp at hb;rw[e]at hb;cases hb
 rw[H.mem];rcases(EY ht).1 hb with e|e
 ·rw[e];exact⟨LU H ht,fun k=>k.ne rfl⟩
 ·exact⟨e.rch,e.dom⟩
theorem JX{h:Int}(ht:BO f out h≠[]):h∈Bp f out h:=(EY ht).2 (.inl rfl)
theorem Ut(H:AboveP f out){h b:Int}(hb:b∈Bp f out h):∃s∈nextL f b,s∈Bp f out h:=by
 have ht:BO f out h≠[]:=fun e=>by unfold Bp at hb;rw[e]at hb;cases hb
 rcases(EY ht).1 hb with e|e
 ·rw[e];obtain⟨t,htm⟩:=List.exists_mem_of_ne_nil _ ht;have h1:=(Dy H).1 htm;by_cases e2:t=h
  ·exact⟨h,e2▸h1.1,JX ht⟩
  ·obtain⟨s,hs,hn,L⟩:=LoopI.ahead (LoopI.tail e2 h1.1 h1.2.1 h1.2.2);exact⟨s,hs,(EY ht).2 (.inr L)⟩
 ·cases e with
  |tail h1 h2 h3 h4=>exact⟨h,h2,JX ht⟩
  |step h1 h2 h3 h4 L=>exact⟨_,h3,(EY ht).2 (.inr L)⟩
theorem Oq{a b x:Int}(hx:RchF f (-1) x)(h1:¬RchF f a x)(h2:¬RchF f b x):¬RchF f a b∨¬RchF f b a:=by
 refine Classical.byContradiction fun hn=>?_
 have A:RchF f a b:=Classical.byContradiction fun e=>hn (.inl e)
 have B:RchF f b a:=Classical.byContradiction fun e=>hn (.inr e)
 have hab:a≠b:=fun e=>(e▸A:RchF f a a).ne rfl
 have key:∀x,RchF f (-1) x→RchF f a x∨RchF f b x:=fun x hx=>by
  induction hx with
  |start k1 k2=>
   by_cases e:a=0
   ·exact .inr (.start (fun e2=>hab (e.trans e2.symm)) k2)
   ·exact .inl (.start e k2)
  |@step c x hc hb hn ih=>
   rcases ih with k|k
   ·by_cases e:x=a
    ·exact .inr (e▸B)
    ·exact .inl (.step k hb e)
   ·by_cases e:x=b
    ·exact .inl (e▸A)
    ·exact .inr (.step k hb e)
 rcases key x hx with k|k
 ·exact h1 k
 ·exact h2 k
theorem Hy{l:List Int}{n:Int}(hn:l.length≤4611686018427387904):(D2 l n).to (l.contains n):=by
 have h:=LO (step:=El l n) (p:=fun k=>l.getD k 0 ==n) (v:=true) (n:=l.length) (fun k hk=>?_) ?_
 ·unfold D2;have h2:=Oj (d:=false) h;rw[Oo (q:=fun x=>x ==n) fun k x hx=>by rw[List.getD,hx];rfl]at h2;have e:(if(l.any fun x=>x ==n)=true then true else false)=l.contains n:=by
   rw[show l.contains n=l.any fun x=>x ==n by rw[List.contains_eq_any_beq];congr 1;funext x;exact Bool.beq_comm ..];cases l.any fun x=>x ==n <;> rfl
  rwa [e]at h2
 ·obtain⟨x,hx⟩:∃x,l[k]? =some x:=⟨_,List.getElem?_eq_getElem hk⟩
  have hd:l.getD k 0=x:=by rw[List.getD,hx];rfl
  unfold El;rw[Bj hx,hd,LT hk hn];refine Ax (decide_eq_true (by omega)) (Ae (LS hk) ?_);by_cases h:(x ==n)=true
  ·rw[h];exact Ax rfl (Ad _)
  ·have h:(x ==n)=false:=by simpa using h
   rw[h];exact Ao rfl (Ad _)
 ·unfold El;exact Ao (decide_eq_false (by omega)) (Ad _)
theorem M0{next l:List Int}(hn:next.length≤4611686018427387904)(hl:l.length≤4611686018427387904):(Ec next l).to (next.any fun x=>l.contains x):=by
 have h:=LO (step:=C9 next l) (p:=fun k=>l.contains (next.getD k 0)) (v:=true) (n:=next.length) (fun k hk=>?_) ?_
 ·unfold Ec;have h2:=Oj (d:=false) h;rw[Oo (q:=fun x=>l.contains x) fun k x hx=>by rw[List.getD,hx];rfl]at h2;have e:(if(next.any fun x=>l.contains x)=true then true else false)=next.any fun x=>l.contains x:=by cases next.any fun x=>l.contains x <;> rfl
  rwa [e]at h2
 ·obtain⟨x,hx⟩:∃x,next[k]? =some x:=⟨_,List.getElem?_eq_getElem hk⟩
  have hd:next.getD k 0=x:=by rw[List.getD,hx];rfl
  unfold C9;rw[Bj hx,hd,LT hk hn];refine Ax (decide_eq_true (by omega)) (Ae (LS hk) (Ac (Hy hl) ?_));cases l.contains x with
  |true=>exact Ax rfl (Ad _)
  |false=>exact Ao rfl (Ad _)
 ·unfold C9;exact Ao (decide_eq_false (by omega)) (Ad _)
theorem PQ{a b:List Int}(hn:a.length≤4611686018427387904)(hl:b.length≤4611686018427387904):(Fl a b).to (a.any fun x=>b.contains x):=Ac (M0 hn hl) (Ad _)
theorem O5{k:Nat}{h:Int}(hh:(Cf f out)[k]? =some h):BO f out h≠[]∧0≤h∧h.toNat < f.blocks.length:=by
 have h1:=List.mem_of_getElem? hh;unfold Cf at h1;have h2:=List.mem_filter.1 h1;exact⟨by simpa using h2.2,Fk.1 h2.1⟩
theorem PS(c:FineF f):(Db f).to true:=by
 have hf:=BL.2 c;have hn:=c.small.blocks;obtain⟨out,ho,H⟩:=HV c;have hdl:(AK f out).length=f.blocks.length:=CV _;have hol:=H.rows.len;have hhl:=Gk (f:=f) (out:=out);unfold Db;refine Ac (Ae hf (Ad (Fm f))) ?_;rcases Fm f with _|_
 ·refine Ao rfl (Ac (Jh c ho H) (Ac ho (Ac (HM c ho H) (Ao (by rw[hol,hdl];simp) (Ae (by unfold JW maxLen;simp;omega) (M.els_l (a:=AK f out) ?_ (Ac (Ff (by omega)) (Ac (AN rfl E1) (Ad _)))))))));rw[Int.toNat_natCast];refine Ay (step:=BK f (Cf f out) out) (fun k:Nat=>((k:Int),depthK f out k)) (Cf f out).length (fun i hi=>?_) ?_ (Nat.zero_le _)
  ·obtain⟨h,hh⟩:∃h,(Cf f out)[i]? =some h:=⟨_,List.getElem?_eq_getElem hi⟩
   obtain⟨ht,hr0,hr1⟩:=O5 hh;have hll:=FR (f:=f) (out:=out) h;simp only[BK,Bj hh];refine Ax (decide_eq_true (by omega)) (Ae (AW hi) (Ac (Ik c ho H h) (Ac (Hy (by omega)) (Ao (by rw[List.contains_iff_mem.2 (JX ht)];rfl) (M.els_l (a:=depthK f out (i+1)) ?_ (M.els_l (a:=()) ?_ (by rw[Kq hi (by omega)];exact Ad _)))))))
   ·rw[Fq hh];refine Ay (step:=BJ f (Cf f out) out (i:Int) (Bp f out h)) (fun q:Nat=>((q:Int),MY (depthK f out i) ((Bp f out h).take q))) (Bp f out h).length (fun q hq=>?_) ?_ (Nat.zero_le _)
    ·obtain⟨b,hb⟩:∃b,(Bp f out h)[q]? =some b:=⟨_,List.getElem?_eq_getElem hq⟩
     have hbl:=List.mem_of_getElem? hb;have hbr:=FQ hbl;obtain⟨k1,k2,k3⟩:=J2 c hi hb;have hro:=Lw H b;have hin:(ixD out b).contains h=true:=by rw[←CD hbr.1,List.contains_iff_mem];exact Il H hbl
     obtain⟨s,hs1,hs2⟩:=Ut H hbl;have hgo:((nextL f b).any fun x=>(Bp f out h).contains x)=true:=List.any_eq_true.2 ⟨s,hs1,List.contains_iff_mem.2 hs2⟩;have hnl:=FP f b;have hb0:(decide (b < 0)||decide (b≥(f.blocks.length:Int)))=false:=by simp;omega
     rw[CD hbr.1]at hro;have hin2:=Hy (l:=ixD out b) (n:=h) (by omega);rw[hin]at hin2;have hgo2:=M0 (next:=nextL f b) (l:=Bp f out h) (by omega) (by omega);rw[hgo]at hgo2;have hobd:Bq out b=true:=Bt.2 ⟨hbr.1,by rw[hol];exact hbr.2⟩;simp only[BJ,Bj hb,Bj hh];refine Ax (decide_eq_true (by omega)) (Ae (AW hq) (Ae (by rw[hobd];simp) (Ac (AN (by rw[hb0];rfl) hin2) (Ac (AN (by rw[hb0];rfl) (Ae hf (Ad _))) (Ac (AN (by rw[hb0];rfl) hgo2) (Ao (by rw[hb0];rfl) (Ae k1 (Ae k2 ?_))))))));rw[k3,Kq hq (by omega)];exact Ad _
    ·rw[List.take_length];simp only[BJ];exact Ao (decide_eq_false (by omega)) (Ad _)
   ·refine Ay (step:=BH f (Cf f out) out (i:Int) (Bp f out h)) (fun k:Nat=>(k:Int)) i (fun k hk=>?_) ?_ (Nat.zero_le _)
    ·obtain⟨g,hg⟩:∃g,(Cf f out)[k]? =some g:=⟨_,List.getElem?_eq_getElem (by omega)⟩
     obtain⟨gt,gr0,gr1⟩:=O5 hg;have hgl:=FR (f:=f) (out:=out) g;have hro:=Lw H h;have hrg:=Lw H g;rw[CD hr0]at hro;rw[CD gr0]at hrg;have o1:Bq out h=true:=Bt.2 ⟨hr0,by rw[hol];exact hr1⟩;have o2:Bq out g=true:=Bt.2 ⟨gr0,by rw[hol];exact gr1⟩;have i1:=Hy (l:=ixD out h) (n:=g) (by omega);have i2:=Hy (l:=ixD out g) (n:=h) (by omega);have hkb:Bq (Cf f out) (k:Int)=true:=AW (by omega);simp only[BH,Bj hg,Bj hh];refine Ax (decide_eq_true (by omega)) (Ae hkb (Ac (Ik c ho H g) (Ac (PQ (by omega) (by omega)) (Ae (by rw[o1];simp) (Ae (by rw[hkb];simp) ?_)))));cases hm:(Bp f out h).any fun x=>(Bp f out g).contains x with
     |false=>exact Ac (M.whn_f rfl) (Ae (by rfl) (Ae (by rfl) (Ac (M.whn_f rfl) (Ao rfl (by rw[Kq hk (by omega)];exact Ad _)))))
     |true=>
      refine Ac (AN rfl i1) (Ae (by rw[hkb];simp) (Ae (by rw[o2];simp) ?_));cases h5:(ixD out h).contains g with
      |true=>exact Ac (M.whn_f rfl) (Ao rfl (by rw[Kq hk (by omega)];exact Ad _))
      |false=>
       obtain⟨x,hx1,hx2⟩:=List.any_eq_true.1 hm;have hx2:=List.contains_iff_mem.1 hx2;have d1:=(H.mem _ _).1 (Il H hx1);have d2:=(H.mem _ _).1 (Il H hx2);have h6:(ixD out g).contains h=true:=by
        rw[←CD gr0,List.contains_iff_mem,H.mem];refine⟨LU H gt,?_⟩;rcases Oq d1.1 d1.2 d2.2 with k1|k1
        ·exact k1
        ·have:g∈Cp out h:=(H.mem _ _).2 ⟨LU H ht,k1⟩;rw[CD hr0,←List.contains_iff_mem,h5]at this;cases this
       rw[h6]at i2;exact Ac (AN rfl i2) (Ao rfl (by rw[Kq hk (by omega)];exact Ad _))
    ·simp only[BH];exact Ao (decide_eq_false (by omega)) (Ad _)
  ·simp only[BK];exact Ao (decide_eq_false (by omega)) (Ad _)
 ·exact Ax rfl (Ac E1 (Ad _))
theorem KC(f:Func)(ho:okFunc f)(hbk:Cl.bulk f≤2097152):Fn Try.prog 4 [.agg (Ap f)] (.lit (.bool true)):=Ip (PS (HJ ho hbk))
end
section
variable{f o:Func}{out:List (List Int)}
theorem MT{k x:Int}:x∈nextL f k↔∃a c:Nat,k=(a:Int)∧x=(c:Int)∧Edge f a c:=by
 constructor
 ·intro h;have h1:=BM h;have h2:=(Cc (f:=f)).2 h;unfold FC at h2;rw[if_pos h1]at h2;obtain⟨a,h3,h4⟩:=(Gs h1.2 k).1 h2;exact⟨a,x.toNat,h4,by omega,h3⟩
 ·rintro⟨a,c,rfl,rfl,h⟩;have h1:=(Jl h).2;refine Cc.1 ?_;unfold FC;rw[if_pos ⟨by omega,by simpa using h1⟩,Int.toNat_natCast];exact(Gs h1 _).2 ⟨a,h,rfl⟩
structure SameW(f o:Func):Prop where
 len:o.blocks.length=f.blocks.length
 next:∀k x,x∈nextL o k↔x∈nextL f k
theorem SameW.symm(S:SameW f o):SameW o f:=⟨S.len.symm,fun k x=>(S.next k x).symm⟩
theorem SameW.rch1(S:SameW f o){no x:Int}(h:RchF f no x):RchF o no x:=by
 induction h with
 |start h1 h2=>exact .start h1 (by rw[S.len];exact h2)
 |step _ h2 h3 ih=>exact .step ih ((S.next _ _).2 h2) h3
theorem SameW.rch(S:SameW f o){no x:Int}:RchF o no x↔RchF f no x:=⟨S.symm.rch1,S.rch1⟩
theorem SameW.above(S:SameW f o)(H:AboveP f out):AboveP o out:=⟨⟨H.rows.len.trans S.len.symm,H.rows.asc,fun r hr x hx=>by rw[S.len];exact H.rows.rng r hr x hx⟩,fun b x=>by rw[H.mem,S.rch,S.rch]⟩
theorem SameW.tail(S:SameW f o)(H:AboveP f out){h b:Int}:b∈BO o out h↔b∈BO f out h:=by
 rw[Dy H,Dy (S.above H),S.next,S.rch,S.rch]
theorem SameW.empty(S:SameW f o)(H:AboveP f out)(h:Int):(BO o out h).isEmpty=(BO f out h).isEmpty:=by
 rw[Bool.eq_iff_iff,List.isEmpty_iff,List.isEmpty_iff,List.eq_nil_iff_forall_not_mem,List.eq_nil_iff_forall_not_mem];simp only[S.tail H]
theorem SameW.blk(S:SameW f o):Qz o=Qz f:=by unfold Qz;rw[S.len]
theorem SameW.heads(S:SameW f o)(H:AboveP f out):Cf o out=Cf f out:=by
 unfold Cf;rw[S.blk];exact List.filter_congr fun h _=>by rw[S.empty H]
theorem SameW.loopI1(S:SameW f o){h b:Int}(L:LoopI f h b):LoopI o h b:=by
 induction L with
 |tail h1 h2 h3 h4=>exact .tail h1 ((S.next _ _).2 h2) (S.rch.2 h3) fun e=>h4 (S.rch.1 e)
 |step h1 h2 h3 h4 _ ih=>exact .step h1 (S.rch.2 h2) ((S.next _ _).2 h3) h4 ih
open Classical in
theorem SameW.loops(S:SameW f o)(H:AboveP f out)(h:Int):Bp o out h=Bp f out h:=by
 unfold Bp;rw[S.empty H,S.blk];split
 ·rfl
 ·refine List.filter_congr fun b _=>?_
  rw[Bool.eq_iff_iff,decide_eq_true_eq,decide_eq_true_eq];exact⟨fun e=>e.imp id S.symm.loopI1,fun e=>e.imp id S.loopI1⟩
theorem SameW.depth(S:SameW f o)(H:AboveP f out):AK o out=AK f out:=by
 unfold AK depthK;rw[S.heads H,S.len];congr 1;funext l h;rw[S.loops H]
theorem Q6{b:Nat}{bl:Block}{x:Ins}(hb:f.blocks[b]? =some bl)(hne:bl.ins≠[]):SameW f (C5 f b bl x):=⟨by simp[C5],fun k c=>by
 rw[MT,MT];constructor
 ·rintro⟨p,q,h1,h2,h3⟩;exact⟨p,q,h1,h2,(Pd hb hne).1 h3⟩
 ·rintro⟨p,q,h1,h2,h3⟩;exact⟨p,q,h1,h2,(Pd hb hne).2 h3⟩⟩
theorem KY{g g':Nat→List (Int×Int)}{x c:Int}{b:Nat}(hne:∀k,k≠b→g' k=g k)(hb:B6 x (g' b)=B6 x (g b)+c):∀l:List Nat,l.Nodup→B6 x (l.flatMap g')=B6 x (l.flatMap g)+if b∈l then c else 0
 | [],_=>by simp[B6]
 |k::l,hn=>by
  have hn:=List.nodup_cons.1 hn;have ih:=KY hne hb l hn.2;rw[List.flatMap_cons,List.flatMap_cons,CJ,CJ,ih];by_cases e:k=b
  ·subst e;rw[hb,if_neg hn.1,if_pos (by simp)];omega
  ·rw[hne k e];have:b∈k::l↔b∈l:=by simp[Ne.symm e]
   simp only[this];omega
theorem Tq{dl:List Int}{b:Nat}{bl:Block}{r:Int}(hb:f.blocks[b]? =some bl)(x:Int):B6 x (Wu (C5 f b bl (Oe r)) dl)=B6 x (Wu f dl)+if x=r then BS (ixD dl (b:Int))else 0:=by
 have hlt:=(List.getElem?_eq_some_iff.1 hb).1;have hlen:(C5 f b bl (Oe r)).blocks.length=f.blocks.length:=by simp[C5]
 have h1:∀k,k≠b→Wt (C5 f b bl (Oe r)) dl k=Wt f dl k:=fun k hk=>by
  unfold Wt C5;rw[List.getD_eq_getElem?_getD,List.getD_eq_getElem?_getD];simp only;rw[List.getElem?_set_ne (Ne.symm hk)]
 have h2:B6 x (Wt (C5 f b bl (Oe r)) dl b)=B6 x (Wt f dl b)+if x=r then BS (ixD dl (b:Int))else 0:=by
  rw[OW hb,OW (b:=Qx bl (Oe r)) (by unfold C5;exact List.getElem?_set_self hlt)];have e:Nm (Qx bl (Oe r))=r::Nm bl:=by
   unfold Nm Qx;rw[List.flatMap_cons];unfold AZ;rw[Vc,TZ];rfl
  rw[e,List.map_cons,show∀(p:Int×Int) l,p::l= [p]++l from fun _ _=>rfl,CJ,E5];by_cases e2:x=r
  ·subst e2;simp;omega
  ·have:(r ==x)=false:=by simpa using fun k=>e2 k.symm
   simp[this,e2]
 unfold Wu;rw[hlen,KY h1 h2 _ List.nodup_range,if_pos (List.mem_range.2 hlt)]
theorem Rf{dl:List Int}{a:Int}{b:Nat}(hb:Int.tmod (IntKind.i64.wrap a) (f.blocks.length:Int)=(b:Int))(hbl:b < dl.length)(h:0≤ixD dl (b:Int)):(M.loop (BB f a dl) (1,0)).to (BS (ixD dl (b:Int))):=by
 have he:=Re h;have h4:=Rd (ixD dl (b:Int));unfold BS;refine Ay (step:=BB f a dl) (fun j:Nat=>((10:Int) ^ j,(j:Int))) (pwI (ixD dl (b:Int))) (fun j hj=>?_) ?_ (Nat.zero_le _)
 ·simp only[BB,hb];refine Ae (AW hbl) (Ax (decide_eq_true (by rw[←he];omega)) ?_);have e:IntKind.i64.wrap (10 *(10:Int) ^ j)=(10:Int) ^ (j+1):=by
   have hj4:j=0∨j=1∨j=2∨j=3:=by omega
   rcases hj4 with rfl|rfl|rfl|rfl <;> rfl
  rw[e,Kq hj (by omega)];exact Ad _
 ·simp only[BB,hb];exact Ae (AW hbl) (Ao (decide_eq_false (by rw[←he];omega)) (Ad _))
theorem Ry(ho':okFunc f)(hbk:Cl.bulk f≤1500000){a:Nat}(ha:a≤255){r:Int}(hr:Wc .i64 r):(DA f (a:Int) r).to true:=by
 have c:=HJ ho' (show Cl.bulk f≤2097152 by omega);have hf:=BL.2 c;have hn:=c.small.blocks;obtain⟨out,ho,H⟩:=HV c;have hdl:(AK f out).length=f.blocks.length:=CV _;unfold DA;refine Ac (Ae hf (Ad (Fm f))) ?_;by_cases hg:(((Fm f||((f.blocks.length:Int) ==0))||(decide (r < 0)))||(decide (r≥100)))=true
 ·exact Ax hg (Ac E1 (Ad _))
 ·have hg:(((Fm f||((f.blocks.length:Int) ==0))||(decide (r < 0)))||(decide (r≥100)))=false:=by simpa using hg
  refine Ao hg ?_;simp only[Bool.or_eq_false_iff,decide_eq_false_iff_not,beq_eq_false_iff_ne]at hg;have hpos:0 < f.blocks.length:=by omega
  obtain⟨b,hbe⟩:∃b,a % f.blocks.length=b:=⟨_,rfl⟩
  have hlt:b < f.blocks.length:=by rw[←hbe];exact Nat.mod_lt _ hpos
  obtain⟨bl,hblk⟩:∃bl,f.blocks[b]? =some bl:=⟨_,List.getElem?_eq_getElem hlt⟩
  have hmem:=List.mem_of_getElem? hblk;have hsb:=c.small.all bl hmem;have htm:Int.tmod (IntKind.i64.wrap (a:Int)) (f.blocks.length:Int)=(b:Int):=by
   rw[IntWalk.i64_in _ ⟨by omega,by omega⟩,←hbe];exact(Int.ofNat_tmod a f.blocks.length).symm
  have hix:ixD f.blocks (b:Int)=bl:=Bj hblk;have hinb:Bq f.blocks (b:Int)=true:=AW hlt;have hok:okIns (Oe r):=Um hr;have hokB:okBlock (Qx bl (Oe r)):=by
   have:=(TR ho' hblk hok).blocks (Qx bl (Oe r)) (List.mem_of_getElem? (by unfold C5;exact List.getElem?_set_self hlt));exact this
  have hd0:=Ix (f:=f) (out:=out) hlt;simp only[htm,List.nil_append,hix,Int.toNat_natCast];refine Ae (by rw[bne_iff_ne];omega) (Ae (by unfold GC maxLen;simp;omega) (Ae (BP.2 hok) (Ae hinb (Ae (by have:=hsb.ins;unfold GC maxLen;simp;omega) (Ae hinb (Ae (DO.2 hokB) (Ac (HM c ho H) (Ae (by rw[AW (by omega)];simp) (Ao (by rw[hdl];simp;omega) (Ac (Rf htm (by omega) hd0) ?_))))))))));refine M.els_l (a:=()) ?_ (Ac (L2 c ho H) (M.els_l (a:=()) ?_ (Ac E1 (Ad _))))
  ·refine Ay (step:=BT f (a:Int) r (BS (ixD (AK f out) (b:Int)))) (fun k:Nat=>(k:Int)) 100 (fun x hx=>?_) ?_ (Nat.zero_le _)
   ·have hcx:=Iz c ho H (x:Int);have hrng:=JO c (List.prefix_refl (Wu f (AK f out))) (x:Int);have hpr:=Ii (ixD (AK f out) (b:Int));simp only[BT,htm,List.nil_append,hix,Int.toNat_natCast];refine Ax (decide_eq_true (by omega)) (Ac hcx (Ac (a:=B6 (x:Int) (Wu f (AK f out))+if(x:Int)=r then BS (ixD (AK f out) (b:Int))else 0) ?_ (Ae hinb ?_)))
    ·by_cases e:(x:Int)=r
     ·rw[if_pos e];refine Ax (by simpa using e) ?_;rw[IntWalk.i64_in _ (by omega)];exact Ad _
     ·rw[if_neg e,Int.add_zero];exact Ao (by simpa using e) (Ad _)
    ·by_cases hne:bl.ins= []
     ·rw[hne];exact Ac (M.whn_f rfl) (Ao rfl (by rw[Kq hx (by omega)];exact Ad _))
     ·have S:=Q6 (x:=Oe r) hblk hne;have hbk':Cl.bulk (C5 f b bl (Oe r))≤2097152:=by
       rw[Ts hblk];have:EO.bulk (Oe r)=10:=rfl;omega
      have c':=HJ (TR ho' hblk hok) hbk';obtain⟨out',ho2,H2⟩:=HV c';obtain rfl:out'=out:=H2.uniq (S.above H);have hco:=Iz c' ho2 H2 (x:Int);rw[S.depth H,Tq hblk]at hco;have hlen:0 < bl.ins.length:=List.length_pos_iff.2 hne;have hgt:decide ((bl.ins.length:Int) > 0)=true:=decide_eq_true (by omega);rw[hgt];exact Ac (AN rfl hco) (Ao (by simp) (by rw[Kq hx (by omega)];exact Ad _))
   ·simp only[BT];exact Ao (decide_eq_false (by omega)) (Ad _)
  ·have hcl:(E6 f (AK f out)).length≤2097152:=by unfold E6;rw[(Dn _ _).length_eq];exact Nat.le_trans (E3 _).1 c.all
   have hs:=FG (ER (Wu f (AK f out))) (CO f);have hnd:(Gw (ER (Wu f (AK f out))) (CO f)).Nodup:=(Dn _ _).nodup_iff.2 (HT (EV f).1);change(E6 f (AK f out)).Pairwise _ at hs;change(E6 f (AK f out)).Nodup at hnd;generalize E6 f (AK f out)=l at hcl hs hnd⊢;have key:∀(d k:Nat),k+1+d=l.length+1∨l.length < k+1→(M.loop (BA f l) ((k+1:Nat):Int)).to (.inl ()):=by
    intro d;induction d with
    |zero=>
     intro k hk;refine M.loop_out ?_;simp only[BA];exact Ao (decide_eq_false (by omega)) (Ad _)
    |succ d ih=>
     intro k hk;by_cases hkl:k+1 < l.length
     ·refine M.loop_in (s':=((k+1+1:Nat):Int)) ?_ (ih (k+1) (by omega));obtain⟨p,hp⟩:∃p,l[k]? =some p:=⟨_,List.getElem?_eq_getElem (by omega)⟩
      obtain⟨q,hq⟩:∃q,l[k+1]? =some q:=⟨_,List.getElem?_eq_getElem hkl⟩
      have hpq:¬WF (ER (Wu f (AK f out))) q p:=by
       have h1:=List.pairwise_iff_getElem.1 hs k (k+1) (by omega) hkl (by omega);have h2:=List.getElem?_eq_getElem (l:=l) (i:=k) (by omega);have h3:=List.getElem?_eq_getElem (l:=l) (i:=k+1) hkl;rw[hp]at h2;rw[hq]at h3;cases h2;cases h3;exact h1
      have hne:p≠q:=by
       have h1:=List.pairwise_iff_getElem.1 hnd k (k+1) (by omega) hkl (by omega);have h2:=List.getElem?_eq_getElem (l:=l) (i:=k) (by omega);have h3:=List.getElem?_eq_getElem (l:=l) (i:=k+1) hkl;rw[hp]at h2;rw[hq]at h3;cases h2;cases h3;exact h1
      unfold WF at hpq;rw[G5,G5]at hpq;have hw:IntKind.i64.wrap (((k+1:Nat):Int) - 1)=(k:Int):=by rw[IntWalk.i64_in _ ⟨by omega,by omega⟩];omega
      have hcp:=Iz c ho H p;have hcq:=Iz c ho H q;simp only[BA,hw,Bj hp,Bj hq];refine Ax (decide_eq_true (by omega)) (Ae (AW (by omega)) (Ac hcp (Ae (AW hkl) (Ac hcq (Ae (by rw[AW (by omega)];simp) (Ae (by rw[AW hkl];simp) (Ao ?_ (by rw[Kq hkl (by omega)];exact Ad _))))))));rw[←Bool.not_eq_true];simp only[Bool.or_eq_true,Bool.and_eq_true,decide_eq_true_eq,beq_iff_eq];omega
     ·refine M.loop_out ?_;simp only[BA];exact Ao (decide_eq_false (by omega)) (Ad _)
   exact key (l.length) 0 (by omega)
theorem L0(f:Func)(a r:Int)(ho:okFunc f)(hbk:Cl.bulk f≤1500000)(ha:Wc .u8 a)(hr:Wc .i64 r):Fn Try.prog 5 [.agg (Ap f),.lit (.int .u8 a),.lit (.int .i64 r)] (.lit (.bool true)):=by
 obtain⟨h0,h1⟩:=Fw ha;obtain⟨n,rfl⟩:=Int.eq_ofNat_of_zero_le h0;exact I4 (Ry ho hbk (by omega) hr)
end
end Mu
end
