/-
  Own texts laid together, part 5: MuListP, MuEdgesF, MuWrapF, MuR18S, MuWrapE, MuClass21, MuOwnW, MuRef21W, MuRef21X, MuHas, MuLeaf, MuLeaf2, MuR18, MuWrapB, MuBodyP, MuBodyA, MuBodyB, MuBodyC, MuBodyD, MuBodyE, MuBodyF, MuBodyF2, MuBodyM, MuBodyN, MuBnd, MuBodyO, MuColA, MuDrawM, MuColB, MuR22.
  Conditions: as each part says.
-/
import Derived.Test.YtebigcfcmpogpaaGreatBr4
import Derived.BigQuiet
import Derived.WalkSpells
set_option maxRecDepth 100000
set_option maxHeartbeats 4000000
set_option linter.unusedSimpArgs false
set_option linter.unusedVariables false
section
namespace Mu
open Go Go.RowKit Go.Proofs Go.Maps Go.Shelf
instance{k:IntKind}{a b:Int}:BI .sub k a b (.int k (k.wrap (a - b))):=⟨rfl⟩
instance Ahq:AG Tryz.prog 151 false 1:=⟨by kernel_rfl⟩
attribute [local go_sem] Oper.semAt_some
theorem I0{P:Program}{C:Ctx}{t:List AV}{h:List ABlk}{o:Oper}{x:Operand}{j:Nat}{xs:Array Value}{v:Value}(ho:o.op= .extract x j)(hx:evA t x= .lit (.tuple xs))(hr:xs[j]? =some v):AX P C t h o (.lit v):=
 AR fun S ψ w ρ _ hρ=>by
  have h1:=hρ x (by simp[ho,Op.operands]);rw[hx]at h1;unfold AV.rel at h1;exact⟨v,by simp[execOp,ho,h1,Instr.extract,hr],by unfold AV.rel;rfl⟩
theorem Ui{h:List ABlk}{v:Value}{cells:List Value}(e:v.cells.toList=cells):Vp h (.lit v) (cells.map .lit):=fun C S ψ w u _ hv=>by
 unfold AV.rel at hv;subst hv;rw[e];exact EF cells
theorem Ade{h:List ABlk}{i:Nat}{v:Value}{e:TypeId}{α:Type}{T:Ty α}{l:List α}(hi:h[i]? =some (.res (rowR v e T l))):One h (.lit v):=fun C S ψ w u H hv=>by
 unfold AV.rel at hv;subst hv;obtain⟨cells,hown,_⟩:=(H.blk i _ hi).2;rcases hown.2 with⟨rfl,_⟩|⟨_,_,_,rfl,_⟩ <;> rfl
def Y2(S:Pair→Bool)(g m:Nat):Res:=⟨[],fun k=>k=g∨k=m,fun w T=>(C3 g [.lit (.map (some m))]).R w T∧(EI S m).R w T∧g≠m,
 fun h hk hb hs=>⟨(C3 g [.lit (.map (some m))]).keep h.1 (fun k hf=>hk k (.inl hf)) hb hs,(EI S m).keep h.2.1 (fun k hf=>hk k (.inr hf)) hb hs,h.2.2⟩⟩
def Aa2(g:Nat):Value:=.func (.func 188) #[] #[.pointer (some ⟨g,0,none⟩)]
theorem Ab8(F:Fence)(n:Nat)(hF:F.fn 162)(hro:F.round=none)(m:Nat)(w:World):
 CallsIn F n Tryz.prog 162 #[.map (some m)] w fun e w'=>e= .returned (Aa2 w.heap.size)∧w'=w.alloc (.cells #[.map (some m)] 151):=by
 refine callsIn_of_wp Tryz.func162 rfl hF ?_ hro;simp only[Tryz.ntmps162,List.size_toArray,List.length_cons,List.length_nil,Nat.reduceAdd,Nat.reduceSub,Array.replicate_succ,Array.replicate_zero,List.push_toArray,List.append_toArray,List.nil_append,List.cons_append]
 gi_wp2
 go_ret
 exact⟨rfl,rfl⟩
theorem Wq(S:Pair→Bool)(m:Nat):Hn Tryz.prog 162 (EI S m) [.lit (.map (some m))] (fun g=>Y2 S g m) Aa2:=by
 refine⟨by kernel_rfl,fun w T vs hT hF hR hr=>?_⟩;obtain⟨us,rfl,h0⟩:=E1 hr;unfold Ah at h0;subst h0;refine((callsIn_wide (n:=4)).1 (Ab8 Fence.wide 4 trivial rfl m w)).mono ?_;rintro e w' ⟨rfl,rfl⟩;have hm:m < w.heap.size:=hF m rfl;have hb:Below w.heap.size w (w.alloc (.cells #[.map (some m)] 151)):=(Below.refl _ _).alloc (Nat.le_refl _) _;refine⟨_,rfl,⟨hb.os,hb.tape,hb.output,hb.size,fun k hk _=>hb.block k hk⟩,w.heap.size,rfl,⟨⟨[.map (some m)],151,heap_alloc_new w _,EG [.map (some m)]⟩,(show Aea w m S from hR).keep (hb.block m hm),by omega⟩,fun k hk=>?_⟩;rcases(show k=w.heap.size∨k=m from hk)with rfl|rfl
 ·exact⟨.inr (Nat.le_refl _),by simp⟩
 ·exact⟨.inl rfl,by simp;omega⟩
def X6(S:Pair→Bool)(ks:List Pair):Prop:=ks.Nodup∧∀x∈ks,okPair x∧S x=true
def stK(S:Pair→Bool)(ks:List Pair)(es:List AV)(ks':List Pair):Prop:=X6 S ks∧∃q,okPair q∧S q=true∧q∉ks∧es= [.agg (Cb q)]∧ks'=ks++[q]
def Aka(S:Pair→Bool)(ks:List Pair):Prop:=X6 S ks∧∀x,okPair x→S x=true→x∈ks
theorem X6.add{S:Pair→Bool}{ks:List Pair}{q:Pair}(h:X6 S ks)(h1:okPair q)(h2:S q=true)(h3:q∉ks):X6 S (ks++[q]):=by
 refine⟨List.nodup_append.2 ⟨h.1,by simp,fun a ha b hb=>?_⟩,fun x hx=>?_⟩
 ·simp only[List.mem_cons,List.not_mem_nil,or_false]at hb;subst hb;exact fun e=>h3 (e▸ha)
 ·rcases List.mem_append.1 hx with hx|hx
  ·exact h.2 x hx
  ·simp only[List.mem_cons,List.not_mem_nil,or_false]at hx;subst hx;exact⟨h1,h2⟩
theorem Wr(S:Pair→Bool)(g m:Nat)(L:List Pair)(hL:∀x,okPair x→S x=true→x∈L):Agg Tryz.prog 188 [.pointer (some ⟨g,0,none⟩)] (Y2 S g m) (stK S) [] (Aka S):=by
 refine Sz Tryz.func188 rfl (by kernel_rfl) rfl Tryz.ntmps188 rfl fun C hrd ι l Jr hm hY q0=>?_
 simp only[List.map_cons,List.map_nil,List.length_cons,List.length_nil,Nat.reduceAdd,Nat.reduceSub,List.replicate_succ,List.replicate_zero,List.cons_append,List.nil_append];refine A1 _ (Ud (i:=1) (R1:=C3 g [.lit (.map (some m))]) (R2:=EI S m) rfl rfl rfl rfl (fun _ h=>h) fun w T h=>⟨h.1,h.2.1,fun k h1 h2=>h.2.2 (h1.symm.trans h2)⟩) ?_;refine nT ?_;refine Ad fun K1 h1=>?_
 (refine Awp.region ?_;(repeat(first|refine sQ (hq:=Ap rfl rfl rfl rfl) ?_|refine sQ (hq:=Ao rfl rfl rfl rfl) ?_|refine sQ ?_|refine AW ?_|refine sG ?_|refine BQ (hk:=?_))))
 refine Bu rfl (Xt 2 rfl Tryz.underlying151 rfl rfl fun r=>?_);refine sNt ?_;refine Az ?_;refine h1 _ ?_;refine nT ?_;refine Ak ?_;refine AS (fun p:List Pair×ι=>⟨(.lit (.func (.yield l) #[] #[])::.lit (.pointer (some ⟨g,0,none⟩))::A3 (.lit (.pointer (some ⟨r,0,none⟩))::A8 [])),[.res (Jr p.1 p.2),.res (C3 g [.lit (.map (some m))]),.res (Aen S p.1 m r)]⟩) (fun p=>X6 S p.1) (fun p=>L.length - p.1.length) ([],q0) ⟨List.nodup_nil,fun _ h=>by cases h⟩ (B7) ?_;rintro⟨ks,q0⟩ hI
 (try dsimp only at hI);(try dsimp only)
 refine Ad fun K3 h3=>?_
 refine Awp.region ?_;refine Bu rfl (Aaw 2 rfl rfl rfl (fun hall=>?_) (fun q c hq hS hnk=>?_))
 ·refine sNt ?_
  (repeat(first|refine sQ (hq:=I0 rfl rfl rfl) ?_|refine sQ (hq:=Ap rfl rfl rfl rfl) ?_|refine sQ (hq:=Ao rfl rfl rfl rfl) ?_|refine sQ ?_|refine AW ?_|refine sG ?_|refine BQ (hk:=?_)))
  refine Az ?_;refine h3 _ ?_;refine nT ?_;refine Ad fun K4 h4=>?_
  refine Aj rfl (fun hb5=>by cases hb5) (fun hb5=>?_);refine AB ?_;exact⟨.inl rfl,ks,⟨hI,hall⟩,q0,rfl,by simp[mkD,ABlk.mrk,hm];exact⟨rfl,rfl⟩⟩
 ·refine sNt ?_
  (repeat(first|refine sQ (hq:=I0 rfl rfl rfl) ?_|refine sQ (hq:=Ap rfl rfl rfl rfl) ?_|refine sQ (hq:=Ao rfl rfl rfl rfl) ?_|refine sQ ?_|refine AW ?_|refine sG ?_|refine BQ (hk:=?_)))
  refine Az ?_;refine h3 _ ?_;refine nT ?_;refine Ad fun K4 h4=>?_
  refine Aj rfl (fun hb5=>?_) (fun hb5=>by cases hb5);refine Am ?_;refine h4 _ ?_;refine nT ?_;refine Ak ?_;refine Ad fun K6 h6=>?_
  (refine Awp.region ?_;(repeat(first|refine sQ (hq:=Sr 2 rfl rfl rfl) ?_|refine sQ (hq:=Ap rfl rfl rfl rfl) ?_|refine sQ (hq:=Ao rfl rfl rfl rfl) ?_|refine sQ ?_|refine AW ?_|refine sG ?_|refine BQ (hk:=?_)));refine Az ?_)
  refine h6 _ ?_;refine nT ?_;refine Ad fun K7 h7=>?_
  refine Uk ?_;refine P3 rfl (BD (AX.move rfl (by(conv=>lhs;whnf);try rfl)) ?_);refine Me (by(try simp only[BH,List.set_cons_zero,List.set_cons_succ]);exact rfl) (by(try simp only[List.nil_append,List.cons_append,List.set_cons_zero,List.set_cons_succ,List.length_nil,List.length_cons,Nat.reduceAdd]);exact rfl) ?_;refine P3 rfl (BD (Bc rfl rfl rfl rfl) ?_);refine Me (by(try simp only[BH,List.set_cons_zero,List.set_cons_succ]);exact rfl) (by(try simp only[List.nil_append,List.cons_append,List.set_cons_zero,List.set_cons_succ,List.length_nil,List.length_cons,Nat.reduceAdd]);exact rfl) ?_;refine Aad rfl (Ajz.yield (i:=0) hrd rfl (fun p=>by rw[hm,hm]) rfl rfl rfl rfl (hY ks _ (ks++[q]) ⟨hI,q,hq,hS,hnk,rfl,rfl⟩ q0) fun q'=>?_);refine Me (by(try simp only[BH,List.set_cons_zero,List.set_cons_succ]);exact rfl) (by(try simp only[List.nil_append,List.cons_append,List.set_cons_zero,List.set_cons_succ,List.length_nil,List.length_cons,Nat.reduceAdd]);exact rfl) ?_;refine P3 rfl (BD (CT rfl rfl) ?_);refine Si ?_;refine h7 _ ?_;refine nT ?_;refine Aj rfl (fun hb17=>by cases hb17) (fun hb17=>?_);refine Am ?_;have hlen:=HU (hI.add hq hS hnk).1 fun x hx=>hL x ((hI.add hq hS hnk).2 x hx).1 ((hI.add hq hS hnk).2 x hx).2
  refine abN (An ⟨(ks++[q],q'),hI.add hq hS hnk,by simp only[List.length_append,List.length_cons,List.length_nil]at hlen⊢;omega,?_⟩);refine St.le.trans (Aaf (i:=2) (R':=Aen S (ks++[q]) m r) rfl (fun _ h=>h) (fun _ _ h=>h.1) rfl) ?_;exact PH (.cons (.cons (.cons (Cut.nil _))))
theorem LT{v:Value}{l:List Pair}{w:World}{S S':Nat→Prop}(h:(rowR v 57 AH l).R w S):(rowR v 57 AH l).R w S':=by
 obtain⟨cells,h1,h0,h2⟩:=h;exact⟨cells,h1,h0,fun i d hd=>Eo.2 (Eo.1 (h2 i d hd))⟩
def Akt(S:Pair→Bool):Type:={p:Value×List Pair // Aka S p.2}
theorem Aei{S:Pair→Bool}{L:List Pair}(hL:∀x,okPair x→S x=true→x∈L){ks ks':List Pair}{es:List AV}(h:stK S ks es ks'):ks.length+1≤L.length:=by
 obtain⟨hI,q,hq,hS,hnk,_,_⟩:=h;have:=HU (hI.add hq hS hnk).1 fun x hx=>hL x ((hI.add hq hS hnk).2 x hx).1 ((hI.add hq hS hnk).2 x hx).2
 simpa using this
theorem Sd(S:Pair→Bool)(g m:Nat)(L:List Pair)(hL:∀x,okPair x→S x=true→x∈L)(hl:L.length≤4398046511104):
 Hn Tryz.prog 206 (Y2 S g m) [.lit (.slice none 0 0),.lit (Aa2 g)] (fun p:Akt S=>rowR p.1.1 57 AH p.1.2) (fun p=>p.1.1):=by
 refine EE Tryz.func206 rfl (by kernel_rfl) rfl Tryz.ntmps206 rfl (fun _ _ _ _ h=>LT h) fun C hrd=>?_
 refine nS ?_;refine Ad fun K1 h1=>?_
 refine Awp.region ?_;refine Bu rfl (AOp.box (cells:=[.lit (.slice none 0 0)]) rfl (Ui (cells:=[.slice none 0 0]) rfl) ?_);refine sNt ?_
 (repeat(first|refine sQ (hq:=Ap rfl rfl rfl rfl) ?_|refine sQ (hq:=Ao rfl rfl rfl rfl) ?_|refine sQ ?_|refine AW ?_|refine sG ?_|refine BQ (hk:=?_)))
 refine Az ?_;refine h1 _ ?_;refine nT ?_;refine D5 2 rfl rfl rfl (fun g2=>(.any::.lit (Aa2 g)::.lit (.pointer (some ⟨g2,0,none⟩))::A10 [])) (fun g=>(by(repeat(first|exact OpnB.nil|refine OpnB.ptr ?_|refine OpnB.any ?_|refine OpnB.keep rfl ?_)))) fun g2=>?_
 refine A1 _ (Xb 57 AH (by decide)) ?_;refine nT ?_;refine Ad fun K2 h2=>?_
 refine Ad fun K3 h3=>?_
 refine rC ?_;refine h3 _ ?_;refine nT ?_;refine Ak ?_;refine Xq (J:=Value) 1 0 (fun ks v=>[.dead,.dead,.res (C3 g2 [.lit v]),.res (rowR v 57 AH ks)]) (.slice none 0 0) hrd rfl (by decide) rfl rfl rfl ?hdrop rfl (fun _ _=>rfl) (fun _ _=>rfl) rfl ?hes (Wr S g m L hL) ?hround ?hdone
 case hdrop=>
  exact⟨Cut.dead (Cut.dead (Cut.cons (Cut.cons (Cut.nil _)))),fun b hb=>List.all_eq_true.1 (show bdH [.dead,.dead,.res (C3 g2 [.lit (.slice none 0 0)]),.res (rowR (.slice none 0 0) 57 AH [])]=true from rfl) b hb⟩
 case hes=>
  rintro ks es ks' ⟨_,q,_,_,_,rfl,rfl⟩;exact⟨rfl,rfl⟩
 case hround=>
  intro ks v es ks' hst C' hr';have hlen:=Aei hL hst;obtain⟨_,q,hq,hS,hnk,rfl,rfl⟩:=hst;refine Io (t':=(.any::.lit (Aa2 g)::.lit (.pointer (some ⟨g2,0,none⟩))::A3 (.lit (Aa2 g)::.agg (Cb q)::A5 []))) rfl rfl ?_;refine rC ?_;refine An fun C'' hr''=>?_
  refine nT ?_;refine Ak ?_;have hfit:Fit [.dead,.dead,.res (C3 g2 [.lit v]),.res (rowR v 57 AH ks),.box (Cb q)] AH (.agg (Cb q)) q:=Hh (enc:=Cb) fun _ _ _ _ H=>Iu hq H
  (refine Awp.region ?_;(repeat(first|refine sQ (hq:=Ek rfl rfl rfl rfl (by decide) hfit) ?_|refine sQ (hq:=Ap rfl rfl rfl rfl) ?_|refine sQ (hq:=Ao rfl rfl rfl rfl) ?_|refine sQ ?_|refine AW ?_|refine sG ?_|refine BQ (hk:=?_))))
  refine Bu rfl (Un (i:=3) rfl (by kernel_rfl) rfl rfl rfl JU (by show ks.length+1≤_;unfold maxLen;omega) (by show(ks.length+1) * 16≤_;omega) fun v'=>?_);refine sNt ?_;refine Bu rfl (Aau (i:=2) (new:=[.lit v']) rfl rfl rfl (Sx.one (Ade (i:=3) rfl)) rfl rfl (Nat.le_of_ble_eq_true rfl) ?_);refine sNt ?_;refine Az ?_;exact⟨rfl,v',⟨.cons (.cons (.cons (.cons (Cut.nil _)))),fun b hb=>List.all_eq_true.1 (show bdH [.dead,.dead,.res (C3 g2 [.lit v']),.res (rowR v' 57 AH (ks++[q]))]=true from rfl) b hb⟩⟩
 case hdone=>
  intro ks hfin v D;refine h2 _ ?_;refine Io (t':=(.any::.lit (Aa2 g)::.lit (.pointer (some ⟨g2,0,none⟩))::A3 (.lit (Aa2 g)::A6 []))) (h':=[.res (BR [D]),.dead,.res (C3 g2 [.lit v]),.res (rowR v 57 AH ks)]) rfl rfl ?_;refine Ad fun K6 h6=>?_
  refine rC ?_;refine h6 _ ?_;refine nT ?_;exact Ar ⟨.inr rfl,[D],3,⟨(v,ks),hfin⟩,rfl,rfl,by decide,rfl,rfl⟩
theorem PR(S:Pair→Bool)(g m:Nat)(L:List Pair)(hL:∀x,okPair x→S x=true→x∈L)(hl:L.length≤4398046511104):
 Hn Tryz.prog 186 (Y2 S g m) [.lit (Aa2 g)] (fun p:Akt S=>rowR p.1.1 57 AH p.1.2) (fun p=>p.1.1):=by
 refine EE Tryz.func186 rfl (by kernel_rfl) rfl Tryz.ntmps186 rfl (fun _ _ _ _ h=>LT h) fun C hrd=>?_
 refine nS ?_;refine Ad fun K1 h1=>?_
 refine rC ?_;refine h1 _ ?_;refine nT ?_;refine Ad fun K2 h2=>?_
 (refine Awp.region ?_;(repeat(first|refine sQ (hq:=Ap rfl rfl rfl rfl) ?_|refine sQ (hq:=Ao rfl rfl rfl rfl) ?_|refine sQ ?_|refine AW ?_|refine sG ?_|refine BQ (hk:=?_))))
 refine Bu rfl (CG (i:=1) rfl rfl (Sd S g m L hL hl) (fun _=>rfl) rfl rfl fun p=>?_);refine sNt ?_
 (repeat(first|refine sQ (hq:=Ap rfl rfl rfl rfl) ?_|refine sQ (hq:=Ao rfl rfl rfl rfl) ?_|refine sQ ?_|refine AW ?_|refine sG ?_|refine BQ (hk:=?_)))
 refine Az ?_;refine h2 _ ?_;refine nT ?_;exact Ar ⟨.inr rfl,[],1,p,rfl,rfl,by decide,rfl,rfl⟩
structure InRow(R:List Int)(S:Pair→Bool):Prop where
 asc:Asc R
 len:R.length≤2097152
 mem:InP R S
theorem InRow.sub{R:List Int}{S:Pair→Bool}(h:InRow R S):∀x,okPair x→S x=true→x∈EV R:=fun x _ hx=>(Er h.asc).2 (h.mem x hx)
theorem InRow.lens{R:List Int}{S:Pair→Bool}(h:InRow R S):(EV R).length≤4398046511104:=
 Nat.le_trans (Ji R) (Nat.le_trans (Nat.mul_le_mul h.len h.len) (by decide))
theorem InRow.sort{R:List Int}{S:Pair→Bool}(h:InRow R S)(hw:∀r∈R,Ht r){ks:List Pair}(hk:Aka S ks):Gt ks=G9 R S:=
 X4 h.asc h.mem hk.1.1 (fun x hx=>(hk.1.2 x hx).2) fun x hx=>hk.2 x ⟨hw _ (h.mem x hx).1,hw _ (h.mem x hx).2.1⟩ hx
theorem Qx{R:List Int}{S:Pair→Bool}(h:InRow R S)(hw:∀r∈R,Ht r)(g m:Nat):
 Hn Tryz.prog 161 (Y2 S g m) [.lit (Aa2 g),.lit (.func (.func 163) #[] #[])] (fun v:Value=>rowR v 57 AH (G9 R S)) (fun v=>v):=by
 refine EE Tryz.func161 rfl (by kernel_rfl) rfl Tryz.ntmps161 rfl (fun _ _ _ _ h=>LT h) fun C hrd=>?_
 refine nS ?_;refine Ad fun K1 h1=>?_
 refine rC ?_;refine h1 _ ?_;refine nT ?_;refine Ad fun K2 h2=>?_
 (refine Awp.region ?_;(repeat(first|refine sQ (hq:=Ap rfl rfl rfl rfl) ?_|refine sQ (hq:=Ao rfl rfl rfl rfl) ?_|refine sQ ?_|refine AW ?_|refine sG ?_|refine BQ (hk:=?_))))
 refine Bu rfl (CG (i:=1) rfl rfl (PR S g m _ h.sub h.lens) (fun _=>rfl) rfl rfl fun p=>?_);refine sNt ?_
 (repeat(first|refine sQ (hq:=Ap rfl rfl rfl rfl) ?_|refine sQ (hq:=Ao rfl rfl rfl rfl) ?_|refine sQ ?_|refine AW ?_|refine sG ?_|refine BQ (hk:=?_)))
 refine Az ?_;refine h2 _ ?_;refine nT ?_;obtain⟨⟨v,ks⟩,hk⟩:=p
 (try dsimp only at hk);(try dsimp only)
 have hs:=h.sort hw hk;have hkl:ks.length < 4611686018427387904:=by
  have h1:=HU hk.1.1 fun x hx=>h.sub x (hk.1.2 x hx).1 (hk.1.2 x hx).2
  have h2:=h.lens;omega
 refine Ad fun K3 h3=>?_
 (refine Awp.region ?_;(repeat(first|refine sQ (hq:=Ap rfl rfl rfl rfl) ?_|refine sQ (hq:=Ao rfl rfl rfl rfl) ?_|refine sQ ?_|refine AW ?_|refine sG ?_|refine BQ (hk:=?_))))
 refine Bu rfl (CG (i:=1) rfl rfl (VG hkl) (fun _=>rfl) rfl rfl fun _=>?_);refine sNt ?_;refine Az ?_;refine h3 _ ?_;refine nT ?_;rw[hs];refine Ad fun K4 h4=>?_
 refine rC ?_;refine h4 _ ?_;refine nT ?_;exact Ar ⟨.inr rfl,[],1,v,rfl,rfl,by decide,rfl,rfl⟩
theorem Wo{R:List Int}{S:Pair→Bool}(h:InRow R S)(hw:∀r∈R,Ht r)(m:Nat):
 Hn Tryz.prog 113 (EI S m) [.lit (.map (some m))] (fun v:Value=>rowR v 57 AH (G9 R S)) (fun v=>v):=by
 refine EE Tryz.func113 rfl (by kernel_rfl) rfl Tryz.ntmps113 rfl (fun _ _ _ _ h=>LT h) fun C hrd=>?_
 refine nS ?_;refine Ad fun K1 h1=>?_
 refine rC ?_;refine h1 _ ?_;refine nT ?_;refine Ad fun K2 h2=>?_
 (refine Awp.region ?_;(repeat(first|refine sQ (hq:=Ap rfl rfl rfl rfl) ?_|refine sQ (hq:=Ao rfl rfl rfl rfl) ?_|refine sQ ?_|refine AW ?_|refine sG ?_|refine BQ (hk:=?_))))
 refine Bu rfl (CG (i:=1) rfl rfl (Wq S m) (fun _=>rfl) rfl rfl fun g=>?_);refine sNt ?_
 (repeat(first|refine sQ (hq:=Ap rfl rfl rfl rfl) ?_|refine sQ (hq:=Ao rfl rfl rfl rfl) ?_|refine sQ ?_|refine AW ?_|refine sG ?_|refine BQ (hk:=?_)))
 refine Bu rfl (CG (i:=1) rfl rfl (Qx h hw g m) (fun _=>rfl) rfl rfl fun v=>?_);refine sNt ?_
 (repeat(first|refine sQ (hq:=Ap rfl rfl rfl rfl) ?_|refine sQ (hq:=Ao rfl rfl rfl rfl) ?_|refine sQ ?_|refine AW ?_|refine sG ?_|refine BQ (hk:=?_)))
 refine Az ?_;refine h2 _ ?_;refine nT ?_;exact Ar ⟨.inr rfl,[],1,v,rfl,rfl,by decide,rfl,rfl⟩
end Mu
end
section
namespace Mu
open Go Go.RowKit Go.Proofs Go.Maps
theorem RL{f:Func}(hA:(NY f).length≤2097152):InRow (AT f) (Ib f):=⟨(Fb f).1,QR hA,Zz f⟩
theorem Acq(f:Func)(ho:okFunc f)(hs:smallF f)(hT:(Cg f).length≤2097152)(hA:(NY f).length≤2097152)(hi1:∀b∈f.blocks,b.ins.length+1≤2097152):Fn Tryz.prog 59 [.agg (Aq f)] (.bs AH (GH f)):=by
 refine AE Tryz.func59 rfl (by kernel_rfl) rfl Tryz.ntmps59 fun C hC=>?_
 refine nS ?_;refine Ad fun K1 h1=>?_
 refine rC ?_;refine h1 _ ?_;refine nT ?_;refine Ad fun K2 h2=>?_
 (refine Awp.region ?_;(repeat(first|refine sQ (hq:=Ap rfl rfl rfl rfl) ?_|refine sQ (hq:=Ao rfl rfl rfl rfl) ?_|refine sQ ?_|refine AW ?_|refine sG ?_|refine BQ (hk:=?_))))
 refine Bu rfl (FP rfl (Zy f ho hs hT hA hi1) (fun _=>rfl) rfl rfl fun m=>?_);refine sNt ?_;refine Bu rfl (CG (i:=1) rfl rfl (Wo (RL hA) (QP ho) m) (fun _=>rfl) rfl rfl fun v=>?_);refine sNt ?_
 (repeat(first|refine sQ (hq:=Ap rfl rfl rfl rfl) ?_|refine sQ (hq:=Ao rfl rfl rfl rfl) ?_|refine sQ ?_|refine AW ?_|refine sG ?_|refine BQ (hk:=?_)))
 refine Az ?_;refine h2 _ ?_;refine nT ?_;refine A1 _ (Nz 1 (ver:=0) (t':=(A2 (.own 1 0::A3 []))) rfl rfl (by(try simp only[BH,List.set_cons_zero,List.set_cons_succ]);(repeat(first|exact Cls.nil|refine Cls.own ?_|refine Cls.any ?_|refine Cls.keep rfl ?_)))) ?_;refine nT ?_;exact Ar ⟨.inr rfl,Fin.own rfl⟩
end Mu
end
section
namespace Mu
open Go Go.RowKit Go.Proofs
def IQ(x:Ins):Bool:=wfB .u8 x.op&&wfB .i64 x.d&&wfB .i64 x.a&&wfB .i64 x.b&&wfB .u32 x.n&&wfB .i64 x.f&&wfB .i64 x.l1&&wfB .i64 x.l2&&x.args.all (wfB .i64)
def JV(b:Block):Bool:=Aj5 b.name&&b.ins.all IQ
def Tx(f:Func):Bool:=Aj5 f.name&&wfB .i64 f.args&&wfB .i64 f.regs&&f.blocks.all JV
def X8(b:Block):Bool:=decide (b.ins.length+1≤2097152)&&b.ins.all fun x=>decide (x.args.length+8≤2097152)
def X7(f:Func):Bool:=decide (f.blocks.length≤2097152)&&f.blocks.all X8
def Nh(f:Func):Bool:=Tx f&&X7 f&&decide ((Cg f).length≤2097152)&&decide ((NY f).length≤2097152)
theorem CC{x:Ins}:IQ x=true↔okIns x:=by
 unfold IQ;simp only[Bool.and_eq_true,List.all_eq_true];exact⟨fun⟨⟨⟨⟨⟨⟨⟨⟨a,b⟩,c⟩,d⟩,e⟩,f⟩,g⟩,i⟩,j⟩=>⟨a,b,c,d,e,f,g,i,j⟩,fun h=>⟨⟨⟨⟨⟨⟨⟨⟨h.op,h.d⟩,h.a⟩,h.b⟩,h.n⟩,h.f⟩,h.l1⟩,h.l2⟩,h.args⟩⟩
theorem HN{b:Block}:JV b=true↔okBlock b:=by
 unfold JV;simp only[Bool.and_eq_true,List.all_eq_true];exact⟨fun⟨a,b⟩=>⟨XT a,fun x hx=>CC.1 (b x hx)⟩,fun h=>⟨decide_eq_true h.name,fun x hx=>CC.2 (h.ins x hx)⟩⟩
theorem MX{f:Func}:Tx f=true↔okFunc f:=by
 unfold Tx;simp only[Bool.and_eq_true,List.all_eq_true];exact⟨fun⟨⟨⟨a,b⟩,c⟩,d⟩=>⟨XT a,b,c,fun x hx=>HN.1 (d x hx)⟩,fun h=>⟨⟨⟨decide_eq_true h.name,h.args⟩,h.regs⟩,fun x hx=>HN.2 (h.blocks x hx)⟩⟩
structure FineF(f:Func):Prop where
 ok:okFunc f
 small:smallF f
 reads:(Cg f).length≤2097152
 all:(NY f).length≤2097152
 ins:∀b∈f.blocks,b.ins.length+1≤2097152
theorem Cn{f:Func}:Nh f=true↔FineF f:=by
 unfold Nh X7 X8;simp only[Bool.and_eq_true,List.all_eq_true,decide_eq_true_eq];exact⟨fun⟨⟨⟨a,b,c⟩,d⟩,e⟩=>⟨MX.1 a,⟨b,fun x hx=>⟨Nat.le_of_succ_le (c x hx).1,(c x hx).2⟩⟩,d,e,fun x hx=>(c x hx).1⟩,
  fun h=>⟨⟨⟨MX.2 h.ok,h.small.blocks,fun x hx=>⟨h.ins x hx,(h.small.all x hx).all⟩⟩,h.reads⟩,h.all⟩⟩
def B4(x:Ins):M (List Int):=M.chk (IQ x&&decide (x.args.length≤2097152)) (M.ok (readsC x))
theorem Tj{x:Ins}{r:List Int}(H:(B4 x).to r):Fn Tryz.prog 61 [.agg (BB x)] (.bs tInt r):=by
 obtain⟨c,H⟩:=Ab.1 H;obtain rfl:=Ac.1 H;rw[Bool.and_eq_true]at c;exact EH x (CC.1 c.1) (of_decide_eq_true c.2)
def BG(x:Ins):M (Int×Bool):=M.chk (IQ x) (M.ok (if AY x then x.d else 0,AY x))
theorem Lr{x:Ins}{r:Int×Bool}(H:(BG x).to r):Fn Tryz.prog 62 [.agg (BB x)] (.tup [.lit (.int .i64 r.1),.lit (.bool r.2)]):=by
 obtain⟨c,H⟩:=Ab.1 H;obtain rfl:=Ac.1 H;exact E2 x (CC.1 c)
def Ls(a b:List Int):M Bool:=M.chk (decide (a.length≤2097152)) (M.ok (decide (a=b)))
theorem NS{a b:List Int}{r:Bool}(H:(Ls a b).to r):Fn Tryz.prog 84 [.bs tInt a,.bs tInt b] (.lit (.bool r)):=by
 obtain⟨c,H⟩:=Ab.1 H;obtain rfl:=Ac.1 H;exact Ael a b (of_decide_eq_true c)
def Ti(f:Func):M (List (List (List Int))):=M.chk (Nh f) (M.ok (Jq f))
theorem Q0{f:Func}{r:List (List (List Int))}(H:(Ti f).to r):Fn Tryz.prog 35 [.agg (Aq f)] (.bs tInt.slice.slice r):=by
 obtain⟨c,H⟩:=Ab.1 H;obtain rfl:=Ac.1 H;have c:=Cn.1 c;exact Vl f c.ok c.small c.reads
def QZ(f:Func):M Bool:=M.chk (Nh f) (M.ok (Ef f))
theorem Th{f:Func}{r:Bool}(H:(QZ f).to r):Fn Tryz.prog 8 [.agg (Aq f)] (.lit (.bool r)):=by
 obtain⟨c,H⟩:=Ab.1 H;obtain rfl:=Ac.1 H;have c:=Cn.1 c;exact Ws f c.ok c.small c.all
def MJ(a:List Pair)(b:List Pair):Int→M (Int⊕((Unit)⊕(Bool))):=fun i3=>M.cnd (decide (i3 < (a.length:Int))) (M.chk (BN a i3) (M.chk (BN b i3) (M.cnd (!((((ixD a i3).a) ==((ixD b i3).a))&&((((ixD a i3).b) ==((ixD b i3).b))&&true))) (M.ok (.inr (.inr false))) (M.ok (.inl (IntKind.i64.wrap (i3+1))))))) (M.ok (.inr (.inl ())))
def Pr(a:List Pair)(b:List Pair):M Bool:=M.cnd ((a.length:Int) !=(b.length:Int)) (M.ok false) (M.els (M.loop (MJ a b) 0) fun _=>M.ok true)
theorem VZ{a:List Pair}{b:List Pair}{r:Bool}(H:(Pr a b).to r):Fn Tryz.prog 64 [.bs AH a,.bs AH b] (.lit (.bool r)):=by
 delta Pr at H;try dsimp only at H
 refine AE Tryz.func64 rfl (by kernel_rfl) rfl Tryz.ntmps64 fun C hC=>?_
 refine nS ?_;refine wS (sT (wN ?_));refine Ad fun Khs1 hs1=>?_
 refine wS (sT (sT (sT (sT (sT (wN ?_))))));refine Aj rfl (fun hb2=>?_) (fun hb2=>?_)
 ·have H:=Au hb2 H;refine wS (sT (wN ?_));obtain rfl:=Ac.1 H;exact Ar ⟨.inr rfl,Fin.cl rfl⟩
 ·have H:=Av hb2 H;refine Am ?_;refine hs1 _ ?_;refine nT ?_;obtain⟨z4,HX4,Hl4,Hq4⟩:=Cc H;refine Bn (β:=(Unit)×(Unit)) (fun q4=>z4= .inl q4.1) (fun q4=>⟨A20 (A6 []),[]⟩) ?_ ?_
  ·refine wS (sT (wN ?_));refine Ak ?_;refine Bv HX4 (fun s4 b4=>⟨.bs AH a::.bs AH b::A3 (.lit (.int .i64 s4)::A20 []),[]⟩) () (?_) ?_
   ·try dsimp only
    exact Bd
   ·rintro i3 _ x4 H Hr4;try dsimp only
    dsimp only[MJ]at H;refine Ad fun Khs5 hs5=>?_
    refine wS (sT (sT (sT (sT (wN ?_)))));refine Aj rfl (fun hb6=>?_) (fun hb6=>?_)
    ·have H:=Au hb6 H;refine Am ?_;refine hs5 _ ?_;refine nT ?_;refine Ad fun Khs7 hs7=>?_
     refine Ak ?_;obtain⟨c8,H⟩:=Ab.1 H;obtain⟨c9,H⟩:=Ab.1 H;refine dS 9 (hq:=?_);refine qT (qT (qX c8 (qT (qT (qT (qX c9 (qT ?_)))))));refine qA (hq:=Ju (bs:=[true,true]) (vs:=[(.int .i64 ((ixD a i3).a)),(.int .i64 ((ixD a i3).b))]) (ws:=[(.int .i64 ((ixD b i3).a)),(.int .i64 ((ixD b i3).b))]) (by kernel_rfl) rfl (AO (AO NU)) (AO (AO (AO Oy))) rfl) (ht:=(AA (AA (AA LN)))) ?_;refine qN (wN ?_);refine Aj rfl (fun hb10=>?_) (fun hb10=>?_)
     ·have H:=Au hb10 H;refine wS (sT (wN ?_));have H:=Ac.2 (Hq4 _ (Hr4 _ (Ac.1 H).symm).symm);obtain rfl:=Ac.1 H;exact Ar ⟨.inr rfl,Fin.cl rfl⟩
     ·have H:=Av hb10 H;refine Am ?_;refine hs7 _ ?_;refine nT ?_;refine wSE (sT (sT (sT (wN ?_))));have e4:=Ac.1 H;repeat(first|refine abN ?_|refine asN ?_)
      refine An ⟨_,(),e4.symm,?_⟩;try dsimp only
      exact Bd
    ·have H:=Av hb6 H;refine AB ?_;repeat(first|refine BM ?_|refine exO (by decide) ?_|refine asE ?_)
     refine exN ?_;have e4:=Hr4 _ (Ac.1 H).symm;repeat(first|refine abN ?_|refine asN ?_)
     refine An ⟨(_,()),e4.symm,?_⟩;try dsimp only
     exact Bd
  ·rintro⟨_,_⟩ hz4;try dsimp only at hz4
   have H:=Hl4 _ hz4;try dsimp only
   refine wS (sT (wN ?_));obtain rfl:=Ac.1 H;exact Ar ⟨.inr rfl,Fin.cl rfl⟩
def DM(f:Func)(leaf:Bool)(l:List Int):List (List Int):=l.map fun r=>CP (CU f) r leaf
theorem TZ(f:Func)(leaf:Bool){l:List Int}{k:Nat}{r:Int}(h:l[k]? =some r):DM f leaf (l.take (k+1))=DM f leaf (l.take k)++[CP (CU f) r leaf]:=by
 unfold DM;rw[List.take_add_one,h,List.map_append];rfl
theorem RU(f:Func)(leaf:Bool)(ho:okFunc f)(hs:smallF f)(hT:(Cg f).length≤2097152)(hi1:∀b∈f.blocks,b.ins.length+1≤2097152)(hX:(NY f).length≤2097152):Fn Tryz.prog 55 [.agg (Aq f),.lit (.bool leaf)] (.bs tInt.slice (DM f leaf (Bp f))):=by
 have hcl:(CU f).length≤2147483648:=by have:=OF f;have:=Nat.le_trans (Dl _) hT;unfold Bw at *;omega
 have hrl:(Bp f).length≤2097158:=by
  have h1:=Yo f;have h2:=L7 (argsK f);have h3:=(Kk f).2;unfold Xx at h1;rw[List.length_append]at h1;omega
 refine AE Tryz.func55 rfl (by kernel_rfl) rfl Tryz.ntmps55 fun C hC=>?_
 refine nS ?_;refine rCS ?_;refine Ad fun K2 h2=>?_
 (refine Awp.region ?_;(repeat(first|refine sQ (hq:=AX.call rfl (Acu f ho hs hT hi1) rfl rfl rfl) ?_|refine sQ (hq:=Ap rfl rfl rfl rfl) ?_|refine sQ (hq:=Ao rfl rfl rfl rfl) ?_|refine sQ ?_|refine AW ?_|refine sG ?_|refine BQ (hk:=?_)));refine Az ?_)
 refine h2 _ ?_;refine nT ?_;refine rCS ?_;refine Ad fun K4 h4=>?_
 refine Ad fun K5 h5=>?_
 (refine Awp.region ?_;(repeat(first|refine sQ (hq:=AX.call rfl (MB f ho hs hX) rfl rfl rfl) ?_|refine sQ (hq:=Ap rfl rfl rfl rfl) ?_|refine sQ (hq:=Ao rfl rfl rfl rfl) ?_|refine sQ ?_|refine AW ?_|refine sG ?_|refine BQ (hk:=?_)));refine Az ?_)
 refine h5 _ ?_;refine nT ?_;refine Ak ?_;refine AS (fun p:Nat×Nat=>⟨(.any::.lit (.bool leaf)::.ptr 0 0::A2 (.bs tInt (CU f)::.own 1 p.2::A5 (.bs tInt (Bp f)::.lit (.int .i64 ((Bp f).length:Int))::.lit (.int .i64 (p.1:Int))::A10 (A2 [])))),[.box (Aq f),.row p.2 25 tInt.slice (DM f leaf ((Bp f).take p.1))]⟩) (fun p=>p.1≤(Bp f).length) (fun p=>(Bp f).length - p.1) (0,0) (Nat.zero_le _) ((Cx 6 25 tInt.slice rfl (by decide)).trans (B7)) ?_;rintro⟨k,ver⟩ hk;dsimp only at hk⊢;refine rCS ?_;refine Ad fun K8 h8=>?_
 refine Aj rfl (fun hb9=>?_) (fun hb9=>?_)
 ·have hlt:k < (Bp f).length:=by simpa using hb9
  obtain⟨r,hr⟩:∃r,(Bp f)[k]? =some r:=⟨_,List.getElem?_eq_getElem hlt⟩
  have hnx:=TZ f leaf hr;have hln:(DM f leaf ((Bp f).take k)).length≤2097158:=by unfold DM;rw[List.length_map,List.length_take];omega
  generalize DM f leaf ((Bp f).take k)=L0 at hnx hln⊢;refine Am ?_;refine h8 _ ?_;refine nT ?_;refine Ad fun K10 h10=>?_
  refine Ak ?_;refine rCS ?_
  (refine Awp.region ?_;(repeat(first|refine sQ (hq:=AX.call rfl (Tm (CU f) r leaf (OG f) hcl) rfl rfl rfl) ?_|refine sQ (hq:=Ap rfl rfl rfl rfl) ?_|refine sQ (hq:=Ao rfl rfl rfl rfl) ?_|refine sQ ?_|refine AW ?_|refine sG ?_|refine BQ (hk:=?_)));refine Az ?_)
  refine h10 _ ?_;refine nT ?_;refine rC ?_;refine An ⟨(k+1,ver+1),by dsimp only;omega,by dsimp only;omega,?_⟩;dsimp only;rw[hnx];exact B7
 ·have hke:k=(Bp f).length:=by have:¬k < (Bp f).length:=(by simpa using hb9);omega
  have hfin:DM f leaf (Bp f)=DM f leaf ((Bp f).take k):=by rw[hke,List.take_length]
  refine AB ?_;refine h4 _ ?_;refine nT ?_;refine rCS ?_;refine Ar ?_;rw[hfin];exact⟨.inr rfl,Fin.own rfl⟩
theorem Afd:∀(w:World) (S S':Nat→Prop) (cs:List Value) (d:Int),tInt.RS w S cs d→tInt.RS w S' cs d:=fun _ _ _ _ _ h=>Qm.2 (Qm.1 h)
theorem TH(l:List Int)(n:Int)(hl:l.length≤2097160):Fn Tryz.prog 103 [.bs tInt l,.lit (.int .i64 n)] (.lit (.bool (l.contains n))):=by
 refine AE Tryz.func103 rfl (by kernel_rfl) rfl Tryz.ntmps103 fun C hC=>?_
 refine nS ?_;refine rCS ?_;refine Ad fun K2 h2=>?_
 refine rCS ?_;refine Ak ?_;refine AS (fun i:Nat=>⟨(.bs tInt l::.lit (.int .i64 n)::A3 (.lit (.int .i64 (i:Int))::A10 (A2 []))),[]⟩) (fun i=>i≤l.length∧(l.take i).contains n=false) (fun i=>l.length - i) 0 ⟨Nat.zero_le _,rfl⟩ (B7) ?_;rintro i ⟨hi,hc⟩;refine Ad fun K4 h4=>?_
 refine rCS ?_;refine Aj rfl (fun hb=>?_) (fun hb=>?_)
 ·have hlt:i < l.length:=by simpa using hb
  obtain⟨x,hx⟩:∃x,l[i]? =some x:=⟨_,List.getElem?_eq_getElem hlt⟩
  refine Am ?_;refine h4 _ ?_;refine nT ?_;refine Ad fun K6 h6=>?_
  refine Ak ?_;refine rCS ?_;refine Aj rfl (fun hb2=>?_) (fun hb2=>?_)
  ·have hxn:x=n:=by simpa using hb2
   have hcn:l.contains n=true:=by rw[←hxn];exact List.contains_iff_mem.2 (List.mem_of_getElem? hx)
   refine rCS ?_;refine Ar ?_;rw[hcn];exact⟨.inr rfl,Fin.cl rfl⟩
  ·have hxn:¬x=n:=by simpa using hb2
   refine Am ?_;refine h6 _ ?_;refine nT ?_;refine rC ?_;refine An ⟨i+1,⟨by omega,?_⟩,by omega,B7⟩;rw[List.take_add_one,hx,List.contains_eq_mem]at *;simp only[Option.toList_some,List.mem_append,List.mem_cons,List.not_mem_nil,or_false,decide_eq_false_iff_not,not_or]at hc⊢;exact⟨by simpa[List.contains_eq_mem]using hc,fun e=>hxn e.symm⟩
 ·have hie:i=l.length:=by have:¬i < l.length:=(by simpa using hb);omega
  rw[hie,List.take_length]at hc;refine AB ?_;refine h2 _ ?_;refine nT ?_;refine rCS ?_;refine Ar ?_;rw[hc];exact⟨.inr rfl,Fin.cl rfl⟩
def J6(n:Int)(k:Nat):List Int:=(List.range k).map fun(j:Nat)=>n+(j:Int)
theorem Wv(n:Int)(k:Nat):J6 n (k+1)=J6 n k++[n+(k:Int)]:=by unfold J6;rw[List.range_succ,List.map_append];rfl
theorem Zf(n:Int)(k:Nat):(J6 n k).length=k:=by simp[J6]
theorem KR(n:Int)(m:Nat)(hn:0≤n)(hn2:n≤100)(hm:m≤100):NE Tryz.prog 156 [.lit (.int .i64 n),.lit (.int .i64 (m:Int))] 3 tInt (J6 n m):=by
 refine Im Tryz.func156 rfl (by kernel_rfl) rfl Tryz.ntmps156 Afd fun C hC=>?_
 refine nS ?_;refine rCS ?_;refine rCS ?_;refine Ad fun K3 h3=>?_
 refine rCS ?_;refine Ak ?_;refine AS (fun p:Nat×Nat=>⟨(.lit (.int .i64 n)::.lit (.int .i64 (m:Int))::A3 (.own 0 p.2::.lit (.int .i64 (p.1:Int))::A10 (A2 []))),[.row p.2 3 tInt (J6 n p.1)]⟩) (fun p=>p.1≤m) (fun p=>m - p.1) (0,0) (Nat.zero_le _) ((Cx 5 3 tInt rfl (by decide)).trans (B7)) ?_;rintro⟨i,ver⟩ hi;dsimp only at hi⊢;refine Ad fun K6 h6=>?_
 refine rCS ?_;refine Aj rfl (fun hb8=>?_) (fun hb8=>?_)
 ·have hlt:i < m:=by simpa using hb8
  have hw:wfI .i64 (n+(i:Int)):=by
   obtain⟨k,rfl⟩:∃k:Nat,n=(k:Int):=⟨n.toNat,by omega⟩
   exact M0 (k:=k+i) (by omega)
  have hln:=Zf n i;have hsn:=Wv n i;generalize J6 n i=L0 at hln hsn⊢;refine Am ?_;refine h6 _ ?_;refine nT ?_;refine Ad fun K9 h9=>?_
  refine Ak ?_;refine rC ?_;refine h9 _ ?_;refine nT ?_;refine rC ?_;refine An ⟨(i+1,ver+1),by dsimp only;omega,by dsimp only;omega,?_⟩;dsimp only;rw[hsn];exact B7
 ·have hie:i=m:=by have:¬i < m:=(by simpa using hb8);omega
  subst hie;refine AB ?_;refine h3 _ ?_;refine nT ?_;refine rCS ?_;refine Ar ?_;exact⟨.inr rfl,rfl,_,_,rfl,rfl⟩
theorem Acj:J6 8 6= [8,9,10,11,12,13]:=by decide
theorem Ach:J6 16 8=Aa1:=by decide
theorem Aci:J6 24 6=Aa3:=by decide
theorem Q5(f:Func)(r:Int)(leaf:Bool)(ho:okFunc f)(hs:smallF f)(hT:(Cg f).length≤2097152)(hi1:∀b∈f.blocks,b.ins.length+1≤2097152):Fn Tryz.prog 106 [.agg (Aq f),.lit (.int .i64 r),.lit (.bool leaf)] (.bs tInt (CP (CU f) r leaf)):=by
 have hcl:(CU f).length≤2097160:=by have:=OF f;have:=Nat.le_trans (Dl _) hT;unfold Bw at *;omega
 have f1:NE Tryz.prog 156 [.lit (.int .i64 8),.lit (.int .i64 6)] 3 tInt (J6 8 6):=KR 8 6 (by decide) (by decide) (by decide);have f2:NE Tryz.prog 156 [.lit (.int .i64 16),.lit (.int .i64 8)] 3 tInt (J6 16 8):=KR 16 8 (by decide) (by decide) (by decide);have f3:NE Tryz.prog 156 [.lit (.int .i64 24),.lit (.int .i64 6)] 3 tInt (J6 24 6):=KR 24 6 (by decide) (by decide) (by decide);rw[Acj]at f1;rw[Ach]at f2;rw[Aci]at f3;have f3':=f3.fn;have hn3:Aa1.length+Aa3.length≤maxLen:=by decide
 have hn4:(Aa1.length+Aa3.length) * 8≤140737488355328:=by decide
 have hw4:wfI .i64 4:=Ah4 (by decide);have hin:=TH (CU f) r hcl;have hc:=WL f ho hs hT hi1;rw[Jh];refine AE Tryz.func106 rfl (by kernel_rfl) rfl Tryz.ntmps106 fun C hC=>?_
 refine nS ?_;refine rCS ?_;refine Ad fun K2 h2=>?_
 (refine Awp.region ?_;(repeat(first|(refine Bu rfl (Jz rfl f1 (by decide) rfl rfl ?_);refine sNt ?_)|refine sQ (hq:=Ap rfl rfl rfl rfl) ?_|refine sQ (hq:=Ao rfl rfl rfl rfl) ?_|refine sQ ?_|refine AW ?_|refine sG ?_|refine BQ (hk:=?_)));refine Az ?_)
 refine h2 _ ?_;refine nT ?_;refine Ad fun K3 h3=>?_
 refine Awp.region ?_;refine Bu rfl (Jz rfl f2 (by decide) rfl rfl ?_);refine sNt ?_
 (repeat(first|refine sQ (hq:=AX.call rfl f3' rfl rfl rfl) ?_|refine sQ (hq:=Ap rfl rfl rfl rfl) ?_|refine sQ (hq:=Ao rfl rfl rfl rfl) ?_|refine sQ ?_|refine AW ?_|refine sG (hq:=by(intro hg;(try simp only[Bool.and_eq_true,beq_iff_eq]at hg);(try simp only[hg,cond_true,Bool.true_and,beq_self_eq_true]);exact AX.call rfl f3' rfl rfl rfl)) ?_|refine sG ?_|refine BQ (hk:=?_)))
 refine Az ?_;refine h3 _ ?_;refine nT ?_;refine Ad fun K4 h4=>?_
 refine rCS ?_;refine Aj rfl (fun hb6=>?_) (fun hb6=>?_)
 ·refine rCS ?_;refine Ar ?_;rw[if_pos hb6];exact⟨.inr rfl,Fin.own rfl⟩
 ·have hb6:leaf=false:=hb6;refine Am ?_;refine h4 _ ?_;refine nT ?_;refine Ad fun K8 h8=>?_
  refine Ad fun K9 h9=>?_
  (refine Awp.region ?_;(repeat(first|refine sQ (hq:=AX.call rfl hc rfl rfl rfl) ?_|refine sQ (hq:=AX.call rfl hin rfl rfl rfl) ?_|refine sQ (hq:=Ap rfl rfl rfl rfl) ?_|refine sQ (hq:=Ao rfl rfl rfl rfl) ?_|refine sQ ?_|refine AW ?_|refine sG (hq:=by(intro hg;(try simp only[Bool.and_eq_true,beq_iff_eq]at hg);(try simp only[hg,cond_true,Bool.true_and,beq_self_eq_true]);exact AX.call rfl hc rfl rfl rfl)) ?_|refine sG (hq:=by(intro hg;(try simp only[Bool.and_eq_true,beq_iff_eq]at hg);(try simp only[hg,cond_true,Bool.true_and,beq_self_eq_true]);exact AX.call rfl hin rfl rfl rfl)) ?_|refine sG ?_|refine BQ (hk:=?_)));refine Az ?_)
  refine h9 _ ?_;refine nT ?_;refine Aj rfl (fun hb10=>?_) (fun hb10=>?_)
  ·have hb10:(CU f).contains r=true:=hb10;refine rCS ?_;refine Ar ?_;rw[if_neg (by rw[hb6];simp),if_pos hb10];exact⟨.inr rfl,Fin.own rfl⟩
  ·have hb10:(CU f).contains r=false:=hb10;refine Am ?_;refine h8 _ ?_;refine nT ?_;refine Ad fun K12 h12=>?_
   refine A1 _ (Mf hC 2 rfl) ?_;refine A1 ⟨(A3 (.ptr 0 0::A3 (.own 1 1::.bs tInt KM::A10 (A6 [])))),[.box (Aq f),.row 1 3 tInt Xy,.dead]⟩ (B7) ?_;have hn1:Xy.length+KM.length≤maxLen:=by decide
   have hn2:(Xy.length+KM.length) * 8≤140737488355328:=by decide
   refine rC ?_;refine h12 _ ?_;refine nT ?_;refine Ar ?_;rw[if_neg (by rw[hb6];simp),if_neg (by rw[hb10];simp)];exact⟨.inr rfl,Fin.own rfl⟩
theorem QQ{f:Func}(hX:(NY f).length≤2097152):(AT f).length≤2097152:=Nat.le_trans (Fe _).1 hX
theorem Yq{f:Func}(ho:okFunc f):Br (AT f):=(Fe _).2 (Z7 ho)
theorem YY(f:Func)(n:Nat):Rk f (n+1)=Rk f n++if(decide ((n:Int) < f.args)||(AT f).contains (n:Int))=true then [(n:Int)]else []:=by
 unfold Rk;rw[Rf,List.filter_append,List.filter_cons,List.filter_nil]
theorem UV(f:Func)(n:Nat):(Rk f n).length≤n:=by
 unfold Rk;have:=List.length_filter_le (fun r=>decide (r < f.args)||(AT f).contains r) (LP n);rw[L7]at this;exact this
theorem IJ{p:Int→Bool}:∀{l:List Int} {k:Nat},(∀x∈l.take k,p x=true)→(k=l.length∨∃x,l[k]? =some x∧p x=false)→l.takeWhile p=l.take k
 | [],k,_,_=>by simp
 |x::l,0,_,h=>by
  rcases h with h|⟨y,hy,hp⟩
  ·simp at h
  ·simp only[List.getElem?_cons_zero,Option.some.injEq]at hy;subst hy;rw[List.takeWhile_cons_of_neg (by rw[hp];simp),List.take_zero]
 |x::l,k+1,h1,h2=>by
  rw[List.take_succ_cons,List.takeWhile_cons_of_pos (h1 x (by simp)),IJ (fun y hy=>h1 y (by rw[List.take_succ_cons];exact List.mem_cons_of_mem _ hy)) ?_];rcases h2 with h2|⟨y,hy,hp⟩
  ·exact .inl (by simpa using h2)
  ·exact .inr ⟨y,by simpa using hy,hp⟩
theorem VQ(f:Func)(ho:okFunc f)(hs:smallF f)(hX:(NY f).length≤2097152):Fn Tryz.prog 51 [.agg (Aq f)] (.bs tInt (Bp f)):=by
 have hrl:=QQ hX;have hro:=Yq ho;rw[←MC];refine AE Tryz.func51 rfl (by kernel_rfl) rfl Tryz.ntmps51 fun C hC=>?_
 refine nS ?_;refine rCS ?_;refine Ad fun K2 h2=>?_
 (refine Awp.region ?_;(repeat(first|refine sQ (hq:=AX.call rfl (ME f ho hs hX) rfl rfl rfl) ?_|refine sQ (hq:=Ap rfl rfl rfl rfl) ?_|refine sQ (hq:=Ao rfl rfl rfl rfl) ?_|refine sQ ?_|refine AW ?_|refine sG (hq:=by(intro hg;(try simp only[Bool.and_eq_true,beq_iff_eq]at hg);(try simp only[hg,cond_true,Bool.true_and,beq_self_eq_true]);exact AX.call rfl (ME f ho hs hX) rfl rfl rfl)) ?_|refine sG ?_|refine BQ (hk:=?_)));refine Az ?_)
 refine h2 _ ?_;refine nT ?_;refine rCS ?_;refine Ad fun K4 h4=>?_
 refine rCS ?_;refine Ak ?_;refine AS (fun p:Nat×Nat=>⟨(.any::.ptr 0 0::.any::.bs tInt (AT f)::.own 1 p.2::.lit (.int .i64 (p.1:Int))::A40 (A20 [])),[.box (Aq f),.row p.2 3 tInt ((AT f).take p.1)]⟩) (fun p=>p.1≤(AT f).length∧∀x∈(AT f).take p.1,decide (x < 0)=true) (fun p=>(AT f).length - p.1) (0,0) ⟨Nat.zero_le _,fun x hx=>by cases hx⟩ ((Cx 4 3 tInt rfl (by decide)).trans (B7)) ?_;rintro⟨i,ver⟩ ⟨hi,hneg⟩
 (try dsimp only at hi);(try dsimp only at hneg);(try dsimp only)
 obtain⟨x,hxd⟩:∃x,(AT f).getD i 0=x:=⟨_,rfl⟩
 have hxx:decide ((i:Int) < ((AT f).length:Int))=true→(AT f)[i]? =some x:=fun h=>by
  have h:(i:Int) < ((AT f).length:Int):=of_decide_eq_true h;have hlt:i < (AT f).length:=by omega
  rw[←hxd,List.getD_eq_getElem?_getD,List.getElem?_eq_getElem hlt];rfl
 refine Ad fun K7 h7=>?_
 refine Ad fun K8 h8=>?_
 (refine Awp.region ?_;(repeat(first|refine sQ (hq:=Hd rfl rfl rfl rfl (hxx hg)) ?_|refine sQ (hq:=Ap rfl rfl rfl rfl) ?_|refine sQ (hq:=Ao rfl rfl rfl rfl) ?_|refine sQ ?_|refine AW ?_|refine sG (hq:=by(intro hg;(try simp only[Bool.and_eq_true,beq_iff_eq]at hg);(try simp only[hg,cond_true,Bool.true_and,beq_self_eq_true]);exact Hd rfl rfl rfl rfl (hxx hg))) ?_|refine sG ?_|refine BQ (hk:=?_)));refine Az ?_)
 refine h8 _ ?_;refine nT ?_;refine Aj rfl (fun hb9=>?_) (fun hb9=>?_)
 ·have hb9:(decide ((i:Int) < ((AT f).length:Int))&&decide (x < 0))=true:=hb9;rw[Bool.and_eq_true]at hb9;have hx:=hxx hb9.1;have hx0:=hb9.2;have hlt:=(List.getElem?_eq_some_iff.1 hx).1;have hxw:=hro x (List.mem_of_getElem? hx);have htk:(AT f).take (i+1)=(AT f).take i++[x]:=by rw[List.take_add_one,hx];rfl
  have htl:((AT f).take i).length≤2097152:=by rw[List.length_take];omega
  generalize hT0:(AT f).take i=T0 at htk htl hneg⊢;refine Am ?_;refine h7 _ ?_;refine nT ?_;refine Ad fun K10 h10=>?_
  refine Ak ?_;refine rC ?_;refine h10 _ ?_;refine nT ?_;refine rC ?_;refine An ⟨(i+1,ver+1),⟨by dsimp only;omega,?_⟩,by dsimp only;omega,?_⟩
  ·try dsimp only
   rw[htk];intro y hy;rcases List.mem_append.1 hy with hy|hy
   ·exact hneg y hy
   ·rw[List.mem_singleton.1 hy];exact hx0
  ·try dsimp only
   rw[htk];exact B7
 ·have hb9:(decide ((i:Int) < ((AT f).length:Int))&&decide (x < 0))=false:=hb9;have htw:(AT f).takeWhile (fun r=>decide (r < 0))=(AT f).take i:=by
   refine IJ hneg ?_;by_cases hlt:i < (AT f).length
   ·refine .inr ⟨x,hxx (decide_eq_true (by omega)),?_⟩;rw[decide_eq_true (by omega:(i:Int) < ((AT f).length:Int)),Bool.true_and]at hb9;exact hb9
   ·exact .inl (by omega)
  rw[←htw];have hTl:((AT f).takeWhile fun r=>decide (r < 0)).length≤2097152:=by rw[htw,List.length_take];omega
  generalize hT:(AT f).takeWhile (fun r=>decide (r < 0))=TW at hTl⊢;refine AB ?_;refine h4 _ ?_;refine nT ?_;refine Ad fun K11 h11=>?_
  refine rCS ?_;refine Ak ?_;refine AS (fun p:Nat×Nat=>⟨(.any::.ptr 0 0::.any::.bs tInt (AT f)::.own 1 p.2::.any::.lit (.int .i64 (p.1:Int))::A40 (A10 (A9 []))),[.box (Aq f),.row p.2 3 tInt (TW++Rk f p.1)]⟩) (fun p=>p.1≤6) (fun p=>6 - p.1) (0,ver) (Nat.zero_le _) (by rw[show TW++Rk f (0,ver).1=TW by simp[Rk,LP]];exact B7) ?_;rintro⟨n,ver2⟩ hn
  (try dsimp only at hn);(try dsimp only)
  have hnw:=M0 (k:=n) (by omega);have hll:=UV f n;have hnx:=YY f n;refine Ad fun K14 h14=>?_
  refine rCS ?_;refine Aj rfl (fun hb16=>?_) (fun hb16=>?_)
  ·have hlt:n < 6:=by have:(n:Int) < 6:=(by simpa using hb16);omega
   have hln:(TW++Rk f n).length≤2097160:=by rw[List.length_append];omega
   have happ:TW++Rk f (n+1)=(TW++Rk f n)++if(decide ((n:Int) < f.args)||(AT f).contains (n:Int))=true then [(n:Int)]else []:=by rw[hnx,List.append_assoc]
   generalize TW++Rk f n=R0 at hln happ⊢;refine Am ?_;refine h14 _ ?_;refine nT ?_;refine Ad fun K17 h17=>?_
   refine Ak ?_;refine Ad fun K18 h18=>?_
   (refine Awp.region ?_;(repeat(first|refine sQ (hq:=AX.call rfl (TH (AT f) (n:Int) (by omega)) rfl rfl rfl) ?_|refine sQ (hq:=Ap rfl rfl rfl rfl) ?_|refine sQ (hq:=Ao rfl rfl rfl rfl) ?_|refine sQ ?_|refine AW ?_|refine sG (hq:=by(intro hg;(try simp only[Bool.and_eq_true,beq_iff_eq]at hg);(try simp only[hg,cond_true,Bool.true_and,beq_self_eq_true]);exact AX.call rfl (TH (AT f) (n:Int) (by omega)) rfl rfl rfl)) ?_|refine sG ?_|refine BQ (hk:=?_)));refine Az ?_)
   refine h18 _ ?_;refine nT ?_;refine Aj rfl (fun hb19=>?_) (fun hb19=>?_)
   ·rw[if_pos hb19]at happ;refine rC ?_;refine h17 _ ?_;refine nT ?_;refine rC ?_;refine An ⟨(n+1,ver2+1),by dsimp only;omega,by dsimp only;omega,?_⟩;try dsimp only
    rw[happ];exact B7
   ·rw[if_neg (by rw[show(decide ((n:Int) < f.args)||(AT f).contains (n:Int))=false from hb19];simp),List.append_nil]at happ;refine Am ?_;refine h17 _ ?_;refine nT ?_;refine rC ?_;refine An ⟨(n+1,ver2),by dsimp only;omega,by dsimp only;omega,?_⟩;try dsimp only
    rw[happ];exact B7
  ·have hne:n=6:=by have:¬(n:Int) < 6:=(by simpa using hb16);omega
   subst hne;have hln:(TW++Rk f 6).length≤2097160:=by rw[List.length_append];omega
   have hfinE:Jc f=TW++Rk f 6++(AT f).filter (fun r=>decide (r > 5)):=by unfold Jc;rw[hT]
   generalize TW++Rk f 6=R0 at hln hfinE⊢;refine AB ?_;refine h11 _ ?_;refine nT ?_;refine Ad fun K20 h20=>?_
   refine rCS ?_;refine Ak ?_;refine AS (fun p:Nat×Nat=>⟨(.any::.ptr 0 0::.any::.bs tInt (AT f)::.own 1 p.2::A2 (.lit (.int .i64 (p.1:Int))::A40 (A10 (A8 [])))),[.box (Aq f),.row p.2 3 tInt (R0++((AT f).take p.1).filter fun r=>decide (r > 5))]⟩) (fun p=>p.1≤(AT f).length) (fun p=>(AT f).length - p.1) (0,ver2) (Nat.zero_le _) (by rw[show(R0++((AT f).take (0,ver2).1).filter fun r=>decide (r > 5))=R0 by simp];exact B7) ?_;rintro⟨k,ver3⟩ hk
   (try dsimp only at hk);(try dsimp only)
   refine Ad fun K23 h23=>?_
   refine rCS ?_;refine Aj rfl (fun hb25=>?_) (fun hb25=>?_)
   ·have hlt:k < (AT f).length:=by simpa using hb25
    obtain⟨y,hy⟩:∃y,(AT f)[k]? =some y:=⟨_,List.getElem?_eq_getElem hlt⟩
    have hyw:=hro y (List.mem_of_getElem? hy);have hfl:(R0++((AT f).take k).filter fun r=>decide (r > 5)).length≤4194320:=by
     have h1:=List.length_filter_le (fun r:Int=>decide (r > 5)) ((AT f).take k);rw[List.length_take]at h1;rw[List.length_append];omega
    have happ:(R0++((AT f).take (k+1)).filter fun r=>decide (r > 5))=(R0++((AT f).take k).filter fun r=>decide (r > 5))++if decide (y > 5)=true then [y]else []:=by rw[DP hy,List.append_assoc]
    generalize (R0++((AT f).take k).filter fun r=>decide (r > 5))=R1 at hfl happ⊢;refine Am ?_;refine h23 _ ?_;refine nT ?_;refine Ad fun K26 h26=>?_
    refine Ak ?_;refine rCS ?_;refine Aj rfl (fun hb28=>?_) (fun hb28=>?_)
    ·rw[if_pos hb28]at happ;refine rC ?_;refine h26 _ ?_;refine nT ?_;refine rC ?_;refine An ⟨(k+1,ver3+1),by dsimp only;omega,by dsimp only;omega,?_⟩;try dsimp only
     rw[happ];exact B7
    ·rw[if_neg (by rw[show decide (y > 5)=false from hb28];simp),List.append_nil]at happ;refine Am ?_;refine h26 _ ?_;refine nT ?_;refine rC ?_;refine An ⟨(k+1,ver3),by dsimp only;omega,by dsimp only;omega,?_⟩;try dsimp only
     rw[happ];exact B7
   ·have hke:k=(AT f).length:=by have:¬k < (AT f).length:=(by simpa using hb25);omega
    subst hke;rw[List.take_length];refine AB ?_;refine h20 _ ?_;refine nT ?_;refine rCS ?_;refine Ar ?_;rw[hfinE];exact⟨.inr rfl,Fin.own rfl⟩
def Qc(x:Ins):Bool:=x.op ==5||x.op ==7
def DU(l:List Ins):Bool:=l.any Qc
def leaf(bs:List Block):Bool:=!(bs.any fun b=>DU b.ins)
theorem Rl{l:List Ins}{j:Nat}{y:Ins}(hy:l[j]? =some y)(h:DU (l.take j)=false)(hn:Qc y=false):Hid (DU (l.take (j+1))=false):=by
 show DU _=_;unfold DU at h⊢;rw[List.take_add_one,hy,List.any_append,h];simp[hn]
theorem PF{l:List Ins}{j:Nat}{y:Ins}(hy:l[j]? =some y)(hn:Qc y=true):DU l=true:=by
 unfold DU;rw[List.any_eq_true];exact⟨y,List.mem_of_getElem? hy,hn⟩
theorem Rq{bs:List Block}{q:Nat}{x:Block}(hx:bs[q]? =some x)(h:leaf (bs.take q)=true)(hn:DU x.ins=false):Hid (leaf (bs.take (q+1))=true):=by
 show leaf _=_;unfold leaf at h⊢;rw[List.take_add_one,hx,List.any_append];simp only[Bool.not_eq_true']at h⊢;rw[h];simp[hn]
theorem TF{bs:List Block}{q:Nat}{x:Block}(hx:bs[q]? =some x)(hn:DU x.ins=true):leaf bs=false:=by
 unfold leaf;simp only[Bool.not_eq_false',List.any_eq_true];exact⟨x,List.mem_of_getElem? hx,hn⟩
theorem Abp(fn:Func)(w:World)(cs:List Value)(hR:CX.R w w.heap.size cs fn)(hsm:CX.bulk fn≤2097152):
 Calls Tryz.prog 22 #[.agg cs.toArray] w fun e w'=>e= .returned (.bool (leaf fn.blocks))∧Below w.heap.size w w':=by
 obtain⟨A,c,rfl,_,_,_,hBR⟩:=I3.1 hR;have hbl:=Gh fn;have HBR:=Lib.hid hBR;clear hR hBR
 go_enter Tryz.func22,Tryz.ntmps22
 go_wp2
 go_loopw [3] (fun i wr=>∃q:Nat,q≤fn.blocks.length∧i= .int .i64 q∧Hid (leaf (fn.blocks.take q)=true)∧Below (w.heap.size+1) (w.alloc (.cells [.string fn.name,.int .i64 fn.args,.int .i64 fn.regs,.slice A fn.blocks.length c].toArray 24)) wr) (fun i _=>fn.blocks.length - (RowKit.intOf i).toNat)
 case atStart=>exact⟨0,Nat.zero_le _,rfl,rfl,Below.refl _ _⟩
 case round=>
  obtain⟨q,hq,rfl,hno,hbe⟩:=hrel;obtain⟨hfar,hbox,_,_⟩:=RZ hbe;have hb3:=hbox 3 _ rfl;have HBE:=Lib.hid hbe;clear hbe hbox;by_cases hlt:q < fn.blocks.length
  ·obtain⟨x,hx⟩:∃x,fn.blocks[q]? =some x:=⟨_,List.getElem?_eq_getElem hlt⟩
   obtain⟨bb,bo,Ai,ci,rfl,hbb,_,hc1,_,hIR⟩:=PU HBR.out hx;have hil:=Ih x;have hxb:=E5 (List.mem_of_getElem? hx);have HX:=Lib.hid hx;have HIR:=Lib.hid hIR;clear hx hIR
   go_wp2
   obtain⟨wo,rfl⟩:∃wo:World,wo=wr:=⟨_,rfl⟩
   clear hfar hb3
   go_loopw [4] (fun i wr=>∃j:Nat,j≤x.ins.length∧i= .int .i64 j∧Hid (DU (x.ins.take j)=false)∧Below (w.heap.size+1) (w.alloc (.cells [.string fn.name,.int .i64 fn.args,.int .i64 fn.regs,.slice (some ⟨bb,bo,none⟩) fn.blocks.length c].toArray 24)) wr) (fun i _=>x.ins.length - (RowKit.intOf i).toNat)
   case atStart=>exact⟨0,Nat.zero_le _,rfl,rfl,HBE.out⟩
   case round=>
    obtain⟨j,hj,rfl,hno2,hbe⟩:=hrel;obtain⟨hfar,hbox,hlt0,_⟩:=RZ hbe;have hb3:=hbox 3 _ rfl;have HBE2:=Lib.hid hbe;clear hbe hbox;by_cases hlt2:j < x.ins.length
    ·obtain⟨y,hy⟩:∃y,x.ins[j]? =some y:=⟨_,List.getElem?_eq_getElem hlt2⟩
     obtain⟨ib,io,Aa,ca,rfl,hib,e0,_⟩:=Rv (HIR.out) hy;have HY:=Lib.hid hy;clear hy;by_cases h5:y.op=5
     ·have d5:(y.op ==5)=true:=by simp[h5]
      have HL:Hid (Qc y=true):=by simp[Hid,Qc,h5]
      clear h5
      go_wp2
      go_ret
      exact⟨CM (TF HX.out (PF HY.out HL.out)).symm,(RZ HBE2.out).2.2.2⟩
     ·have d5:(y.op ==5)=false:=by simp[h5]
      by_cases h7:y.op=7
      ·have d7:(y.op ==7)=true:=by simp[h7]
       have HL:Hid (Qc y=true):=by simp[Hid,Qc,h7]
       clear h5 h7
       go_wp2
       go_ret
       exact⟨CM (TF HX.out (PF HY.out HL.out)).symm,(RZ HBE2.out).2.2.2⟩
      ·have d7:(y.op ==7)=false:=by simp[h7]
       have HL:Hid (Qc y=false):=by simp[Hid,Qc,h5,h7]
       clear h5 h7
       go_wp2
       go_roundw
       case rel=>exact⟨j+1,by omega,by go_num,Rl HY.out hno2.out HL.out,HBE2.out⟩
       case measure=>simp[RowKit.intOf];omega
    ·obtain rfl:j=x.ins.length:=by omega
     go_wp2
     go_roundw
     case rel=>exact⟨q+1,by omega,by go_num,Rq HX.out hno.out (by have:=hno2.out;rwa [List.take_length]at this),HBE2.out⟩
     case measure=>simp[RowKit.intOf];omega
  ·obtain rfl:q=fn.blocks.length:=by omega
   go_wp2
   go_ret
   have hno':=hno.out;rw[List.take_length]at hno';exact⟨CM hno'.symm,(RZ HBE.out).2.2.2⟩
theorem Rp(y:Ins)(w:World)(cs:List Value)(hR:Ep.R w w.heap.size cs y):
 Calls Tryz.prog 86 #[.agg cs.toArray] w fun e w'=>e= .returned (.bool (Qc y))∧Below w.heap.size w w':=by
 obtain⟨A,c,hI⟩:=Fk.1 hR;obtain rfl:=hI.cs;clear hR hI;have hB:Hid (Below w.heap.size w (w.alloc (.cells [.int .u8 y.op,.int .i64 y.d,.int .i64 y.a,.int .i64 y.b,.int .u32 y.n,.int .i64 y.f,.slice A y.args.length c,.int .i64 y.l1,.int .i64 y.l2].toArray 62))):=(Below.refl _ _).alloc (Nat.le_refl _) _;by_cases h5:y.op=5
 ·have d5:(y.op ==5)=true:=by simp[h5]
  have HL:Hid (Qc y=true):=by simp[Hid,Qc,h5]
  clear h5
  go_enter Tryz.func86,Tryz.ntmps86
  go_wp2
  go_ret
  exact⟨CM HL.out.symm,hB.out⟩
 ·have d5:(y.op ==5)=false:=by simp[h5]
  by_cases h7:y.op=7
  ·have d7:(y.op ==7)=true:=by simp[h7]
   have HL:Hid (Qc y=true):=by simp[Hid,Qc,h7]
   clear h5 h7
   go_enter Tryz.func86,Tryz.ntmps86
   go_wp2
   go_ret
   exact⟨CM HL.out.symm,hB.out⟩
  ·have d7:(y.op ==7)=false:=by simp[h7]
   have HL:Hid (Qc y=false):=by simp[Hid,Qc,h5,h7]
   clear h5 h7
   go_enter Tryz.func86,Tryz.ntmps86
   go_wp2
   go_ret
   exact⟨CM HL.out.symm,hB.out⟩
def Agh(w:World)(b:Bool)(e:Ending)(w':World):Prop:=∃z:Int,e= .returned (.int .i64 z)∧decide (0≤z)=b∧Below w.heap.size w w'
theorem Wp(l:List Ins)(va:Value)(w:World)(hR:Ep.slice.R w w.heap.size [va] l)(hl:l.length≤2097152):
 Calls Tryz.prog 137 #[va,.func (.func 86) #[] #[]] w (Agh w (DU l)):=by
 obtain⟨A,c,rfl⟩:=Cs hR;have HR:=Lib.hid hR;clear hR
 go_enter Tryz.func137,Tryz.ntmps137
 go_wp2_with fail
 go_loopw [8] (fun i wr=>∃j:Nat,j≤l.length∧i= .int .i64 j∧Hid (DU (l.take j)=false)∧Below w.heap.size w wr) (fun i _=>l.length - (RowKit.intOf i).toNat)
 case atStart=>exact⟨0,Nat.zero_le _,rfl,rfl,Below.refl _ _⟩
 case round=>
  obtain⟨j,hj,rfl,hno,hbe⟩:=hrel;have hfar:=far hbe;have HBE:=Lib.hid hbe;clear hbe;by_cases hlt:j < l.length
  ·obtain⟨y,hy⟩:∃y,l[j]? =some y:=⟨_,List.getElem?_eq_getElem hlt⟩
   obtain⟨ib,io,Aa,ca,rfl,hib,e0,e1,e2,e3,e4,e5,e6,e7,e8,hraw⟩:=Rv (HR.out) hy;have hRw:Ep.R wr wr.heap.size [.int .u8 y.op,.int .i64 y.d,.int .i64 y.a,.int .i64 y.b,.int .u32 y.n,.int .i64 y.f,.slice Aa y.args.length ca,.int .i64 y.l1,.int .i64 y.l2] y:=
    Ty.below (Fk.2 ⟨_,_,hraw⟩) HBE.out HBE.out.size
   have HY:=Lib.hid hy;have HRW:=Lib.hid hRw;clear hy hraw hRw;by_cases hL:Qc y=true
   ·have HL:=Lib.hid hL;clear hL
    go_wp2_with fail
    refine(Rp y _ _ HRW.out).mono ?_;rintro e w1 ⟨rfl,hb1⟩;rw[HL.out];have HB1:=Lib.hid hb1;clear hb1
    go_wp2_with fail
    go_ret
    exact⟨_,rfl,by rw[PF HY.out HL.out];simp,HBE.out.trans (HB1.out.mono HBE.out.size)⟩
   ·have hL':Qc y=false:=by simpa using hL
    have HL:=Lib.hid hL';clear hL hL'
    go_wp2_with fail
    refine(Rp y _ _ HRW.out).mono ?_;rintro e w1 ⟨rfl,hb1⟩;rw[HL.out];have HB1:=Lib.hid hb1;clear hb1
    go_wp2_with fail
    go_roundw
    case rel=>exact⟨j+1,by omega,by go_num,Rl HY.out hno.out HL.out,HBE.out.trans (HB1.out.mono HBE.out.size)⟩
    case measure=>simp[RowKit.intOf];omega
  ·obtain rfl:j=l.length:=by omega
   go_wp2_with fail
   go_ret
   have hno':=hno.out;rw[List.take_length]at hno';exact⟨_,rfl,by rw[hno'];simp,HBE.out⟩
theorem Lx(l:List Ins)(va:Value)(w:World)(hR:Ep.slice.R w w.heap.size [va] l)(hl:l.length≤2097152):
 Calls Tryz.prog 85 #[va,.func (.func 86) #[] #[]] w fun e w'=>e= .returned (.bool (DU l))∧Below w.heap.size w w':=by
 have HR:=Lib.hid hR;clear hR
 go_enter Tryz.func85,Tryz.ntmps85
 go_wp2_with fail
 refine(Wp l va _ HR.out hl).mono ?_;rintro e w1 ⟨z,rfl,hz,hb1⟩;have HZ:=Lib.hid hz;have HB1:=Lib.hid hb1;clear hz hb1
 go_wp2_with fail
 go_ret
 exact⟨CM HZ.out,HB1.out⟩
theorem Ab6(fn:Func)(w:World)(cs:List Value)(hR:CX.R w w.heap.size cs fn)(hsm:CX.bulk fn≤2097152):
 Calls Tryz.prog 43 #[.agg cs.toArray] w fun e w'=>e= .returned (.bool (leaf fn.blocks))∧Below w.heap.size w w':=by
 obtain⟨A,c,rfl,_,_,_,hBR⟩:=I3.1 hR;have hbl:=Gh fn;have HBR:=Lib.hid hBR;clear hR hBR
 go_enter Tryz.func43,Tryz.ntmps43
 go_wp2_with fail
 go_loopw [8] (fun i wr=>∃q:Nat,q≤fn.blocks.length∧i= .int .i64 q∧Hid (leaf (fn.blocks.take q)=true)∧Below w.heap.size w wr) (fun i _=>fn.blocks.length - (RowKit.intOf i).toNat)
 case atStart=>exact⟨0,Nat.zero_le _,rfl,rfl,(Below.refl _ _).alloc (Nat.le_refl _) _⟩
 case round=>
  obtain⟨q,hq,rfl,hno,hbe⟩:=hrel;have hfar:=far hbe;have HBE:=Lib.hid hbe;clear hbe;by_cases hlt:q < fn.blocks.length
  ·obtain⟨x,hx⟩:∃x,fn.blocks[q]? =some x:=⟨_,List.getElem?_eq_getElem hlt⟩
   obtain⟨bb,bo,Ai,ci,rfl,hbb,hc0,hc1,_,hIR⟩:=PU HBR.out hx;have hil:=Ih x;have hxb:=E5 (List.mem_of_getElem? hx);have HX:=Lib.hid hx;have HIR:=Lib.hid hIR;clear hx hIR;have hal:∀o,Hid (Below w.heap.size w (wr.alloc o)):=fun o=>HBE.out.alloc HBE.out.size o
   by_cases hL:DU x.ins=true
   ·have HL:=Lib.hid hL;have HAL:=Lib.hid hal;clear hL hal
    go_wp2_with fail
    refine(Lx x.ins _ _ (Ty.below HIR.out (HAL.out _).out (HAL.out _).out.size) (by omega)).mono ?_;rintro e w1 ⟨rfl,hb1⟩;rw[HL.out];have HB1:=Lib.hid hb1;clear hb1
    go_wp2_with fail
    go_ret
    exact⟨CM (TF HX.out HL.out).symm,(HAL.out _).out.trans (HB1.out.mono (HAL.out _).out.size)⟩
   ·have hL':DU x.ins=false:=by simpa using hL
    have HL:=Lib.hid hL';have HAL:=Lib.hid hal;clear hL hL' hal
    go_wp2_with fail
    refine(Lx x.ins _ _ (Ty.below HIR.out (HAL.out _).out (HAL.out _).out.size) (by omega)).mono ?_;rintro e w1 ⟨rfl,hb1⟩;rw[HL.out];have HB1:=Lib.hid hb1;clear hb1
    go_wp2_with fail
    go_roundw
    case rel=>exact⟨q+1,by omega,by go_num,Rq HX.out hno.out HL.out,(HAL.out _).out.trans (HB1.out.mono (HAL.out _).out.size)⟩
    case measure=>simp[RowKit.intOf];omega
  ·obtain rfl:q=fn.blocks.length:=by omega
   go_wp2_with fail
   go_ret
   have hno':=hno.out;rw[List.take_length]at hno';exact⟨CM hno'.symm,HBE.out⟩
def HE(l:List Int)(n:Int):Int→M (Int⊕((Unit)⊕(Bool))):=fun i1=>M.cnd (decide (i1 < (l.length:Int))) (M.chk (BN l i1) (M.cnd ((ixD l i1) ==n) (M.ok (.inr (.inr true))) (M.ok (.inl (IntKind.i64.wrap (i1+1)))))) (M.ok (.inr (.inl ())))
def MI(l:List Int)(n:Int):M Bool:=M.els (M.loop (HE l n) 0) fun _=>M.ok false
theorem Pq{l:List Int}{n:Int}{r:Bool}(H:(MI l n).to r):Fn Tryz.prog 105 [.bs tInt l,.lit (.int .i64 n)] (.lit (.bool r)):=by
 delta MI at H;try dsimp only at H
 refine AE Tryz.func105 rfl (by kernel_rfl) rfl Tryz.ntmps105 fun C hC=>?_
 refine nS ?_;refine wS (sT (wN ?_));obtain⟨z2,HX2,Hl2,Hq2⟩:=Cc H;refine Bn (β:=(Unit)×(Unit)) (fun q2=>z2= .inl q2.1) (fun q2=>⟨A10 (A8 []),[]⟩) ?_ ?_
 ·refine wS (sT (wN ?_));refine Ak ?_;refine Bv HX2 (fun s2 b2=>⟨.bs tInt l::.lit (.int .i64 n)::A3 (.lit (.int .i64 s2)::A10 (A2 [])),[]⟩) () (?_) ?_
  ·try dsimp only
   exact Bd
  ·rintro i1 _ x2 H Hr2;try dsimp only
   dsimp only[HE]at H;refine Ad fun Khs3 hs3=>?_
   refine wS (sT (sT (sT (sT (wN ?_)))));refine Aj rfl (fun hb4=>?_) (fun hb4=>?_)
   ·have H:=Au hb4 H;refine Am ?_;refine hs3 _ ?_;refine nT ?_;refine Ad fun Khs5 hs5=>?_
    refine Ak ?_;obtain⟨c6,H⟩:=Ab.1 H;refine wS (sT (sT (sX c6 (sT (sT (sT (wN ?_)))))));refine Aj rfl (fun hb7=>?_) (fun hb7=>?_)
    ·have H:=Au hb7 H;refine wS (sT (wN ?_));have H:=Ac.2 (Hq2 _ (Hr2 _ (Ac.1 H).symm).symm);obtain rfl:=Ac.1 H;exact Ar ⟨.inr rfl,Fin.cl rfl⟩
    ·have H:=Av hb7 H;refine Am ?_;refine hs5 _ ?_;refine nT ?_;refine wSE (sT (sT (sT (wN ?_))));have e2:=Ac.1 H;repeat(first|refine abN ?_|refine asN ?_)
     refine An ⟨_,(),e2.symm,?_⟩;try dsimp only
     exact Bd
   ·have H:=Av hb4 H;refine AB ?_;repeat(first|refine BM ?_|refine exO (by decide) ?_|refine asE ?_)
    refine exN ?_;have e2:=Hr2 _ (Ac.1 H).symm;repeat(first|refine abN ?_|refine asN ?_)
    refine An ⟨(_,()),e2.symm,?_⟩;try dsimp only
    exact Bd
 ·rintro⟨_,_⟩ hz2;try dsimp only at hz2
  have H:=Hl2 _ hz2;try dsimp only
  refine wS (sT (wN ?_));obtain rfl:=Ac.1 H;exact Ar ⟨.inr rfl,Fin.cl rfl⟩
def Fx(f:Func)(all:List (List (List Int)))(a:Int)(b:Int)(k1:Int):Int→M (Int⊕((Unit)⊕((Int)⊕((Unit)⊕(Bool))))):=fun i5=>M.chk (BN f.blocks k1) (M.cnd (decide (i5 < (((ixD f.blocks k1).ins).length:Int))) (M.chk (BN f.blocks k1) (M.chk (BN ((ixD f.blocks k1).ins) i5) (M.bnd (BG (ixD ((ixD f.blocks k1).ins) i5)) fun r13=>M.chk (!(r13.2&&(r13.1 ==a))||(BN all k1)) (M.chk (!(r13.2&&(r13.1 ==a))||(BN (ixD all k1) (IntKind.i64.wrap (i5+1)))) (M.bnd (M.whn (r13.2&&(r13.1 ==a)) false (MI (ixD (ixD all k1) (IntKind.i64.wrap (i5+1))) b)) fun r16=>M.cnd (((r13.2&&(r13.1 ==a))&&r16)&&(!((((ixD ((ixD f.blocks k1).ins) i5).op) ==2)&&(((ixD ((ixD f.blocks k1).ins) i5).a) ==b)))) (M.ok (.inr (.inr (.inr (.inr true))))) (M.ok (.inl (IntKind.i64.wrap (i5+1))))))))) (M.ok (.inr (.inl ()))))
def GB(f:Func)(all:List (List (List Int)))(a:Int)(b:Int):Int→M (Int⊕((Unit)⊕(Bool))):=fun k1=>M.cnd (decide (k1 < (f.blocks.length:Int))) (M.els (M.loop (Fx f all a b k1) 0) fun _=>M.ok (.inl (IntKind.i64.wrap (k1+1)))) (M.ok (.inr (.inl ())))
def KI(f:Func)(all:List (List (List Int)))(a:Int)(b:Int):M Bool:=M.els (M.loop (GB f all a b) 0) fun _=>M.ok false
theorem QY{f:Func}{all:List (List (List Int))}{a:Int}{b:Int}{r:Bool}(H:(KI f all a b).to r):Fn Tryz.prog 104 [.agg (Aq f),.bs tInt.slice.slice all,.lit (.int .i64 a),.lit (.int .i64 b)] (.lit (.bool r)):=by
 delta KI at H;try dsimp only at H
 refine AE Tryz.func104 rfl (by kernel_rfl) rfl Tryz.ntmps104 fun C hC=>?_
 refine nS ?_;refine wS (sB (sT (wN ?_)));obtain⟨z2,HX2,Hl2,Hq2⟩:=Cc H;refine Bn (β:=(Unit)×(Unit)) (fun q2=>z2= .inl q2.1) (fun q2=>⟨A40 (A20 (A10 (A6 []))),[.dead]⟩) ?_ ?_
 ·refine wS (sT (wN ?_));refine Ak ?_;refine Bv HX2 (fun s2 b2=>⟨.any::.bs tInt.slice.slice all::.lit (.int .i64 a)::.lit (.int .i64 b)::.ptr 0 0::A4 (.lit (.int .i64 s2)::A40 (A20 (A6 []))),[.box (Aq f)]⟩) () (?_) ?_
  ·try dsimp only
   exact Bd
  ·rintro k1 _ x2 H Hr2;try dsimp only
   dsimp only[GB]at H;refine Ad fun Khs3 hs3=>?_
   refine wS (sT (sT (sT (sT (sT (wN ?_))))));refine Aj rfl (fun hb4=>?_) (fun hb4=>?_)
   ·have H:=Au hb4 H;refine Am ?_;refine hs3 _ ?_;refine nT ?_;obtain⟨z6,HX6,Hl6,Hq6⟩:=Cc H;refine Bn (β:=(Unit)×(Unit)) (fun q6=>z6= .inl q6.1) (fun q6=>⟨.any::.bs tInt.slice.slice all::.lit (.int .i64 a)::.lit (.int .i64 b)::.ptr 0 0::A4 (.lit (.int .i64 k1)::A40 (A20 (A6 []))),[.box (Aq f)]⟩) ?_ ?_
    ·refine Ak ?_;refine wS (sT (wN ?_));refine Ak ?_;refine Bv HX6 (fun s6 b6=>⟨.any::.bs tInt.slice.slice all::.lit (.int .i64 a)::.lit (.int .i64 b)::.ptr 0 0::A4 (.lit (.int .i64 k1)::.lit (.int .i64 s6)::A40 (A20 (A5 []))),[.box (Aq f)]⟩) () (?_) ?_
     ·try dsimp only
      exact Bd
     ·rintro i5 _ x6 H Hr6;try dsimp only
      dsimp only[Fx]at H;refine Ad fun Khs7 hs7=>?_
      obtain⟨c8,H⟩:=Ab.1 H;refine wS (sT (sT (sT (sT (sX c8 (sT (sT (sT (sT (wN ?_))))))))));refine Aj rfl (fun hb9=>?_) (fun hb9=>?_)
      ·have H:=Au hb9 H;refine Am ?_;refine hs7 _ ?_;refine nT ?_;refine Ad fun Khs10 hs10=>?_
       refine Ak ?_;obtain⟨c11,H⟩:=Ab.1 H;obtain⟨c12,H⟩:=Ab.1 H;refine wS (sT (sT (sT (sX c11 (sT (sT (sT (sX c12 (sT (sA0 ?_))))))))));refine sW ?_;refine wN ?_;obtain⟨r13,k13,H⟩:=Al.1 H;have k13:=Lr k13;refine wS (sT (sC k13 (sT (sT (sT (sT (sT (wN ?_))))))));obtain⟨c14,H⟩:=Ab.1 H;obtain⟨c15,H⟩:=Ab.1 H;obtain⟨r16,k16,H⟩:=Al.1 H;refine wS (sT (sT ?_));refine sGt rfl ?_;refine sGt rfl ?_;refine sGt rfl (sT (sT ?_));refine sGt rfl ?_;refine sGt rfl ?_;refine Adp rfl c14 ?_;refine sGt rfl ?_;refine sGt rfl ?_;refine sGt rfl ?_;refine Adp rfl c15 ?_;refine sGt rfl ?_;refine sGt rfl ?_;refine sG (g:=(r13.2&&(r13.1 ==a))) (hg:=Gg rfl) (hq:=fun hg=>by((try simp only[Cf hg]);(try simp only[KY hg]);exact Ba rfl rfl (Pq (M.to_whn k16 hg)) rfl rfl)) (ht:=(As (AA (AA (AA Mx))))) ?_;refine sT (sT ?_);refine sGt rfl ?_;refine sGt rfl ?_;refine sGt rfl ?_;refine sGt rfl ?_;refine sG (g:=(((r13.2&&(r13.1 ==a))&&r16)&&(((ixD ((ixD f.blocks k1).ins) i5).op) ==2))) (hg:=J5 rfl rfl) (hq:=fun hg=>by(have hg':=GO hg;exact BU rfl (AO Kw) rfl)) (ht:=(As (As S6))) (hk:=?_);refine sG (g:=(((r13.2&&(r13.1 ==a))&&r16)&&(((ixD ((ixD f.blocks k1).ins) i5).op) ==2))) (hg:=J5 rfl rfl) (hq:=fun hg=>by(have hg':=GO hg;exact Bk rfl ((AL (AL L9)).trans (Cf hg _ _)) rfl rfl)) (ht:=(As (As Mx))) (hk:=?_);refine sG (g:=(((r13.2&&(r13.1 ==a))&&r16)&&(((ixD ((ixD f.blocks k1).ins) i5).op) ==2))) (hg:=J5 rfl rfl) (hq:=fun hg=>by(have hg':=GO hg;exact AX.move rfl Kw)) (ht:=(As (As LM))) (hk:=?_);refine sG (g:=(((r13.2&&(r13.1 ==a))&&r16)&&(((ixD ((ixD f.blocks k1).ins) i5).op) ==2))) (hg:=J5 rfl rfl) (hq:=fun hg=>by(have hg':=GO hg;exact CF rfl ((AL (AL Qd)).trans (Cf hg _ _)) ((AL (AL NO)).trans (Cf hg _ _)) rfl)) (ht:=(As (As (AA Oc)))) (hk:=?_);refine sG (g:=((r13.2&&(r13.1 ==a))&&r16)) (hg:=Gg rfl) (hq:=fun hg=>DN rfl ((AL (AL NU)).trans (Cf hg _ _)) ((AL (AL (AO Oy))).trans (KY hg _ _)) Zc) (ht:=(As (As (AA LN)))) ?_;refine sGt rfl (sT (wN ?_));refine Aj rfl (fun hb17=>?_) (fun hb17=>?_)
       ·have H:=Au hb17 H;refine wS (sT (wN ?_));have H:=Ac.2 (Hq6 _ (Hr6 _ (Ac.1 H).symm).symm);have H:=Ac.2 (Hq2 _ (Hr2 _ (Ac.1 H).symm).symm);obtain rfl:=Ac.1 H;exact Ar ⟨.inr rfl,Fin.cl rfl⟩
       ·have H:=Av hb17 H;refine Am ?_;refine hs10 _ ?_;refine nT ?_;refine wSE (sT (sT (sT (wN ?_))));have e6:=Ac.1 H;repeat(first|refine abN ?_|refine asN ?_)
        refine An ⟨_,(),e6.symm,?_⟩;try dsimp only
        exact leC (Cut.cons (Cut.nil _))
      ·have H:=Av hb9 H;refine AB ?_;repeat(first|refine BM ?_|refine exO (by decide) ?_|refine asE ?_)
       refine exN ?_;have e6:=Hr6 _ (Ac.1 H).symm;repeat(first|refine abN ?_|refine asN ?_)
       refine An ⟨(_,()),e6.symm,?_⟩;try dsimp only
       exact Bd
    ·rintro⟨_,_⟩ hz6;try dsimp only at hz6
     have H:=Hl6 _ hz6;try dsimp only
     refine wSE (sT (sT (sT (wN ?_))));have e2:=Ac.1 H;repeat(first|refine abN ?_|refine asN ?_)
     refine An ⟨_,(),e2.symm,?_⟩;try dsimp only
     exact Bd
   ·have H:=Av hb4 H;refine AB ?_;repeat(first|refine BM ?_|refine exO (by decide) ?_|refine asE ?_)
    refine exN ?_;have e2:=Hr2 _ (Ac.1 H).symm;repeat(first|refine abN ?_|refine asN ?_)
    refine An ⟨(_,()),e2.symm,?_⟩;try dsimp only
    exact leC (Cut.dead (Cut.nil _))
 ·rintro⟨_,_⟩ hz2;try dsimp only at hz2
  have H:=Hl2 _ hz2;try dsimp only
  refine wS (sT (wN ?_));obtain rfl:=Ac.1 H;exact Ar ⟨.inr rfl,Fin.cl rfl⟩
def JQ(f:Func)(all:List (List (List Int)))(a:Int)(b:Int):M Bool:=M.cnd (a ==b) (M.ok false) (M.bnd (KI f all a b) fun r4=>M.bnd (M.whn (!r4) false (KI f all b a)) fun r5=>M.cnd (r4||r5) (M.ok true) (M.chk (!(decide ((all.length:Int) > 0))||(BN all 0)) (M.chk (!(decide ((all.length:Int) > 0))||(BN (ixD all 0) 0)) (M.bnd (M.whn (decide ((all.length:Int) > 0)) false (MI (ixD (ixD all 0) 0) a)) fun r9=>M.chk (!((decide ((all.length:Int) > 0))&&r9)||(BN all 0)) (M.chk (!((decide ((all.length:Int) > 0))&&r9)||(BN (ixD all 0) 0)) (M.bnd (M.whn ((decide ((all.length:Int) > 0))&&r9) false (MI (ixD (ixD all 0) 0) b)) fun r12=>M.ok (((decide ((all.length:Int) > 0))&&r9)&&r12)))))))
theorem V0{f:Func}{all:List (List (List Int))}{a:Int}{b:Int}{r:Bool}(H:(JQ f all a b).to r):Fn Tryz.prog 52 [.agg (Aq f),.bs tInt.slice.slice all,.lit (.int .i64 a),.lit (.int .i64 b)] (.lit (.bool r)):=by
 delta JQ at H;try dsimp only at H
 refine AE Tryz.func52 rfl (by kernel_rfl) rfl Tryz.ntmps52 fun C hC=>?_
 refine nS ?_;refine wS (sB (sT (wN ?_)));refine Ad fun Khs1 hs1=>?_
 refine wS (sT (sT (sT (wN ?_))));refine Aj rfl (fun hb2=>?_) (fun hb2=>?_)
 ·have H:=Au hb2 H;refine wS (sT (wN ?_));obtain rfl:=Ac.1 H;exact Ar ⟨.inr rfl,Fin.cl rfl⟩
 ·have H:=Av hb2 H;refine Am ?_;refine hs1 _ ?_;refine nT ?_;refine Ad fun Khs3 hs3=>?_
  obtain⟨r4,k4,H⟩:=Al.1 H;have k4:=QY k4;obtain⟨r5,k5,H⟩:=Al.1 H;refine wS (sT (sT (sT (sT (sC k4 (sT ?_))))));refine sG (g:=(!r4)) (hg:=SJ rfl) (hq:=fun hg=>Bc rfl NU rfl rfl) (ht:=(AA (AA O8))) ?_;refine sGf rfl ?_;refine sGf rfl ?_;refine sGf rfl ?_;refine sG (g:=(!r4)) (hg:=SJ rfl) (hq:=fun hg=>by((try simp only[Cf hg]);(try simp only[KY hg]);exact Ba rfl rfl (QY (M.to_whn k5 hg)) rfl rfl)) (ht:=(AA (AA Mx))) ?_;refine sT (wN ?_);refine Aj rfl (fun hb6=>?_) (fun hb6=>?_)
  ·have H:=Au hb6 H;refine wS (sT (wN ?_));obtain rfl:=Ac.1 H;exact Ar ⟨.inr rfl,Fin.cl rfl⟩
  ·have H:=Av hb6 H;refine Am ?_;refine hs3 _ ?_;refine nT ?_;obtain⟨c7,H⟩:=Ab.1 H;obtain⟨c8,H⟩:=Ab.1 H;obtain⟨r9,k9,H⟩:=Al.1 H;obtain⟨c10,H⟩:=Ab.1 H;obtain⟨c11,H⟩:=Ab.1 H;obtain⟨r12,k12,H⟩:=Al.1 H;refine wS (sT (sT (sT (sT ?_))));refine sGt rfl ?_;refine Adp rfl c7 ?_;refine sGt rfl ?_;refine Adp rfl c8 ?_;refine sGt rfl ?_;refine sGt rfl ?_;refine sG (g:=(decide ((all.length:Int) > 0))) (hg:=Gg rfl) (hq:=fun hg=>by((try simp only[Cf hg]);(try simp only[KY hg]);exact Ba rfl rfl (Pq (M.to_whn k9 hg)) rfl rfl)) (ht:=(As O8)) ?_;refine sT (sT ?_);refine sGt rfl ?_;refine Adp rfl c10 ?_;refine sGt rfl ?_;refine Adp rfl c11 ?_;refine sGt rfl ?_;refine sGt rfl ?_;refine sG (g:=((decide ((all.length:Int) > 0))&&r9)) (hg:=Gg rfl) (hq:=fun hg=>by((try simp only[Cf hg]);(try simp only[KY hg]);exact Ba rfl rfl (Pq (M.to_whn k12 hg)) rfl rfl)) (ht:=(As (AA Ob))) ?_;refine sT (sT (wN ?_));obtain rfl:=Ac.1 H;exact Ar ⟨.inr rfl,Fin.cl rfl⟩
noncomputable section
def WW(f:Func):M Bool:=M.chk (Nh f&&decide (CX.bulk f≤2097152)) (M.ok (leaf f.blocks))
theorem RV{f:Func}{r:Bool}(H:(WW f).to r):Fn Tryz.prog 43 [.agg (Aq f)] (.lit (.bool r)):=by
 obtain⟨c,H⟩:=Ab.1 H;obtain rfl:=Ac.1 H;rw[Bool.and_eq_true]at c;have c1:=Cn.1 c.1;exact Ks (by kernel_rfl) fun w vs hr=>by
  obtain⟨v,rfl,hv⟩:=Aa4 hr;obtain⟨cs,rfl,hc⟩:=Jb hv;exact Ab6 f w cs (LZ c1.ok hc) (of_decide_eq_true c.2)
def Pp(f:Func):M Bool:=M.chk (Nh f&&decide (CX.bulk f≤2097152)) (M.ok (leaf f.blocks))
theorem VY{f:Func}{r:Bool}(H:(Pp f).to r):Fn Tryz.prog 22 [.agg (Aq f)] (.lit (.bool r)):=by
 obtain⟨c,H⟩:=Ab.1 H;obtain rfl:=Ac.1 H;rw[Bool.and_eq_true]at c;have c1:=Cn.1 c.1;exact Ks (by kernel_rfl) fun w vs hr=>by
  obtain⟨v,rfl,hv⟩:=Aa4 hr;obtain⟨cs,rfl,hc⟩:=Jb hv;exact Abp f w cs (LZ c1.ok hc) (of_decide_eq_true c.2)
def It(f:Func):M (List Int):=M.chk (Nh f) (M.ok (Bp f))
theorem On{f:Func}{r:List Int}(H:(It f).to r):Fn Tryz.prog 51 [.agg (Aq f)] (.bs tInt r):=by
 obtain⟨c,H⟩:=Ab.1 H;obtain rfl:=Ac.1 H;have c:=Cn.1 c;exact VQ f c.ok c.small c.all
def Oo(f:Func)(n:Int)(leaf:Bool):M (List Int):=M.chk (Nh f) (M.ok (CP (CU f) n leaf))
theorem QX{f:Func}{n:Int}{leaf:Bool}{r:List Int}(H:(Oo f n leaf).to r):Fn Tryz.prog 106 [.agg (Aq f),.lit (.int .i64 n),.lit (.bool leaf)] (.bs tInt r):=by
 obtain⟨c,H⟩:=Ab.1 H;obtain rfl:=Ac.1 H;have c:=Cn.1 c;exact Q5 f n leaf c.ok c.small c.reads c.ins
def Y0(f:Func):M (List (List Int)):=M.chk (Nh f) (M.ok (inF f))
theorem YZ{f:Func}{r:List (List Int)}(H:(Y0 f).to r):Fn Tryz.prog 31 [.agg (Aq f)] (.bs tInt.slice r):=by
 obtain⟨c,H⟩:=Ab.1 H;obtain rfl:=Ac.1 H;have c:=Cn.1 c;exact Aj7 f c.ok c.small c.reads
def Bs(x:Ins):M (List Int):=M.chk (IQ x&&decide (x.args.length≤2097152)) (M.ok (readsC x))
theorem JL{x:Ins}{r:List Int}(H:(Bs x).to r):Fn Tryz.prog 99 [.agg (BB x)] (.bs tInt r):=by
 obtain⟨c,H⟩:=Ab.1 H;obtain rfl:=Ac.1 H;rw[Bool.and_eq_true]at c;exact IK x (CC.1 c.1) (of_decide_eq_true c.2)
def Bl(x:Ins):M (Int×Bool):=M.chk (IQ x) (M.ok (if AY x then x.d else 0,AY x))
theorem IL{x:Ins}{r:Int×Bool}(H:(Bl x).to r):Fn Tryz.prog 100 [.agg (BB x)] (.tup [.lit (.int .i64 r.1),.lit (.bool r.2)]):=by
 obtain⟨c,H⟩:=Ab.1 H;obtain rfl:=Ac.1 H;exact Fl x (CC.1 c)
end
end Mu
end
section
namespace Mu
def neP(x y:Pair):Bool:=!(decide (x.a=y.a)&&decide (x.b=y.b))
def Qe(left:List Pair)(x:Pair):Bool:=!left.any fun y=>neP y x&&decide (y.b=x.a)
def unblock(left:List Pair)(p:Int):List Pair:=left.map fun x=>if x.b=p then⟨x.a,3⟩else x
inductive AtO:Nat→List Pair→List Pair→Prop
 |nil:AtO 0 [] []
 |out {n k:Nat} {left r:List Pair} {x:Pair} (h1:left.findIdx? (Qe left)=some k) (h2:left[k]? =some x) (h3:AtO n (left.eraseIdx k) r):AtO (n+1) left (x::r)
 |via {n:Nat} {y:Pair} {l r:List Pair} (h1:(y::l).findIdx? (Qe (y::l))=none) (h3:AtO n (unblock (y::l) y.a) r):AtO (n+1) (y::l) (⟨3,y.a⟩::r)
structure InvP(left:List Pair):Prop where
 nd:(left.map (·.a)).Nodup
 n3:∀x∈left,x.a≠3
theorem YW{x y:Pair}:neP x y=true↔x≠y:=by
 obtain⟨a,b⟩:=x;obtain⟨c,d⟩:=y;unfold neP;simp only[Bool.not_eq_true',Bool.and_eq_false_iff,decide_eq_false_iff_not,ne_eq,Pair.mk.injEq,not_and];constructor
 ·rintro(h|h) h1
  ·exact absurd h1 h
  ·exact h
 ·intro h;by_cases h1:a=c
  ·exact .inr (h h1)
  ·exact .inl h1
theorem TD(left:List Pair)(p:Int):(unblock left p).map (·.a)=left.map (·.a):=by
 unfold unblock;rw[List.map_map];refine List.map_congr_left fun x _=>?_
 simp only[Function.comp];split <;> rfl
theorem Dr(left:List Pair)(p:Int):(unblock left p).length=left.length:=by unfold unblock;simp
theorem InvP.unblock{left:List Pair}(h:InvP left)(p:Int):InvP (unblock left p):=by
 refine⟨by rw[TD];exact h.nd,fun x hx=>?_⟩;unfold Mu.unblock at hx;obtain⟨y,hy,rfl⟩:=List.mem_map.1 hx;split
 ·exact h.n3 y hy
 ·exact h.n3 y hy
theorem InvP.erase{left:List Pair}(h:InvP left)(k:Nat):InvP (left.eraseIdx k):=
 ⟨h.nd.sublist ((List.eraseIdx_sublist left k).map _),fun x hx=>h.n3 x ((List.eraseIdx_sublist left k).subset hx)⟩
theorem RA{y:Pair}{l:List Pair}(h:InvP (y::l)):((unblock (y::l) y.a).findIdx? (Qe (unblock (y::l) y.a))).isSome=true:=by
 rw[List.findIdx?_isSome];refine List.any_eq_true.2 ⟨if y.b=y.a then⟨y.a,3⟩else y,?_,?_⟩
 ·unfold unblock;simp
 ·have ha:(if y.b=y.a then(⟨y.a,3⟩:Pair)else y).a=y.a:=by split <;> rfl
  unfold Qe;rw[Bool.not_eq_true',ha];refine List.any_eq_false.2 fun x hx=>?_
  simp only[Bool.and_eq_true,decide_eq_true_eq,not_and];rintro - hb;unfold unblock at hx;obtain⟨z,hz,rfl⟩:=List.mem_map.1 hx;split at hb
  ·exact h.n3 y (by simp) hb.symm
  ·rename_i hzb;exact hzb hb
theorem Ac6(m:Nat):∀left:List Pair,InvP left→left.length≤m→∃n r,AtO n left r∧n≤2 * left.length∧r.length=n:=by
 induction m with
 |zero=>
  intro left _ hl;obtain rfl:left= []:=List.eq_nil_of_length_eq_zero (by omega);exact⟨0,[],.nil,by simp,rfl⟩
 |succ m ih=>
  intro left hI hl;have step:∀left:List Pair,InvP left→left.length≤m+1→∀k,left.findIdx? (Qe left)=some k→∃n r,AtO n left r∧n≤2 * left.length - 1∧r.length=n:=by
   intro left hI hl k hk;obtain⟨hlt,-⟩:=List.findIdx?_eq_some_iff_getElem.1 hk;have hel:(left.eraseIdx k).length=left.length - 1:=List.length_eraseIdx_of_lt hlt;obtain⟨n,r,h1,h2,h3⟩:=ih (left.eraseIdx k) (hI.erase k) (by omega);exact⟨n+1,_,.out hk (List.getElem?_eq_getElem hlt) h1,by omega,by simp[h3]⟩
  cases left with
  |nil=>exact⟨0,[],.nil,by simp,rfl⟩
  |cons y l=>
   cases hk:(y::l).findIdx? (Qe (y::l))with
   |some k=>
    obtain⟨n,r,h1,h2,h3⟩:=step _ hI hl k hk;exact⟨n,r,h1,by omega,h3⟩
   |none=>
    obtain⟨k,hk'⟩:=Option.isSome_iff_exists.1 (RA hI);obtain⟨n,r,h1,h2,h3⟩:=step _ (hI.unblock y.a) (by rw[Dr];exact hl) k hk';rw[Dr]at h2;have:(y::l).length=l.length+1:=rfl;exact⟨n+1,_,.via hk h1,by omega,by simp[h3]⟩
def NT(x:Pair):Bool:=!(decide (x.a=x.b)||decide (x.a=3)||decide (x.b=3))
def CR:List Pair→List Pair→List Pair
 |_,[]=>[]
 |seen,x::l=>if seen.any (fun y=>decide (y.a=x.a))then CR (seen++[x]) l else x::CR (seen++[x]) l
def DR(l:List Pair):List Pair:=(CR [] l).filter NT
theorem Iz{x:Pair}:∀{l seen:List Pair},x∈CR seen l→x∈l∧∀y∈seen,y.a≠x.a
 | [],_,h=>by simp[CR]at h
 |z::l,seen,h=>by
  unfold CR at h;split at h
  ·obtain⟨h1,h2⟩:=Iz h;exact⟨by simp[h1],fun y hy=>h2 y (by simp[hy])⟩
  ·rename_i hn;rcases List.mem_cons.1 h with rfl|h
   ·refine⟨by simp,fun y hy e=>hn ?_⟩;exact List.any_eq_true.2 ⟨y,hy,by simp[e]⟩
   ·obtain⟨h1,h2⟩:=Iz h;exact⟨by simp[h1],fun y hy=>h2 y (by simp[hy])⟩
theorem Nf:∀(l seen:List Pair),((CR seen l).map (·.a)).Nodup
 | [],_=>by simp[CR]
 |z::l,seen=>by
  unfold CR;split
  ·exact Nf l _
  ·rw[List.map_cons,List.nodup_cons];refine⟨fun h=>?_,Nf l _⟩;obtain⟨x,hx,e⟩:=List.mem_map.1 h;exact(Iz hx).2 z (by simp) e.symm
theorem GG:∀(l seen:List Pair),(CR seen l).length≤l.length
 | [],_=>by simp[CR]
 |z::l,seen=>by
  unfold CR;have:=GG l (seen++[z]);split
  ·simp;omega
  ·simp;omega
theorem N9(l:List Pair):InvP (DR l):=by
 unfold DR;refine⟨(Nf l []).sublist (List.filter_sublist.map _),fun x hx=>?_⟩;have:=(List.mem_filter.1 hx).2;unfold NT at this;simp only[Bool.not_eq_true',Bool.or_eq_false_iff,decide_eq_false_iff_not]at this;exact this.1.2
theorem KD(l:List Pair):(DR l).length≤l.length:=Nat.le_trans (List.length_filter_le _ _) (GG l [])
theorem T6(l:List Pair):∃n r,AtO n (DR l) r∧n≤2 * l.length∧r.length=n:=by
 obtain⟨n,r,h1,h2,h3⟩:=Ac6 _ (DR l) (N9 l) (Nat.le_refl _);have:=KD l;exact⟨n,r,h1,by omega,h3⟩
theorem TP(l:List Pair)(x:Pair):∀seen,CR seen (l++[x])=CR seen l++(if(seen++l).any (fun y=>decide (y.a=x.a))then []else [x]):=by
 induction l with
 |nil=>intro seen;simp[CR]
 |cons z l ih=>
  intro seen;rw[List.cons_append];unfold CR;have e:seen++[z]++l=seen++z::l:=by simp
  split <;> simp[ih,e]
end Mu
end
section
namespace Mu
open Go Go.RowKit Go.Proofs
def Kh(y:Pair)(c0:Pair):M Bool:=M.ok (y.a ==c0.a)
theorem Nl{y:Pair}{c0:Pair}{r:Bool}(H:(Kh y c0).to r):Fn Tryz.prog 116 [.agg (Cb y),.bp AH c0 0] (.lit (.bool r)):=by
 delta Kh at H;try dsimp only at H
 refine AE Tryz.func116 rfl (by kernel_rfl) rfl Tryz.ntmps116 fun C hC=>?_
 refine nS ?_;refine wS (sB (sT (wN ?_)));refine wS (sT (sT (sT (sT (sT (sT (wN ?_)))))));obtain rfl:=Ac.1 H;exact Ar ⟨.inr rfl,Fin.cl rfl⟩
def Kg(x:Pair):M Bool:=M.ok ((((x.a ==x.b)&&((x.b ==x.a)&&true))||(x.a ==3))||(x.b ==3))
theorem Nk{x:Pair}{r:Bool}(H:(Kg x).to r):Fn Tryz.prog 118 [.agg (Cb x)] (.lit (.bool r)):=by
 delta Kg at H;try dsimp only at H
 refine AE Tryz.func118 rfl (by kernel_rfl) rfl Tryz.ntmps118 fun C hC=>?_
 refine nS ?_;refine wS (sB (sT (wN ?_)));refine wS (sT (sT (sT (sT (sT ?_)))));refine sA (hq:=AK (rs:=[.lit (.int .i64 x.b),.lit (.int .i64 x.a)]) rfl CA rfl rfl) (ht:=(AA Oc)) ?_;refine sA (hq:=Ug (bs:=[true,true]) (vs:=[(.int .i64 x.a),(.int .i64 x.b)]) (ws:=[(.int .i64 x.b),(.int .i64 x.a)]) (by kernel_rfl) rfl Kw (AO Oy) rfl) (ht:=(AA LN)) ?_;refine sT ?_;refine sGf rfl ?_;refine sGf rfl ?_;refine sGf rfl (sT (sT ?_));refine sGf rfl ?_;refine sGf rfl ?_;refine sGf rfl (sT (sT (wN ?_)));obtain rfl:=Ac.1 H;exact Ar ⟨.inr rfl,Fin.cl rfl⟩
def Ig(y:Pair)(c0:Pair):M Bool:=M.ok ((!((y.a ==c0.a)&&((y.b ==c0.b)&&true)))&&(y.b ==c0.a))
theorem Lc{y:Pair}{c0:Pair}{r:Bool}(H:(Ig y c0).to r):Fn Tryz.prog 68 [.agg (Cb y),.bp AH c0 0] (.lit (.bool r)):=by
 delta Ig at H;try dsimp only at H
 refine AE Tryz.func68 rfl (by kernel_rfl) rfl Tryz.ntmps68 fun C hC=>?_
 refine nS ?_;refine wS (sB (sT (wN ?_)));refine wS (sT (sT ?_));refine sA (hq:=Ju (bs:=[true,true]) (vs:=[(.int .i64 y.a),(.int .i64 y.b)]) (ws:=[(.int .i64 c0.a),(.int .i64 c0.b)]) (by kernel_rfl) rfl NU L9 rfl) (ht:=Mx) ?_;refine sT ?_;refine sGt rfl ?_;refine sGt rfl ?_;refine sGt rfl ?_;refine sGt rfl ?_;refine sGt rfl (sT (sT (wN ?_)));obtain rfl:=Ac.1 H;exact Ar ⟨.inr rfl,Fin.cl rfl⟩
theorem Ad4{h:List ABlk}{a b:Bool}(e:a=b)(hm:mkD h= []:=by rfl):Fin h (.lit (.bool a)) (.lit (.bool b)):=by subst e;exact Fin.cl rfl hm
def Rx(p:Pair→Bool)(l:List Pair):Int:=match l.findIdx? p with|some i=>(i:Int)|none=> -1
theorem Afm{p:Pair→Bool}{l:List Pair}{k:Nat}(h:∀x∈l.take k,p x=false){x:Pair}(hx:l[k]? =some x)(hp:p x=true):Rx p l=(k:Int):=by
 have:l.findIdx? p=some k:=by
  rw[List.findIdx?_eq_some_iff_getElem];obtain⟨hk,e⟩:=List.getElem?_eq_some_iff.1 hx;refine⟨hk,by rw[e];exact hp,fun j hj=>?_⟩;have:=h (l[j]'(by omega)) (by
   rw[List.mem_take_iff_getElem];exact⟨j,by omega,rfl⟩)
  rw[this];simp
 unfold Rx;rw[this]
theorem Y8{p:Pair→Bool}{l:List Pair}(h:∀x∈l,p x=false):Rx p l= -1:=by
 have:l.findIdx? p=none:=by
  rw[List.findIdx?_eq_none_iff];exact h
 unfold Rx;rw[this]
theorem VB{p:Pair→Bool}{l:List Pair}{k:Nat}(h:∀x∈l.take k,p x=false){x:Pair}(hx:l[k]? =some x)(hp:p x=false):∀y∈l.take (k+1),p y=false:=by
 rw[List.take_add_one,hx];intro y hy;rcases List.mem_append.1 hy with hy|hy
 ·exact h y hy
 ·rw[List.mem_singleton.1 hy];exact hp
theorem Ace{p:Pair→Bool}{l:List Pair}:decide (Rx p l≥0)=l.any p:=by
 unfold Rx;cases h:l.findIdx? p with
 |none=>
  rw[List.findIdx?_eq_none_iff]at h;have:l.any p=false:=by rw[List.any_eq_false];intro x hx;rw[h x hx];simp
  rw[this];rfl
 |some i=>
  rw[List.findIdx?_eq_some_iff_getElem]at h;obtain⟨hi,hp,_⟩:=h;have:l.any p=true:=List.any_eq_true.2 ⟨_,List.getElem_mem hi,hp⟩;rw[this];exact decide_eq_true (by simp only;omega)
theorem TJ(l:List Pair)(hl:l.length≤2147483648)(f:FuncId)(caps:List AV)(hcl:Bt caps=true)(p:Pair→Bool)(hp:∀x∈l,Fn Tryz.prog f (.agg (Cb x)::caps) (.lit (.bool (p x)))):Fn Tryz.prog 66 [.bs AH l,.fn f caps] (.lit (.int .i64 (Rx p l))):=by
 have hcf:AV.cl (.fn f caps)=true:=by unfold AV.cl;exact hcl
 refine AE Tryz.func66 rfl (by kernel_rfl) rfl Tryz.ntmps66 fun C hC=>?_
 refine nS ?_;refine wR ?_;refine Ad fun K2 h2=>?_
 refine wR ?_;refine Ak ?_;refine AS (fun k:Nat=>⟨(.bs AH l::.fn f caps::A5 (.lit (.int .i64 (l.length:Int))::.lit (.int .i64 (k:Int))::A10 [])),[]⟩) (fun k=>k≤l.length∧∀x∈l.take k,p x=false) (fun k=>l.length - k) 0 ⟨Nat.zero_le _,by simp⟩ (Bd) ?_;rintro k ⟨hk,hno⟩;refine wR ?_;refine Ad fun K6 h6=>?_
 refine Aj rfl (fun hb7=>?_) (fun hb7=>?_)
 ·have hlt:k < l.length:=by simpa using hb7
  obtain⟨x,hx⟩:∃x,l[k]? =some x:=⟨_,List.getElem?_eq_getElem hlt⟩
  have hpx:=hp x (List.mem_of_getElem? hx);refine Am ?_;refine h6 _ ?_;refine nT ?_;refine Ad fun K8 h8=>?_
  refine Ak ?_;refine wR ?_;refine wR ?_;refine Aj rfl (fun hb11=>?_) (fun hb11=>?_)
  ·refine wR ?_;rw[Afm hno hx hb11];exact Ar ⟨.inr rfl,Fin.cl rfl⟩
  ·refine Am ?_;refine h8 _ ?_;refine nT ?_;refine wRE ?_;refine An ⟨k+1,⟨by omega,VB hno hx hb11⟩,by omega,Bd⟩
 ·refine AB ?_;refine h2 _ ?_;refine nT ?_;refine wR ?_;have hke:k=l.length:=by have:¬k < l.length:=(by simpa using hb7);omega
  rw[Y8 (by rw[hke,List.take_length]at hno;exact hno)];exact Ar ⟨.inr rfl,Fin.cl rfl⟩
theorem T8(l:List Pair)(hl:l.length≤2147483648)(f:FuncId)(caps:List AV)(hcl:Bt caps=true)(p:Pair→Bool)(hp:∀x∈l,Fn Tryz.prog f (.agg (Cb x)::caps) (.lit (.bool (p x)))):Fn Tryz.prog 58 [.bs AH l,.fn f caps] (.lit (.bool (l.any p))):=by
 have hcf:AV.cl (.fn f caps)=true:=by unfold AV.cl;exact hcl
 have hI:=TJ l hl f caps hcl p hp;refine AE Tryz.func58 rfl (by kernel_rfl) rfl Tryz.ntmps58 fun C hC=>?_
 refine nS ?_;refine wR ?_;refine wR (hx:=by((repeat(first|refine sA (hq:=AX.call rfl hI rfl (by show(true&&(AV.cl (.fn f caps)&&true))=true;rw[hcf];rfl) rfl) ?_|refine sA ?_|refine AW ?_|refine sAG ?_|refine BQ (hk:=?_)));exact Gq rfl)) (hk:=?_);exact Ar ⟨.inr rfl,Ad4 Ace⟩
theorem UY{h:List ABlk}{i:Nat}{x:Pair}(hi:h[i]? =some (.box (Cb x)))(ho:okPair x):P8 h (.ptr i 0) (.bp AH x 0):=
 .of (.box hi rfl fun _ _ _ _ _ _ hr=>Iu ho hr)
theorem Afu(left:List Pair)(hl:left.length≤2147483648)(x:Pair)(ho:okPair x):Fn Tryz.prog 67 [.agg (Cb x),.bp AH.slice left 0] (.lit (.bool (Qe left x))):=by
 have hAny:=T8 left hl 68 [.bp AH x 0] rfl (fun y=>neP y x&&decide (y.b=x.a)) fun y _=>by
  have h:=Lc (y:=y) (c0:=x) (Ae _);have e:((!((y.a ==x.a)&&((y.b ==x.b)&&true)))&&(y.b ==x.a))=(neP y x&&decide (y.b=x.a)):=by
   unfold neP;rw[Bool.and_true];rfl
  rw[e]at h;exact h
 refine AE Tryz.func67 rfl (by kernel_rfl) rfl Tryz.ntmps67 fun C hC=>?_
 refine nS ?_;refine wR (hx:=by((repeat(first|(refine Bu rfl (Vs 0 rfl rfl Vp.agg ?_);refine sNt ?_)|refine sA ?_|refine AW ?_|refine sAG ?_|refine BQ (hk:=?_)));exact Gq rfl)) (hk:=?_);refine wR (hx:=by((repeat(first|refine sA (hq:=C2 rfl hAny (.cons (.cl rfl) (.cons (.fn (.cons (UY rfl ho) .nil)) .nil))) (hk:=?_)|refine sA ?_|refine AW ?_|refine sAG ?_|refine BQ (hk:=?_)));exact Gq rfl)) (hk:=?_);exact Ar ⟨.inr rfl,Fin.cl rfl⟩
theorem Q7:∀(w w':World) (S S':Nat→Prop) (cs:List Value) (d:Pair),AH.RS w S cs d→AH.RS w' S' cs d:=fun _ _ _ _ _ _ h=>Eo.2 (Eo.1 h)
theorem Fc:∀(w:World) (S S':Nat→Prop) (cs:List Value) (d:Pair),AH.RS w S cs d→AH.RS w S' cs d:=fun _ _ _ _ _ h=>Eo.2 (Eo.1 h)
theorem JS{cells news:List Value}{off j:Nat}(h:off≤cells.length):(Jg cells off news)[j]? =if j < off then cells[j]? else if j < off+news.length then news[j - off]? else cells[j]?:=by
 unfold Jg;have h1:(cells.take off).length=off:=by rw[List.length_take];omega
 by_cases hj:j < off
 ·rw[if_pos hj,List.append_assoc,List.getElem?_append_left (by omega),List.getElem?_take_of_lt hj]
 ·rw[if_neg hj];by_cases hj2:j < off+news.length
  ·rw[if_pos hj2,List.getElem?_append_left (by rw[List.length_append];omega),List.getElem?_append_right (by omega),h1]
  ·rw[if_neg hj2,List.getElem?_append_right (by rw[List.length_append];omega),List.getElem?_drop,List.length_append,h1];congr 1;omega
theorem T3{A B:List Value}{m k sz:Nat}(h:∀q,q < sz→A[m * sz+q]? =B[k * sz+q]?):(A.drop (m * sz)).take sz=(B.drop (k * sz)).take sz:=by
 apply List.ext_getElem?;intro q;by_cases hq:q < sz
 ·rw[List.getElem?_take_of_lt hq,List.getElem?_take_of_lt hq,List.getElem?_drop,List.getElem?_drop,h q hq]
 ·rw[List.getElem?_eq_none (by rw[List.length_take];omega),List.getElem?_eq_none (by rw[List.length_take];omega)]
theorem Aeu{cells news:List Value}{l l':List Pair}{i:Nat}(hR:Xf AH cells l)(hi:i * 2≤cells.length)(hl:l'=l.take i):Xf AH (Jg cells (i * 2) news) l':=fun w S j d hj=>by
 subst hl;rw[List.getElem?_take]at hj;split at hj
 ·rename_i hji;have:=hR w S j d hj;have e:((Jg cells (i * 2) news).drop (j * AH.size)).take AH.size=(cells.drop (j * AH.size)).take AH.size:=T3 fun q hq=>by
   have hq:q < 2:=hq;show(Jg cells (i * 2) news)[j * 2+q]? =cells[j * 2+q]?;rw[JS hi,if_pos (by omega)]
  rw[e];exact this
 ·cases hj
theorem Yv{cells news:List Value}{l:List Pair}{i cap:Nat}(hR:Xf AH cells l)(hi:i < l.length)(hc:cells.length=cap * 2)(hle:l.length≤cap):
 Xf AH (Jg (Jg cells (i * 2) ((cells.drop ((i+1) * 2)).take ((l.length - (i+1)) * 2))) ((i+(l.length - (i+1))) * 2) news) (l.eraseIdx i):=fun w S j d hj=>by
 have hnl:((cells.drop ((i+1) * 2)).take ((l.length - (i+1)) * 2)).length=(l.length - (i+1)) * 2:=by rw[List.length_take,List.length_drop];omega
 have hpl:(Jg cells (i * 2) ((cells.drop ((i+1) * 2)).take ((l.length - (i+1)) * 2))).length=cells.length:=Iv (by rw[hnl];omega);have hjl:j < l.length - 1:=by
  have:=(List.getElem?_eq_some_iff.1 hj).1;rwa [List.length_eraseIdx_of_lt hi]at this
 rw[List.getElem?_eraseIdx]at hj;by_cases hji:j < i
 ·rw[if_pos hji]at hj;have e:((Jg (Jg cells (i * 2) ((cells.drop ((i+1) * 2)).take ((l.length - (i+1)) * 2))) ((i+(l.length - (i+1))) * 2) news).drop (j * AH.size)).take AH.size=(cells.drop (j * AH.size)).take AH.size:=T3 fun q hq=>by
   have hq:q < 2:=hq;show _[j * 2+q]? =cells[j * 2+q]?;rw[JS (by omega),if_pos (by omega),JS (by omega),if_pos (by omega)]
  rw[e];exact hR w S j d hj
 ·rw[if_neg hji]at hj;have e:((Jg (Jg cells (i * 2) ((cells.drop ((i+1) * 2)).take ((l.length - (i+1)) * 2))) ((i+(l.length - (i+1))) * 2) news).drop (j * AH.size)).take AH.size=(cells.drop ((j+1) * AH.size)).take AH.size:=T3 fun q hq=>by
   have hq:q < 2:=hq;show _[j * 2+q]? =cells[(j+1) * 2+q]?;rw[JS (by omega),if_pos (by omega),JS (by omega),if_neg (by omega),hnl,if_pos (by omega),List.getElem?_take_of_lt (by omega),List.getElem?_drop];congr 1;omega
  rw[e];exact hR w S (j+1) d hj
theorem Afx(l:List Pair)(i:Nat)(hi:i < l.length)(hl:l.length≤2147483648):LH Tryz.prog 69 57 AH l [.lit (.int .i64 (i:Int)),.lit (.int .i64 ((i+1:Nat):Int))] (l.eraseIdx i):=by
 refine Hf Tryz.func69 rfl (by kernel_rfl) rfl Tryz.ntmps69 Fc fun C=>?_
 refine nS ?_;refine LJ 0 rfl rfl (by intro e;rw[e]at hi;simp at hi) Q7 JU (fun v=>(.lit v::.lit (.int .i64 (i:Int))::.lit (.int .i64 ((i+1:Nat):Int))::A20 (A10 []))) (fun v=>(by(repeat(first|exact Opn.nil|refine Opn.own ?_|refine Opn.any ?_|refine Opn.keep rfl ?_)))) fun g cap cells hc hle hm hR h1=>?_
 have hc:cells.length=cap * 2:=hc;have h1:∀u∈cells.take (l.length * 2),u.oneCell'=true:=h1;have hnl:((cells.drop ((i+1) * 2)).take ((l.length - (i+1)) * 2)).length=(l.length - (i+1)) * 2:=by rw[List.length_take,List.length_drop];omega
 have hel:i+(l.length - (i+1))=(l.eraseIdx i).length:=by rw[List.length_eraseIdx_of_lt hi];omega
 refine wR ?_;refine wR (hx:=by((repeat(first|refine sA (hq:=Uf rfl rfl rfl rfl rfl (by omega) (by omega) hle) ?_|refine sA ?_|refine AW ?_|refine sAG ?_|refine BQ (hk:=?_)));exact Gq rfl)) (hk:=?_);refine Ad fun K3 h3=>?_
 refine wR ?_;refine Aj rfl (fun hb5=>?_) (fun hb5=>?_)
 ·have hb5:((i:Int) ==((i+1:Nat):Int))=true:=hb5;simp at hb5;omega
 ·refine Am ?_;refine h3 _ ?_;refine nT ?_;refine wR ?_;refine wD 6 (hq:=by((repeat(first|refine qA (hq:=Jt rfl rfl ⟨_,rfl⟩ (by omega)) ?_|refine qA (hq:=FL rfl rfl ⟨_,rfl⟩ rfl (by omega) hle) ?_|refine qA ?_|refine HF ?_|refine qAG (hk:=?_)));exact Ajp rfl)) (hx:=by((repeat(first|refine sA (hq:=Jt rfl rfl ⟨_,rfl⟩ (by omega)) ?_|refine sA (hq:=FL rfl rfl ⟨_,rfl⟩ rfl (by omega) hle) ?_|(refine Bu rfl (Xu (i:=0) rfl rfl rfl rfl hc h1 (by omega) hle (by omega) ?_);refine sNt ?_)|refine sA ?_|refine AW ?_|refine sAG ?_|refine BQ (hk:=?_)));exact Gq rfl)) (hk:=?_);refine wR (hx:=by((repeat(first|refine sA (hq:=FL rfl rfl ⟨_,rfl⟩ ⟨_,rfl⟩ (by omega) hle) ?_|(refine Bu rfl (OW (i:=0) (by decide) rfl rfl rfl ((Iv (by rw[hnl];omega)).trans hc) hle ?_);refine sNt ?_)|refine sA ?_|refine AW ?_|refine sAG ?_|refine BQ (hk:=?_)));exact Gq rfl)) (hk:=?_);refine wR ?_;have hRe:=Yv (news:=Qh Tryz.prog 57 (l.length - (i+(l.length - (i+1))))) hR hi hc hle;have hce:(Jg (Jg cells (i * 2) ((cells.drop ((i+1) * 2)).take ((l.length - (i+1)) * 2))) ((i+(l.length - (i+1))) * 2) (Qh Tryz.prog 57 (l.length - (i+(l.length - (i+1)))))).length=cap * AH.size:=by
   rw[Iv (by rw[Iv (by rw[hnl];omega),Qg (ty:=54)];omega),Iv (by rw[hnl];omega)];exact hc
  rw[hel]at hRe hce;rw[hel];refine A1 _ (IX 0 (ver:=1) (t':=(A6 (.own 0 1::A20 (A6 [])))) rfl rfl hce (by rw[←hel];omega) hm (by decide) hRe (by(try simp only[BH,List.set_cons_zero,List.set_cons_succ]);(repeat(first|exact Cls.nil|refine Cls.own ?_|refine Cls.any ?_|refine Cls.keep rfl ?_)))) ?_;exact Ar ⟨.inr rfl,0,1,rfl,rfl,rfl⟩
def kept(p:Pair→Bool)(l:List Pair)(j:Nat):List Pair:=(l.take j).filter fun x=>!p x
theorem GF{p:Pair→Bool}{l:List Pair}{j:Nat}{x:Pair}(hx:l[j]? =some x):kept p l (j+1)=if p x then kept p l j else kept p l j++[x]:=by
 unfold kept;rw[List.take_add_one,hx,List.filter_append];cases h:p x <;> simp[h]
structure DelI(p:Pair→Bool)(l:List Pair)(k0:Nat)(q:List Pair×Nat):Prop where
 len:q.1.length=l.length
 j:q.2≤l.length
 k0:k0 < q.2
 pre:q.1.take (kept p l q.2).length=kept p l q.2
 post:q.1.drop q.2=l.drop q.2
 lt:(kept p l q.2).length < q.2
theorem WJ{p:Pair→Bool}{l:List Pair}{k0:Nat}(hk:k0 < l.length)(hn:∀x∈l.take k0,p x=false){x:Pair}(hx:l[k0]? =some x)(hp:p x=true):DelI p l k0 (l,k0+1):=by
 have e:kept p l (k0+1)=l.take k0:=by
  rw[GF hx,if_pos hp];unfold kept;exact List.filter_eq_self.2 fun y hy=>by rw[hn y hy];rfl
 have hl:(l.take k0).length=k0:=by rw[List.length_take];omega
 exact⟨rfl,hk,Nat.lt_succ_self _,by rw[e,hl],rfl,by rw[e,hl];exact Nat.lt_succ_self _⟩
theorem ZF{p:Pair→Bool}{l:List Pair}{k0:Nat}{cur:List Pair}{j:Nat}(H:DelI p l k0 (cur,j)){x:Pair}(hx:l[j]? =some x)(hp:p x=true):DelI p l k0 (cur,j+1):=by
 have hj:=(List.getElem?_eq_some_iff.1 hx).1;have e:kept p l (j+1)=kept p l j:=by rw[GF hx,if_pos hp]
 have:=H.lt;have:=H.k0;refine⟨H.len,hj,by simp only at *;omega,by rw[e];exact H.pre,?_,by rw[e];simp only at *;omega⟩;have:=congrArg (List.drop 1) H.post;rw[List.drop_drop,List.drop_drop]at this;exact this
theorem ZG{p:Pair→Bool}{l:List Pair}{k0:Nat}{cur:List Pair}{j:Nat}(H:DelI p l k0 (cur,j)){x:Pair}(hx:l[j]? =some x)(hp:p x=false):DelI p l k0 (cur.set (kept p l j).length x,j+1):=by
 have hj:=(List.getElem?_eq_some_iff.1 hx).1;have e:kept p l (j+1)=kept p l j++[x]:=by rw[GF hx,if_neg (by rw[hp];simp)]
 have h1:(kept p l j).length < j:=H.lt;have h2:cur.length=l.length:=H.len;have h3:k0 < j:=H.k0;have h4:cur.take (kept p l j).length=kept p l j:=H.pre;have h5:cur.drop j=l.drop j:=H.post;refine⟨by simp[h2],hj,by simp only;omega,?_,?_,by rw[e,List.length_append];simp only[List.length_cons,List.length_nil];omega⟩
 ·simp only;rw[e,List.length_append,List.length_cons,List.length_nil,Nat.zero_add,List.take_add_one,List.getElem?_set_self (by omega),List.take_set_of_le (Nat.le_refl _),h4];rfl
 ·simp only;rw[List.drop_set_of_lt (by omega)];have:=congrArg (List.drop 1) h5;rw[List.drop_drop,List.drop_drop]at this;exact this
theorem Acs{p:Pair→Bool}{l:List Pair}{k0:Nat}{cur:List Pair}{j:Nat}(H:DelI p l k0 (cur,j)):cur[j]? =l[j]?:=by
 have:=congrArg (fun z=>z[0]?) H.post;simp only[List.getElem?_drop,Nat.add_zero]at this;exact this
theorem Y7{p:Pair→Bool}{l:List Pair}:(Rx p l= -1∧l.filter (fun x=>!p x)=l)∨∃(k:Nat) (x:Pair),Rx p l=(k:Int)∧k < l.length∧(∀y∈l.take k,p y=false)∧l[k]? =some x∧p x=true:=by
 unfold Rx;cases h:l.findIdx? p with
 |none=>
  rw[List.findIdx?_eq_none_iff]at h;exact .inl ⟨rfl,List.filter_eq_self.2 fun y hy=>by rw[h y hy];rfl⟩
 |some k=>
  obtain⟨h1,h2,h3⟩:=List.findIdx?_eq_some_iff_getElem.1 h;refine .inr ⟨k,l[k],rfl,h1,fun y hy=>?_,List.getElem?_eq_getElem h1,h2⟩;obtain⟨j,hj,rfl⟩:=List.mem_take_iff_getElem.1 hy;have:=h3 j (by omega);simpa using this
theorem Acn{h:List ABlk}{x:Pair}(ho:okPair x):Fit h AH (.agg (Cb x)) x:=Hh (enc:=Cb) fun _ _ _ _ H=>Iu ho H
theorem ZI(l:List Pair)(f:FuncId)(caps:List AV)(hcf:AV.cl (.fn f caps)=true)(p:Pair→Bool)(hI:Fn Tryz.prog 66 [.bs AH l,.fn f caps] (.lit (.int .i64 (-1)))):LH Tryz.prog 117 57 AH l [.fn f caps] l:=by
 refine Hf Tryz.func117 rfl (by kernel_rfl) rfl Tryz.ntmps117 Fc fun C=>?_
 refine nS ?_;refine wR ?_;refine wR (hx:=by((repeat(first|refine sA (hq:=C2 rfl hI (.cons (.own rfl) (.cons (.cl hcf) .nil))) ?_|refine sA ?_|refine AW ?_|refine sAG ?_|refine BQ (hk:=?_)));exact Gq rfl)) (hk:=?_);refine Ad fun K3 h3=>?_
 refine wR ?_;refine Aj rfl (fun hb5=>?_) (fun hb5=>?_)
 ·refine wR ?_;exact Ar ⟨.inr rfl,0,0,rfl,rfl,rfl⟩
 ·have hb5:((-1:Int) == -1)=false:=hb5;cases hb5
theorem ZH(l:List Pair)(hl:l.length≤2147483648)(hok:∀x∈l,okPair x)(f:FuncId)(caps:List AV)(hcl:Bt caps=true)(hcf:AV.cl (.fn f caps)=true)(p:Pair→Bool)(hp:∀x∈l,Fn Tryz.prog f (.agg (Cb x)::caps) (.lit (.bool (p x))))(k0:Nat)(x0:Pair)
 (hk0:k0 < l.length) (hno:∀y∈l.take k0,p y=false) (hx0:l[k0]? =some x0) (hp0:p x0=true) (hI:Fn Tryz.prog 66 [.bs AH l,.fn f caps] (.lit (.int .i64 (k0:Int)))):LH Tryz.prog 117 57 AH l [.fn f caps] (l.filter fun x=>!p x):=by
 refine Hf Tryz.func117 rfl (by kernel_rfl) rfl Tryz.ntmps117 Fc fun C=>?_
 refine nS ?_;refine wR ?_;refine wR (hx:=by((repeat(first|refine sA (hq:=C2 rfl hI (.cons (.own rfl) (.cons (.cl hcf) .nil))) ?_|refine sA ?_|refine AW ?_|refine sAG ?_|refine BQ (hk:=?_)));exact Gq rfl)) (hk:=?_);refine Ad fun K3 h3=>?_
 refine wR ?_;refine Aj rfl (fun hb5=>?_) (fun hb5=>?_)
 ·have hb5:((k0:Int) == -1)=true:=hb5;have:=eq_of_beq hb5;omega
 ·refine Am ?_;refine h3 _ ?_;refine nT ?_;refine Ad fun K8 h8=>?_
  refine wR ?_;refine Ak ?_;refine AS (fun q:List Pair×Nat=>⟨(.own 0 0::.fn f caps::A3 (.lit (.int .i64 ((kept p l q.2).length:Int))::.lit (.int .i64 (q.2:Int))::A20 (A10 (A5 [])))),[.row 0 57 AH q.1]⟩) (DelI p l k0) (fun q=>l.length - q.2) (l,k0+1) (WJ hk0 hno hx0 hp0) (by rw[show(kept p l (k0+1)).length=k0 from by rw[GF hx0,if_pos hp0];unfold kept;rw[List.filter_eq_self.2 fun y hy=>by rw[hno y hy];rfl,List.length_take];omega];exact Bd) ?_;rintro⟨cur,j⟩ H;have hcl':cur.length=l.length:=H.len;have hjl:j≤l.length:=H.j;have hkj:(kept p l j).length < j:=H.lt;dsimp only;refine Ad fun K11 h11=>?_
  refine wR ?_;refine Aj rfl (fun hb13=>?_) (fun hb13=>?_)
  ·have hlt:j < l.length:=by have:(j:Int) < (cur.length:Int):=of_decide_eq_true hb13;omega
   obtain⟨x,hx⟩:∃x,l[j]? =some x:=⟨_,List.getElem?_eq_getElem hlt⟩
   have hxc:cur[j]? =some x:=(Acs H).trans hx;have hpx:=hp x (List.mem_of_getElem? hx);have hox:=hok x (List.mem_of_getElem? hx);obtain⟨y,hy⟩:∃y,cur[(kept p l j).length]? =some y:=⟨_,List.getElem?_eq_getElem (by omega)⟩
   refine Am ?_;refine h11 _ ?_;refine nT ?_;refine Ad fun K14 h14=>?_
   refine Ak ?_;refine wR (hx:=by((repeat(first|refine sA (hq:=Gl rfl rfl rfl hxc rfl) ?_|refine sA ?_|refine AW ?_|refine sAG ?_|refine BQ (hk:=?_)));exact Gq rfl)) ?_;refine wR ?_;refine Aj rfl (fun hb17=>?_) (fun hb17=>?_)
   ·refine wR (hx:=by((repeat(first|(refine Bu rfl (Ku rfl rfl rfl hy (Acn hox) rfl ?_);refine sNt ?_)|refine sA ?_|refine AW ?_|refine sAG ?_|refine BQ (hk:=?_)));exact Gq rfl)) (hk:=?_);refine wRE ?_;refine h14 _ ?_;refine nT ?_;refine wRE ?_;have hpx':p x=false:=by have:(!p x)=true:=hb17;simpa using this
    refine An ⟨(cur.set (kept p l j).length x,j+1),ZG H hx hpx',by dsimp only;omega,?_⟩;dsimp only;have e:((kept p l (j+1)).length:Int)=((kept p l j).length:Int)+1:=by rw[GF hx,if_neg (by rw[hpx'];simp)];simp
    rw[e];exact leC (Cut.cons (Cut.nil _))
   ·refine Am ?_;refine h14 _ ?_;refine nT ?_;refine wRE ?_;have hpx':p x=true:=by have:(!p x)=false:=hb17;simpa using this
    refine An ⟨(cur,j+1),ZF H hx hpx',by dsimp only;omega,?_⟩;dsimp only;have e:((kept p l (j+1)).length:Int)=((kept p l j).length:Int):=by rw[GF hx,if_pos hpx']
    rw[e];exact leC (Cut.cons (Cut.nil _))
  ·refine AB ?_;refine h8 _ ?_;refine nT ?_;have hje:j=l.length:=by have:¬(j:Int) < (cur.length:Int):=of_decide_eq_false hb13;omega
   subst hje;have hpre:kept p l l.length=l.filter fun x=>!p x:=by unfold kept;rw[List.take_length]
   have hpt:=H.pre;simp only at hpt;rw[hpre]at hpt hkj⊢;generalize hF:(l.filter fun x=>!p x)=F at hpt hkj⊢;refine LJ 0 rfl rfl (by intro e;rw[e]at hcl';simp at hcl';omega) Q7 JU (fun v=>(.lit v::A4 (.lit (.int .i64 (F.length:Int))::A20 (A10 (A6 []))))) (fun v=>(by(repeat(first|exact Opn.nil|refine Opn.own ?_|refine Opn.any ?_|refine Opn.keep rfl ?_)))) fun g cap cells hc hle hm hR h1=>?_
   have hc:cells.length=cap * 2:=hc;refine wR (hx:=by((repeat(first|refine sA (hq:=FL rfl rfl ⟨_,rfl⟩ rfl (by omega) hle) ?_|(refine Bu rfl (OW (i:=0) (by decide) rfl rfl rfl hc hle ?_);refine sNt ?_)|refine sA ?_|refine AW ?_|refine sAG ?_|refine BQ (hk:=?_)));exact Gq rfl)) (hk:=?_);refine wR (hx:=by((repeat(first|refine sA (hq:=Jt rfl rfl ⟨_,rfl⟩ (by omega)) ?_|refine sA ?_|refine AW ?_|refine sAG ?_|refine BQ (hk:=?_)));exact Gq rfl)) (hk:=?_);have hRe:=Aeu (news:=Qh Tryz.prog 57 (cur.length - F.length)) hR (i:=F.length) (by omega) hpt.symm;have hce:(Jg cells (F.length * 2) (Qh Tryz.prog 57 (cur.length - F.length))).length=cap * AH.size:=by
    rw[Iv (by rw[Qg (ty:=54)];omega)];exact hc
   refine A1 _ (IX 0 (ver:=1) (t':=(A4 (.own 0 1::A20 (A10 (A7 []))))) rfl rfl hce (by omega) hm (by decide) hRe (by(try simp only[BH,List.set_cons_zero,List.set_cons_succ]);(repeat(first|exact Cls.nil|refine Cls.own ?_|refine Cls.any ?_|refine Cls.keep rfl ?_)))) ?_;exact Ar ⟨.inr rfl,0,1,rfl,rfl,rfl⟩
theorem Afy(l:List Pair)(hl:l.length≤2147483648)(hok:∀x∈l,okPair x)(f:FuncId)(caps:List AV)(hcl:Bt caps=true)(p:Pair→Bool)(hp:∀x∈l,Fn Tryz.prog f (.agg (Cb x)::caps) (.lit (.bool (p x)))):LH Tryz.prog 117 57 AH l [.fn f caps] (l.filter fun x=>!p x):=by
 have hcf:AV.cl (.fn f caps)=true:=by unfold AV.cl;exact hcl
 have hI:=TJ l hl f caps hcl p hp;rcases Y7 (p:=p) (l:=l)with⟨e1,e2⟩|⟨k0,x0,e1,hk0,hno,hx0,hp0⟩
 ·rw[e1]at hI;rw[e2];exact ZI l f caps hcf p hI
 ·rw[e1]at hI;exact ZH l hl hok f caps hcl hcf p hp k0 x0 hk0 hno hx0 hp0 hI
instance Aj0:ZC Tryz.prog 54 [.slice none 0 0]:=⟨by kernel_rfl⟩
theorem Ah9{w:World}{S:Nat→Prop}{h:List ABlk}{ψ:Nat→Value}{f:FuncId}{v:Value}(H:AV.rel w S h ψ (.lit (.func (.func f) #[] #[])) v):AV.rel w S h ψ (.fn f []) v:=by
 unfold AV.rel at H⊢;exact⟨[],H,by unfold Ah;rfl⟩
theorem Uj{P:Program}{F:FuncId}{e:TypeId}{α:Type}{T:Ty α}{l l':List α}{f:FuncId}(H:LH P F e T l [.fn f []] l'):LH P F e T l [.lit (.func (.func f) #[] #[])] l':=
 ⟨H.1,fun N S w v vs hN hS hB hr=>H.2 N S w v vs hN hS hB (by
  unfold Ah at hr⊢;obtain⟨u,us,e,h1,h2⟩:=hr;refine⟨u,us,e,Ah9 h1,?_⟩;unfold Ah at h2⊢;exact h2)⟩
theorem RH{l:List Pair}(hok:∀x∈l,okPair x)(seen:List Pair):∀x∈CR seen l,okPair x:=fun x hx=>hok x (Iz hx).1
theorem JK{l:List Pair}(hok:∀x∈l,okPair x):∀x∈DR l,okPair x:=fun x hx=>RH hok [] x (List.mem_filter.1 hx).1
theorem Nd{l:List Pair}{k:Nat}{x:Pair}(hx:l[k]? =some x):CR [] (l.take (k+1))=CR [] (l.take k)++(if(l.take k).any (fun y=>decide (y.a=x.a))then []else [x]):=by
 rw[List.take_add_one,hx];have:=TP (l.take k) x [];simpa using this
theorem VM(l:List Pair)(hl:l.length≤2100000)(hok:∀x∈l,okPair x):NE Tryz.prog 65 [.bs AH l] 57 AH (DR l):=by
 have hD:=Uj (Afy (CR [] l) (by have:=GG l [];omega) (RH hok []) 118 [] rfl (fun x=>!NT x) fun x _=>by
  have h:=Nk (x:=x) (Ae _);have e:((((x.a ==x.b)&&((x.b ==x.a)&&true))||(x.a ==3))||(x.b ==3))=(!NT x):=by
   unfold NT;rw[Bool.not_not,Bool.and_true];congr 1;congr 1;by_cases h:x.a=x.b
   ·simp[h]
   ·simp[h]
  rw[e]at h;exact h)
 have eD:((CR [] l).filter fun x=>!!NT x)=DR l:=by
  unfold DR;congr 1;funext x;exact Bool.not_not _
 rw[eD]at hD;refine Im Tryz.func65 rfl (by kernel_rfl) rfl Tryz.ntmps65 Fc fun C hC=>?_
 refine nS ?_;refine wR ?_;refine wR ?_;refine A1 _ (CS 3 57 AH rfl (by decide)) ?_;refine Ad fun K3 h3=>?_
 refine wR ?_;refine Ak ?_;refine AS (fun q:Nat×Nat=>⟨(.bs AH l::A2 (.own 0 q.2::A2 (.bs AH l::.lit (.int .i64 (l.length:Int))::.lit (.int .i64 (q.1:Int))::A10 (A7 [])))),[.row q.2 57 AH (CR [] (l.take q.1))]⟩) (fun q=>q.1≤l.length) (fun q=>l.length - q.1) (0,0) (Nat.zero_le _) (Bd) ?_;rintro⟨k,ver⟩ hk;dsimp only at hk⊢;refine wR ?_;refine Ad fun K7 h7=>?_
 refine Aj rfl (fun hb8=>?_) (fun hb8=>?_)
 ·have hlt:k < l.length:=by simpa using hb8
  obtain⟨x,hx⟩:∃x,l[k]? =some x:=⟨_,List.getElem?_eq_getElem hlt⟩
  have hox:=hok x (List.mem_of_getElem? hx);have hAny:=T8 (l.take k) (by rw[List.length_take];omega) 116 [.bp AH x 0] rfl (fun y=>decide (y.a=x.a)) fun y _=>by
   have h:=Nl (y:=y) (c0:=x) (Ae _);exact h
  have hfl:=GG (l.take k) [];rw[List.length_take]at hfl;have hft:=Nd hx;generalize hF0:CR [] (l.take k)=F0 at hfl hft⊢;refine Am ?_;refine h7 _ ?_;refine nT ?_;refine Ad fun K9 h9=>?_
  refine Ak ?_;refine wR ?_;refine wR (hx:=by((repeat(first|refine sA (hq:=Kq (l:=0) (m:=k) rfl rfl rfl rfl ⟨_,rfl⟩ (Nat.zero_le _) (by omega)) ?_|refine sA (hq:=C2 rfl hAny (.cons (.cl rfl) (.cons (.fn (.cons (UY rfl hox) .nil)) .nil))) (hk:=?_)|refine sA ?_|refine AW ?_|refine sAG ?_|refine BQ (hk:=?_)));exact Gq rfl)) (hk:=?_);refine Aj rfl (fun hb12=>?_) (fun hb12=>?_)
  ·have hb12':(l.take k).any (fun y=>decide (y.a=x.a))=false:=by have:(!(l.take k).any (fun y=>decide (y.a=x.a)))=true:=hb12;simpa using this
   rw[hb12',if_neg (by simp)]at hft;have hm1:F0.length+ [x].length≤maxLen:=by unfold maxLen;simp only[List.length_cons,List.length_nil];omega
   have hm2:(F0.length+ [x].length) * 16≤140737488355328:=by simp only[List.length_cons,List.length_nil];omega
   refine wRE (hx:=by((repeat(first|refine sA (hq:=Ek (T:=AH) (d:=x) rfl rfl rfl (by rfl) (by decide) (Acn hox)) ?_|refine sA ?_|refine AW ?_|refine sAG ?_|refine BQ (hk:=?_)));exact Gq rfl)) (hk:=?_);refine h9 _ ?_;refine nT ?_;refine wRE ?_;refine An ⟨(k+1,ver+1),by dsimp only;omega,by dsimp only;omega,?_⟩;dsimp only;rw[hft];exact leC (Cut.cons (Cut.nil _))
  ·have hb12':(l.take k).any (fun y=>decide (y.a=x.a))=true:=by have:(!(l.take k).any (fun y=>decide (y.a=x.a)))=false:=hb12;simpa using this
   rw[hb12',if_pos rfl,List.append_nil]at hft;refine Am ?_;refine h9 _ ?_;refine nT ?_;refine wRE ?_;refine An ⟨(k+1,ver),by dsimp only;omega,by dsimp only;omega,?_⟩;dsimp only;rw[hft];exact leC (Cut.cons (Cut.nil _))
 ·refine AB ?_;refine h3 _ ?_;refine nT ?_;have hke:k=l.length:=by have:¬k < l.length:=(by simpa using hb8);omega
  rw[hke,List.take_length];refine wR (hx:=by((repeat(first|(refine Bu rfl (LK (i:=0) (more:=[.func 118]) rfl rfl hD rfl rfl rfl rfl ?_);refine sNt ?_)|refine sA ?_|refine AW ?_|refine sAG ?_|refine BQ (hk:=?_)));exact Gq rfl)) (hk:=?_);exact Ar ⟨.inr rfl,rfl,0,ver+1,rfl,rfl⟩
theorem Akx{h:List ABlk}{d:Pair}{v:Int}(hv:wfI .i64 v):Vo h AH d 1 (.lit (.int .i64 v)) 1 ⟨d.a,v⟩:=fun C S ψ w u cs H hu hcs=>by
 unfold AV.rel at hu;subst hu;obtain⟨rfl,h0,h1⟩:=Eo.1 hcs;exact⟨rfl,by decide,fun u hu=>by
  have:u= .int .i64 v:=by simpa[Value.cells]using hu
  subst this;rfl,Eo.2 ⟨rfl,h0,hv⟩⟩
theorem Agj{P:Program}{C:Ctx}{t:List AV}{h:List ABlk}{o:Oper}{K:St→Prop}{ty:TypeId}{x y:Operand}{i ver k:Nat}{e:TypeId}{l:List Pair}{d:Pair}{v:Int}[SZ P ty 1](ho:o.op= .store ty x y)(hx:evA t x= .rp i ver k 1)(hy:evA t y= .lit (.int .i64 v))(hi:h[i]? =some (.row ver e AH l))(hk:l[k]? =some d)(hv:wfI .i64 v)
 (hK:K ⟨BH t o.dst (.lit undef),h.set i (.row ver e AH (l.set k ⟨d.a,v⟩))⟩):AOp P C o ⟨t,h⟩ K:=
 Iq (s:=⟨t,h⟩) ho hx hi hk (by rw[show evA (St.mk t h).t y=_ from hy];exact Akx hv) SZ.eq hK
theorem Ac5{n:Nat}{left rr:List Pair}(H:AtO n left rr)(hne:left≠[]):
 (Rx (Qe left) left≥0→∃(n' k:Nat) (x:Pair) (r':List Pair),n=n'+1∧Rx (Qe left) left=(k:Int)∧left[k]? =some x∧rr=x::r'∧AtO n' (left.eraseIdx k) r')∧
 (¬Rx (Qe left) left≥0→∃(n':Nat) (y:Pair) (l r':List Pair),n=n'+1∧left=y::l∧rr=⟨3,y.a⟩::r'∧AtO n' (unblock left y.a) r'):=by
 cases H with
 |nil=>exact absurd rfl hne
 |@out n k left r x h1 h2 h3=>
  have e:Rx (Qe left) left=(k:Int):=by unfold Rx;rw[h1]
  exact⟨fun _=>⟨n,k,x,r,rfl,e,h2,rfl,h3⟩,fun h=>absurd (by rw[e];omega) h⟩
 |@via n y l r h1 h3=>
  have e:Rx (Qe (y::l)) (y::l)= -1:=by unfold Rx;rw[h1]
  exact⟨fun h=>by rw[e]at h;omega,fun _=>⟨n,y,l,r,rfl,rfl,rfl,h3⟩⟩
def ubk(left:List Pair)(p:Int)(k:Nat):List Pair:=unblock (left.take k) p++left.drop k
theorem XM{left:List Pair}{p:Int}{k:Nat}(hk:k < left.length):(ubk left p k)[k]? =left[k]?:=by
 unfold ubk;have hl:(unblock (left.take k) p).length=k:=by rw[Dr,List.length_take];omega
 rw[List.getElem?_append_right (by omega),hl,Nat.sub_self,List.getElem?_drop,Nat.add_zero]
theorem Ut{left:List Pair}{p:Int}{k:Nat}{x:Pair}(hx:left[k]? =some x):ubk left p (k+1)=if x.b=p then(ubk left p k).set k ⟨x.a,3⟩else ubk left p k:=by
 have hk:=(List.getElem?_eq_some_iff.1 hx).1;have hl:(unblock (left.take k) p).length=k:=by rw[Dr,List.length_take];omega
 have hd:left.drop k=x::left.drop (k+1):=by
  rw[List.drop_eq_getElem_cons hk];congr 1;rw[List.getElem?_eq_getElem hk]at hx;exact Option.some.inj hx
 have e:ubk left p (k+1)=unblock (left.take k) p++(if x.b=p then(⟨x.a,3⟩:Pair)else x)::left.drop (k+1):=by
  unfold ubk unblock;rw[List.take_add_one,hx];simp
 rw[e];unfold ubk;rw[hd];split
 ·rw[List.set_append_right _ _ (by omega),hl,Nat.sub_self];rfl
 ·rfl
theorem XL(left:List Pair)(p:Int)(k:Nat):(ubk left p k).length=left.length:=by
 unfold ubk;rw[List.length_append,Dr,List.length_take,List.length_drop];omega
theorem XN(left:List Pair)(p:Int):ubk left p left.length=unblock left p:=by
 unfold ubk;rw[List.take_length,List.drop_length,List.append_nil]
theorem KA{left:List Pair}(hok:∀x∈left,okPair x)(p:Int):∀x∈unblock left p,okPair x:=fun x hx=>by
 unfold unblock at hx;obtain⟨y,hy,rfl⟩:=List.mem_map.1 hx;split
 ·exact⟨(hok y hy).a,(rfl:wfI .i64 3)⟩
 ·exact hok y hy
structure AtI(r:List Pair)(q:Nat×List Pair×List Pair×List Pair×Nat×Nat):Prop where
 at_:AtO q.1 q.2.1 q.2.2.1
 out:q.2.2.2.1++q.2.2.1=r
 len:q.2.1.length≤2100000
 ok:∀x∈q.2.1,okPair x
theorem ZZ(l:List Pair)(hl:l.length≤2100000)(hok:∀x∈l,okPair x)(n:Nat)(r:List Pair)(hr:r.length≤10000000)(hA:AtO n (DR l) r):Fn Tryz.prog 30 [.bs AH l] (.bs AH r):=by
 have hS:=VM l hl hok;have hsl:=KD l;refine AE Tryz.func30 rfl (by kernel_rfl) rfl Tryz.ntmps30 fun C hC=>?_
 refine nS ?_;refine wR ?_;refine wR (hx:=by((repeat(first|(refine Bu rfl (Jz rfl hS (by decide) rfl rfl ?_);refine sNt ?_)|(refine Bu rfl (DO (new:=[.own 0 0]) rfl rfl rfl (Sx.one (One.own rfl)) rfl (Nat.le_of_ble_eq_true rfl) ?_);refine sNt ?_)|refine sA ?_|refine AW ?_|refine sAG ?_|refine BQ (hk:=?_)));exact Gq rfl)) (hk:=?_);refine wR ?_;refine A1 _ (CS 4 57 AH rfl (by decide)) ?_;refine Ad fun K4 h4=>?_
 refine Ak ?_;refine AS (fun q:Nat×List Pair×List Pair×List Pair×Nat×Nat=>⟨(A3 (.ptr 1 0::.own 2 q.2.2.2.2.2::A40 (A10 (A2 [])))),[.row q.2.2.2.2.1 57 AH q.2.1,.box [.own 0 q.2.2.2.2.1],.row q.2.2.2.2.2 57 AH q.2.2.2.1]⟩) (AtI r) (fun q=>q.1) (n,DR l,r,[],0,0) ⟨hA,rfl,by dsimp only;omega,JK hok⟩ (Bd) ?_;rintro⟨n,left,rr,out,v0,v2⟩ ⟨hAt,hout,hlen,hokl⟩;dsimp only at hAt hout hlen hokl⊢;refine Ad fun K6 h6=>?_
 refine wR ?_;refine Aj rfl (fun hb8=>?_) (fun hb8=>?_)
 ·have hne:left≠[]:=by
   intro e;have:(left.length:Int) > 0:=of_decide_eq_true hb8;rw[e]at this;simp at this
  obtain⟨st1,st2⟩:=Ac5 hAt hne;have hI:=TJ left (by omega) 67 [.bp AH.slice left 0] rfl (Qe left) fun x hx=>Afu left (by omega) x (hokl x hx)
  refine Am ?_;refine h6 _ ?_;refine nT ?_;refine Ak ?_;refine wR (hx:=by((repeat(first|refine sA (hq:=C2 rfl hI (.cons (.own rfl) (.cons (.fn (.cons (.boxO rfl rfl rfl) .nil)) .nil))) (hk:=?_)|refine sA ?_|refine AW ?_|refine sAG ?_|refine BQ (hk:=?_)));exact Gq rfl)) (hk:=?_);refine Ad fun K10 h10=>?_
  refine wR ?_;refine Aj rfl (fun hb12=>?_) (fun hb12=>?_)
  ·obtain⟨n',k,x,r',rfl,hik,hx,rfl,hAt'⟩:=st1 (of_decide_eq_true hb12);have hkl:=(List.getElem?_eq_some_iff.1 hx).1;have hox:=hokl x (List.mem_of_getElem? hx);have hDel:=Afx left k hkl (by omega);have hol:out.length+(x::r').length=r.length:=by rw[←hout,List.length_append]
   have hm1:out.length+ [x].length≤maxLen:=by unfold maxLen;simp only[List.length_cons,List.length_nil]at hol⊢;omega
   have hm2:(out.length+ [x].length) * 16≤140737488355328:=by simp only[List.length_cons,List.length_nil]at hol⊢;omega
   rw[hik];refine wR (hx:=by((repeat(first|refine sA (hq:=Gl rfl rfl rfl hx rfl) ?_|refine sA (hq:=Ek (T:=AH) (d:=x) rfl rfl rfl (by rfl) (by decide) (Acn hox)) ?_|refine sA ?_|refine AW ?_|refine sAG ?_|refine BQ (hk:=?_)));exact Gq rfl)) (hk:=?_);refine wR (hx:=by((repeat(first|(refine Bu rfl (LK (i:=0) (more:=[.tmp 26,.tmp 28]) rfl rfl hDel rfl rfl rfl rfl ?_);refine sNt ?_)|(refine Bu rfl (DO (new:=[.own 0 (v0+1)]) rfl rfl rfl (Sx.one (One.own rfl)) rfl (Nat.le_of_ble_eq_true rfl) ?_);refine sNt ?_)|refine sA ?_|refine AW ?_|refine sAG ?_|refine BQ (hk:=?_)));exact Gq rfl)) (hk:=?_);refine AB ?_;repeat(first|refine BM ?_|refine exO (by decide) ?_|refine asE ?_)
   refine exN ?_;repeat(first|refine abN ?_|refine asN ?_)
   refine An ⟨(n',left.eraseIdx k,r',out++[x],v0+1,v2+1),⟨hAt',by dsimp only;rw[←hout];simp,by dsimp only;rw[List.length_eraseIdx_of_lt hkl];omega,fun y hy=>hokl y ((List.eraseIdx_sublist left k).subset hy)⟩,Nat.lt_succ_self _,?_⟩;exact Bd
  ·obtain⟨n',y,l',r',rfl,rfl,rfl,hAt'⟩:=st2 (of_decide_eq_false hb12);have hy0:(y::l')[0]? =some y:=rfl;have hoy:=hokl y (by simp);have hya:=hoy.a;have hfy:∀h,Fit h AH (.agg [.lit (.int .i64 3),.lit (.int .i64 y.a)]) (⟨3,y.a⟩:Pair):=fun h=>Acn (x:=⟨3,y.a⟩) ⟨(rfl:wfI .i64 3),hya⟩
   have hol:out.length+((⟨3,y.a⟩:Pair)::r').length=r.length:=by rw[←hout,List.length_append]
   have hm1:out.length+ [(⟨3,y.a⟩:Pair)].length≤maxLen:=by unfold maxLen;simp only[List.length_cons,List.length_nil]at hol⊢;omega
   have hm2:(out.length+ [(⟨3,y.a⟩:Pair)].length) * 16≤140737488355328:=by simp only[List.length_cons,List.length_nil]at hol⊢;omega
   refine Am ?_;refine h10 _ ?_;refine nT ?_;refine wR (hx:=by((repeat(first|refine sA (hq:=Ex rfl rfl rfl rfl rfl (by decide) (by simp)) ?_|refine sA (hq:=Cp rfl rfl rfl (show(y::l')[Int.toNat 0]? =some y from rfl) rfl) ?_|refine sA ?_|refine AW ?_|refine sAG ?_|refine BQ (hk:=?_)));exact Gq rfl)) (hk:=?_);refine wR (hx:=by((repeat(first|refine sA (hq:=AK (rs:=[.lit (.int .i64 3),.lit (.int .i64 y.a)]) rfl CA rfl rfl) ?_|refine sA (hq:=Ek (T:=AH) (d:=⟨3,y.a⟩) rfl rfl rfl (by rfl) (by decide) (hfy _)) ?_|refine sA ?_|refine AW ?_|refine sAG ?_|refine BQ (hk:=?_)));exact Gq rfl)) (hk:=?_);refine wR ?_;generalize hL:y::l'=left at *;refine Ak ?_;refine AS (fun k:Nat=>⟨(A3 (.ptr 1 0::.own 2 (v2+1)::.any::.lit (.int .i64 y.a)::A20 (A10 (A3 (.lit (.int .i64 (left.length:Int))::.lit (.int .i64 (k:Int))::A10 (A5 [])))))),[.row v0 57 AH (ubk left y.a k),.box [.own 0 v0],.row (v2+1) 57 AH (out++[⟨3,y.a⟩])]⟩) (fun k=>k≤left.length) (fun k=>left.length - k) 0 (Nat.zero_le _) (Bd) ?_;intro k hk;refine wR ?_;refine Ad fun K20 h20=>?_
   refine Aj rfl (fun hb21=>?_) (fun hb21=>?_)
   ·have hlt:k < left.length:=by simpa using hb21
    obtain⟨x,hx⟩:∃x,left[k]? =some x:=⟨_,List.getElem?_eq_getElem hlt⟩
    have hxu:=(XM (p:=y.a) hlt).trans hx;have hul:=XL left y.a k;have hun:=Ut (p:=y.a) hx;refine Am ?_;refine h20 _ ?_;refine nT ?_;refine Ad fun K22 h22=>?_
    refine Ak ?_;refine wR ?_;refine wR ?_;refine Aj rfl (fun hb25=>?_) (fun hb25=>?_)
    ·have hxb:x.b=y.a:=by have:(x.b ==y.a)=true:=hb25;exact eq_of_beq this
     rw[if_pos hxb]at hun;refine wRE (hx:=by((repeat(first|(refine Bu rfl (Agj rfl rfl rfl rfl hxu rfl ?_);refine sNt ?_)|refine sA ?_|refine AW ?_|refine sAG ?_|refine BQ (hk:=?_)));exact Gq rfl)) (hk:=?_);refine h22 _ ?_;refine nT ?_;refine wRE ?_;refine An ⟨k+1,by omega,by omega,?_⟩;rw[hun];exact Bd
    ·have hxb:¬x.b=y.a:=by have:(x.b ==y.a)=false:=hb25;exact fun e=>by rw[e]at this;simp at this
     rw[if_neg hxb]at hun;refine Am ?_;refine h22 _ ?_;refine nT ?_;refine wRE ?_;refine An ⟨k+1,by omega,by omega,?_⟩;rw[hun];exact Bd
   ·refine AB ?_;have hke:k=left.length:=by have:¬k < left.length:=(by simpa using hb21);omega
    rw[hke,XN];repeat(first|refine BM ?_|refine exO (by decide) ?_|refine asE ?_)
    refine exN ?_;repeat(first|refine abN ?_|refine asN ?_)
    refine An ⟨(n',unblock left y.a,r',out++[⟨3,y.a⟩],v0,v2+1),⟨hAt',by dsimp only;rw[←hout];simp,by dsimp only;rw[Dr];exact hlen,KA hokl y.a⟩,Nat.lt_succ_self _,?_⟩;exact Bd
 ·refine AB ?_;refine h4 _ ?_;refine nT ?_;have hnil:left= []:=by
   have:¬(left.length:Int) > 0:=of_decide_eq_false hb8;exact List.eq_nil_of_length_eq_zero (by omega)
  subst hnil;have hrr:rr= []:=by
   cases hAt with
   |nil=>rfl
   |out h1 h2 h3=>simp at h2
  subst hrr;rw[List.append_nil]at hout;subst hout;refine wR ?_;exact Ar ⟨.inr rfl,Fin.own rfl⟩
def Fq(l:List Pair)(not:Int)(place:Int):Int→M (Int⊕((Unit)⊕(Bool))):=fun i1=>M.cnd (decide (i1 < (l.length:Int))) (M.chk (!(i1 !=not)||(BN l i1)) (M.cnd ((i1 !=not)&&(((ixD l i1).b) ==place)) (M.ok (.inr (.inr true))) (M.ok (.inl (IntKind.i64.wrap (i1+1)))))) (M.ok (.inr (.inl ())))
def LX(l:List Pair)(not:Int)(place:Int):M Bool:=M.els (M.loop (Fq l not place) 0) fun _=>M.ok false
theorem VW{l:List Pair}{not:Int}{place:Int}{r:Bool}(H:(LX l not place).to r):Fn Tryz.prog 135 [.bs AH l,.lit (.int .i64 not),.lit (.int .i64 place)] (.lit (.bool r)):=by
 delta LX at H;try dsimp only at H
 refine AE Tryz.func135 rfl (by kernel_rfl) rfl Tryz.ntmps135 fun C hC=>?_
 refine nS ?_;refine wS (sT (wN ?_));obtain⟨z2,HX2,Hl2,Hq2⟩:=Cc H;refine Bn (β:=(Unit)×(Unit)) (fun q2=>z2= .inl q2.1) (fun q2=>⟨A20 (A6 []),[]⟩) ?_ ?_
 ·refine wS (sT (wN ?_));refine Ak ?_;refine Bv HX2 (fun s2 b2=>⟨.bs AH l::.lit (.int .i64 not)::.lit (.int .i64 place)::A4 (.lit (.int .i64 s2)::A10 (A8 [])),[]⟩) () (?_) ?_
  ·try dsimp only
   exact Bd
  ·rintro i1 _ x2 H Hr2;try dsimp only
   dsimp only[Fq]at H;refine Ad fun Khs3 hs3=>?_
   refine wS (sT (sT (sT (sT (wN ?_)))));refine Aj rfl (fun hb4=>?_) (fun hb4=>?_)
   ·have H:=Au hb4 H;refine Am ?_;refine hs3 _ ?_;refine nT ?_;refine Ad fun Khs5 hs5=>?_
    refine Ak ?_;obtain⟨c6,H⟩:=Ab.1 H;refine wS (sT (sT (sT (sT ?_))));refine sGt rfl ?_;refine sGt rfl ?_;refine Adp rfl c6 ?_;refine sGt rfl ?_;refine sGt rfl ?_;refine sGt rfl ?_;refine sGt rfl (sT (wN ?_));refine Aj rfl (fun hb7=>?_) (fun hb7=>?_)
    ·have H:=Au hb7 H;refine wS (sT (wN ?_));have H:=Ac.2 (Hq2 _ (Hr2 _ (Ac.1 H).symm).symm);obtain rfl:=Ac.1 H;exact Ar ⟨.inr rfl,Fin.cl rfl⟩
    ·have H:=Av hb7 H;refine Am ?_;refine hs5 _ ?_;refine nT ?_;refine wSE (sT (sT (sT (wN ?_))));have e2:=Ac.1 H;repeat(first|refine abN ?_|refine asN ?_)
     refine An ⟨_,(),e2.symm,?_⟩;try dsimp only
     exact Bd
   ·have H:=Av hb4 H;refine AB ?_;repeat(first|refine BM ?_|refine exO (by decide) ?_|refine asE ?_)
    refine exN ?_;have e2:=Hr2 _ (Ac.1 H).symm;repeat(first|refine abN ?_|refine asN ?_)
    refine An ⟨(_,()),e2.symm,?_⟩;try dsimp only
    exact Bd
 ·rintro⟨_,_⟩ hz2;try dsimp only at hz2
  have H:=Hl2 _ hz2;try dsimp only
  refine wS (sT (wN ?_));obtain rfl:=Ac.1 H;exact Ar ⟨.inr rfl,Fin.cl rfl⟩
def Fp(l:List Pair)(place:Int):Int→M (Int⊕((Unit)⊕(Bool))):=fun i1=>M.cnd (decide (i1 < (l.length:Int))) (M.chk (BN l i1) (M.cnd (((ixD l i1).a) ==place) (M.ok (.inr (.inr true))) (M.ok (.inl (IntKind.i64.wrap (i1+1)))))) (M.ok (.inr (.inl ())))
def LW(l:List Pair)(place:Int):M Bool:=M.els (M.loop (Fp l place) 0) fun _=>M.ok false
theorem VV{l:List Pair}{place:Int}{r:Bool}(H:(LW l place).to r):Fn Tryz.prog 134 [.bs AH l,.lit (.int .i64 place)] (.lit (.bool r)):=by
 delta LW at H;try dsimp only at H
 refine AE Tryz.func134 rfl (by kernel_rfl) rfl Tryz.ntmps134 fun C hC=>?_
 refine nS ?_;refine wS (sT (wN ?_));obtain⟨z2,HX2,Hl2,Hq2⟩:=Cc H;refine Bn (β:=(Unit)×(Unit)) (fun q2=>z2= .inl q2.1) (fun q2=>⟨A10 (A9 []),[]⟩) ?_ ?_
 ·refine wS (sT (wN ?_));refine Ak ?_;refine Bv HX2 (fun s2 b2=>⟨.bs AH l::.lit (.int .i64 place)::A3 (.lit (.int .i64 s2)::A10 (A3 [])),[]⟩) () (?_) ?_
  ·try dsimp only
   exact Bd
  ·rintro i1 _ x2 H Hr2;try dsimp only
   dsimp only[Fp]at H;refine Ad fun Khs3 hs3=>?_
   refine wS (sT (sT (sT (sT (wN ?_)))));refine Aj rfl (fun hb4=>?_) (fun hb4=>?_)
   ·have H:=Au hb4 H;refine Am ?_;refine hs3 _ ?_;refine nT ?_;refine Ad fun Khs5 hs5=>?_
    refine Ak ?_;obtain⟨c6,H⟩:=Ab.1 H;refine wS (sT (sT (sX c6 (sT (sT (sT (sT (wN ?_))))))));refine Aj rfl (fun hb7=>?_) (fun hb7=>?_)
    ·have H:=Au hb7 H;refine wS (sT (wN ?_));have H:=Ac.2 (Hq2 _ (Hr2 _ (Ac.1 H).symm).symm);obtain rfl:=Ac.1 H;exact Ar ⟨.inr rfl,Fin.cl rfl⟩
    ·have H:=Av hb7 H;refine Am ?_;refine hs5 _ ?_;refine nT ?_;refine wSE (sT (sT (sT (wN ?_))));have e2:=Ac.1 H;repeat(first|refine abN ?_|refine asN ?_)
     refine An ⟨_,(),e2.symm,?_⟩;try dsimp only
     exact Bd
   ·have H:=Av hb4 H;refine AB ?_;repeat(first|refine BM ?_|refine exO (by decide) ?_|refine asE ?_)
    refine exN ?_;have e2:=Hr2 _ (Ac.1 H).symm;repeat(first|refine abN ?_|refine asN ?_)
    refine An ⟨(_,()),e2.symm,?_⟩;try dsimp only
    exact Bd
 ·rintro⟨_,_⟩ hz2;try dsimp only at hz2
  have H:=Hl2 _ hz2;try dsimp only
  refine wS (sT (wN ?_));obtain rfl:=Ac.1 H;exact Ar ⟨.inr rfl,Fin.cl rfl⟩
def Fo(l:List Pair)(k:Int):M (List Pair):=M.chk (slB l 0 k) (M.chk (Gn (([]:List Pair).length+(slD l 0 k).length) 16) (M.chk (slB l (IntKind.i64.wrap (k+1)) (l.length:Int)) (M.chk (Gn ((([]:List Pair)++(slD l 0 k)).length+(slD l (IntKind.i64.wrap (k+1)) (l.length:Int)).length) 16) (M.ok ((([]:List Pair)++(slD l 0 k))++(slD l (IntKind.i64.wrap (k+1)) (l.length:Int)))))))
theorem Pm{l:List Pair}{k:Int}{r:List Pair}(H:(Fo l k).to r):NE Tryz.prog 136 [.bs AH l,.lit (.int .i64 k)] 57 AH r:=by
 delta Fo at H;try dsimp only at H
 refine Im Tryz.func136 rfl (by kernel_rfl) rfl Tryz.ntmps136 Fc fun C hC=>?_
 refine nS ?_;refine wS (sT (wN ?_));obtain⟨c1,H⟩:=Ab.1 H;obtain⟨c2,H⟩:=Ab.1 H;obtain⟨c3,H⟩:=Ab.1 H;obtain⟨c4,H⟩:=Ab.1 H;refine A1 ⟨.bs AH l::.lit (.int .i64 k)::A2 (.lit (.slice none 0 0)::A10 []),[.dead]⟩ (St.le.trans Bd (FJ 1 rfl)) ?_;refine Ad fun Kg5 hg5=>?_
 refine Ip (n:=11) (fun b=>⟨.bs AH l::.lit (.int .i64 k)::A2 [(bif b 10 then .own 0 (0+1+1)else .lit (.slice none 0 0)),(bif b 0 then .own 0 0 else .any),(bif b 1 then .bs AH l else .any),(bif b 2 then .lit (.int .i64 k)else .any),(bif b 3 then .bs AH (slD l 0 k)else .any),(bif b 4 then .own 0 (0+1)else .any),(bif b 5 then .bs AH l else .any),(bif b 6 then .lit (.int .i64 k)else .any),(bif b 7 then .lit (.int .i64 (IntKind.i64.wrap (k+1)))else .any),(bif b 8 then .bs AH (slD l (IntKind.i64.wrap (k+1)) (l.length:Int))else .any),(bif b 9 then .own 0 (0+1+1)else .any)],[(bif b 9 then .row (0+1+1) 57 AH ((([]:List Pair)++(slD l 0 k))++(slD l (IntKind.i64.wrap (k+1)) (l.length:Int)))else(bif b 4 then .row (0+1) 57 AH (([]:List Pair)++(slD l 0 k))else(bif b 0 then .row 0 57 AH ([]:List Pair)else .dead)))]⟩) rfl (by kernel_rfl) (by kernel_rfl) ?_ (hg5 _ ?_)
 ·refine Bh (fun b hb ha hc=>?_) ?_
  ·have h4:b 4=false:=Ct hc (i:=0) (j:=4) (k:=0) rfl rfl rfl rfl hb;have h9:b 9=false:=Ct hc (i:=4) (j:=9) (k:=0) rfl rfl rfl rfl h4;have h10:b 10=false:=Ct hc (i:=0) (j:=10) (k:=2) rfl rfl rfl rfl hb;have u4:upd b 0 4=false:=h4;have u9:upd b 0 9=false:=h9;try dsimp only
   refine Aax (T:=AH) 0 rfl (by decide) (congrArg some (((DJ h9 _ _).trans (DJ h4 _ _)).trans (DJ hb _ _))) (by repeat(first|exact Jk|refine BT rfl ?_|refine BT (CL rfl rfl) ?_|refine BT (CL rfl (CL rfl rfl)) ?_|refine BT (CL rfl (CL rfl (CL rfl rfl))) ?_)) (by repeat(first|exact Jj|refine BS rfl ?_|refine BS (US hb rfl) ?_|refine BS (US h4 rfl) ?_|refine BS (US h9 rfl) ?_|refine BS (US h10 rfl) ?_|refine BS (Ae7 rfl rfl) ?_)) ?_;simp only[DJ u4,DJ u9];exact St.le.refl
  refine Bh (fun b hb ha hc=>?_) ?_
  ·try dsimp only
   refine BD (AX.move rfl Oy) ?_;exact St.le.refl
  refine Bh (fun b hb ha hc=>?_) ?_
  ·try dsimp only
   refine BD (AX.move rfl U2) ?_;exact St.le.refl
  refine Bh (fun b hb ha hc=>?_) ?_
  ·have h1:b 1=true:=ha 0 _ rfl rfl;have h2:b 2=true:=ha 1 _ rfl rfl;try dsimp only
   refine BD (Xh rfl (Qd.trans (Cf h1 _ _)) rfl (NO.trans (Cf h2 _ _)) c1) ?_;exact St.le.refl
  refine Bh (fun b hb ha hc=>?_) ?_
  ·have h0:b 0=true:=ha 0 _ rfl rfl;have h3:b 3=true:=ha 1 _ rfl rfl;have h9:b 9=false:=Ct hc (i:=4) (j:=9) (k:=0) rfl rfl rfl rfl hb;have u9:upd b 4 9=false:=h9;try dsimp only
   refine Kv rfl (L9.trans (Cf h0 _ _)) (congrArg some (((DJ h9 _ _).trans (DJ hb _ _)).trans (RQ h0 _ _))) ((AO Oy).trans (Cf h3 _ _)) rfl c2 ?_;simp only[DJ u9];exact St.le.refl
  refine Bh (fun b hb ha hc=>?_) ?_
  ·try dsimp only
   refine BD (AX.move rfl Oy) ?_;exact St.le.refl
  refine Bh (fun b hb ha hc=>?_) ?_
  ·try dsimp only
   refine BD (AX.move rfl U2) ?_;exact St.le.refl
  refine Bh (fun b hb ha hc=>?_) ?_
  ·have h6:b 6=true:=ha 0 _ rfl rfl;try dsimp only
   refine BD (CF rfl ((AO Kw).trans (Cf h6 _ _)) Zc rfl) ?_;exact St.le.refl
  refine Bh (fun b hb ha hc=>?_) ?_
  ·have h5:b 5=true:=ha 0 _ rfl rfl;have h7:b 7=true:=ha 1 _ rfl rfl;try dsimp only
   refine BD (Xg rfl ((AO PJ).trans (Cf h5 _ _)) rfl ((AO NU).trans (Cf h7 _ _)) c3) ?_;exact St.le.refl
  refine Bh (fun b hb ha hc=>?_) ?_
  ·have h4:b 4=true:=ha 0 _ rfl rfl;have h8:b 8=true:=ha 1 _ rfl rfl;try dsimp only
   refine Kv rfl ((AO U2).trans (Cf h4 _ _)) (congrArg some ((DJ hb _ _).trans (RQ h4 _ _))) ((AO L9).trans (Cf h8 _ _)) rfl c4 ?_;exact St.le.refl
  refine Bh (fun b hb ha hc=>?_) ?_
  ·have h9:b 9=true:=ha 0 _ rfl rfl;try dsimp only
   refine BD (AX.assign rfl ((AO Qd).trans (Cf h9 _ _))) ?_;exact St.le.refl
  exact Ry
 ·refine A1 ⟨.bs AH l::.lit (.int .i64 k)::A2 [.own 0 (0+1+1),.own 0 0,.bs AH l,.lit (.int .i64 k),.bs AH (slD l 0 k),.own 0 (0+1),.bs AH l,.lit (.int .i64 k),.lit (.int .i64 (IntKind.i64.wrap (k+1))),.bs AH (slD l (IntKind.i64.wrap (k+1)) (l.length:Int)),.own 0 (0+1+1)],[.row (0+1+1) 57 AH ((([]:List Pair)++(slD l 0 k))++(slD l (IntKind.i64.wrap (k+1)) (l.length:Int)))]⟩ St.le.refl ?_;obtain rfl:=Ac.1 H;exact Ar ⟨.inr rfl,rfl,0,0+1+1,rfl,rfl⟩
def D7(l:List Pair):(Int×(List Pair)×(List Pair))→M ((Int×(List Pair)×(List Pair))⊕((List Pair))):=fun(i1,l3,l5)=>M.cnd (decide (i1 < (l.length:Int))) (M.bnd (M.chk (BN l i1) (M.bnd (LW l5 ((ixD l i1).a)) fun r17=>M.chk (!(!r17)||(BN l i1)) (M.chk (!(!r17)||(BN l i1)) (M.chk (!((!r17)&&(((ixD l i1).a) !=((ixD l i1).b)))||(BN l i1)) (M.chk (!(((!r17)&&(((ixD l i1).a) !=((ixD l i1).b)))&&(((ixD l i1).a) !=3))||(BN l i1)) (M.cnd ((((!r17)&&(((ixD l i1).a) !=((ixD l i1).b)))&&(((ixD l i1).a) !=3))&&(((ixD l i1).b) !=3)) (M.chk (BN l i1) (M.chk (BA (ixD l i1)) (M.chk (Gn (l3.length+ [ixD l i1].length) 16) (M.ok (l3++[ixD l i1]))))) (M.ok l3))))))) fun l13=>M.chk (BN l i1) (M.chk (BA (ixD l i1)) (M.chk (Gn (l5.length+ [ixD l i1].length) 16) (M.ok (.inl (IntKind.i64.wrap (i1+1),l13,l5++[ixD l i1])))))) (M.ok (.inr l3))
def Cq(l30:List Pair):Int→M (Int⊕Int):=fun k38=>M.chk (!(decide (k38 < (l30.length:Int)))||(BN l30 k38)) (M.bnd (M.whn (decide (k38 < (l30.length:Int))) false (LX l30 k38 ((ixD l30 k38).a))) fun r47=>M.cnd ((decide (k38 < (l30.length:Int)))&&r47) (M.ok (.inl (IntKind.i64.wrap (k38+1)))) (M.ok (.inr k38)))
def DK(l30:List Pair):(Int×(List Pair))→M ((Int×(List Pair))⊕((List Pair))):=fun(i58,l60)=>M.cnd (decide (i58 < (l60.length:Int))) (M.bnd (M.chk (BN l60 i58) (M.cnd (((ixD l60 i58).b) ==((ixD l30 0).a)) (M.chk (BN l60 i58) (M.chk (BA ⟨(ixD l60 i58).a,3⟩) (M.ok (l60.set (Int.toNat i58) ⟨(ixD l60 i58).a,3⟩)))) (M.ok l60))) fun l69=>M.ok (.inl (IntKind.i64.wrap (i58+1),l69))) (M.ok (.inr l60))
def Db:((List Pair)×(List Pair))→M (((List Pair)×(List Pair))⊕((List Pair))):=fun(l30,l32)=>M.cnd (decide ((l30.length:Int) > 0)) (M.bnd (M.loop (Cq l30) 0) fun k42=>M.cnd (decide (k42 < (l30.length:Int))) (M.chk (BN l30 k42) (M.chk (BA (ixD l30 k42)) (M.chk (Gn (l32.length+ [ixD l30 k42].length) 16) (M.bnd (Fo l30 k42) fun r54=>M.ok (.inl (r54,l32++[ixD l30 k42])))))) (M.chk (BN l30 0) (M.chk (BA ⟨3,(ixD l30 0).a⟩) (M.chk (Gn (l32.length+([⟨3,(ixD l30 0).a⟩]:List Pair).length) 16) (M.bnd (M.loop (DK l30) (0,l30)) fun l64=>M.ok (.inl (l64,l32++([⟨3,(ixD l30 0).a⟩]:List Pair)))))))) (M.ok (.inr l32))
def Gz(l:List Pair):M (List Pair):=M.bnd (M.loop (D7 l) (0,([]:List Pair),([]:List Pair))) fun l8=>M.bnd (M.loop (Db) (l8,([]:List Pair))) fun l35=>M.ok l35
theorem QW{l:List Pair}{r:List Pair}(H:(Gz l).to r):Fn Tryz.prog 80 [.bs AH l] (.bs AH r):=by
 delta Gz at H;try dsimp only at H
 refine AE Tryz.func80 rfl (by kernel_rfl) rfl Tryz.ntmps80 fun C hC=>?_
 refine nS ?_;refine wS (sT (wN ?_));refine wS (sT (sT (sT (wN ?_))));refine A1 _ (CS 3 57 AH rfl (by decide)) ?_;refine A1 _ (CS 4 57 AH rfl (by decide)) ?_;obtain⟨z6,HX6,Hl6⟩:=Al.1 H;refine Bn (β:=((List Pair))×(Nat)) (fun q6=>z6=q6.1) (fun q6=>⟨A3 (.own 0 q6.2::.any::.lit (.slice none 0 0)::A80 (A40 [.any])),[.row q6.2 57 AH q6.1,.dead]⟩) ?_ ?_
 ·refine wS (sT (wN ?_));refine Ak ?_;refine Bv HX6 (fun s6 b6=>⟨.bs AH l::A2 (.own 0 b6.1::.own 1 b6.2::.lit (.slice none 0 0)::.lit (.int .i64 s6.1)::A80 (A40 [])),[.row b6.1 57 AH s6.2.1,.row b6.2 57 AH s6.2.2]⟩) (0,0) (?_) ?_
  ·try dsimp only
   exact Bd
  ·rintro⟨i1,l3,l5⟩ ⟨v2,v4⟩ x6 H Hr6;try dsimp only
   dsimp only[D7]at H;refine Ad fun Khs9 hs9=>?_
   refine wS (sT (sT (sT (sT (wN ?_)))));refine Aj rfl (fun hb10=>?_) (fun hb10=>?_)
   ·have H:=Au hb10 H;refine Am ?_;refine hs9 _ ?_;refine nT ?_;refine Ad fun Khs11 hs11=>?_
    refine Ak ?_;obtain⟨z15,HX15,Hl15⟩:=Al.1 H;refine Bn (β:=((List Pair))×(Nat×Nat)) (fun q15=>z15=q15.1) (fun q15=>⟨.bs AH l::A2 (.own 0 q15.2.1::.own 1 q15.2.2::.lit (.slice none 0 0)::.lit (.int .i64 i1)::A80 (A40 [])),[.row q15.2.1 57 AH q15.1,.row q15.2.2 57 AH l5]⟩) ?_ ?_
    ·have H:=HX15;obtain⟨c16,H⟩:=Ab.1 H;obtain⟨r17,k17,H⟩:=Al.1 H;have k17:=VV k17;obtain⟨c18,H⟩:=Ab.1 H;obtain⟨c19,H⟩:=Ab.1 H;obtain⟨c20,H⟩:=Ab.1 H;obtain⟨c21,H⟩:=Ab.1 H;refine dS 37 (hq:=?_);refine qT (qT (qT (qX c16 (qT (qT ?_)))));refine qA (hq:=GQ rfl k17 (.own rfl (.cl rfl .nil))) (ht:=(AA (AA Mx))) ?_;refine qT (qT ?_);refine qGt rfl ?_;refine qGt rfl ?_;refine UI rfl c18 ?_;refine qGt rfl ?_;refine qGt rfl ?_;refine qGt rfl ?_;refine qGt rfl ?_;refine UI rfl c19 ?_;refine qGt rfl ?_;refine qGt rfl ?_;refine qGt rfl (qT (qT ?_));refine qGt rfl ?_;refine qGt rfl ?_;refine UI rfl c20 ?_;refine qGt rfl ?_;refine qGt rfl ?_;refine qGt rfl (qT (qT ?_));refine qGt rfl ?_;refine qGt rfl ?_;refine UI rfl c21 ?_;refine qGt rfl ?_;refine qGt rfl ?_;refine qGt rfl (qT (qN (wN ?_)));refine Aj rfl (fun hb22=>?_) (fun hb22=>?_)
     ·have H:=Au hb22 H;obtain⟨c23,H⟩:=Ab.1 H;obtain⟨c24,H⟩:=Ab.1 H;obtain⟨c25,H⟩:=Ab.1 H;refine wSE (sT (sT (sT (sX c23 (sT ?_)))));refine sA (hq:=AX.lt (xs:=[.tmp 57]) (T:=AH) (ds:=[ixD l i1]) rfl rfl rfl (by rfl) (by decide) (.cons (BO c24) .nil)) (ht:=(As (AA (AA (AA O8))))) ?_;refine sP c25 (sT (wN ?_));have e15:=Ac.1 H;repeat(first|refine abN ?_|refine asN ?_)
      refine An ⟨(_,(v2+1,v4)),e15.symm,?_⟩;try dsimp only
      exact Bd
     ·have H:=Av hb22 H;refine Am ?_;have e15:=Ac.1 H;repeat(first|refine abN ?_|refine asN ?_)
      refine An ⟨(_,(v2,v4)),e15.symm,?_⟩;try dsimp only
      exact Bd
    ·rintro⟨l13,⟨v12,v14⟩⟩ hz15;try dsimp only at hz15
     have H:=Hl15;rw[hz15]at H;try dsimp only
     obtain⟨c26,H⟩:=Ab.1 H;obtain⟨c27,H⟩:=Ab.1 H;obtain⟨c28,H⟩:=Ab.1 H;refine wSE (sT (sT (sT (sX c26 (sT ?_)))));refine sA (hq:=AX.lt (xs:=[.tmp 64]) (T:=AH) (ds:=[ixD l i1]) rfl rfl rfl (by rfl) (by decide) (.cons (BO c27) .nil)) (ht:=(As (As LN))) ?_;refine sP c28 (sT (wN ?_));refine hs11 _ ?_;refine nT ?_;refine wSE (sT (sT (sT (wN ?_))));have e6:=Ac.1 H;repeat(first|refine abN ?_|refine asN ?_)
     refine An ⟨_,(v12,v14+1),e6.symm,?_⟩;try dsimp only
     exact Bd
   ·have H:=Av hb10 H;refine AB ?_;repeat(first|refine BM ?_|refine exO (by decide) ?_|refine asE ?_)
    refine exN ?_;have e6:=Hr6 _ (Ac.1 H).symm;repeat(first|refine abN ?_|refine asN ?_)
    refine An ⟨(_,v2),e6.symm,?_⟩;try dsimp only
    exact leC (Cut.cons (Cut.dead (Cut.nil _)))
 ·rintro⟨l8,v7⟩ hz6;try dsimp only at hz6
  have H:=Hl6;rw[hz6]at H;try dsimp only
  refine A1 _ (CS 5 57 AH rfl (by decide)) ?_;obtain⟨z33,HX33,Hl33⟩:=Al.1 H;refine Bn (β:=((List Pair))×(Nat)) (fun q33=>z33=q33.1) (fun q33=>⟨A5 (.own 2 q33.2::A80 (A40 [.any])),[.dead,.dead,.row q33.2 57 AH q33.1]⟩) ?_ ?_
  ·refine Ak ?_;refine Bv HX33 (fun s33 b33=>⟨A3 (.own 0 b33.1::.any::.own 2 b33.2::A80 (A40 [.any])),[.row b33.1 57 AH s33.1,.dead,.row b33.2 57 AH s33.2]⟩) (v7,0) (?_) ?_
   ·try dsimp only
    exact Bd
   ·rintro⟨l30,l32⟩ ⟨v29,v31⟩ x33 H Hr33;try dsimp only
    dsimp only[Db]at H;refine Ad fun Khs36 hs36=>?_
    refine wS (sT (sT (sT (wN ?_))));refine Aj rfl (fun hb37=>?_) (fun hb37=>?_)
    ·have H:=Au hb37 H;refine Am ?_;refine hs36 _ ?_;refine nT ?_;refine Ak ?_;refine wS (sT (wN ?_));obtain⟨z41,HX41,Hl41⟩:=Al.1 H;refine Bn (β:=(Int)×(Nat×Nat)) (fun q41=>z41=q41.1) (fun q41=>⟨A3 (.own 0 q41.2.1::.any::.own 2 q41.2.2::.any::.lit (.int .i64 q41.1)::A80 (A20 (A10 (A9 [])))),[.row q41.2.1 57 AH l30,.dead,.row q41.2.2 57 AH l32]⟩) ?_ ?_
     ·refine Ak ?_;refine Bv HX41 (fun s41 b41=>⟨A3 (.own 0 b41.1::.any::.own 2 b41.2::.any::.lit (.int .i64 s41)::A80 (A20 (A10 (A9 [])))),[.row b41.1 57 AH l30,.dead,.row b41.2 57 AH l32]⟩) (v29,v31) (?_) ?_
      ·try dsimp only
       exact Bd
      ·rintro k38 ⟨v39,v40⟩ x41 H Hr41;try dsimp only
       dsimp only[Cq]at H;refine Ad fun Khs45 hs45=>?_
       obtain⟨c46,H⟩:=Ab.1 H;obtain⟨r47,k47,H⟩:=Al.1 H;refine wS (sT (sT (sT (sT (sT ?_)))));refine sGt rfl ?_;refine sGt rfl ?_;refine sGt rfl ?_;refine sGt rfl ?_;refine sG (g:=(decide (k38 < (l30.length:Int)))) (hg:=Gg rfl) (hq:=fun hg=>GS rfl ((AL (AL (AO L9))).trans (Cf hg _ _)) rfl ((AL (AL (AO Qd))).trans (Cf hg _ _)) rfl (DG c46 hg)) (ht:=(As (As (AA LM)))) ?_;refine sG (g:=(decide (k38 < (l30.length:Int)))) (hg:=Gg rfl) (hq:=fun hg=>C1 rfl ((AL (AL (AO NO))).trans (Cf hg _ _)) rfl) (ht:=(As (As (AA (AA Oc))))) ?_;refine sG (g:=(decide (k38 < (l30.length:Int)))) (hg:=Gg rfl) (hq:=fun hg=>Cp rfl ((AL (AL (AO (AO Oy)))).trans (Cf hg _ _)) rfl (Jl (DG c46 hg)) rfl) (ht:=(As (As (AA (AA LN))))) (hk:=?_);refine sG (g:=(decide (k38 < (l30.length:Int)))) (hg:=Gg rfl) (hq:=fun hg=>by((try simp only[Cf hg]);(try simp only[KY hg]);exact Sw rfl (VW (M.to_whn k47 hg)) (.cons (.own rfl) (.cons (.cl rfl) (.cons (.cl rfl) .nil))))) (ht:=(As (As (AA (AA O8))))) (hk:=?_);refine sT (wN ?_);refine Aj rfl (fun hb48=>?_) (fun hb48=>?_)
       ·have H:=Au hb48 H;refine Am ?_;refine hs45 _ ?_;refine nT ?_;refine Ak ?_;refine wSE (sT (sT (sT (wN ?_))));have e41:=Ac.1 H;repeat(first|refine abN ?_|refine asN ?_)
        refine An ⟨_,(v39,v40),e41.symm,?_⟩;try dsimp only
        exact Bd
       ·have H:=Av hb48 H;refine AB ?_;repeat(first|refine BM ?_|refine exO (by decide) ?_|refine asE ?_)
        refine exN ?_;have e41:=Hr41 _ (Ac.1 H).symm;repeat(first|refine abN ?_|refine asN ?_)
        refine An ⟨(_,(v39,v40)),e41.symm,?_⟩;try dsimp only
        exact Bd
     ·rintro⟨k42,⟨v43,v44⟩⟩ hz41;try dsimp only at hz41
      have H:=Hl41;rw[hz41]at H;try dsimp only
      refine Ad fun Khs49 hs49=>?_
      refine wS (sT (sT (sT (sT (wN ?_)))));refine Aj rfl (fun hb50=>?_) (fun hb50=>?_)
      ·have H:=Au hb50 H;obtain⟨c51,H⟩:=Ab.1 H;obtain⟨c52,H⟩:=Ab.1 H;obtain⟨c53,H⟩:=Ab.1 H;refine wS (sT (sT (sT ?_)));refine sA (hq:=GS rfl (AL (AL (AO (AO (AO Kw))))) rfl (AL (AL (AO (AO (AO NU))))) rfl c51) (ht:=(As (As (AA (AA (AA S6)))))) (hk:=?_);refine sA (hq:=Gl rfl (AL (AL (AO (AO (AO L9))))) rfl (Jl c51) rfl) (ht:=(As (As (AA (AA (AA Mx)))))) (hk:=?_);refine sA (hq:=AX.lt (xs:=[.tmp 94]) (T:=AH) (ds:=[ixD l30 k42]) rfl rfl rfl (by rfl) (by decide) (.cons (BO c52) .nil)) (ht:=(As (As (AA (AA (AA LM)))))) (hk:=?_);refine sP c53 (sT (wN ?_));obtain⟨r54,k54,H⟩:=Al.1 H;have k54:=Pm k54;refine wS (sT (sT ?_));(refine Bu rfl (SH 3 rfl rfl k54 (by decide) Fc (.cons (.own rfl) (.cons (.cl rfl) .nil)) ?_);refine Ah6 (ht:=(As (As (As Ob)))) ?_);refine sT (wN ?_);refine AB ?_;repeat(first|refine BM ?_|refine exO (by decide) ?_|refine asE ?_)
       refine exN ?_;have e33:=Ac.1 H;repeat(first|refine abN ?_|refine asN ?_)
       refine An ⟨_,(0,v44+1),e33.symm,?_⟩;try dsimp only
       refine(Adb 0 3 (ver':=0) (t':=A3 (.own 0 0::.any::.own 2 (v44+1)::.any::.lit (.int .i64 k42)::.any::.any::.any::.any::.any::.any::.any::.any::.any::.any::.any::.any::.any::.any::.any::.any::.any::.any::.any::.any::.any::.any::.any::.any::.any::.any::.any::.any::.any::.any::.any::.any::.any::.any::.any::.any::.any::.any::.any::.any::.any::.any::.any::.any::.any::.any::.any::.any::.any::.any::.any::.any::.any::.any::.any::.any::.any::.any::.any::.any::.any::.any::.any::.any::.any::.any::.any::.any::.any::.any::.any::.any::.any::.any::.any::.any::.any::.any::.lit (.int .i64 k42)::.any::.lit (.int .i64 (l30.length:Int))::.lit (.bool (decide (k42 < (l30.length:Int))))::.own 2 v44::.any::.lit (.int .i64 k42)::.any::.agg (Cb (ixD l30 k42))::.bs AH [ixD l30 k42]::.own 2 (v44+1)::.any::.lit (.int .i64 k42)::.own 0 0::.any::.any::.any::.any::.any::.any::.any::.any::.any::.any::.any::.any::.any::.any::.any::.any::.any::.any::.any::.any::.any::.any::.any::.any::.any::.any::.any::[])) (by decide) rfl rfl (Nat.le_of_ble_eq_true rfl) rfl (by repeat(first|exact Mv.nil|refine Mv.own ?_|refine Mv.keep rfl rfl ?_|refine Mv.any ?_))).trans ?_;exact leC (Cut.cons (Cut.cons (Cut.cons (Cut.nil _))))
      ·have H:=Av hb50 H;refine Am ?_;refine hs49 _ ?_;refine nT ?_;obtain⟨c55,H⟩:=Ab.1 H;refine wS (sT ?_);refine sA (hq:=GS rfl (AL (AL (AL NU))) rfl Zc rfl c55) (ht:=(As (As (As S6)))) ?_;refine sA (hq:=C1 rfl (AL (AL (AL L9))) rfl) (ht:=(As (As (As Mx)))) ?_;refine sA (hq:=Cp rfl (AL (AL (AL Qd))) rfl (Jl c55) rfl) (ht:=(As (As (As LM)))) ?_;refine sT (wN ?_);obtain⟨c56,H⟩:=Ab.1 H;obtain⟨c57,H⟩:=Ab.1 H;refine wS (sT (sT ?_));refine sA (hq:=AK (rs:=[.lit (.int .i64 3),.lit (.int .i64 ((ixD l30 0).a))]) rfl CA rfl rfl) (ht:=(As (As (As (AA O8))))) ?_;refine sA (hq:=AX.lt (xs:=[.tmp 106]) (T:=AH) (ds:=[⟨3,(ixD l30 0).a⟩]) rfl rfl rfl (by rfl) (by decide) (.cons (BO c56) .nil)) (ht:=(As (As (As (AA Ob))))) ?_;refine sP c57 (sT (wN ?_));refine wS (sT (wN ?_));obtain⟨z62,HX62,Hl62⟩:=Al.1 H;refine NH (β:=((List Pair))×(Nat×Nat)) (fun q62=>z62=q62.1) (fun q62=>⟨A3 (.own 0 q62.2.1::.any::.own 2 q62.2.2::A80 (A40 [.any])),[.row q62.2.1 57 AH q62.1,.dead,.row q62.2.2 57 AH (l32++([⟨3,(ixD l30 0).a⟩]:List Pair))]⟩) ?_ ?_
       ·refine Ak ?_;refine Bv HX62 (fun s62 b62=>⟨A3 (.own 0 b62.1::.any::.own 2 b62.2::A2 (.lit (.int .i64 ((ixD l30 0).a))::.lit (.int .i64 s62.1)::A80 (A20 (A10 (A7 []))))),[.row b62.1 57 AH s62.2,.dead,.row b62.2 57 AH (l32++([⟨3,(ixD l30 0).a⟩]:List Pair))]⟩) (v43,v44+1) (?_) ?_
        ·try dsimp only
         exact Bd
        ·rintro⟨i58,l60⟩ ⟨v59,v61⟩ x62 H Hr62;try dsimp only
         dsimp only[DK]at H;refine Ad fun Khs66 hs66=>?_
         refine wS (sT (sT (sT (sT (wN ?_)))));refine Aj rfl (fun hb67=>?_) (fun hb67=>?_)
         ·have H:=Au hb67 H;refine Am ?_;refine hs66 _ ?_;refine nT ?_;obtain⟨z71,HX71,Hl71⟩:=Al.1 H;refine Bn (β:=((List Pair))×(Nat×Nat)) (fun q71=>z71=q71.1) (fun q71=>⟨A3 (.own 0 q71.2.1::.any::.own 2 q71.2.2::A2 (.lit (.int .i64 ((ixD l30 0).a))::.lit (.int .i64 i58)::A80 (A20 (A10 (A7 []))))),[.row q71.2.1 57 AH q71.1,.dead,.row q71.2.2 57 AH (l32++([⟨3,(ixD l30 0).a⟩]:List Pair))]⟩) ?_ ?_
          ·have H:=HX71;refine Ak ?_;obtain⟨c72,H⟩:=Ab.1 H;refine wS (sT (sT ?_));refine sA (hq:=GS rfl (AL (AL (AL (AO (AO Kw))))) rfl (AL (AL (AL (AO (AO NU))))) rfl c72) (ht:=(As (As (As (AA (AA S6)))))) (hk:=?_);refine sA (hq:=C1 rfl (AL (AL (AL (AO (AO L9))))) rfl) (ht:=(As (As (As (AA (AA Mx)))))) (hk:=?_);refine sA (hq:=Cp rfl (AL (AL (AL (AO (AO Qd))))) rfl (Jl c72) rfl) (ht:=(As (As (As (AA (AA LM)))))) (hk:=?_);refine sT (sT (wN ?_));refine Aj rfl (fun hb73=>?_) (fun hb73=>?_)
           ·have H:=Au hb73 H;obtain⟨c74,H⟩:=Ab.1 H;obtain⟨c75,H⟩:=Ab.1 H;refine wSE (sT (sT ?_));refine sA (hq:=GS rfl (AL (AL (AL (AO (AO (AO PJ)))))) rfl (AL (AL (AL (AO (AO (AO Kw)))))) rfl c74) (ht:=(As (As (As (AA (AA (AA O7))))))) (hk:=?_);refine sA (hq:=C1 rfl (AL (AL (AL (AO (AO (AO NU)))))) rfl) (ht:=(As (As (As (AA (AA (AA S6))))))) (hk:=?_);(refine Bu rfl (Aav ⟨(ixD l60 i58).a,3⟩ rfl rfl rfl rfl (Jl c74) rfl rfl (by decide) rfl (fun _ _ _ hr=>Iu (DC c75) hr) ?_);refine Ah6 (ht:=Ako) ?_);refine wN ?_;have e71:=Ac.1 H;repeat(first|refine abN ?_|refine asN ?_)
            refine An ⟨(_,(v59,v61)),e71.symm,?_⟩;try dsimp only
            exact Bd
           ·have H:=Av hb73 H;refine Am ?_;have e71:=Ac.1 H;repeat(first|refine abN ?_|refine asN ?_)
            refine An ⟨(_,(v59,v61)),e71.symm,?_⟩;try dsimp only
            exact Bd
          ·rintro⟨l69,⟨v68,v70⟩⟩ hz71;try dsimp only at hz71
           have H:=Hl71;rw[hz71]at H;try dsimp only
           refine wSE (sT (sT (sT (wN ?_))));have e62:=Ac.1 H;repeat(first|refine abN ?_|refine asN ?_)
           refine An ⟨_,(v68,v70),e62.symm,?_⟩;try dsimp only
           exact Bd
         ·have H:=Av hb67 H;refine AB ?_;repeat(first|refine BM ?_|refine exO (by decide) ?_|refine asE ?_)
          refine exN ?_;have e62:=Hr62 _ (Ac.1 H).symm;repeat(first|refine abN ?_|refine asN ?_)
          refine An ⟨(_,(v59,v61)),e62.symm,?_⟩;try dsimp only
          exact Bd
       ·rintro⟨l64,⟨v63,v65⟩⟩ s62 hz62 hle62;try dsimp only at hz62
        try dsimp only at hle62
        have H:=Hl62;rw[hz62]at H;have e33:=Ac.1 H;repeat(first|refine abN ?_|refine asN ?_)
        refine An ⟨_,(v63,v65),e33.symm,?_⟩;try dsimp only
        refine St.le.trans hle62 ?_;exact Bd
    ·have H:=Av hb37 H;refine AB ?_;repeat(first|refine BM ?_|refine exO (by decide) ?_|refine asE ?_)
     refine exN ?_;have e33:=Hr33 _ (Ac.1 H).symm;repeat(first|refine abN ?_|refine asN ?_)
     refine An ⟨(_,v31),e33.symm,?_⟩;try dsimp only
     exact leC (Cut.dead (Cut.cons (Cut.cons (Cut.nil _))))
  ·rintro⟨l35,v34⟩ hz33;try dsimp only at hz33
   have H:=Hl33;rw[hz33]at H;try dsimp only
   refine wS (sT (sT (wN ?_)));obtain rfl:=Ac.1 H;exact Ar ⟨.inr rfl,Fin.own rfl⟩
theorem Ov(l:List Pair):∃r:List Pair,∃n,AtO n (DR l) r∧n≤2 * l.length∧r.length=n:=by
 obtain⟨n,r,h⟩:=T6 l;exact⟨r,n,h⟩
noncomputable def MV(l:List Pair):List Pair:=Classical.choose (Ov l)
theorem GD(l:List Pair):∃n,AtO n (DR l) (MV l)∧n≤2 * l.length∧(MV l).length=n:=Classical.choose_spec (Ov l)
noncomputable def Dw(l:List Pair):M (List Pair):=M.chk (decide (l.length≤2100000)&&l.all BA) (M.ok (MV l))
theorem E8{l r:List Pair}(H:(Dw l).to r):Fn Tryz.prog 30 [.bs AH l] (.bs AH r):=by
 unfold Dw at H;obtain⟨hc,H⟩:=Ab.1 H;obtain rfl:=Ac.1 H;rw[Bool.and_eq_true]at hc;have hl:=of_decide_eq_true hc.1;obtain⟨n,h1,h2,h3⟩:=GD l;exact ZZ l hl (fun x hx=>DC (List.all_eq_true.1 hc.2 x hx)) n _ (by omega) h1
noncomputable section
def D1(a:List Pair)(bP1:List Pair):M Bool:=M.bnd (Pr a bP1) fun r1=>M.ok r1
theorem H6{a:List Pair}{bP1:List Pair}{r:Bool}(H:(D1 a bP1).to r):Fn Tryz.prog 29 [.bs AH a,.bs AH bP1] (.lit (.bool r)):=by
 delta D1 at H;try dsimp only at H
 refine AE Tryz.func29 rfl (by kernel_rfl) rfl Tryz.ntmps29 fun C hC=>?_
 refine nS ?_;refine wS (sT (wN ?_));obtain⟨r1,k1,H⟩:=Al.1 H;have k1:=VZ k1;refine wS (sT (sT (sC k1 (sT (wN ?_)))));obtain rfl:=Ac.1 H;exact Ar ⟨.inr rfl,Fin.cl rfl⟩
end
noncomputable section
def BF(atP0:Int):M Bool:=M.ok (decide (atP0≥32))
theorem FF{atP0:Int}{r:Bool}(H:(BF atP0).to r):Fn Tryz.prog 127 [.lit (.int .i64 atP0)] (.lit (.bool r)):=by
 delta BF at H;try dsimp only at H
 refine AE Tryz.func127 rfl (by kernel_rfl) rfl Tryz.ntmps127 fun C hC=>?_
 refine nS ?_;refine wS (sT (wN ?_));refine wS (sT (sT (sT (wN ?_))));obtain rfl:=Ac.1 H;exact Ar ⟨.inr rfl,Fin.cl rfl⟩
def BP(into:Int)(fromP1:Int):M ACell:=M.ok ⟨0,(-1),into,fromP1,(-1),[]⟩
theorem G8{into:Int}{fromP1:Int}{r:ACell}(H:(BP into fromP1).to r):Fn Tryz.prog 72 [.lit (.int .i64 into),.lit (.int .i64 fromP1)] (.agg (Co r)):=by
 delta BP at H;try dsimp only at H
 refine ID Tryz.func72 rfl (by kernel_rfl) rfl (by kernel_rfl:T9 Tryz.prog 67=some (true,6)) Tryz.ntmps72 fun C hC=>?_
 refine nS ?_;refine wS (sA0 (wN ?_));refine wS (sT (sT ?_));refine sA (hq:=AK (rs:=[.lit (.int .u8 0),.lit (.int .i64 (-1)),.lit (.int .i64 into),.lit (.int .i64 fromP1),.lit (.int .i64 (-1)),.lit (.slice none 0 0)]) rfl G1 rfl rfl) (ht:=LM) ?_;refine sW ?_;refine wN ?_;obtain rfl:=Ac.1 H;exact Ar ⟨⟨.inr rfl,0,_,rfl,rfl,Fin.weak rfl (fun _ _ _ H=>Up.rel (Lf (.cons (.refl _) (.cons (.refl _) (.cons (.refl _) (.cons (.refl _) (.cons (.refl _) (.cons (.nil _) .nil))))))) H)⟩,fun i cells e1 e2=>by cases e1;cases e2;rfl⟩
def E7(r2:List Pair):(Int×(List ACell))→M ((Int×(List ACell))⊕((List ACell))):=fun(x3,l5)=>M.cnd (decide (x3 < (r2.length:Int))) (M.chk (BN r2 x3) (M.bnd (BP ((ixD r2 x3).a) ((ixD r2 x3).b)) fun r13=>M.chk (Bg r13) (M.chk (Gn (l5.length+ [r13].length) 64) (M.ok (.inl (IntKind.i64.wrap (x3+1),l5++[r13])))))) (M.ok (.inr l5))
def Fg(l:List Pair):M (List ACell):=M.bnd (Dw l) fun r2=>M.bnd (M.loop (E7 r2) (0,([]:List ACell))) fun l8=>M.ok l8
theorem If{l:List Pair}{r:List ACell}(H:(Fg l).to r):Fn Tryz.prog 33 [.bs AH l] (.bs AN r):=by
 delta Fg at H;try dsimp only at H
 refine AE Tryz.func33 rfl (by kernel_rfl) rfl Tryz.ntmps33 fun C hC=>?_
 refine nS ?_;refine wS (sT (wN ?_));refine wS (sT (wN ?_));refine A1 _ (CS 3 67 AN rfl (by decide)) ?_;obtain⟨r2,k2,H⟩:=Al.1 H;have k2:=E8 k2;obtain⟨z6,HX6,Hl6⟩:=Al.1 H;refine Bn (β:=((List ACell))×(Nat)) (fun q6=>z6=q6.1) (fun q6=>⟨A3 (.own 0 q6.2::A10 (A9 [])),[.row q6.2 67 AN q6.1]⟩) ?_ ?_
 ·refine wS (sT (sC k2 (sT (sT (wN ?_)))));refine Ak ?_;refine Bv HX6 (fun s6 b6=>⟨A3 (.own 0 b6::A3 (.bs AH r2::.lit (.int .i64 (r2.length:Int))::.lit (.int .i64 s6.1)::A10 (A3 []))),[.row b6 67 AN s6.2]⟩) 0 (?_) ?_
  ·try dsimp only
   exact Bd
  ·rintro⟨x3,l5⟩ v4 x6 H Hr6;try dsimp only
   dsimp only[E7]at H;refine wS (sT (wN ?_));refine Ad fun Khs9 hs9=>?_
   refine Aj rfl (fun hb10=>?_) (fun hb10=>?_)
   ·have H:=Au hb10 H;refine Am ?_;refine hs9 _ ?_;refine nT ?_;refine Ad fun Khs11 hs11=>?_
    refine Ak ?_;obtain⟨c12,H⟩:=Ab.1 H;refine wS (sX c12 (sT (sA0 ?_)));refine sW ?_;refine wN ?_;obtain⟨r13,k13,H⟩:=Al.1 H;have k13:=G8 k13;obtain⟨c14,H⟩:=Ab.1 H;obtain⟨c15,H⟩:=Ab.1 H;refine wSE (sT (sT (sT (sT (sT (sC k13 ?_))))));refine sA (hq:=AX.lt (xs:=[.tmp 18]) (T:=AN) (ds:=[r13]) rfl rfl rfl (by rfl) (by decide) (.cons (Ca c14) .nil)) (ht:=(AA (AA Ob))) ?_;refine sP c15 (sT (wN ?_));refine hs11 _ ?_;refine nT ?_;refine wSE (sT (sT (wN ?_)));have e6:=Ac.1 H;repeat(first|refine abN ?_|refine asN ?_)
    refine An ⟨_,v4+1,e6.symm,?_⟩;try dsimp only
    exact leC (Cut.cons (Cut.nil _))
   ·have H:=Av hb10 H;refine AB ?_;repeat(first|refine BM ?_|refine exO (by decide) ?_|refine asE ?_)
    refine exN ?_;have e6:=Hr6 _ (Ac.1 H).symm;repeat(first|refine abN ?_|refine asN ?_)
    refine An ⟨(_,v4),e6.symm,?_⟩;try dsimp only
    exact Bd
 ·rintro⟨l8,v7⟩ hz6;try dsimp only at hz6
  have H:=Hl6;rw[hz6]at H;try dsimp only
  refine wS (sT (sT (wN ?_)));obtain rfl:=Ac.1 H;exact Ar ⟨.inr rfl,Fin.own rfl⟩
def CJ(m:Plan):M Int:=M.cnd m.leaf (M.ok 8) (M.ok 24)
theorem EX{m:Plan}{r:Int}(H:(CJ m).to r):Fn Tryz.prog 32 [.agg (AM m)] (.lit (.int .i64 r)):=by
 delta CJ at H;try dsimp only at H
 refine AE Tryz.func32 rfl (by kernel_rfl) rfl Tryz.ntmps32 fun C hC=>?_
 refine nS ?_;refine wS (sB (sT (wN ?_)));refine Ad fun Khs1 hs1=>?_
 refine wS (sT (sT (sT (wN ?_))));refine Aj rfl (fun hb2=>?_) (fun hb2=>?_)
 ·have H:=Au hb2 H;refine wS (sT (wN ?_));obtain rfl:=Ac.1 H;exact Ar ⟨.inr rfl,Fin.cl rfl⟩
 ·have H:=Av hb2 H;refine Am ?_;refine hs1 _ ?_;refine nT ?_;refine wS (sT (wN ?_));obtain rfl:=Ac.1 H;exact Ar ⟨.inr rfl,Fin.cl rfl⟩
def Di(m:Plan)(x:Ins):(Int×(List Pair))→M ((Int×(List Pair))⊕((List Pair))):=fun(x1,l3)=>M.cnd (decide (x1 < (x.args.length:Int))) (M.chk (BN x.args x1) (M.chk (BN m.at_ (ixD x.args x1)) (M.chk (BA ⟨IntKind.i64.wrap (8+x1),ixD m.at_ (ixD x.args x1)⟩) (M.chk (Gn (l3.length+([⟨IntKind.i64.wrap (8+x1),ixD m.at_ (ixD x.args x1)⟩]:List Pair).length) 16) (M.ok (.inl (IntKind.i64.wrap (x1+1),l3++([⟨IntKind.i64.wrap (8+x1),ixD m.at_ (ixD x.args x1)⟩]:List Pair)))))))) (M.ok (.inr l3))
def Ei(m:Plan)(x:Ins):M (List Pair):=M.bnd (M.loop (Di m x) (0,([]:List Pair))) fun l6=>M.ok l6
theorem Lb{m:Plan}{x:Ins}{r:List Pair}(H:(Ei m x).to r):Fn Tryz.prog 125 [.agg (AM m),.agg (BB x)] (.bs AH r):=by
 delta Ei at H;try dsimp only at H
 refine AE Tryz.func125 rfl (by kernel_rfl) rfl Tryz.ntmps125 fun C hC=>?_
 refine nS ?_;refine wS (sB (sB (sT (wN ?_))));refine wS (sT (wN ?_));refine A1 _ (CS 5 57 AH rfl (by decide)) ?_;obtain⟨z4,HX4,Hl4⟩:=Al.1 H;refine Bn (β:=((List Pair))×(Nat)) (fun q4=>z4=q4.1) (fun q4=>⟨A5 (.own 2 q4.2::A20 (A4 [])),[.dead,.dead,.row q4.2 57 AH q4.1]⟩) ?_ ?_
 ·refine wS (sT (sT (sT (sT (wN ?_)))));refine Ak ?_;refine Bv HX4 (fun s4 b4=>⟨A2 (.ptr 0 0::A2 (.own 2 b4::A3 (.bs tInt x.args::.lit (.int .i64 (x.args.length:Int))::.lit (.int .i64 s4.1)::A10 (A8 [])))),[.box (AM m),.dead,.row b4 57 AH s4.2]⟩) 0 (?_) ?_
  ·try dsimp only
   exact leC (Cut.cons (Cut.dead (Cut.cons (Cut.nil _))))
  ·rintro⟨x1,l3⟩ v2 x4 H Hr4;try dsimp only
   dsimp only[Di]at H;refine wS (sT (wN ?_));refine Ad fun Khs7 hs7=>?_
   refine Aj rfl (fun hb8=>?_) (fun hb8=>?_)
   ·have H:=Au hb8 H;refine Am ?_;refine hs7 _ ?_;refine nT ?_;refine Ad fun Khs9 hs9=>?_
    refine Ak ?_;obtain⟨c10,H⟩:=Ab.1 H;refine wS (sT (sX c10 (sT (sT (sT (wN ?_))))));obtain⟨c11,H⟩:=Ab.1 H;obtain⟨c12,H⟩:=Ab.1 H;obtain⟨c13,H⟩:=Ab.1 H;refine wSE (sT (sT (sT (sT (sT (sT (sT (sX c11 (sT ?_)))))))));refine sA (hq:=AK (rs:=[.lit (.int .i64 (IntKind.i64.wrap (8+x1))),.lit (.int .i64 (ixD m.at_ (ixD x.args x1)))]) rfl CA rfl rfl) (ht:=(AA (AA (AA LN)))) ?_;refine sA (hq:=AX.lt (xs:=[.tmp 25]) (T:=AH) (ds:=[⟨IntKind.i64.wrap (8+x1),ixD m.at_ (ixD x.args x1)⟩]) rfl rfl rfl (by rfl) (by decide) (.cons (BO c12) .nil)) (ht:=(AA (AA (AA O8)))) ?_;refine sP c13 (sT (wN ?_));refine hs9 _ ?_;refine nT ?_;refine wSE (sT (sT (wN ?_)));have e4:=Ac.1 H;repeat(first|refine abN ?_|refine asN ?_)
    refine An ⟨_,v2+1,e4.symm,?_⟩;try dsimp only
    exact Bd
   ·have H:=Av hb8 H;refine AB ?_;repeat(first|refine BM ?_|refine exO (by decide) ?_|refine asE ?_)
    refine exN ?_;have e4:=Hr4 _ (Ac.1 H).symm;repeat(first|refine abN ?_|refine asN ?_)
    refine An ⟨(_,v2),e4.symm,?_⟩;try dsimp only
    exact leC (Cut.dead (Cut.cons (Cut.cons (Cut.nil _))))
 ·rintro⟨l6,v5⟩ hz4;try dsimp only at hz4
  have H:=Hl4;rw[hz4]at H;try dsimp only
  refine wS (sT (sT (wN ?_)));obtain rfl:=Ac.1 H;exact Ar ⟨.inr rfl,Fin.own rfl⟩
def AF(m:Plan)(x:Ins):M (Int×Int):=M.bnd (Bs x) fun r1=>M.cnd (x.op ==5) (M.ok ((-1),(-1))) (M.bnd (M.cnd (decide ((r1.length:Int) > 0)) (M.chk (BN r1 0) (M.chk (BN m.at_ (ixD r1 0)) (M.bnd (BF (ixD m.at_ (ixD r1 0))) fun r9=>M.cnd r9 (M.ok 1) (M.ok (ixD m.at_ (ixD r1 0)))))) (M.ok (-1))) fun a4=>M.bnd (M.cnd (decide ((r1.length:Int) > 1)) (M.chk (BN r1 1) (M.chk (BN m.at_ (ixD r1 1)) (M.bnd (BF (ixD m.at_ (ixD r1 1))) fun r16=>M.cnd r16 (M.chk (BN r1 0) (M.chk (BN m.at_ (ixD r1 0)) (M.chk (BN r1 1) (M.chk (BN m.at_ (ixD r1 1)) (M.cnd ((ixD m.at_ (ixD r1 0)) ==(ixD m.at_ (ixD r1 1))) (M.ok 1) (M.ok 2)))))) (M.ok (ixD m.at_ (ixD r1 1)))))) (M.ok (-1))) fun b11=>M.bnd (M.cnd (x.op ==10) (M.bnd (CJ m) fun r26=>M.ok r26) (M.ok a4)) fun a23=>M.ok (a23,b11))
theorem EO{m:Plan}{x:Ins}{r:Int×Int}(H:(AF m x).to r):Fn Tryz.prog 126 [.agg (AM m),.agg (BB x)] (.tup [.lit (.int .i64 r.1),.lit (.int .i64 r.2)]):=by
 delta AF at H;try dsimp only at H
 refine IE Tryz.func126 rfl (by kernel_rfl) rfl Tryz.ntmps126 fun C hC=>?_
 refine nS ?_;refine wS (sB (sB (sT (sT (wN ?_)))));refine wS (sT (sT (wN ?_)));obtain⟨r1,k1,H⟩:=Al.1 H;have k1:=JL k1;refine wS (sT (sC k1 (sT (wN ?_))));refine Ad fun Khs2 hs2=>?_
 refine wS (sT (sT (sT (wN ?_))));refine Aj rfl (fun hb3=>?_) (fun hb3=>?_)
 ·have H:=Au hb3 H;refine wS (sT (sT (sT (sT (wN ?_)))));obtain rfl:=Ac.1 H;exact Ar ⟨.inr rfl,_,_,Fin.cl rfl,rfl,rfl⟩
 ·have H:=Av hb3 H;refine Am ?_;refine hs2 _ ?_;refine nT ?_;obtain⟨z5,HX5,Hl5⟩:=Al.1 H;refine Bn (β:=(Int)×(Unit)) (fun q5=>z5=q5.1) (fun q5=>⟨A2 (.ptr 0 0::.ptr 1 0::.lit (.int .i64 q5.1)::.lit (.int .i64 (-1))::.bs tInt r1::A40 (A10 (A7 []))),[.box (AM m),.box (BB x)]⟩) ?_ ?_
  ·have H:=HX5;refine wS (sT (sT (sT (wN ?_))));refine Aj rfl (fun hb6=>?_) (fun hb6=>?_)
   ·have H:=Au hb6 H;obtain⟨c7,H⟩:=Ab.1 H;obtain⟨c8,H⟩:=Ab.1 H;refine dS 9 (hq:=?_);refine qT (qT (qT (qT (qX c7 (qT (qX c8 (qT (qT (qN (wN ?_))))))))));obtain⟨r9,k9,H⟩:=Al.1 H;have k9:=FF k9;refine wS (sT (sC k9 (wN ?_)));refine Aj rfl (fun hb10=>?_) (fun hb10=>?_)
    ·have H:=Au hb10 H;refine wSE (sT (wN ?_));have e5:=Ac.1 H;repeat(first|refine abN ?_|refine asN ?_)
     refine An ⟨(_,()),e5.symm,?_⟩;try dsimp only
     exact Bd
    ·have H:=Av hb10 H;refine Am ?_;have e5:=Ac.1 H;repeat(first|refine abN ?_|refine asN ?_)
     refine An ⟨(_,()),e5.symm,?_⟩;try dsimp only
     exact Bd
   ·have H:=Av hb6 H;refine Am ?_;have e5:=Ac.1 H;repeat(first|refine abN ?_|refine asN ?_)
    refine An ⟨(_,()),e5.symm,?_⟩;try dsimp only
    exact Bd
  ·rintro⟨a4,_⟩ hz5;try dsimp only at hz5
   have H:=Hl5;rw[hz5]at H;try dsimp only
   obtain⟨z12,HX12,Hl12⟩:=Al.1 H;refine Bn (β:=(Int)×(Unit)) (fun q12=>z12=q12.1) (fun q12=>⟨A2 (.ptr 0 0::.ptr 1 0::.lit (.int .i64 a4)::.lit (.int .i64 q12.1)::A40 (A10 (A8 []))),[.box (AM m),.box (BB x)]⟩) ?_ ?_
   ·have H:=HX12;refine wS (sT (sT (sT (wN ?_))));refine Aj rfl (fun hb13=>?_) (fun hb13=>?_)
    ·have H:=Au hb13 H;obtain⟨c14,H⟩:=Ab.1 H;obtain⟨c15,H⟩:=Ab.1 H;refine dS 9 (hq:=?_);refine qT (qT (qT (qT (qX c14 (qT (qX c15 (qT (qT (qN (wN ?_))))))))));obtain⟨r16,k16,H⟩:=Al.1 H;have k16:=FF k16;refine wS (sT (sC k16 (wN ?_)));refine Aj rfl (fun hb17=>?_) (fun hb17=>?_)
     ·have H:=Au hb17 H;refine wS (sT (wN ?_));obtain⟨c18,H⟩:=Ab.1 H;obtain⟨c19,H⟩:=Ab.1 H;obtain⟨c20,H⟩:=Ab.1 H;obtain⟨c21,H⟩:=Ab.1 H;refine dS 17 (hq:=?_);refine qT (qT (qT (qT (qX c18 (qT (qX c19 (qT (qT (qT (qT (qT ?_)))))))))));refine qX c20 (qT (qX c21 (qT (qT (qN (wN ?_))))));refine Aj rfl (fun hb22=>?_) (fun hb22=>?_)
      ·have H:=Au hb22 H;refine wSE (sT (wN ?_));have e12:=Ac.1 H;repeat(first|refine abN ?_|refine asN ?_)
       refine An ⟨(_,()),e12.symm,?_⟩;try dsimp only
       exact Bd
      ·have H:=Av hb22 H;refine Am ?_;have e12:=Ac.1 H;repeat(first|refine abN ?_|refine asN ?_)
       refine An ⟨(_,()),e12.symm,?_⟩;try dsimp only
       exact Bd
     ·have H:=Av hb17 H;refine Am ?_;have e12:=Ac.1 H;repeat(first|refine abN ?_|refine asN ?_)
      refine An ⟨(_,()),e12.symm,?_⟩;try dsimp only
      exact Bd
    ·have H:=Av hb13 H;refine Am ?_;have e12:=Ac.1 H;repeat(first|refine abN ?_|refine asN ?_)
     refine An ⟨(_,()),e12.symm,?_⟩;try dsimp only
     exact Bd
   ·rintro⟨b11,_⟩ hz12;try dsimp only at hz12
    have H:=Hl12;rw[hz12]at H;try dsimp only
    obtain⟨z24,HX24,Hl24⟩:=Al.1 H;refine Bn (β:=(Int)×(Unit)) (fun q24=>z24=q24.1) (fun q24=>⟨A4 (.lit (.int .i64 q24.1)::.lit (.int .i64 b11)::A40 (A10 (A8 []))),[.dead,.dead]⟩) ?_ ?_
    ·have H:=HX24;refine wS (sT (sT (sT (wN ?_))));refine Aj rfl (fun hb25=>?_) (fun hb25=>?_)
     ·have H:=Au hb25 H;obtain⟨r26,k26,H⟩:=Al.1 H;have k26:=EX k26;refine wSE (sT (sC k26 (sT (wN ?_))));have e24:=Ac.1 H;repeat(first|refine abN ?_|refine asN ?_)
      refine An ⟨(_,()),e24.symm,?_⟩;try dsimp only
      exact leC (Cut.dead (Cut.dead (Cut.nil _)))
     ·have H:=Av hb25 H;refine Am ?_;have e24:=Ac.1 H;repeat(first|refine abN ?_|refine asN ?_)
      refine An ⟨(_,()),e24.symm,?_⟩;try dsimp only
      exact leC (Cut.dead (Cut.dead (Cut.nil _)))
    ·rintro⟨a23,_⟩ hz24;try dsimp only at hz24
     have H:=Hl24;rw[hz24]at H;try dsimp only
     refine wS (sT (sT (sT (sT (wN ?_)))));obtain rfl:=Ac.1 H;exact Ar ⟨.inr rfl,_,_,Fin.cl rfl,rfl,rfl⟩
def AJ(m:Plan)(x:Ins):M Int:=M.bnd (Bl x) fun r1=>M.cnd (!r1.2) (M.ok (-1)) (M.cnd (x.op ==5) (M.ok 8) (M.chk (BN m.at_ r1.1) (M.bnd (BF (ixD m.at_ r1.1)) fun r6=>M.cnd r6 (M.ok 1) (M.chk (BN m.at_ r1.1) (M.ok (ixD m.at_ r1.1))))))
theorem DW{m:Plan}{x:Ins}{r:Int}(H:(AJ m x).to r):Fn Tryz.prog 128 [.agg (AM m),.agg (BB x)] (.lit (.int .i64 r)):=by
 delta AJ at H;try dsimp only at H
 refine AE Tryz.func128 rfl (by kernel_rfl) rfl Tryz.ntmps128 fun C hC=>?_
 refine nS ?_;refine wS (sB (sB (sT (wN ?_))));obtain⟨r1,k1,H⟩:=Al.1 H;have k1:=IL k1;refine wS (sT (sC k1 (sT (sT (sT (sT (sT (wN ?_))))))));refine Ad fun Khs2 hs2=>?_
 refine Ak ?_;refine wS (sT (sT (sT (wN ?_))));refine Aj rfl (fun hb3=>?_) (fun hb3=>?_)
 ·have H:=Au hb3 H;refine wS (sT (wN ?_));obtain rfl:=Ac.1 H;exact Ar ⟨.inr rfl,Fin.cl rfl⟩
 ·have H:=Av hb3 H;refine wS (sT (sT (sT (sT (wN ?_)))));refine Aj rfl (fun hb4=>?_) (fun hb4=>?_)
  ·have H:=Au hb4 H;refine wS (sT (wN ?_));obtain rfl:=Ac.1 H;exact Ar ⟨.inr rfl,Fin.cl rfl⟩
  ·have H:=Av hb4 H;obtain⟨c5,H⟩:=Ab.1 H;obtain⟨r6,k6,H⟩:=Al.1 H;have k6:=FF k6;refine wS (sT (sT (sT (sT (sX c5 (sT (sC k6 (sT (wN ?_)))))))));refine Aj rfl (fun hb7=>?_) (fun hb7=>?_)
   ·have H:=Au hb7 H;refine wS (sT (wN ?_));obtain rfl:=Ac.1 H;exact Ar ⟨.inr rfl,Fin.cl rfl⟩
   ·have H:=Av hb7 H;refine Am ?_;refine hs2 _ ?_;refine nT ?_;obtain⟨c8,H⟩:=Ab.1 H;refine wS (sT (sT (sT (sT (sX c8 (sT (sT (wN ?_))))))));obtain rfl:=Ac.1 H;exact Ar ⟨.inr rfl,Fin.cl rfl⟩
def AQ(m:Plan)(x:Ins):M (List ACell):=M.bnd (Bl x) fun r1=>M.bnd (M.whn (!(!r1.2)) 0 (AJ m x)) fun r3=>M.chk (!(!(!r1.2))||(BN m.at_ r1.1)) (M.cnd ((!r1.2)||(r3 ==(ixD m.at_ r1.1))) (M.ok []) (M.chk (BN m.at_ r1.1) (M.bnd (AJ m x) fun r7=>M.bnd (BP (ixD m.at_ r1.1) r7) fun r8=>M.chk (Bg r8) (M.ok [r8]))))
theorem Jn{m:Plan}{x:Ins}{r:List ACell}(H:(AQ m x).to r):Fn Tryz.prog 74 [.agg (AM m),.agg (BB x)] (.bs AN r):=by
 delta AQ at H;try dsimp only at H
 refine AE Tryz.func74 rfl (by kernel_rfl) rfl Tryz.ntmps74 fun C hC=>?_
 refine nS ?_;refine wS (sB (sB (sT (wN ?_))));obtain⟨r1,k1,H⟩:=Al.1 H;have k1:=IL k1;refine wS (sT (sC k1 (sT (sT (sT (sT (sT (wN ?_))))))));refine Ad fun Khs2 hs2=>?_
 obtain⟨r3,k3,H⟩:=Al.1 H;obtain⟨c4,H⟩:=Ab.1 H;refine dS 14 (hq:=?_);refine qT (qT (qT ?_));refine qG (g:=(!(!r1.2))) (hg:=SJ rfl) (hq:=fun hg=>Bc rfl PJ rfl rfl) (ht:=(AA LM)) ?_;refine qG (g:=(!(!r1.2))) (hg:=SJ rfl) (hq:=fun hg=>Bc rfl Kw rfl rfl) (ht:=(AA (AA Oc))) ?_;refine qG (g:=(!(!r1.2))) (hg:=SJ rfl) (hq:=fun hg=>by((try simp only[Cf hg]);(try simp only[KY hg]);exact Ba rfl rfl (DW (M.to_whn k3 hg)) rfl rfl)) (ht:=(AA (AA LN))) ?_;refine qGf rfl ?_;refine qGf rfl ?_;refine qGf rfl ?_;refine qGf rfl ?_;refine qG (g:=(!(!r1.2))) (hg:=SJ rfl) (hq:=fun hg=>Dy rfl ((AO (AO NU)).trans (Cf hg _ _)) ((AO (AO L9)).trans (Cf hg _ _)) rfl (DG c4 hg)) (ht:=(AA (AA Mx))) ?_;refine qGf rfl ?_;refine qGf rfl (qT (qN (wN ?_)));refine Aj rfl (fun hb5=>?_) (fun hb5=>?_)
 ·have H:=Au hb5 H;refine wS (sT (wN ?_));obtain rfl:=Ac.1 H;refine A1 _ (Ko 4 AN rfl) ?_;exact Ar ⟨.inr rfl,Fin.cl rfl⟩
 ·have H:=Av hb5 H;refine Am ?_;refine hs2 _ ?_;refine nT ?_;obtain⟨c6,H⟩:=Ab.1 H;obtain⟨r7,k7,H⟩:=Al.1 H;have k7:=DW k7;obtain⟨r8,k8,H⟩:=Al.1 H;have k8:=G8 k8;obtain⟨c9,H⟩:=Ab.1 H;refine dS 10 (hq:=?_);refine qT (qT (qT (qT (qX c6 (qT (qT (qT (qC k7 (qC k8 (qN ?_))))))))));(refine Bu rfl (Adk 2 rfl (xs:=[.tmp 35]) (T:=AN) (ds:=[r8]) rfl rfl rfl (RT.eq (n:=6) (bytes:=64)) (by decide) (by decide) (.cons (Ca c9) .nil) ?_);refine Ah6 (ht:=(As O7)) ?_);refine sT (wN ?_);obtain rfl:=Ac.1 H;exact Ar ⟨.inr rfl,Fin.own rfl⟩
def AU(m:Plan)(x:Ins):M (List ACell):=M.bnd (Bs x) fun r1=>M.cnd (x.op ==5) (M.bnd (Ei m x) fun r4=>M.bnd (Fg r4) fun r5=>M.ok r5) (M.cnd (x.op ==10) (M.bnd (CJ m) fun r7=>M.chk (BN m.at_ x.a) (M.chk (BA ⟨r7,ixD m.at_ x.a⟩) (M.bnd (Fg [⟨r7,ixD m.at_ x.a⟩]) fun r10=>M.ok r10))) (M.bnd (AF m x) fun r11=>M.bnd (M.chk (!(decide ((r1.length:Int) > 0))||(BN r1 0)) (M.chk (!(decide ((r1.length:Int) > 0))||(BN m.at_ (ixD r1 0))) (M.bnd (M.whn (decide ((r1.length:Int) > 0)) false (BF (ixD m.at_ (ixD r1 0)))) fun r17=>M.cnd ((decide ((r1.length:Int) > 0))&&r17) (M.chk (BN r1 0) (M.chk (BN m.at_ (ixD r1 0)) (M.bnd (BP r11.1 (ixD m.at_ (ixD r1 0))) fun r21=>M.chk (Bg r21) (M.chk (Gn (([]:List ACell).length+ [r21].length) 64) (M.ok (([]:List ACell)++[r21])))))) (M.ok ([]:List ACell))))) fun l13=>M.bnd (M.chk (!(decide ((r1.length:Int) > 1))||(BN r1 1)) (M.chk (!(decide ((r1.length:Int) > 1))||(BN m.at_ (ixD r1 1))) (M.bnd (M.whn (decide ((r1.length:Int) > 1)) false (BF (ixD m.at_ (ixD r1 1)))) fun r29=>M.cnd (((decide ((r1.length:Int) > 1))&&r29)&&(r11.2 ==2)) (M.chk (BN r1 1) (M.chk (BN m.at_ (ixD r1 1)) (M.bnd (BP r11.2 (ixD m.at_ (ixD r1 1))) fun r33=>M.chk (Bg r33) (M.chk (Gn (l13.length+ [r33].length) 64) (M.ok (l13++[r33])))))) (M.ok l13)))) fun l25=>M.ok l25))
theorem Ki{m:Plan}{x:Ins}{r:List ACell}(H:(AU m x).to r):Fn Tryz.prog 73 [.agg (AM m),.agg (BB x)] (.bs AN r):=by
 delta AU at H;try dsimp only at H
 refine AE Tryz.func73 rfl (by kernel_rfl) rfl Tryz.ntmps73 fun C hC=>?_
 refine nS ?_;refine wS (sB (sB (sT (wN ?_))));obtain⟨r1,k1,H⟩:=Al.1 H;have k1:=JL k1;refine wS (sT (sC k1 (sT (wN ?_))));refine Ad fun Khs2 hs2=>?_
 refine wS (sT (sT (wN ?_)));refine Ak ?_;refine wS (sT (sT (wN ?_)));refine Aj rfl (fun hb3=>?_) (fun hb3=>?_)
 ·have H:=Au hb3 H;obtain⟨r4,k4,H⟩:=Al.1 H;have k4:=Lb k4;obtain⟨r5,k5,H⟩:=Al.1 H;have k5:=If k5;refine wS (sT (sT (sC k4 (sC k5 (sT (wN ?_))))));obtain rfl:=Ac.1 H;exact Ar ⟨.inr rfl,Fin.cl rfl⟩
 ·have H:=Av hb3 H;refine wS (sT (sT (wN ?_)));refine Aj rfl (fun hb6=>?_) (fun hb6=>?_)
  ·have H:=Au hb6 H;obtain⟨r7,k7,H⟩:=Al.1 H;have k7:=EX k7;obtain⟨c8,H⟩:=Ab.1 H;obtain⟨c9,H⟩:=Ab.1 H;obtain⟨r10,k10,H⟩:=Al.1 H;have k10:=If k10;refine dS 13 (hq:=?_);refine qT (qC k7 (qT (qT (qT (qT (qT (qX c8 (qT ?_))))))));refine qA (hq:=AK (rs:=[.lit (.int .i64 r7),.lit (.int .i64 (ixD m.at_ x.a))]) rfl CA rfl rfl) (ht:=(AA (AA (AA Mx)))) ?_;refine qA (hq:=AX.lt (xs:=[.tmp 30]) (T:=AH) (ds:=[⟨r7,ixD m.at_ x.a⟩]) rfl rfl rfl (by rfl) (by decide) (.cons (BO c9) .nil)) (ht:=(AA (AA (AA LM)))) ?_;refine qC k10 (qT (qN (wN ?_)));obtain rfl:=Ac.1 H;exact Ar ⟨.inr rfl,Fin.cl rfl⟩
  ·have H:=Av hb6 H;refine Am ?_;refine hs2 _ ?_;refine nT ?_;refine wS (sT (wN ?_));obtain⟨r11,k11,H⟩:=Al.1 H;have k11:=EO k11;refine wS (sT (sT (sC k11 (sT (sT (sT (sT (sT (wN ?_)))))))));refine A1 _ (CS 6 67 AN rfl (by decide)) ?_;obtain⟨z14,HX14,Hl14⟩:=Al.1 H;refine Bn (β:=((List ACell))×(Nat)) (fun q14=>z14=q14.1) (fun q14=>⟨A2 (.ptr 0 0::A2 (.bs tInt r1::.own 2 q14.2::.any::.lit (.int .i64 r11.2)::A80 (A9 []))),[.box (AM m),.dead,.row q14.2 67 AN q14.1]⟩) ?_ ?_
   ·have H:=HX14;obtain⟨c15,H⟩:=Ab.1 H;obtain⟨c16,H⟩:=Ab.1 H;obtain⟨r17,k17,H⟩:=Al.1 H;refine dS 14 (hq:=?_);refine qT (qT (qT (qT ?_)));refine qGt rfl ?_;refine qGt rfl ?_;refine qGt rfl ?_;refine qGt rfl ?_;refine UI rfl c15 ?_;refine qGt rfl ?_;refine UI rfl c16 ?_;refine qGt rfl ?_;refine qG (g:=(decide ((r1.length:Int) > 0))) (hg:=Gg rfl) (hq:=fun hg=>by((try simp only[Cf hg]);(try simp only[KY hg]);exact Ba rfl rfl (FF (M.to_whn k17 hg)) rfl rfl)) (ht:=(As (AA (AA Ob)))) ?_;refine qT (qN (wN ?_));refine Aj rfl (fun hb18=>?_) (fun hb18=>?_)
    ·have H:=Au hb18 H;obtain⟨c19,H⟩:=Ab.1 H;obtain⟨c20,H⟩:=Ab.1 H;obtain⟨r21,k21,H⟩:=Al.1 H;have k21:=G8 k21;obtain⟨c22,H⟩:=Ab.1 H;obtain⟨c23,H⟩:=Ab.1 H;refine dSE 12 (hq:=?_);refine qT (qT (qT (qT (qT (qT (qX c19 (qT (qX c20 (qT (qC k21 ?_))))))))));refine qA (hq:=AX.lt (xs:=[.tmp 63]) (T:=AN) (ds:=[r21]) rfl rfl rfl (by rfl) (by decide) (.cons (Ca c22) .nil)) (ht:=(As (As Oc))) ?_;refine qN (sP c23 (sT (wN ?_)));have e14:=Ac.1 H;repeat(first|refine abN ?_|refine asN ?_)
     refine An ⟨(_,0+1),e14.symm,?_⟩;try dsimp only
     exact leC (Cut.cons (Cut.dead (Cut.cons (Cut.nil _))))
    ·have H:=Av hb18 H;refine Am ?_;have e14:=Ac.1 H;repeat(first|refine abN ?_|refine asN ?_)
     refine An ⟨(_,0),e14.symm,?_⟩;try dsimp only
     exact leC (Cut.cons (Cut.dead (Cut.cons (Cut.nil _))))
   ·rintro⟨l13,v12⟩ hz14;try dsimp only at hz14
    have H:=Hl14;rw[hz14]at H;try dsimp only
    obtain⟨z26,HX26,Hl26⟩:=Al.1 H;refine Bn (β:=((List ACell))×(Nat)) (fun q26=>z26=q26.1) (fun q26=>⟨A6 (.own 2 q26.2::A80 (A10 [.any])),[.dead,.dead,.row q26.2 67 AN q26.1]⟩) ?_ ?_
    ·have H:=HX26;obtain⟨c27,H⟩:=Ab.1 H;obtain⟨c28,H⟩:=Ab.1 H;obtain⟨r29,k29,H⟩:=Al.1 H;refine dS 18 (hq:=?_);refine qT (qT (qT (qT ?_)));refine qGt rfl ?_;refine qGt rfl ?_;refine qGt rfl ?_;refine qGt rfl ?_;refine UI rfl c27 ?_;refine qGt rfl ?_;refine UI rfl c28 ?_;refine qGt rfl ?_;refine qG (g:=(decide ((r1.length:Int) > 1))) (hg:=Gg rfl) (hq:=fun hg=>by((try simp only[Cf hg]);(try simp only[KY hg]);exact Ba rfl rfl (FF (M.to_whn k29 hg)) rfl rfl)) (ht:=(As (As (AA Mx)))) ?_;refine qT (qT ?_);refine qGt rfl ?_;refine qGt rfl (qT (qN (wN ?_)));refine Aj rfl (fun hb30=>?_) (fun hb30=>?_)
     ·have H:=Au hb30 H;obtain⟨c31,H⟩:=Ab.1 H;obtain⟨c32,H⟩:=Ab.1 H;obtain⟨r33,k33,H⟩:=Al.1 H;have k33:=G8 k33;obtain⟨c34,H⟩:=Ab.1 H;obtain⟨c35,H⟩:=Ab.1 H;refine dSE 12 (hq:=?_);refine qT (qT (qT (qT (qT (qT (qX c31 (qT (qX c32 (qT (qC k33 ?_))))))))));refine qA (hq:=AX.lt (xs:=[.tmp 94]) (T:=AN) (ds:=[r33]) rfl rfl rfl (by rfl) (by decide) (.cons (Ca c34) .nil)) (ht:=(As (As (AA (AA (AA LM)))))) (hk:=?_);refine qN (sP c35 (sT (wN ?_)));have e26:=Ac.1 H;repeat(first|refine abN ?_|refine asN ?_)
      refine An ⟨(_,v12+1),e26.symm,?_⟩;try dsimp only
      exact leC (Cut.dead (Cut.cons (Cut.cons (Cut.nil _))))
     ·have H:=Av hb30 H;refine Am ?_;have e26:=Ac.1 H;repeat(first|refine abN ?_|refine asN ?_)
      refine An ⟨(_,v12),e26.symm,?_⟩;try dsimp only
      exact leC (Cut.dead (Cut.cons (Cut.cons (Cut.nil _))))
    ·rintro⟨l25,v24⟩ hz26;try dsimp only at hz26
     have H:=Hl26;rw[hz26]at H;try dsimp only
     refine wS (sT (sT (wN ?_)));obtain rfl:=Ac.1 H;exact Ar ⟨.inr rfl,Fin.own rfl⟩
def C5(x:Ins):(Int×(List Int))→M ((Int×(List Int))⊕((List Int))):=fun(x7,l9)=>M.cnd (decide (x7 < (x.args.length:Int))) (M.chk (wfB .i64 (IntKind.i64.wrap (8+x7))) (M.chk (Gn (l9.length+ [IntKind.i64.wrap (8+x7)].length) 8) (M.ok (.inl (IntKind.i64.wrap (x7+1),l9++[IntKind.i64.wrap (8+x7)]))))) (M.ok (.inr l9))
def Be(m:Plan)(x:Ins)(i:Int):M ACell:=M.bnd (AJ m x) fun r1=>M.bnd (AF m x) fun r2=>M.bnd (M.cnd (x.op ==5) (M.bnd (M.loop (C5 x) (0,([]:List Int))) fun l12=>M.ok l12) (M.ok ([]:List Int))) fun l4=>M.ok ⟨1,i,r1,r2.1,r2.2,l4⟩
theorem Nm{m:Plan}{x:Ins}{i:Int}{r:ACell}(H:(Be m x i).to r):Fn Tryz.prog 76 [.agg (AM m),.agg (BB x),.lit (.int .i64 i)] (.agg (Co r)):=by
 delta Be at H;try dsimp only at H
 refine ID Tryz.func76 rfl (by kernel_rfl) rfl (by kernel_rfl:T9 Tryz.prog 67=some (true,6)) Tryz.ntmps76 fun C hC=>?_
 refine nS ?_;refine wS (sB (sB (sA0 (wN ?_))));obtain⟨r1,k1,H⟩:=Al.1 H;have k1:=DW k1;refine wS (sT (sT (sT (sC k1 ?_))));refine sA (hq:=AK (rs:=[.lit (.int .u8 1),.lit (.int .i64 i),.lit (.int .i64 r1),.lit (.int .i64 0),.lit (.int .i64 0),.lit (.slice none 0 0)]) rfl G1 rfl rfl) (ht:=(AA S6)) ?_;refine sA0 ?_;refine sW ?_;refine wN ?_;obtain⟨r2,k2,H⟩:=Al.1 H;have k2:=EO k2;refine wS (sT (sT (sC k2 (sT (sT (sT (sT ?_)))))));refine sW ?_;refine sT ?_;refine sW ?_;refine wN ?_;refine A1 _ (Fh 3 5 3 tInt rfl rfl (by decide)) ?_;obtain⟨z5,HX5,Hl5⟩:=Al.1 H;refine Bn (β:=((List Int))×(Nat)) (fun q5=>z5=q5.1) (fun q5=>⟨A6 (.ptr 2 0::.ptr 3 0::A20 (A10 (A2 []))),[.dead,.dead,.box [.lit (.int .u8 0),.lit (.int .i64 0),.lit (.int .i64 0),.lit (.int .i64 0),.lit (.int .i64 0),.lit (.slice none 0 0)],.box [.lit (.int .u8 1),.lit (.int .i64 i),.lit (.int .i64 r1),.lit (.int .i64 r2.1),.lit (.int .i64 r2.2),.own 4 q5.2],.row q5.2 3 tInt q5.1]⟩) ?_ ?_
 ·have H:=HX5;refine wS (sT (sT (sT (wN ?_))));refine Aj rfl (fun hb6=>?_) (fun hb6=>?_)
  ·have H:=Au hb6 H;refine wS (sT (sT (sT (sT (wN ?_)))));obtain⟨z10,HX10,Hl10⟩:=Al.1 H;refine NH (β:=((List Int))×(Nat)) (fun q10=>z10=q10.1) (fun q10=>⟨A6 (.ptr 2 0::.ptr 3 0::A20 (A10 (A2 []))),[.dead,.dead,.box [.lit (.int .u8 0),.lit (.int .i64 0),.lit (.int .i64 0),.lit (.int .i64 0),.lit (.int .i64 0),.lit (.slice none 0 0)],.box [.lit (.int .u8 1),.lit (.int .i64 i),.lit (.int .i64 r1),.lit (.int .i64 r2.1),.lit (.int .i64 r2.2),.own 4 q10.2],.row q10.2 3 tInt q10.1]⟩) ?_ ?_
   ·refine Ak ?_;refine Bv HX10 (fun s10 b10=>⟨A6 (.ptr 2 0::.ptr 3 0::A10 (A9 (.lit (.int .i64 (x.args.length:Int))::.lit (.int .i64 s10.1)::A10 [.any]))),[.dead,.dead,.box [.lit (.int .u8 0),.lit (.int .i64 0),.lit (.int .i64 0),.lit (.int .i64 0),.lit (.int .i64 0),.lit (.slice none 0 0)],.box [.lit (.int .u8 1),.lit (.int .i64 i),.lit (.int .i64 r1),.lit (.int .i64 r2.1),.lit (.int .i64 r2.2),.own 4 b10],.row b10 3 tInt s10.2]⟩) 0 (?_) ?_
    ·try dsimp only
     exact leC (Cut.dead (Cut.dead (Cut.cons (Cut.cons (Cut.cons (Cut.nil _))))))
    ·rintro⟨x7,l9⟩ v8 x10 H Hr10;try dsimp only
     dsimp only[C5]at H;refine wS (sT (wN ?_));refine Ad fun Khs13 hs13=>?_
     refine Aj rfl (fun hb14=>?_) (fun hb14=>?_)
     ·have H:=Au hb14 H;refine Am ?_;refine hs13 _ ?_;refine nT ?_;refine Ad fun Khs15 hs15=>?_
      refine Ak ?_;refine wS (sT (sT (wN ?_)));obtain⟨c16,H⟩:=Ab.1 H;obtain⟨c17,H⟩:=Ab.1 H;refine wSE (sT (sT (sT (sT ?_))));refine sA (hq:=AX.lt (xs:=[.tmp 34]) (T:=tInt) (ds:=[IntKind.i64.wrap (8+x7)]) rfl rfl rfl (by rfl) (by decide) (.cons (Fit.int c16) .nil)) (ht:=(As Ob)) ?_;refine sP c17 (sT ?_);refine sW ?_;refine wN ?_;refine hs15 _ ?_;refine nT ?_;refine wSE (sT (sT (wN ?_)));have e10:=Ac.1 H;repeat(first|refine abN ?_|refine asN ?_)
      refine An ⟨_,v8+1,e10.symm,?_⟩;try dsimp only
      exact Bd
     ·have H:=Av hb14 H;refine AB ?_;repeat(first|refine BM ?_|refine exO (by decide) ?_|refine asE ?_)
      refine exN ?_;have e10:=Hr10 _ (Ac.1 H).symm;repeat(first|refine abN ?_|refine asN ?_)
      refine An ⟨(_,v8),e10.symm,?_⟩;try dsimp only
      exact Bd
   ·rintro⟨l12,v11⟩ s10 hz10 hle10;try dsimp only at hz10
    try dsimp only at hle10
    have H:=Hl10;rw[hz10]at H;have e5:=Ac.1 H;repeat(first|refine abN ?_|refine asN ?_)
    refine An ⟨(_,v11),e5.symm,?_⟩;try dsimp only
    refine St.le.trans hle10 ?_;exact Bd
  ·have H:=Av hb6 H;refine Am ?_;have e5:=Ac.1 H;repeat(first|refine abN ?_|refine asN ?_)
   refine An ⟨(_,0),e5.symm,?_⟩;try dsimp only
   exact leC (Cut.dead (Cut.dead (Cut.cons (Cut.cons (Cut.cons (Cut.nil _))))))
 ·rintro⟨l4,v3⟩ hz5;try dsimp only at hz5
  have H:=Hl5;rw[hz5]at H;try dsimp only
  refine wS (sT ?_);refine F7 rfl (IY hC 4 rfl (by(simp only[fzH,Cr,AV.fz,ABlk.fz,List.map_cons,List.map_nil,List.drop_zero,List.take_succ_cons,List.take_zero,List.set_cons_succ,List.set_cons_zero,and_self,and_true,true_and,if_true,Nat.reduceEqDiff,false_and,if_false];first|done|exact rfl)) (by(simp only[fzH,Cr,AV.fz,ABlk.fz,List.map_cons,List.map_nil,List.drop_zero,List.take_succ_cons,List.take_zero,List.set_cons_succ,List.set_cons_zero,and_self,and_true,true_and,if_true,Nat.reduceEqDiff,false_and,if_false];first|done|exact rfl))) ?_;refine sW ?_;refine wN ?_;obtain rfl:=Ac.1 H;exact Ar ⟨⟨.inr rfl,2,_,rfl,rfl,Fin.cl rfl⟩,fun i cells e1 e2=>by cases e1;cases e2;rfl⟩
end
end Mu
end
section
namespace Mu
open Go Go.RowKit Go.ChangeShapes Go.WideShapes Go.Proofs
instance Ah2:ES Tryz.prog 168 1:=⟨by kernel_rfl⟩
instance Ah1:SL Tryz.prog 168:=⟨by kernel_rfl⟩
theorem Pd{zs:List Value}(m:Nat):∀(n j:Nat),j < n→zs.length=m→((List.replicate n zs).flatten.drop (j * m)).take m=zs
 |0,j,h,_=>by omega
 |n+1,j,h,e=>by
  rw[List.replicate_succ,List.flatten_cons];cases j with
  |zero=>simp[e.symm]
  |succ j=>
   rw[List.drop_append,List.drop_of_length_le (by rw[e,Nat.succ_mul];omega),List.nil_append,e,Nat.succ_mul,Nat.add_sub_cancel];exact Pd m n j (by omega) e
theorem OY(zs:List Value)(h0:0 < zs.length)(n:Nat):(Builtin.zeroCells zs.toArray n).toList=(List.replicate n zs).flatten:=by
 unfold Builtin.zeroCells;apply List.ext_getElem
 ·simp
 intro i h1 h2;have hi:i < n * zs.length:=by simpa using h1
 have hm:i % zs.length < zs.length:=Nat.mod_lt _ h0;have hd:i / zs.length < n:=(Nat.div_lt_iff_lt_mul h0).2 hi;have h3:=Pd (zs:=zs) zs.length n (i / zs.length) hd rfl;have h4:(((List.replicate n zs).flatten.drop (i / zs.length * zs.length)).take zs.length)[i % zs.length]? =zs[i % zs.length]?:=by rw[h3]
 rw[List.getElem?_take_of_lt hm,List.getElem?_drop]at h4;have h5:i / zs.length * zs.length+i % zs.length=i:=by rw[Nat.mul_comm];exact Nat.div_add_mod i zs.length
 rw[h5,List.getElem?_eq_getElem h2,List.getElem?_eq_getElem hm]at h4;simp only[List.size_toArray,Array.toList_map,Array.toList_range,List.getElem_map,List.getElem_range];rw[getElem!_pos _ _ (by simpa using hm)];simpa using(Option.some.inj h4).symm
section
variable{P:Program}{C:Ctx}{t:List AV}{h:List ABlk}{o:Oper}{K:St→Prop}
theorem Aay{ty tn:TypeId}{x y:Operand}{e:TypeId}{bytes m n:Nat}{k kn:IntKind}{zs:List Value}{α:Type}{T:Ty α}(d0:α)[RT P ty e m bytes][IntT P tn kn][ZC P e zs](ho:o.op= .call {callee:=.builtin .append,args:=#[x,y],argTypes:=#[ty,tn]})
 (hx:evA t x= .lit (.slice none 0 0)) (hy:evA t y= .lit (.int k (n:Int))) (hm:T.size=m) (hmp:m≠0) (hz:∀w S,T.RS w S zs d0) (h0:0 < n) (hlen:n≤maxLen) (hbytes:n * bytes≤140737488355328)
 (hK:K ⟨BH t o.dst (.own h.length 0),h++[.row 0 e T (List.replicate n d0)]⟩):AOp P C o ⟨t,h⟩ K:=by
 rintro Q' a w ⟨hd,S,ψ,H,hl⟩;refine⟨fun c e=>(by rw[ho]at e;cases e),?_⟩;have hx':=BJ hl x;have hy':=BJ hl y;rw[show evA (St.mk t h).t x=_ from hx]at hx';rw[show evA (St.mk t h).t y=_ from hy]at hy';unfold AV.rel at hx' hy';obtain⟨h1,ti,z,h2,h3,h4,h5,h6⟩:=DZ (RT.eq (P:=P) (ty:=ty));have hz0:=ZC.eq (P:=P) (ty:=e) (zs:=zs);have hzl:z.cells.toList=zs:=by
  unfold B2 at hz0;rw[h2]at hz0;simp only[Option.bind_some,h3,Option.map_some,Option.some.injEq]at hz0;exact hz0
 have hzc:z.cells=zs.toArray:=by
  apply Array.ext';rw[hzl]
 have hzn:zs.length=m:=by rw[←h6,hzc];simp
 have hm0:0 < m:=by
  rcases Nat.eq_zero_or_pos m with h|h
  ·exact absurd h hmp
  ·exact h
 have h63:(n:Int)≤9223372036854775807:=by unfold maxLen at hlen;omega
 have hr0:=Lib.run_append_nil_zeros (P:=P) w ty tn o.type e ti z k kn h1 IntT.eq h2 h3 n h0 (by omega) h63 (by rw[h5];omega);have hrep:∀q,Builtin.zeroCells z.cells q=((List.replicate q zs).flatten).toArray:=fun q=>by
  apply Array.ext';rw[hzc,OY zs (by omega)]
 rw[hrep,hrep]at hr0;have hfl:∀q,(List.replicate q zs).flatten.length=q * m:=fun q=>by simp[hzn]
 have hcap:=grownCap_ge w n 0 e;have hr:(execOp a.eval o).run P w= .ok (.value (.slice (some ⟨w.heap.size,0,none⟩) n (grownCap w n 0 e))) (w.drew.alloc (.cells ((List.replicate n zs).flatten.toArray++(List.replicate (grownCap w n 0 e - n) zs).flatten.toArray) e)):=by
  simp[execOp,ho,resolve,invoke,builtin,hx',hy',hr0]
 have hb:Below w.heap.size w (w.drew.alloc (.cells ((List.replicate n zs).flatten.toArray++(List.replicate (grownCap w n 0 e - n) zs).flatten.toArray) e)):=⟨rfl,rfl,rfl,by simp,fun k hk=>heap_alloc_old w.drew _ hk⟩
 unfold Oper.wp;refine AOp.newRow (s:=⟨t,h⟩) (cells:=(List.replicate n zs).flatten) hd H hl hr hb ⟨by rw[hm,List.length_replicate];exact hfl n,.inr ⟨w.heap.size,_,_,by rw[List.length_replicate],Nat.zero_le _,heap_alloc_new w.drew _,by rw[List.length_replicate];exact hcap,grownCap_le_maxLen _ _ _ _ hlen,?_,?_⟩⟩ (by omega) (fun j d hj=>?_) hK
 ·rw[hm];simp[hzn];rw[←Nat.add_mul];congr 1;omega
 ·rw[hm];simp only[List.length_replicate,Array.toList_append];rw[List.take_append_of_le_length (by rw[hfl];exact Nat.le_refl _),List.take_of_length_le (by rw[hfl];exact Nat.le_refl _)]
 ·rw[hm];rw[List.getElem?_replicate]at hj;split at hj <;> cases hj
  rename_i hjn;rw[Pd m n j hjn hzn];exact hz _ _
end
theorem Ajd{n m:Nat}(hn:n+m < 9223372036854775808):Hi .add .i64 (n:Int) (m:Int)=some (.int .i64 ((n+m:Nat):Int)):=by
 unfold Hi;simp only;rw[IntWalk.i64_in _ (by omega)];rfl
theorem Vu(w:World)(S:Nat→Prop):AN.RS w S [.int .u8 0,.int .i64 0,.int .i64 0,.int .i64 0,.int .i64 0,.slice none 0 0] ⟨0,0,0,0,0,[]⟩:=by
 refine O3.2 ⟨_,rfl,?_,?_,?_,?_,?_,tInt.slice_nilS _ _⟩ <;> exact Li (by decide)
instance Ajm:ZC Tryz.prog 67 [.int .u8 0,.int .i64 0,.int .i64 0,.int .i64 0,.int .i64 0,.slice none 0 0]:=⟨by kernel_rfl⟩
theorem Zb(n:Nat)(hn:n≤1000000000):LI Tryz.prog 129 [.lit (.slice none 0 0),.lit (.int .i64 (n:Int))] 67 AN []:=by
 have h13:Hi .sub .i64 ((0:Nat):Int) ((0:Nat):Int)=some (.int .i64 ((0:Nat):Int)):=rfl;have h14:Hi .sub .i64 (n:Int) ((0:Nat):Int)=some (.int .i64 (n:Int)):=by
  unfold Hi;simp only;rw[IntWalk.i64_in _ (by omega)];simp
 have hm1:n≤maxLen:=by unfold maxLen;omega
 have hm2:n * 64≤140737488355328:=by omega
 refine Hg Tryz.func129 rfl (by kernel_rfl) rfl Tryz.ntmps129 fun C hC=>?_
 refine nS ?_;refine wR ?_;refine Ad fun K2 h2=>?_
 refine wR ?_;refine Aj rfl (fun hb4=>?_) (fun hb4=>?_)
 ·have:=of_decide_eq_true hb4;omega
 ·refine Am ?_;refine h2 _ ?_;refine nT ?_;refine Ad fun K6 h6=>?_
  refine wR (hx:=by((repeat(first|refine sA (hq:=Su rfl rfl) ?_|refine sA ?_|refine AW ?_|refine sAG ?_|refine BQ (hk:=?_)));exact Gq rfl)) ?_;refine wR ?_;refine Aj rfl (fun hb9=>?_) (fun hb9=>?_)
  ·have hpos:0 < n:=by have:=of_decide_eq_true hb9;omega
   refine wRE (hx:=by((repeat(first|refine sA (hq:=Su rfl rfl) ?_|refine sA (hq:=Sn rfl rfl rfl) ?_|(refine Bu rfl (Aay (T:=AN) ⟨0,0,0,0,0,[]⟩ rfl rfl rfl rfl (by decide) Vu hpos hm1 hm2 ?_);refine sNt ?_)|(refine Bu rfl (OV (m:=0) rfl rfl rfl rfl ⟨_,rfl⟩ (Nat.zero_le _) ?_);refine sNt ?_)|refine sA ?_|refine AW ?_|refine sAG ?_|refine BQ (hk:=?_)));exact Gq rfl)) (hk:=?_);refine h6 _ ?_;refine nT ?_;refine wR ?_;exact Ar ⟨.inr rfl,rfl,0,1,rfl,rfl⟩
  ·refine Am ?_;refine h6 _ ?_;refine nT ?_;refine wR ?_;refine A1 _ (Cx 4 67 AN rfl (by decide)) ?_;exact Ar ⟨.inr rfl,rfl,0,0,rfl,rfl⟩
def Ro(ll:List (List ACell)):Nat:=(ll.map List.length).sum
theorem Rn{ll:List (List ACell)}{k:Nat}{x:List ACell}(h:ll[k]? =some x):Ro (ll.take (k+1))=Ro (ll.take k)+x.length:=by
 unfold Ro;rw[List.take_add_one,h];simp
theorem Rm(ll:List (List ACell))(k:Nat):Ro (ll.take k)≤Ro ll:=by
 unfold Ro
 conv=>rhs;rw[←List.take_append_drop k ll]
 rw[List.map_append,List.sum_append];omega
theorem Wy{ll:List (List ACell)}{k:Nat}{x:List ACell}(h:ll[k]? =some x):(ll.take (k+1)).flatten=(ll.take k).flatten++x:=by
 rw[List.take_add_one,h];simp
theorem Zl(ll:List (List ACell)):ll.flatten.length=Ro ll:=by
 unfold Ro;rw[List.length_flatten]
theorem TU(ll:List (List ACell))(hl:ll.length≤2147483648)(ht:Ro ll≤1000000000):LI Tryz.prog 75 [.bs AN.slice ll] 67 AN ll.flatten:=by
 have hgr:=Zb (Ro ll) (by omega);refine Hg Tryz.func75 rfl (by kernel_rfl) rfl Tryz.ntmps75 fun C hC=>?_
 refine nS ?_;refine wR ?_;refine wR ?_;refine Ad fun K3 h3=>?_
 refine wR ?_;refine Ak ?_;refine AS (fun k:Nat=>⟨(.bs AN.slice ll::A2 (.lit (.int .i64 (Ro (ll.take k):Int))::A5 (.bs AN.slice ll::.lit (.int .i64 (ll.length:Int))::.lit (.int .i64 (k:Int))::A20 (A4 [])))),[]⟩) (fun k=>k≤ll.length) (fun k=>ll.length - k) 0 (Nat.zero_le _) (by rw[show Ro (ll.take 0)=0 by rw[List.take_zero];rfl];exact Bd) ?_;intro k hk;refine wR ?_;refine Ad fun K7 h7=>?_
 refine Aj rfl (fun hb8=>?_) (fun hb8=>?_)
 ·have hlt:k < ll.length:=by simpa using hb8
  obtain⟨x,hx⟩:∃x,ll[k]? =some x:=⟨_,List.getElem?_eq_getElem hlt⟩
  have hnx:=Rn hx;have hle:=Rm ll (k+1);have hadd:Hi .add .i64 (Ro (ll.take k):Int) (x.length:Int)=some (.int .i64 (Ro (ll.take (k+1)):Int)):=by
   rw[hnx];exact Ajd (by omega)
  refine Am ?_;refine h7 _ ?_;refine nT ?_;refine Ad fun K9 h9=>?_
  refine Ak ?_;refine wR ?_;refine wR ?_;refine wR ?_;refine Aj rfl (fun hb13=>?_) (fun hb13=>?_)
  ·have:=of_decide_eq_true hb13;omega
  ·refine Am ?_;refine h9 _ ?_;refine nT ?_;refine wRE ?_;refine An ⟨k+1,by omega,by omega,Bd⟩
 ·refine AB ?_;refine h3 _ ?_;refine nT ?_;have hke:k=ll.length:=by have:¬k < ll.length:=(by simpa using hb8);omega
  have hall:Ro (ll.take k)=Ro ll:=by rw[hke,List.take_length]
  rw[hall];refine wR (hx:=by((repeat(first|(refine Bu rfl (LL 0 rfl rfl rfl hgr (by decide) rfl ?_);refine sNt ?_)|refine sA ?_|refine AW ?_|refine sAG ?_|refine BQ (hk:=?_)));exact Gq rfl)) (hk:=?_);refine Ad fun K17 h17=>?_
  refine wR ?_;refine Ak ?_;refine AS (fun p:Nat×Nat=>⟨(A6 (.own 0 p.2::A10 (A8 (.bs AN.slice ll::.lit (.int .i64 (ll.length:Int))::.lit (.int .i64 (p.1:Int))::A8 [])))),[.row p.2 67 AN (ll.take p.1).flatten]⟩) (fun p=>p.1≤ll.length) (fun p=>ll.length - p.1) (0,0) (Nat.zero_le _) (Bd) ?_;rintro⟨j,ver⟩ hj
  (try dsimp only at hj);(try dsimp only)
  refine wR ?_;refine Ad fun K21 h21=>?_
  refine Aj rfl (fun hb22=>?_) (fun hb22=>?_)
  ·have hlt:j < ll.length:=by simpa using hb22
   obtain⟨x,hx⟩:∃x,ll[j]? =some x:=⟨_,List.getElem?_eq_getElem hlt⟩
   have hnx:=Rn hx;have hle:=Rm ll (j+1);have hfl:=Zl (ll.take j);have hfx:=Wy hx;generalize (ll.take j).flatten=F0 at hfl hfx⊢;have hm1:F0.length+x.length≤maxLen:=by unfold maxLen;omega
   have hm2:(F0.length+x.length) * 64≤140737488355328:=by omega
   refine Am ?_;refine h21 _ ?_;refine nT ?_;refine Ad fun K23 h23=>?_
   refine Ak ?_;refine wR ?_;refine wRE ?_;refine h23 _ ?_;refine nT ?_;refine wRE ?_;refine An ⟨(j+1,ver+1),by dsimp only;omega,by dsimp only;omega,?_⟩;try dsimp only
   rw[hfx];exact Bd
  ·refine AB ?_;refine h17 _ ?_;refine nT ?_;refine wR ?_;have hje:j=ll.length:=by have:¬j < ll.length:=(by simpa using hb22);omega
   refine Ar ⟨.inr rfl,rfl,0,ver,rfl,?_⟩;rw[hje,List.take_length];rfl
end Mu
end
section
namespace Mu
open Go Go.RowKit Go.Proofs
section
variable{P:Program}{C:Ctx}{o:Oper}{t:List AV}{h:List ABlk}
theorem Yg{f:FuncId}{x:Operand}{args:Array Operand}{tys:Array TypeId}{bs:Array Value}(ho:o.op= .call {callee:=.value x,args:=args,argTypes:=tys})(hE:B6 P f=true)(ρ:Operand→Value)(w:World)(hρ:ρ x= .func (.func f) bs #[]):
 (execOp ρ o).run P w= .ok (.enter f (bs++args.map ρ)) w:=by
 unfold B6 at hE;cases hf:P.funcs[f]? with
 |none=>rw[hf]at hE;cases hE
 |some fn=>
  rw[hf]at hE;simp only[Bool.and_eq_true,Bool.not_eq_true']at hE;have h1:¬fn.name= "runtime.NumGoroutine" :=by simpa using hE.1
  have h2:¬fn.body=none:=fun e=>by have:=hE.2;rw[e]at this;cases this
  simp[execOp,ho,resolve,Deferred.ofValue,hρ,invoke,callFunc,hf,h1,h2]
structure Known(C:Ctx)(l:List AV)(cs:List Value):Prop where
 rel:Ah C.w0 C.S0 [] ψ0 l cs
 std:C.std
 lt:∀k,C.S0 k→k < C.w0.heap.size
theorem Known.now{l:List AV}{cs:List Value}{S:Nat→Prop}{ψ:Nat→Value}{w:World}(K:Known C l cs)(H:HRel C h S ψ w):Ah w S [] ψ0 l cs:=
 Ay (h:=[]) (ψ:=ψ0) (h':=[]) (ψ':=ψ0) ⟨fun k hk=>H.bel.block k (K.std k (K.lt k hk)),H.sub,Nat.le_refl _,fun i c' hi=>by simp at hi,fun i hi=>by simp at hi⟩ _ _ K.rel
theorem Lo{w:World}{S:Nat→Prop}{ψ:Nat→Value}:∀{cs cs':List Value},Ah w S h ψ (cs.map .lit) cs'→cs'=cs
 | [],cs',H=>by simpa[Ah]using H
 |v::cs,cs',H=>by
  rw[List.map_cons]at H;unfold Ah at H;obtain⟨u,us,e,h1,h2⟩:=H;unfold AV.rel at h1;rw[e,h1,Lo h2]
theorem QN{w:World}{S:Nat→Prop}{ψ:Nat→Value}{cs:List Value}{v:Value}(H:AV.rel w S h ψ (.agg (cs.map .lit)) v):v= .agg cs.toArray:=by
 unfold AV.rel at H;obtain⟨cs',e,hl⟩:=H;rw[e,Lo hl]
theorem NB{f:FuncId}{x:Operand}{cs:List Value}(ho:o.op= .makeFunc (.func f) #[x] #[])(hx:evA t x= .agg (cs.map .lit)):AX P C t h o (.lit (.func (.func f) #[.agg cs.toArray] #[])):=
 AR fun S ψ w ρ H hρ=>by
  have h1:=hρ x (by rw[ho];simp[Op.operands]);rw[hx]at h1;refine⟨.func (.func f) #[ρ x] #[],by simp[execOp,ho,Instr.makeFunc],?_⟩;unfold AV.rel;rw[QN h1]
theorem He{f:FuncId}{x:Operand}{args:Array Operand}{tys:Array TypeId}{xs l:List AV}{r:AV}{cs:List Value}(K:Known C l cs)(ho:o.op= .call {callee:=.value x,args:=args,argTypes:=tys})(hv:evA t x= .lit (.func (.func f) #[.agg cs.toArray] #[]))
 (hx:args.toList.map (evA t)=xs) (hF:Fn P f (.agg l::xs) r) (hc:Bt xs=true) (hr:AV.cl r=true):AX P C t h o r:=by
 intro S ψ w ρ H hρ;have h1:=hρ x (by rw[ho];exact Array.mem_append.2 (.inl (by simp)));rw[hv]at h1;unfold AV.rel at h1;rw[Yg ho hF.1 ρ w h1];refine⟨rfl,?_⟩;have h2:Ah w S h ψ xs (args.toList.map ρ):=by
  rw[←hx];exact Cm fun x hx'=>hρ x (by rw[ho];exact Array.mem_append.2 (.inr (Array.mem_toList_iff.1 hx')))
 have h4:Ah w S [] ψ0 (.agg l::xs) (.agg cs.toArray::args.toList.map ρ):=by
  unfold Ah;exact⟨_,_,rfl,by unfold AV.rel;exact⟨cs,rfl,K.now H⟩,Bi _ _ hc h2⟩
 have h3:=hF.2 w S _ H.lt h4;rw[show(#[Value.agg cs.toArray]++args.map ρ)=(Value.agg cs.toArray::args.toList.map ρ).toArray from(by apply Array.ext';simp)];refine h3.mono ?_;rintro e w' ⟨v,he,hb,S',k1,k2,k3,k4⟩;exact⟨v,he,hb,S',k1,k2,k3,Dz _ _ hr k4⟩
theorem NC{f:FuncId}{args:Array Operand}{tys:Array TypeId}{xs l:List AV}{r:AV}{cs:List Value}(K:Known C l cs)(ho:o.op= .call {callee:=.value (.func f),args:=args,argTypes:=tys})
 (hx:args.toList.map (evA t)= .agg (cs.map .lit)::xs) (hF:Fn P f (.agg l::xs) r) (hc:Bt xs=true) (hr:AV.cl r=true):AX P C t h o r:=by
 intro S ψ w ρ H hρ;have h1:ρ (.func f)= .func (.func f) #[] #[]:=by
  have:=hρ (.func f) (by rw[ho];exact Array.mem_append.2 (.inl (by simp)));simpa[evA,AV.rel]using this
 rw[CY ho hF.1 ρ w h1];refine⟨rfl,?_⟩;have h2:Ah w S h ψ (.agg (cs.map .lit)::xs) (args.toList.map ρ):=by
  rw[←hx];exact Cm fun x hx'=>hρ x (by rw[ho];exact Array.mem_append.2 (.inr (Array.mem_toList_iff.1 hx')))
 have h4:Ah w S [] ψ0 (.agg l::xs) (args.toList.map ρ):=by
  unfold Ah at h2⊢;obtain⟨u,us,e,h5,h6⟩:=h2;rw[QN h5]at e;exact⟨_,_,e,by unfold AV.rel;exact⟨cs,rfl,K.now H⟩,Bi _ _ hc h6⟩
 have h3:=hF.2 w S _ H.lt h4;rw[show(args.map ρ)=(args.toList.map ρ).toArray from(by rw[←Array.toList_map])];refine h3.mono ?_;rintro e w' ⟨v,he,hb,S',k1,k2,k3,k4⟩;exact⟨v,he,hb,S',k1,k2,k3,Dz _ _ hr k4⟩
theorem Xo{f:FuncId}{fn:Go.Func}{c:Code}{l rest:List AV}{r:AV}{t:Tmp}{n:Nat}(hf:P.funcs[f]? =some fn)(hb:fn.body=some c)(hE:B6 P f=true)(hres:fn.results= #[.tmp t])(hn:fn.ntmps=n)
 (h:∀(C:Ctx) (cs:List Value),C.std→Known C l cs→Awp P C c (Aku t r) ⟨(.agg (cs.map .lit)::rest)++List.replicate (n - (rest.length+1)) (.lit undef),[]⟩):Fn P f (.agg l::rest) r:=by
 refine⟨hE,fun w S vs hS hr=>?_⟩;have hr0:=hr;unfold Ah at hr;obtain⟨v,us,rfl,h1,h2⟩:=hr;unfold AV.rel at h1;obtain⟨cs,rfl,hcs⟩:=h1;have hK:Known ⟨w,S,fun k=>k < w.heap.size,none⟩ l cs:=⟨hcs,fun _ h=>h,hS⟩
 have hr':Ah w S [] ψ0 (.agg (cs.map .lit)::rest) (.agg cs.toArray::us):=by
  unfold Ah;exact⟨_,_,rfl,by unfold AV.rel;exact⟨cs,rfl,EF _⟩,h2⟩
 refine calls_of_wp hf hb ?_;rw[hn];have hA:=h ⟨w,S,fun k=>k < w.heap.size,none⟩ cs (fun _ h=>h) hK;rw[show rest.length+1=(AV.agg (cs.map .lit)::rest).length from rfl]at hA;refine wp_mono (hA.wp rfl (Dk hS hr')) ?_;rintro e a' w' ⟨s,⟨he,hfin⟩,hd,S1,ψ,H,hl⟩;rw[hfin.1]at hd;have hv:=BJ hl (.tmp t);have hg:=Es H hfin hv;have hres':(results fn a'.tmps).run P w'= .ok (a'.eval (.tmp t)) w':=results_tmp hres _ _ _;rcases he with rfl|rfl
 ·exact⟨hd,_,hres',_,rfl,hg⟩
 ·exact⟨hd,_,hres',_,rfl,hg⟩
end
instance Ajv:RT Tryz.prog 168 31 1 24:=⟨by kernel_rfl⟩
instance Aju:ZC Tryz.prog 114 [.nilFunc,.nilFunc]:=⟨by kernel_rfl⟩
instance Ajt:SZ Tryz.prog 114 2:=⟨by kernel_rfl⟩
instance Ajs:AG Tryz.prog 113 false 1:=⟨by kernel_rfl⟩
noncomputable section
def AP(m:Plan)(x:Ins)(i:Int):M (List ACell):=M.bnd (AU m x) fun a=>M.bnd (Be m x i) fun c=>M.chk (Bg c) (M.bnd (AQ m x) fun b=>M.chk (decide (a.length+b.length≤100000000)) (M.ok (a++c::b)))
theorem F5{m:Plan}{x:Ins}{i:Int}{r:List ACell}(H:(AP m x i).to r):Fn Tryz.prog 34 [.agg (AM m),.agg (BB x),.lit (.int .i64 i)] (.bs AN r):=by
 obtain⟨a,ha,H⟩:=Al.1 H;obtain⟨c,hc,H⟩:=Al.1 H;obtain⟨kc,H⟩:=Ab.1 H;obtain⟨b,hb,H⟩:=Al.1 H;obtain⟨kl,H⟩:=Ab.1 H;obtain rfl:=Ac.1 H;have kl:=of_decide_eq_true kl;have ha:=Ki ha;have hc':=Nm hc;have hb:=Jn hb;have hcat:=(TU [a,[c],b] (by simp) (by unfold Ro;simp;omega)).fn;have e:[a,[c],b].flatten=a++c::b:=by simp
 rw[e]at hcat;refine Xo Tryz.func34 rfl (by kernel_rfl) rfl Tryz.ntmps34 fun C cs hC hK=>?_
 obtain⟨A,n,q,rfl⟩:∃A n q,cs= [.bool m.leaf,.int .i64 m.slots,.slice A n q]:=by
  have h:=hK.rel;simp only[AM,Ah,AV.rel]at h;obtain⟨_,_,rfl,rfl,_,_,rfl,rfl,_,_,rfl,h5,rfl⟩:=h;obtain⟨A,q,e,_⟩:=h5;simp only[List.cons.injEq,and_true]at e;exact⟨_,_,_,by rw[e]⟩
 simp only[List.map_cons,List.map_nil];refine nS ?_;refine wR ?_;refine wR (hx:=by((repeat(first|refine sA (hq:=NB (cs:=[.bool m.leaf,.int .i64 m.slots,.slice A n q]) rfl rfl) ?_|refine sA (hq:=NB (cs:=[.bool m.leaf,.int .i64 m.slots,.slice A n q]) rfl rfl) ?_|refine sA (hq:=Xj (zs:=[.nilFunc,.nilFunc]) (n:=2) rfl (by kernel_rfl) (by kernel_rfl) rfl rfl) ?_|refine sA ?_|refine AW ?_|refine sAG ?_|refine BQ (hk:=?_)));exact Gq rfl)) (hk:=?_);refine wD 16 (hq:=by((repeat(first|refine qA (hq:=Cy (k:=0) (n:=2) (by kernel_rfl) rfl rfl rfl rfl (by omega)) ?_|refine qA (hq:=He hK rfl rfl rfl ha rfl rfl) ?_|refine qA (hq:=NC hK rfl rfl hc' rfl rfl) ?_|refine qA (hq:=AX.lt (xs:=[.tmp 20]) (T:=AN) (ds:=[c]) rfl rfl rfl (by rfl) (by decide) (.cons (Ca kc) .nil)) ?_|refine qA (hq:=Cy (k:=1) (n:=2) (by kernel_rfl) rfl rfl rfl rfl (by omega)) ?_|refine qA (hq:=He hK rfl rfl rfl hb rfl rfl) ?_|refine qA (hq:=AX.lt (xs:=[.tmp 16,.tmp 21,.tmp 25]) (T:=AN.slice) (ds:=[a,[c],b]) rfl rfl rfl (by rfl) (by decide) (.cons .bs (.cons .bs (.cons .bs .nil)))) ?_|refine qA ?_|refine HF ?_|refine qAG (hk:=?_)));exact Ajp rfl)) (hx:=by((repeat(first|refine sA (hq:=Cy (k:=0) (n:=2) (by kernel_rfl) rfl rfl rfl rfl (by omega)) ?_|refine sA (hq:=He hK rfl rfl rfl ha rfl rfl) ?_|refine sA (hq:=NC hK rfl rfl hc' rfl rfl) ?_|refine sA (hq:=AX.lt (xs:=[.tmp 20]) (T:=AN) (ds:=[c]) rfl rfl rfl (by rfl) (by decide) (.cons (Ca kc) .nil)) ?_|refine sA (hq:=Cy (k:=1) (n:=2) (by kernel_rfl) rfl rfl rfl rfl (by omega)) ?_|refine sA (hq:=He hK rfl rfl rfl hb rfl rfl) ?_|refine sA (hq:=AX.lt (xs:=[.tmp 16,.tmp 21,.tmp 25]) (T:=AN.slice) (ds:=[a,[c],b]) rfl rfl rfl (by rfl) (by decide) (.cons .bs (.cons .bs (.cons .bs .nil)))) ?_|refine sA ?_|refine AW ?_|refine sAG ?_|refine BQ (hk:=?_)));exact Gq rfl)) (hk:=?_);exact Ar ⟨.inr rfl,Fin.cl rfl⟩
end
def LC(rP0:Int)(c0:Func):M Bool:=M.ok ((decide (rP0 < 0))||(decide (rP0≥c0.regs)))
theorem NV{rP0:Int}{c0:Func}{r:Bool}(H:(LC rP0 c0).to r):Fn Tryz.prog 50 [.lit (.int .i64 rP0),.bp CX c0 0] (.lit (.bool r)):=by
 delta LC at H;try dsimp only at H
 refine AE Tryz.func50 rfl (by kernel_rfl) rfl Tryz.ntmps50 fun C hC=>?_
 refine nS ?_;refine wS (sT (wN ?_));refine wS (sT (sT (sT ?_)));refine sGf rfl ?_;refine sGf rfl ?_;refine sGf rfl ?_;refine sGf rfl (sT (sT (wN ?_)));obtain rfl:=Ac.1 H;exact Ar ⟨.inr rfl,Fin.cl rfl⟩
def IU(x:Pair)(c0:Plan):M Bool:=M.chk (BN c0.at_ x.a) (M.chk (BN c0.at_ x.b) (M.ok ((ixD c0.at_ x.a) ==(ixD c0.at_ x.b))))
theorem LR{x:Pair}{c0:Plan}{r:Bool}(H:(IU x c0).to r):Fn Tryz.prog 60 [.agg (Cb x),.bp KB c0 0] (.lit (.bool r)):=by
 delta IU at H;try dsimp only at H
 refine AE Tryz.func60 rfl (by kernel_rfl) rfl Tryz.ntmps60 fun C hC=>?_
 refine nS ?_;refine wS (sB (sT (wN ?_)));obtain⟨c1,H⟩:=Ab.1 H;obtain⟨c2,H⟩:=Ab.1 H;refine dS 14 (hq:=?_);refine qT (qT (qT (qT (qX c1 (qT (qT (qT (qT (qT (qX c2 (qT ?_)))))))))));refine qT (qT (qN (wN ?_)));obtain rfl:=Ac.1 H;exact Ar ⟨.inr rfl,Fin.cl rfl⟩
def Afl(p:Int→Bool)(l:List Int):Int:=match l.findIdx? p with|some i=>(i:Int)|none=> -1
theorem Afk{p:Int→Bool}{l:List Int}{k:Nat}(h:∀x∈l.take k,p x=false){x:Int}(hx:l[k]? =some x)(hp:p x=true):Afl p l=(k:Int):=by
 have:l.findIdx? p=some k:=by
  rw[List.findIdx?_eq_some_iff_getElem];obtain⟨hk,e⟩:=List.getElem?_eq_some_iff.1 hx;refine⟨hk,by rw[e];exact hp,fun j hj=>?_⟩;have:=h (l[j]'(by omega)) (by
   rw[List.mem_take_iff_getElem];exact⟨j,by omega,rfl⟩)
  rw[this];simp
 unfold Afl;rw[this]
theorem Y6{p:Int→Bool}{l:List Int}(h:∀x∈l,p x=false):Afl p l= -1:=by
 have:l.findIdx? p=none:=by
  rw[List.findIdx?_eq_none_iff];exact h
 unfold Afl;rw[this]
theorem VA{p:Int→Bool}{l:List Int}{k:Nat}(h:∀x∈l.take k,p x=false){x:Int}(hx:l[k]? =some x)(hp:p x=false):∀y∈l.take (k+1),p y=false:=by
 rw[List.take_add_one,hx];intro y hy;rcases List.mem_append.1 hy with hy|hy
 ·exact h y hy
 ·rw[List.mem_singleton.1 hy];exact hp
theorem Acd{p:Int→Bool}{l:List Int}:decide (Afl p l≥0)=l.any p:=by
 unfold Afl;cases h:l.findIdx? p with
 |none=>
  rw[List.findIdx?_eq_none_iff]at h;have:l.any p=false:=by rw[List.any_eq_false];intro x hx;rw[h x hx];simp
  rw[this];rfl
 |some i=>
  rw[List.findIdx?_eq_some_iff_getElem]at h;obtain⟨hi,hp,_⟩:=h;have:l.any p=true:=List.any_eq_true.2 ⟨_,List.getElem_mem hi,hp⟩;rw[this];exact decide_eq_true (by simp only;omega)
theorem Afj(l:List Int)(hl:l.length≤2147483648)(f:FuncId)(caps:List AV)(hcl:Bt caps=true)(p:Int→Bool)(hp:∀x∈l,Fn Tryz.prog f (.lit (.int .i64 x)::caps) (.lit (.bool (p x)))):Fn Tryz.prog 97 [.bs tInt l,.fn f caps] (.lit (.int .i64 (Afl p l))):=by
 have hcf:AV.cl (.fn f caps)=true:=by unfold AV.cl;exact hcl
 refine AE Tryz.func97 rfl (by kernel_rfl) rfl Tryz.ntmps97 fun C hC=>?_
 refine nS ?_;refine wR ?_;refine Ad fun K2 h2=>?_
 refine wR ?_;refine Ak ?_;refine AS (fun k:Nat=>⟨(.bs tInt l::.fn f caps::A5 (.lit (.int .i64 (l.length:Int))::.lit (.int .i64 (k:Int))::A10 [])),[]⟩) (fun k=>k≤l.length∧∀x∈l.take k,p x=false) (fun k=>l.length - k) 0 ⟨Nat.zero_le _,by simp⟩ (Bd) ?_;rintro k ⟨hk,hno⟩;refine wR ?_;refine Ad fun K6 h6=>?_
 refine Aj rfl (fun hb7=>?_) (fun hb7=>?_)
 ·have hlt:k < l.length:=by simpa using hb7
  obtain⟨x,hx⟩:∃x,l[k]? =some x:=⟨_,List.getElem?_eq_getElem hlt⟩
  have hpx:=hp x (List.mem_of_getElem? hx);refine Am ?_;refine h6 _ ?_;refine nT ?_;refine Ad fun K8 h8=>?_
  refine Ak ?_;refine wR ?_;refine wR ?_;refine Aj rfl (fun hb11=>?_) (fun hb11=>?_)
  ·refine wR ?_;rw[Afk hno hx hb11];exact Ar ⟨.inr rfl,Fin.cl rfl⟩
  ·refine Am ?_;refine h8 _ ?_;refine nT ?_;refine wRE ?_;refine An ⟨k+1,⟨by omega,VA hno hx hb11⟩,by omega,Bd⟩
 ·refine AB ?_;refine h2 _ ?_;refine nT ?_;refine wR ?_;have hke:k=l.length:=by have:¬k < l.length:=(by simpa using hb7);omega
  rw[Y6 (by rw[hke,List.take_length]at hno;exact hno)];exact Ar ⟨.inr rfl,Fin.cl rfl⟩
theorem Af8(l:List Int)(hl:l.length≤2147483648)(f:FuncId)(caps:List AV)(hcl:Bt caps=true)(p:Int→Bool)(hp:∀x∈l,Fn Tryz.prog f (.lit (.int .i64 x)::caps) (.lit (.bool (p x)))):Fn Tryz.prog 48 [.bs tInt l,.fn f caps] (.lit (.bool (l.any p))):=by
 have hcf:AV.cl (.fn f caps)=true:=by unfold AV.cl;exact hcl
 have hI:=Afj l hl f caps hcl p hp;refine AE Tryz.func48 rfl (by kernel_rfl) rfl Tryz.ntmps48 fun C hC=>?_
 refine nS ?_;refine wR ?_;refine wR (hx:=by((repeat(first|refine sA (hq:=AX.call rfl hI rfl (by show(true&&(AV.cl (.fn f caps)&&true))=true;rw[hcf];rfl) rfl) ?_|refine sA ?_|refine AW ?_|refine sAG ?_|refine BQ (hk:=?_)));exact Gq rfl)) (hk:=?_);exact Ar ⟨.inr rfl,Ad4 Acd⟩
theorem Ab5{h:List ABlk}{i:Nat}{f:Func}(hi:h[i]? =some (.box (Aq f)))(ho:okFunc f):P8 h (.ptr i 0) (.bp CX f 0):=
 .of (.box hi rfl fun _ _ _ _ _ _ hr=>LZ ho hr)
theorem UX{h:List ABlk}{i:Nat}{p:Plan}(hi:h[i]? =some (.box (AM p)))(ho:okPlan p):P8 h (.ptr i 0) (.bp KB p 0):=
 .of (.box hi rfl fun _ _ _ _ _ _ hr=>Abr ho hr)
def Agn(f:Func):Bool:=(((decide (f.regs < 0)||decide (f.regs > 4096))||decide (f.args < 0))||decide (f.args > (if(6:Int) < f.regs then 6 else f.regs)))
def TC(f:Func):Bool:=!Agn f&&!((Bp f).any fun r=>decide (r < 0)||decide (r≥f.regs))
theorem Aih(f:Func)(hf:FineF f)(hr:(Bp f).length≤2147483648):Fn Tryz.prog 19 [.agg (Aq f)] (.lit (.bool (TC f))):=by
 have hB:=MB f hf.ok hf.small hf.all;have hAny:=Af8 (Bp f) hr 50 [.bp CX f 0] rfl (fun r=>decide (r < 0)||decide (r≥f.regs)) fun r _=>NV (Ae _)
 refine AE Tryz.func19 rfl (by kernel_rfl) rfl Tryz.ntmps19 fun C hC=>?_
 refine nS ?_;refine wR ?_;refine Ad fun K2 h2=>?_
 refine wR ?_;refine Aj rfl (fun hb4=>?_) (fun hb4=>?_)
 ·refine wR ?_;have e:TC f=false:=by unfold TC;rw[show Agn f=true from hb4];rfl
  rw[e];exact Ar ⟨.inr rfl,Fin.cl rfl⟩
 ·refine Am ?_;refine h2 _ ?_;refine nT ?_;refine wR (hx:=by((repeat(first|refine sA (hq:=C2 rfl hAny (.cons (.cl rfl) (.cons (.fn (.cons (Ab5 rfl hf.ok) .nil)) .nil))) (hk:=?_)|refine sA ?_|refine AW ?_|refine sAG ?_|refine BQ (hk:=?_)));exact Gq rfl)) (hk:=?_);have e:TC f= !((Bp f).any fun r=>decide (r < 0)||decide (r≥f.regs)):=by unfold TC;rw[show Agn f=false from hb4];rfl
  rw[e];exact Ar ⟨.inr rfl,Fin.cl rfl⟩
end Mu
end
section
namespace Mu
open Go Go.RowKit
section
variable{P:Program}{C:Ctx}
def gM(P:Program)(C:Ctx){ι:Type}(F:ι→(Nat→Bool)→St)(ops:Array Oper):Nat→List Oper→Prop
 |_,[]=>True
 |k,o::rest=>(∀i b,b k=false→W7 b o→ZM ops b→AOp P C o (F i b) fun s=>∃i',St.le C s (F i' (upd b k)))∧gM P C F ops (k+1) rest
theorem Ad2{ι:Type}{F:ι→(Nat→Bool)→St}{ops:Array Oper}:∀{l:List Oper} {k j:Nat} {o:Oper},gM P C F ops k l→l[j]? =some o→∀i b,b (k+j)=false→W7 b o→ZM ops b→AOp P C o (F i b) fun s=>∃i',St.le C s (F i' (upd b (k+j)))
 | [],_,_,_,_,hj=>by simp at hj
 |o'::l,k,0,o,h,hj=>by
  simp at hj;subst hj;exact h.1
 |o'::l,k,j+1,o,h,hj=>by
  have:=Ad2 (l:=l) (k:=k+1) (j:=j) h.2 (by simpa using hj);rwa [show k+1+j=k+(j+1)by omega]at this
theorem Gf{ι:Type}{F:ι→(Nat→Bool)→St}{ops:Array Oper}{k:Nat}{o:Oper}{rest:List Oper}(h1:∀i b,b k=false→W7 b o→ZM ops b→AOp P C o (F i b) fun s=>∃i',St.le C s (F i' (upd b k)))(h2:gM P C F ops (k+1) rest):gM P C F ops k (o::rest):=⟨h1,h2⟩
theorem Ai4{ι:Type}{F:ι→(Nat→Bool)→St}{ops:Array Oper}{k:Nat}:gM P C F ops k []:=trivial
theorem Vv{ops:Array Oper}{ι:Type}{F:ι→(Nat→Bool)→St}{Q':Exit→Act→World→Prop}(hf:Ai7 ops=true)
 (hs:∀(j:Nat) (o:Oper),ops[j]? =some o→∀(i:ι) b,b j=false→W7 b o→ZM ops b→AOp P C o (F i b) fun s=>∃i',St.le C s (F i' (upd b j)))
 (hQ:∀i a w,(F i fun _=>true).rel C a w→Q' .normal a w):
 ∀(f:Nat) (listed:Array Bool) (a:Act) (w:World),listed.size=ops.size→listed.toList.count false=f→ZM ops (fun j=>listed.getD j true)→∀i,(F i fun j=>listed.getD j true).rel C a w→wpAny P .any ops Q' f listed a w:=by
 intro f;induction f with
 |zero=>
  intro listed a w hsz hc hcl ix H;have hall:∀j,listed.getD j true=true:=fun j=>by
   rcases Nat.lt_or_ge j listed.size with h'|h'
   ·have hm:=List.count_eq_zero.1 hc;simp only[Array.getD_eq_getD_getElem?,Array.getElem?_eq_getElem h',Option.getD_some];rcases hx:listed[j]with _|_
    ·exact absurd (by rw[←hx];simp) hm
    ·rfl
   ·simp[Array.getD_eq_getD_getElem?,Array.getElem?_eq_none h']
  refine⟨List.eq_nil_iff_forall_not_mem.2 fun i hi=>?_,hQ ix a w ?_⟩
  ·have:=(mem_ready.1 hi).1;rw[hall i]at this;cases this
  ·have e:(fun j=>listed.getD j true)=fun _=>true:=funext hall
   rwa [e]at H
 |succ f ih=>
  intro listed a w hsz hc hcl ix H;refine⟨fun h0=>?_,fun i hi=>?_⟩
  ·exfalso;have hex:∃j,listed.getD j true=false:=by
    have hm:false∈listed.toList:=List.count_pos_iff.1 (by omega);obtain⟨j,hj,he⟩:=List.getElem_of_mem hm;exact⟨j,by simp only[Array.length_toList]at hj;simp only[Array.getElem_toList]at he;simp[Array.getD_eq_getD_getElem?,hj,he]⟩
   obtain⟨j,hj,hmin⟩:=G4 hex;have hjs:j < ops.size:=by
    rcases Nat.lt_or_ge j listed.size with h'|h'
    ·omega
    ·simp[Array.getElem?_eq_none h']at hj
   have hmem:j∈Region.ready .any ops listed:=mem_ready.2 ⟨hj,_,Array.getElem?_eq_getElem hjs,fun e he hb=>by
    have hlt:=(PK hf (Array.getElem?_eq_getElem hjs)).2 e he hb;cases hx:listed.getD e.on false with
    |true=>rfl
    |false=>
     have hin:e.on < listed.size:=by omega
     have:=hmin e.on (getD_in hin hx);omega⟩
   rw[h0]at hmem;cases hmem
  ·obtain⟨hun,o,ho,hall⟩:=mem_ready.1 hi;have his:i < listed.size:=by rw[hsz];exact(Array.getElem?_eq_some_iff.1 ho).1
   obtain⟨hg,hfw⟩:=PK hf ho;have haft:W7 (fun j=>listed.getD j true) o:=fun k e he hb=>Ad0 (hall e (Array.mem_of_getElem? he) hb)
   have hcnt:(listed.setIfInBounds i true).toList.count false=f:=by
    have hfalse:listed.toList[i]'(by simpa using his)=false:=by
     have:=hun;simp[Array.getD_eq_getD_getElem?,his]at this;simpa using this
    rw[Array.toList_setIfInBounds,List.count_set (by simpa using his),hfalse,hc];simp
   unfold wpOp;simp only[ho];have hw:Region.wanted o (yielded ops a.tmps)=true:=by unfold Region.wanted;rw[hg]
   rw[hw,if_pos rfl];refine .inl (Oper.wp_mono (fun a' w' ⟨s',⟨iy,hle⟩,hr⟩=>?_) (hs i o ho ix _ hun haft hcl Q' a w H).2);refine ih _ a' w' (by simpa using hsz) hcnt ?_ iy ?_
   ·rw[O1 his];intro j o' hj hbj;by_cases hji:j=i
    ·subst hji;rw[ho]at hj;cases hj;exact Kl haft
    ·exact Kl (hcl j o' hj (by unfold upd at hbj;rwa [if_neg hji]at hbj))
   ·rw[O1 his];exact hle a' w' hr
theorem Aap{id n:Nat}{l:List Oper}{Q:Exit→St→Prop}{ι:Type}(i0:ι)(F:ι→(Nat→Bool)→St)(hn:l.length=n)(hm:P.follows .mixedOrders=true)(hB:(Region.noSelect l.toArray&&HV l.toArray&&Ai7 l.toArray)=true)
 (hs:gM P C F l.toArray 0 l) (hQ:∀i,Q .normal (F i fun _=>true)):Awp P C (.region id l.toArray true) Q (F i0 fun j=>decide (n≤j)):=fun a w H=>by
 simp only[Bool.and_eq_true]at hB;obtain⟨⟨hsel,hnd⟩,hf⟩:=hB;refine Ff hm hnd ?_;have e0:(fun j=>(Array.replicate l.toArray.size false).getD j true)=fun j=>decide (n≤j):=by
  funext j;simp only[Array.getD_eq_getD_getElem?,Array.getElem?_replicate,List.size_toArray,hn];by_cases h:j < n
  ·rw[if_pos h,decide_eq_false (by omega)];rfl
  ·rw[if_neg h,decide_eq_true (by omega)];rfl
 refine Vv (Q':=fun e a' w'=>e= .normal∧∃s',Q e s'∧s'.rel C a' w') hf (fun j o ho i b h1 h2 h3=>?_) (fun i a' w' h=>⟨rfl,_,hQ i,h⟩) _ _ a _ (by simp) (by simp) ?_ i0 ?_
 ·have:=Ad2 (l:=l) (k:=0) (j:=j) hs (by simpa using ho) i b (by rwa [Nat.zero_add]) h2 h3;rwa [Nat.zero_add]at this
 ·intro j o ho hb;have hj:j < l.toArray.size:=(Array.getElem?_eq_some_iff.1 ho).1;have:(Array.replicate l.toArray.size false).getD j true=true:=hb;rw[Array.getD_eq_getD_getElem?,Array.getElem?_replicate,if_pos hj]at this;cases this
 ·rw[e0];obtain⟨hd,S,ψ,hh',hl⟩:=H;have hb:Below w.heap.size w {w with drawn:=w.drawn+1}:=⟨rfl,rfl,rfl,Nat.le_refl _,fun _ _=>rfl⟩
  exact⟨hd,S,ψ,hh'.grow hb (fun _ h=>h) (fun _ h=>.inl h) hh'.lt,Ay (show Ext w S _ ψ {w with drawn:=w.drawn+1} S _ ψ from Ext.grow _ ψ (fun k hk=>rfl) fun _ h=>h) _ _ hl⟩
end
end Mu
end
section
namespace Mu
open Go Go.RowKit Go.Proofs
theorem PQ{v:Value}{xs:List Int}{x:Int}{w:World}{S:Nat→Prop}(h:tInt.slice.RS w S [v] xs)(hn:xs.length≤2147483648):
 Calls Tryz.prog 57 #[v,.int .i64 x] w fun e w'=>e= .returned (.bool (xs.contains x))∧w=w':=by
 obtain⟨A,c,rfl⟩:=Cs h;by_cases hz:xs= []
 ·subst hz;refine(Tryz.slices_Contains_int_empty _ _ _ _).mono fun e w' ⟨he,hw⟩=>⟨he,hw.symm⟩
 ·have hpos:0 < xs.length:=List.length_pos_iff.2 hz;obtain⟨b,o,e,_⟩:=IR h (List.getElem?_eq_getElem hpos);cases e;refine(Tryz.slices_Contains_int b o xs.length c xs x w (Nat.le_refl _) (by omega) (fun j hj=>?_)).mono fun e w' ⟨he,hw⟩=>?_
  ·obtain⟨b',o',e',_,hc,_⟩:=IR h (List.getElem?_eq_getElem hj);cases e';rw[hc];simp[List.getD,hj]
  ·rw[List.take_length]at he;exact⟨he,hw.symm⟩
theorem RP(xs:List Int)(x:Int)(hn:xs.length≤2147483648):Fn Tryz.prog 57 [.bs tInt xs,.lit (.int .i64 x)] (.lit (.bool (xs.contains x))):=by
 refine⟨by kernel_rfl,fun w S vs hS hr=>?_⟩;unfold Ah at hr;obtain⟨v,us,rfl,h1,h2⟩:=hr;obtain⟨u,us',rfl,h3,h4⟩:=by unfold Ah at h2;exact h2
 unfold Ah at h4;subst h4;unfold AV.rel at h1 h3;subst h3;refine(PQ h1 hn).mono fun e w' ⟨he,hw⟩=>?_
 subst hw;exact⟨_,he,Below.refl _ _,S,fun _ h=>h,fun _ h=>.inl h,hS,by unfold AV.rel;rfl⟩
def I6(p:Plan)(z:Int):Bool:=decide (z≥32)&&decide (IntKind.i64.wrap (z - 32) < p.slots)
def F9(p:Plan)(k:Nat):Int→Bool:=fun z=>((p.at_.take k).filter (I6 p)).contains z
theorem Aed(p:Plan):F9 p 0=fun _=>false:=by
 funext z;simp[F9]
theorem Vy{p:Plan}{k:Nat}{x:Int}(hx:p.at_[k]? =some x)(h:I6 p x=true):F9 p (k+1)=Aaa (F9 p k) x:=by
 funext z;unfold F9 Aaa;rw[List.take_add_one,hx];simp[List.filter_append,h,List.contains_eq_mem];try grind
theorem Uq{p:Plan}{k:Nat}{x:Int}(hx:p.at_[k]? =some x)(h:I6 p x=false):F9 p (k+1)=F9 p k:=by
 funext z;unfold F9;rw[List.take_add_one,hx];simp[List.filter_append,h]
theorem O0(p:Plan)(k:Nat):InR (Cv p.at_) (F9 p k):=⟨fun x _ hs=>by
 refine((Eq _).2 x).2 ?_;unfold F9 at hs;rw[List.contains_iff_mem]at hs;exact List.mem_of_mem_take (List.mem_filter.1 hs).1⟩
def cardC(p:Plan):Nat:=((Cv p.at_).filter (F9 p p.at_.length)).length
def atC(f:Func)(p:Plan)(k:Nat)(x:Int):Bool:=if(Bp f).contains (k:Int)then I6 p x||((DM f p.leaf (Bp f)).getD ((Bp f).countP (· < (k:Int))) []).contains x else x == -1
def Rc(f:Func)(p:Plan):Bool:=((((!TC f)||((p.at_.length:Int) !=f.regs))||decide (p.slots < 0))||(p.leaf&&((!leaf f.blocks)||decide (p.slots > 0))))
def Od(p:Plan)(x:Pair):Bool:=ixD p.at_ x.a ==ixD p.at_ x.b
def Df(f:Func)(p:Plan):Bool:=!Rc f p&&((List.range p.at_.length).all fun j=>atC f p j (p.at_.getD j 0))&&(((cardC p:Int) ==p.slots)&&!((GH f).any (Od p)))
theorem Oh{f:Func}{p:Plan}{k:Nat}{x:Int}(hx:p.at_[k]? =some x)(h:atC f p k x=false):Df f p=false:=by
 have hk:=(List.getElem?_eq_some_iff.1 hx).1;have:((List.range p.at_.length).all fun j=>atC f p j (p.at_.getD j 0))=false:=by
  rw[List.all_eq_false];refine⟨k,List.mem_range.2 hk,?_⟩;rw[List.getD_eq_getElem?_getD,hx];simpa using h
 unfold Df;rw[this];simp
theorem S9{f:Func}{p:Plan}(h0:Rc f p=false)(h:∀j x,p.at_[j]? =some x→atC f p j x=true):Df f p=(((cardC p:Int) ==p.slots)&&!((GH f).any (Od p))):=by
 have:((List.range p.at_.length).all fun j=>atC f p j (p.at_.getD j 0))=true:=by
  rw[List.all_eq_true];intro j hj;have hl:=List.mem_range.1 hj;exact h j _ (by rw[List.getD_eq_getElem?_getD,List.getElem?_eq_getElem hl];rfl)
 unfold Df;rw[this,h0];simp
theorem R8{l:List Int}(h:Asc l){x:Int}(hx:x∈l):l[l.countP (· < x)]? =some x:=by
 induction l with
 |nil=>cases hx
 |cons y l ih=>
  unfold Asc at h;rw[List.pairwise_cons]at h;rcases List.mem_cons.1 hx with rfl|hx
  ·have:(x::l).countP (· < x)=0:=by
    rw[List.countP_eq_zero];intro z hz;rcases List.mem_cons.1 hz with rfl|hz
    ·simp
    ·have:=h.1 z hz;simp;omega
   rw[this];rfl
  ·have hy:=h.1 x hx;rw[List.countP_cons_of_pos (by simpa using hy)];simpa using ih h.2 hx
theorem Abi(f:Func)(p:Plan)(hf:FineF f)(hbk:CX.bulk f≤2097152)(hp:okPlan p)(hw:∀x∈p.at_,Ht x)(hpl:p.at_.length≤2147483648)(hr:(Bp f).length≤2147483648)(hcl:∀c∈DM f p.leaf (Bp f),c.length≤2147483648)(hel:(GH f).length≤2147483648)
 (hE:TC f=true→∀x∈GH f,(0≤x.a∧x.a < f.regs)∧(0≤x.b∧x.b < f.regs)):Fn Tryz.prog 24 [.agg (Aq f),.agg (AM p)] (.lit (.bool (Df f p))):=by
 have hMay:=Aih f hf hr;have hLeaf:=RV (f:=f) (Af (by rw[Bool.and_eq_true];exact⟨Cn.2 hf,decide_eq_true hbk⟩) (Ae _));have hRegs:=MB f hf.ok hf.small hf.all;have hCl:=RU f p.leaf hf.ok hf.small hf.reads hf.ins hf.all;have hEd:=Acq f hf.ok hf.small hf.reads hf.all hf.ins;have hRR:RegsR (Cv p.at_):=⟨(Eq _).1,fun x hx=>hw x (((Eq _).2 x).1 hx),Nat.le_trans (Dl _) hpl⟩
 refine AE Tryz.func24 rfl (by kernel_rfl) rfl Tryz.ntmps24 fun C hC=>?_
 refine nS ?_;refine wR ?_;refine Ad fun K2 h2=>?_
 refine wR ?_;refine Aj rfl (fun hb4=>?_) (fun hb4=>?_)
 ·refine wR ?_;have e:Df f p=false:=by unfold Df;rw[show Rc f p=true from hb4];rfl
  rw[e];exact Ar ⟨.inr rfl,Fin.cl rfl⟩
 ·have h0:Rc f p=false:=hb4;refine Am ?_;refine h2 _ ?_;refine nT ?_;refine A1 ⟨.agg (Aq f)::.agg (AM p)::.ptr 0 0::.ptr 1 0::.lit (.bool false)::A80 (A10 (A6 [])),[.box (Aq f),.box (AM p)]⟩ (Bd) ?_;refine Ad fun K7 h7=>?_
  refine Aap (n:=10) 0 (fun(m:Nat) (b:Nat→Bool)=>⟨.agg (Aq f)::.agg (AM p)::.ptr 0 0::.ptr 1 0::.lit (.bool false)::(bif b 7 then .bs tInt (Bp f)else .any)::(bif b 8 then .bs tInt.slice (DM f p.leaf (Bp f))else .any)::(bif b 9 then .lit (.map (some m))else .any)::A20 (A10 (A4 ((bif b 0 then .agg (Aq f)else .any)::(bif b 1 then .bs tInt (Bp f)else .any)::(bif b 2 then .agg (Aq f)else .any)::(bif b 3 then .ptr 1 0 else .any)::(bif b 4 then .lit (.bool p.leaf)else .any)::(bif b 5 then .bs tInt.slice (DM f p.leaf (Bp f))else .any)::(bif b 6 then .lit (.map (some m))else .any)::A40 (A10 (A2 []))))),bif b 6 then [.box (Aq f),.box (AM p),.res (JY (fun _=>false) m)]else [.box (Aq f),.box (AM p)]⟩) rfl (by kernel_rfl) (by kernel_rfl) ?_ (fun m=>h7 _ ?_)
  ·refine Gf (fun m b hb ha hc=>?_) ?_
   ·try dsimp only
    refine BD (Bc rfl PJ (by cases b 6 <;> rfl) rfl) ?_;exact⟨m,St.le.refl⟩
   refine Gf (fun m b hb ha hc=>?_) ?_
   ·try dsimp only
    have h0:b 0=true:=ha 0 _ rfl rfl;refine BD (Ba rfl (Ab2 ((AL (AO PJ)).trans (Cf h0 _ _)) rfl) hRegs rfl rfl) ?_;exact⟨m,St.le.refl⟩
   refine Gf (fun m b hb ha hc=>?_) ?_
   ·try dsimp only
    refine BD (Bc rfl PJ (by cases b 6 <;> rfl) rfl) ?_;exact⟨m,St.le.refl⟩
   refine Gf (fun m b hb ha hc=>?_) ?_
   ·try dsimp only
    refine BD (BU rfl Kw (by cases b 6 <;> rfl)) ?_;exact⟨m,St.le.refl⟩
   refine Gf (fun m b hb ha hc=>?_) ?_
   ·try dsimp only
    have h3:b 3=true:=ha 0 _ rfl rfl;refine BD (Bk rfl ((AL (AO L9)).trans (Cf h3 _ _)) (by cases b 6 <;> rfl) rfl) ?_;exact⟨m,St.le.refl⟩
   refine Gf (fun m b hb ha hc=>?_) ?_
   ·try dsimp only
    have h2:b 2=true:=ha 0 _ rfl rfl;have h4:b 4=true:=ha 1 _ rfl rfl;refine BD (Ba rfl (Ab2 ((AL (AO NU)).trans (Cf h2 _ _)) (Ab2 ((AL (AO Qd)).trans (Cf h4 _ _)) rfl)) hCl rfl rfl) ?_;exact⟨m,St.le.refl⟩
   refine Gf (fun m b hb ha hc=>?_) ?_
   ·try dsimp only
    have h9:b 9=false:=Ct hc (i:=6) (j:=9) (k:=0) rfl rfl rfl rfl hb;have e7:∀m1:Nat,(bif b 9 then AV.lit (.map (some m))else .any)=(bif upd b 6 9 then AV.lit (.map (some m1))else .any):=fun m1=>by rw[show upd b 6 9=b 9 from rfl,h9];rfl
    rw[hb];refine NI rfl fun m1=>⟨m1,?_⟩
    rw[e7 m1];exact St.le.refl
   refine Gf (fun m b hb ha hc=>?_) ?_
   ·try dsimp only
    have h1:b 1=true:=ha 0 _ rfl rfl;refine BD (AX.assign rfl ((AL (AO Kw)).trans (Cf h1 _ _))) ?_;exact⟨m,St.le.refl⟩
   refine Gf (fun m b hb ha hc=>?_) ?_
   ·try dsimp only
    have h5:b 5=true:=ha 0 _ rfl rfl;refine BD (AX.assign rfl ((AL (AO NO)).trans (Cf h5 _ _))) ?_;exact⟨m,St.le.refl⟩
   refine Gf (fun m b hb ha hc=>?_) ?_
   ·try dsimp only
    have h6:b 6=true:=ha 0 _ rfl rfl;refine BD (AX.assign rfl ((AL (AO (AO Oy))).trans (Cf h6 _ _))) ?_;exact⟨m,St.le.refl⟩
   exact Ai4
  refine Ad fun K8 h8=>?_
  refine wR ?_;refine Ak ?_;refine AS (fun k:Nat=>⟨(A2 (.ptr 0 0::.ptr 1 0::.any::.bs tInt (Bp f)::.bs tInt.slice (DM f p.leaf (Bp f))::.lit (.map (some m))::A40 (A2 (.bs tInt p.at_::.lit (.int .i64 (p.at_.length:Int))::.lit (.int .i64 (k:Int))::A40 (A8 []))))),[.box (Aq f),.box (AM p),.res (JY (F9 p k) m)]⟩) (fun k=>k≤p.at_.length∧∀j x,j < k→p.at_[j]? =some x→atC f p j x=true) (fun k=>p.at_.length - k) 0 ⟨Nat.zero_le _,fun j x h=>by omega⟩ (by rw[Aed];exact Bd) ?_;rintro k ⟨hk,hgood⟩;refine wR ?_;refine Ad fun K12 h12=>?_
  refine Aj rfl (fun hb13=>?_) (fun hb13=>?_)
  ·have hlt:k < p.at_.length:=by simpa using hb13
   obtain⟨x,hx⟩:∃x,p.at_[k]? =some x:=⟨_,List.getElem?_eq_getElem hlt⟩
   have hS:=QD (Bp f) (k:Int) (Hx f) hr;have hxw:=hw x (List.mem_of_getElem? hx);refine Am ?_;refine h12 _ ?_;refine nT ?_;refine Ad fun K14 h14=>?_
   refine Ak ?_;refine wR ?_;refine wR (hx:=by((repeat(first|refine sA (hq:=Ba rfl rfl hS rfl rfl) ?_|refine sA ?_|refine AW ?_|refine sAG (hq:=by(intro hg;(try simp only[Bool.and_eq_true,beq_true,beq_false,Bool.not_eq_true',Bool.not_eq_eq_eq_not,Bool.not_true,Bool.not_false]at hg);(try simp only[hg,beq_true,beq_false,cond_true,Bool.true_and,Bool.and_true,Bool.not_false,Bool.not_true,beq_self_eq_true]);exact Ba rfl rfl hS rfl rfl)) ?_|refine sAG ?_|refine BQ (hk:=?_)));exact Gq rfl)) (hk:=?_);refine Ak ?_;refine wR ?_;refine Aj rfl (fun hb18=>?_) (fun hb18=>?_)
   ·have hnc:(Bp f).contains (k:Int)=false:=by simpa using hb18
    refine wR ?_;refine Aj rfl (fun hb20=>?_) (fun hb20=>?_)
    ·refine wR ?_;have e:Df f p=false:=Oh hx (by unfold atC;rw[if_neg (by rw[hnc];simp)];simpa using hb20);rw[e];exact Ar ⟨.inr rfl,Fin.cl rfl⟩
    ·have hat:atC f p k x=true:=by unfold atC;rw[if_neg (by rw[hnc];simp)];simpa using hb20
     have hus:F9 p (k+1)=F9 p k:=Uq hx (by
      have:x= -1:=by simpa using hb20
      subst this;unfold I6;rfl)
     refine Am ?_;refine h14 _ ?_;refine nT ?_;refine wRE ?_;refine An ⟨k+1,⟨by omega,fun j y hj hy=>?_⟩,by omega,?_⟩
     ·rcases Nat.lt_or_ge j k with hj'|hj'
      ·exact hgood j y hj' hy
      ·obtain rfl:j=k:=by omega
       rw[hx]at hy;cases hy;exact hat
     ·rw[hus];exact Bd
   ·have hyc:(Bp f).contains (k:Int)=true:=by simpa using hb18
    refine wR ?_;refine Aj rfl (fun hb24=>?_) (fun hb24=>?_)
    ·have hsl:I6 p x=true:=hb24;have hat:atC f p k x=true:=by unfold atC;rw[if_pos hyc,hsl];rfl
     have hus:=Vy hx hsl;refine wRE (hx:=by((repeat(first|(refine Bu rfl (Vr (R:=Cv p.at_) 2 rfl Tryz.underlying87 rfl rfl rfl rfl hRR (O0 p k) hxw ?_);refine sNt ?_)|refine sA ?_|refine AW ?_|refine sAG ?_|refine BQ (hk:=?_)));exact Gq rfl)) (hk:=?_);refine h14 _ ?_;refine nT ?_;refine wRE ?_;refine An ⟨k+1,⟨by omega,fun j y hj hy=>?_⟩,by omega,?_⟩
     ·rcases Nat.lt_or_ge j k with hj'|hj'
      ·exact hgood j y hj' hy
      ·obtain rfl:j=k:=by omega
       rw[hx]at hy;cases hy;exact hat
     ·rw[hus];exact Bd
    ·have hsl:I6 p x=false:=hb24;have hus:=Uq hx hsl;have hcnt:=R8 (Hx f) (List.contains_iff_mem.1 hyc);have hc:(DM f p.leaf (Bp f))[(Bp f).countP (· < (k:Int))]? =some (CP (CU f) k p.leaf):=by unfold DM;rw[List.getElem?_map,hcnt];rfl
     have hcn:=RP (CP (CU f) k p.leaf) x (hcl _ (List.mem_of_getElem? hc));have hcd:(DM f p.leaf (Bp f)).getD ((Bp f).countP (· < (k:Int))) []=CP (CU f) k p.leaf:=by rw[List.getD_eq_getElem?_getD,hc];rfl
     refine wR (hx:=by((repeat(first|refine sA (hq:=Ba rfl rfl hcn rfl rfl) ?_|refine sA ?_|refine AW ?_|refine sAG (hq:=by(intro hg;(try simp only[Bool.and_eq_true,beq_true,beq_false,Bool.not_eq_true',Bool.not_eq_eq_eq_not,Bool.not_true,Bool.not_false]at hg);(try simp only[hg,beq_true,beq_false,cond_true,Bool.true_and,Bool.and_true,Bool.not_false,Bool.not_true,beq_self_eq_true]);exact Ba rfl rfl hcn rfl rfl)) ?_|refine sAG ?_|refine BQ (hk:=?_)));exact Gq rfl)) (hk:=?_);refine Aj rfl (fun hb27=>?_) (fun hb27=>?_)
     ·refine wR ?_;have e:Df f p=false:=Oh hx (by unfold atC;rw[if_pos hyc,hsl,hcd];simpa using hb27);rw[e];exact Ar ⟨.inr rfl,Fin.cl rfl⟩
     ·have hat:atC f p k x=true:=by unfold atC;rw[if_pos hyc,hsl,hcd];simpa using hb27
      refine Am ?_;refine h14 _ ?_;refine nT ?_;refine wRE ?_;refine An ⟨k+1,⟨by omega,fun j y hj hy=>?_⟩,by omega,?_⟩
      ·rcases Nat.lt_or_ge j k with hj'|hj'
       ·exact hgood j y hj' hy
       ·obtain rfl:j=k:=by omega
        rw[hx]at hy;cases hy;exact hat
      ·rw[hus];exact Bd
  ·refine AB ?_;refine h8 _ ?_;refine nT ?_;obtain rfl:k=p.at_.length:=by have:¬k < p.at_.length:=(by simpa using hb13);omega
   have hmay:TC f=true:=by
    have h1:=h0;unfold Rc at h1;simp only[Bool.or_eq_false_iff]at h1;simpa using h1.1.1.1
   have hlen:(p.at_.length:Int)=f.regs:=by
    have h1:=h0;unfold Rc at h1;simp only[Bool.or_eq_false_iff]at h1;simpa using h1.1.1.2
   have hAny:=T8 (GH f) hel 60 [.bp KB p 0] rfl (Od p) fun x hx=>by
    obtain⟨⟨h1,h2⟩,h3,h4⟩:=hE hmay x hx;exact LR (Af (Ee.2 ⟨h1,by omega⟩) (Af (Ee.2 ⟨h3,by omega⟩) (Ae _)))
   refine wR (hx:=by((repeat(first|refine sA (hq:=GR (i:=2) (L:=Cv p.at_) rfl Tryz.underlying87 rfl rfl (fun _ _ h=>h) hRR (O0 p _)) ?_|refine sA (hq:=Ba rfl rfl hEd rfl rfl) ?_|refine sA (hq:=C2 rfl hAny (.cons (.cl rfl) (.cons (.fn (.cons (UX rfl hp) .nil)) .nil))) (hk:=?_)|refine sA ?_|refine AW ?_|refine sAG (hq:=by(intro hg;(try simp only[Bool.and_eq_true,beq_true,beq_false,Bool.not_eq_true',Bool.not_eq_eq_eq_not,Bool.not_true,Bool.not_false]at hg);(try simp only[hg,beq_true,beq_false,cond_true,Bool.true_and,Bool.and_true,Bool.not_false,Bool.not_true,beq_self_eq_true]);exact GR (i:=2) (L:=Cv p.at_) rfl Tryz.underlying87 rfl rfl (fun _ _ h=>h) hRR (O0 p _))) ?_|refine sAG (hq:=by(intro hg;(try simp only[Bool.and_eq_true,beq_true,beq_false,Bool.not_eq_true',Bool.not_eq_eq_eq_not,Bool.not_true,Bool.not_false]at hg);(try simp only[hg,beq_true,beq_false,cond_true,Bool.true_and,Bool.and_true,Bool.not_false,Bool.not_true,beq_self_eq_true]);exact Ba rfl rfl hEd rfl rfl)) ?_|refine sAG (hq:=by(intro hg;(try simp only[Bool.and_eq_true,beq_true,beq_false,Bool.not_eq_true',Bool.not_eq_eq_eq_not,Bool.not_true,Bool.not_false]at hg);(try simp only[hg,beq_true,beq_false,cond_true,Bool.true_and,Bool.and_true,Bool.not_false,Bool.not_true,beq_self_eq_true]);exact C2 rfl hAny (.cons (.cl rfl) (.cons (.fn (.cons (UX rfl hp) .nil)) .nil)))) (hk:=?_)|refine sAG ?_|refine BQ (hk:=?_)));exact Gq rfl)) (hk:=?_);rw[S9 h0 fun j x h=>hgood j x (List.getElem?_eq_some_iff.1 h).1 h];exact Ar ⟨.inr rfl,Fin.cl rfl⟩
noncomputable section
def HC(l:List Int)(n:Int):Int→M (Int⊕((Unit)⊕(Bool))):=fun i1=>M.cnd (decide (i1 < (l.length:Int))) (M.chk (BN l i1) (M.cnd ((ixD l i1) ==n) (M.ok (.inr (.inr true))) (M.ok (.inl (IntKind.i64.wrap (i1+1)))))) (M.ok (.inr (.inl ())))
def MG(l:List Int)(n:Int):M Bool:=M.els (M.loop (HC l n) 0) fun _=>M.ok false
theorem LY{l:List Int}{n:Int}{r:Bool}(H:(MG l n).to r):Fn Tryz.prog 53 [.bs tInt l,.lit (.int .i64 n)] (.lit (.bool r)):=by
 delta MG at H;try dsimp only at H
 refine AE Tryz.func53 rfl (by kernel_rfl) rfl Tryz.ntmps53 fun C hC=>?_
 refine nS ?_;refine wS (sT (wN ?_));obtain⟨z2,HX2,Hl2,Hq2⟩:=Cc H;refine Bn (β:=(Unit)×(Unit)) (fun q2=>z2= .inl q2.1) (fun q2=>⟨A10 (A8 []),[]⟩) ?_ ?_
 ·refine wS (sT (wN ?_));refine Ak ?_;refine Bv HX2 (fun s2 b2=>⟨.bs tInt l::.lit (.int .i64 n)::A3 (.lit (.int .i64 s2)::A10 (A2 [])),[]⟩) () (?_) ?_
  ·try dsimp only
   exact Bd
  ·rintro i1 _ x2 H Hr2;try dsimp only
   dsimp only[HC]at H;refine Ad fun Khs3 hs3=>?_
   refine wS (sT (sT (sT (sT (wN ?_)))));refine Aj rfl (fun hb4=>?_) (fun hb4=>?_)
   ·have H:=Au hb4 H;refine Am ?_;refine hs3 _ ?_;refine nT ?_;refine Ad fun Khs5 hs5=>?_
    refine Ak ?_;obtain⟨c6,H⟩:=Ab.1 H;refine wS (sT (sT (sX c6 (sT (sT (sT (wN ?_)))))));refine Aj rfl (fun hb7=>?_) (fun hb7=>?_)
    ·have H:=Au hb7 H;refine wS (sT (wN ?_));have H:=Ac.2 (Hq2 _ (Hr2 _ (Ac.1 H).symm).symm);obtain rfl:=Ac.1 H;exact Ar ⟨.inr rfl,Fin.cl rfl⟩
    ·have H:=Av hb7 H;refine Am ?_;refine hs5 _ ?_;refine nT ?_;refine wSE (sT (sT (sT (wN ?_))));have e2:=Ac.1 H;repeat(first|refine abN ?_|refine asN ?_)
     refine An ⟨_,(),e2.symm,?_⟩;try dsimp only
     exact Bd
   ·have H:=Av hb4 H;refine AB ?_;repeat(first|refine BM ?_|refine exO (by decide) ?_|refine asE ?_)
    refine exN ?_;have e2:=Hr2 _ (Ac.1 H).symm;repeat(first|refine abN ?_|refine asN ?_)
    refine An ⟨(_,()),e2.symm,?_⟩;try dsimp only
    exact Bd
 ·rintro⟨_,_⟩ hz2;try dsimp only at hz2
  have H:=Hl2 _ hz2;try dsimp only
  refine wS (sT (wN ?_));obtain rfl:=Ac.1 H;exact Ar ⟨.inr rfl,Fin.cl rfl⟩
def Fw(f:Func)(r3:List Int):Int→M (Int⊕((Unit)⊕(Bool))):=fun i4=>M.cnd (decide (i4 < (r3.length:Int))) (M.chk (BN r3 i4) (M.chk (!(!(decide ((ixD r3 i4) < 0)))||(BN r3 i4)) (M.cnd ((decide ((ixD r3 i4) < 0))||(decide ((ixD r3 i4)≥f.regs))) (M.ok (.inr (.inr false))) (M.ok (.inl (IntKind.i64.wrap (i4+1))))))) (M.ok (.inr (.inl ())))
def Jf(f:Func):M Bool:=M.cnd (((((decide (f.regs < 0))||(decide (f.regs > 4096)))||(decide (f.args < 0)))||(decide (f.args > 6)))||(decide (f.args > f.regs))) (M.ok false) (M.bnd (It f) fun r3=>M.els (M.loop (Fw f r3) 0) fun _=>M.ok true)
theorem Yx{f:Func}{r:Bool}(H:(Jf f).to r):Fn Tryz.prog 20 [.agg (Aq f)] (.lit (.bool r)):=by
 delta Jf at H;try dsimp only at H
 refine AE Tryz.func20 rfl (by kernel_rfl) rfl Tryz.ntmps20 fun C hC=>?_
 refine nS ?_;refine wS (sB (sT (wN ?_)));refine Ad fun Khs1 hs1=>?_
 refine wS (sT (sT (sT (sT ?_))));refine sGf rfl ?_;refine sGf rfl ?_;refine sGf rfl (sT (sT ?_));refine sGf rfl ?_;refine sGf rfl ?_;refine sGf rfl (sT (sT ?_));refine sGf rfl ?_;refine sGf rfl ?_;refine sGf rfl (sT (sT ?_));refine sGf rfl ?_;refine sGf rfl ?_;refine sGf rfl ?_;refine sGf rfl ?_;refine sGf rfl (sT (wN ?_));refine Aj rfl (fun hb2=>?_) (fun hb2=>?_)
 ·have H:=Au hb2 H;refine wS (sT (wN ?_));obtain rfl:=Ac.1 H;exact Ar ⟨.inr rfl,Fin.cl rfl⟩
 ·have H:=Av hb2 H;refine Am ?_;refine hs1 _ ?_;refine nT ?_;obtain⟨r3,k3,H⟩:=Al.1 H;have k3:=On k3;refine wS (sT (sC k3 (sT (wN ?_))));obtain⟨z5,HX5,Hl5,Hq5⟩:=Cc H;refine Bn (β:=(Unit)×(Unit)) (fun q5=>z5= .inl q5.1) (fun q5=>⟨A40 (A10 (A2 [])),[.dead]⟩) ?_ ?_
  ·refine wS (sT (wN ?_));refine Ak ?_;refine Bv HX5 (fun s5 b5=>⟨.any::.ptr 0 0::.any::.bs tInt r3::.lit (.int .i64 s5)::A40 (A7 []),[.box (Aq f)]⟩) () (?_) ?_
   ·try dsimp only
    exact Bd
   ·rintro i4 _ x5 H Hr5;try dsimp only
    dsimp only[Fw]at H;refine Ad fun Khs6 hs6=>?_
    refine wS (sT (sT (sT (sT (wN ?_)))));refine Aj rfl (fun hb7=>?_) (fun hb7=>?_)
    ·have H:=Au hb7 H;refine Am ?_;refine hs6 _ ?_;refine nT ?_;refine Ad fun Khs8 hs8=>?_
     refine Ak ?_;obtain⟨c9,H⟩:=Ab.1 H;obtain⟨c10,H⟩:=Ab.1 H;refine dS 14 (hq:=?_);refine qT (qT (qX c9 (qT (qT (qT ?_)))));refine qGf rfl ?_;refine qGf rfl ?_;refine qG (g:=(!(decide ((ixD r3 i4) < 0)))) (hg:=SJ rfl) (hq:=fun hg=>Dy rfl ((AL (AO NU)).trans (Cf hg _ _)) ((AL (AO L9)).trans (Cf hg _ _)) rfl (DG c10 hg)) (ht:=(As (AA Mx))) ?_;refine qGf rfl ?_;refine qGf rfl ?_;refine qGf rfl ?_;refine qGf rfl (qT (qN (wN ?_)));refine Aj rfl (fun hb11=>?_) (fun hb11=>?_)
     ·have H:=Au hb11 H;refine wS (sT (wN ?_));have H:=Ac.2 (Hq5 _ (Hr5 _ (Ac.1 H).symm).symm);obtain rfl:=Ac.1 H;exact Ar ⟨.inr rfl,Fin.cl rfl⟩
     ·have H:=Av hb11 H;refine Am ?_;refine hs8 _ ?_;refine nT ?_;refine wSE (sT (sT (sT (wN ?_))));have e5:=Ac.1 H;repeat(first|refine abN ?_|refine asN ?_)
      refine An ⟨_,(),e5.symm,?_⟩;try dsimp only
      exact Bd
    ·have H:=Av hb7 H;refine AB ?_;repeat(first|refine BM ?_|refine exO (by decide) ?_|refine asE ?_)
     refine exN ?_;have e5:=Hr5 _ (Ac.1 H).symm;repeat(first|refine abN ?_|refine asN ?_)
     refine An ⟨(_,()),e5.symm,?_⟩;try dsimp only
     exact leC (Cut.dead (Cut.nil _))
  ·rintro⟨_,_⟩ hz5;try dsimp only at hz5
   have H:=Hl5 _ hz5;try dsimp only
   refine wS (sT (wN ?_));obtain rfl:=Ac.1 H;exact Ar ⟨.inr rfl,Fin.cl rfl⟩
def Hz(f:Func)(p:Plan)(rP2:Int):M Bool:=M.chk (BN p.at_ rP2) (M.cnd (decide ((ixD p.at_ rP2)≥32)) (M.ok ((!p.leaf)&&(decide ((IntKind.i64.wrap ((ixD p.at_ rP2) - 32)) < p.slots)))) (M.bnd (Oo f rP2 p.leaf) fun r4=>M.bnd (MG r4 (ixD p.at_ rP2)) fun r5=>M.ok r5))
theorem Tg{f:Func}{p:Plan}{rP2:Int}{r:Bool}(H:(Hz f p rP2).to r):Fn Tryz.prog 54 [.agg (Aq f),.agg (AM p),.lit (.int .i64 rP2)] (.lit (.bool r)):=by
 delta Hz at H;try dsimp only at H
 refine AE Tryz.func54 rfl (by kernel_rfl) rfl Tryz.ntmps54 fun C hC=>?_
 refine nS ?_;refine wS (sB (sB (sT (wN ?_))));obtain⟨c1,H⟩:=Ab.1 H;refine wS (sT (sT (sT (sX c1 (sT (sT (wN ?_)))))));refine Ad fun Khs2 hs2=>?_
 refine wS (sT (sT (wN ?_)));refine Aj rfl (fun hb3=>?_) (fun hb3=>?_)
 ·have H:=Au hb3 H;refine wS (sT (sT (sT (sT ?_))));refine sGt rfl ?_;refine sGt rfl ?_;refine sGt rfl ?_;refine sGt rfl ?_;refine sGt rfl (sT (sT (wN ?_)));obtain rfl:=Ac.1 H;exact Ar ⟨.inr rfl,Fin.cl rfl⟩
 ·have H:=Av hb3 H;refine Am ?_;refine hs2 _ ?_;refine nT ?_;obtain⟨r4,k4,H⟩:=Al.1 H;have k4:=QX k4;obtain⟨r5,k5,H⟩:=Al.1 H;have k5:=LY k5;refine wS (sT (sT (sT (sT (sC k4 (sT (sC k5 (sT (wN ?_)))))))));obtain rfl:=Ac.1 H;exact Ar ⟨.inr rfl,Fin.cl rfl⟩
def Eb(f:Func)(p:Plan)(r5:List Int):Int→M (Int⊕((Unit)⊕(Bool))):=fun r7=>M.cnd (decide (r7 < f.regs)) (M.bnd (MG r5 r7) fun r12=>M.chk (!(!r12)||(BN p.at_ r7)) (M.bnd (M.whn (!((!r12)&&((ixD p.at_ r7) !=(-1)))) false (MG r5 r7)) fun r14=>M.bnd (M.whn ((!((!r12)&&((ixD p.at_ r7) !=(-1))))&&r14) false (Hz f p r7)) fun r15=>M.cnd (((!r12)&&((ixD p.at_ r7) !=(-1)))||(r14&&(!r15))) (M.ok (.inr (.inr false))) (M.ok (.inl (IntKind.i64.wrap (r7+1)))))) (M.ok (.inr (.inl ())))
def Ea(p:Plan):Int→M (Int⊕((Unit)⊕(Bool))):=fun s17=>M.cnd (decide (s17 < p.slots)) (M.bnd (MG p.at_ (IntKind.i64.wrap (32+s17))) fun r22=>M.cnd (!r22) (M.ok (.inr (.inr false))) (M.ok (.inl (IntKind.i64.wrap (s17+1))))) (M.ok (.inr (.inl ())))
def D8(f:Func)(p:Plan)(r5:List Int)(r6:List (List (List Int)))(i24:Int):Int→M (Int⊕((Unit)⊕((Int)⊕((Unit)⊕(Bool))))):=fun k28=>M.cnd (decide (k28 < i24)) (M.chk (BN r5 i24) (M.chk (BN p.at_ (ixD r5 i24)) (M.chk (BN r5 k28) (M.chk (BN p.at_ (ixD r5 k28)) (M.chk (!((ixD p.at_ (ixD r5 i24)) ==(ixD p.at_ (ixD r5 k28)))||(BN r5 i24)) (M.chk (!((ixD p.at_ (ixD r5 i24)) ==(ixD p.at_ (ixD r5 k28)))||(BN r5 k28)) (M.bnd (M.whn ((ixD p.at_ (ixD r5 i24)) ==(ixD p.at_ (ixD r5 k28))) false (JQ f r6 (ixD r5 i24) (ixD r5 k28))) fun r39=>M.cnd (((ixD p.at_ (ixD r5 i24)) ==(ixD p.at_ (ixD r5 k28)))&&r39) (M.ok (.inr (.inr (.inr (.inr false))))) (M.ok (.inl (IntKind.i64.wrap (k28+1))))))))))) (M.ok (.inr (.inl ())))
def D9(f:Func)(p:Plan)(r5:List Int)(r6:List (List (List Int))):Int→M (Int⊕((Unit)⊕(Bool))):=fun i24=>M.cnd (decide (i24 < (r5.length:Int))) (M.els (M.loop (D8 f p r5 r6 i24) 0) fun _=>M.ok (.inl (IntKind.i64.wrap (i24+1)))) (M.ok (.inr (.inl ())))
def CE(f:Func)(p:Plan):M Bool:=M.bnd (Jf f) fun r2=>M.bnd (M.whn ((!((((!r2)||((p.at_.length:Int) !=f.regs))||(decide (p.slots < 0)))||(decide (p.slots > f.regs))))&&p.leaf) false (Pp f)) fun r3=>M.cnd (((((!r2)||((p.at_.length:Int) !=f.regs))||(decide (p.slots < 0)))||(decide (p.slots > f.regs)))||(p.leaf&&((!r3)||(p.slots !=0)))) (M.ok false) (M.bnd (It f) fun r5=>M.bnd (Ti f) fun r6=>M.els (M.loop (Eb f p r5) 0) fun _=>M.els (M.loop (Ea p) 0) fun _=>M.els (M.loop (D9 f p r5 r6) 0) fun _=>M.ok true)
theorem MH{f:Func}{p:Plan}{r:Bool}(H:(CE f p).to r):Fn Tryz.prog 23 [.agg (Aq f),.agg (AM p)] (.lit (.bool r)):=by
 delta CE at H;try dsimp only at H
 refine AE Tryz.func23 rfl (by kernel_rfl) rfl Tryz.ntmps23 fun C hC=>?_
 refine nS ?_;refine wS (sB (sB (sT (wN ?_))));refine Ad fun Khs1 hs1=>?_
 obtain⟨r2,k2,H⟩:=Al.1 H;have k2:=Yx k2;obtain⟨r3,k3,H⟩:=Al.1 H;refine wS (sT (sC k2 (sT (sT ?_))));refine sGf rfl ?_;refine sGf rfl ?_;refine sGf rfl ?_;refine sGf rfl ?_;refine sGf rfl ?_;refine sGf rfl (sT (sT ?_));refine sGf rfl ?_;refine sGf rfl ?_;refine sGf rfl (sT (sT ?_));refine sGf rfl ?_;refine sGf rfl ?_;refine sGf rfl ?_;refine sGf rfl ?_;refine sGf rfl (sT (sT ?_));refine sGf rfl ?_;refine sGf rfl ?_;refine sGf rfl ?_;refine sG (g:=((!((((!r2)||((p.at_.length:Int) !=f.regs))||(decide (p.slots < 0)))||(decide (p.slots > f.regs))))&&p.leaf)) (hg:=J5 rfl rfl) (hq:=fun hg=>by(have hg':=GO hg;exact Bc rfl PJ rfl rfl)) (ht:=(As Mx)) (hk:=?_);refine sG (g:=((!((((!r2)||((p.at_.length:Int) !=f.regs))||(decide (p.slots < 0)))||(decide (p.slots > f.regs))))&&p.leaf)) (hg:=J5 rfl rfl) (hq:=fun hg=>by(have hg':=GO hg;(try simp only[Cf hg,Cf hg']);(try simp only[KY hg,KY hg']);exact Ba rfl rfl (VY (M.to_whn k3 hg)) rfl rfl)) (ht:=(As LM)) (hk:=?_);refine sG (g:=((!((((!r2)||((p.at_.length:Int) !=f.regs))||(decide (p.slots < 0)))||(decide (p.slots > f.regs))))&&p.leaf)) (hg:=J5 rfl rfl) (hq:=fun hg=>by(have hg':=GO hg;exact CT rfl ((AL NO).trans (Cf hg _ _)))) (ht:=(As (AA Oc))) (hk:=?_);refine sG (g:=((!((((!r2)||((p.at_.length:Int) !=f.regs))||(decide (p.slots < 0)))||(decide (p.slots > f.regs))))&&p.leaf)) (hg:=J5 rfl rfl) (hq:=fun hg=>by(have hg':=GO hg;exact AX.move rfl ((AL (AO Oy)).trans (Cf hg _ _)))) (ht:=(As (AA LN))) (hk:=?_);refine sG (g:=(((!((((!r2)||((p.at_.length:Int) !=f.regs))||(decide (p.slots < 0)))||(decide (p.slots > f.regs))))&&p.leaf)&&(!(!r3)))) (hg:=Afr rfl rfl) (hq:=fun hg=>by(have hg':=GO hg;have hg'':=GO hg';exact BU rfl Kw rfl)) (ht:=(As (AA O8))) (hk:=?_);refine sG (g:=(((!((((!r2)||((p.at_.length:Int) !=f.regs))||(decide (p.slots < 0)))||(decide (p.slots > f.regs))))&&p.leaf)&&(!(!r3)))) (hg:=Afr rfl rfl) (hq:=fun hg=>by(have hg':=GO hg;have hg'':=GO hg';exact Bk rfl ((AL (AO PJ)).trans (Cf hg _ _)) rfl rfl)) (ht:=(As (AA Ob))) (hk:=?_);refine sG (g:=(((!((((!r2)||((p.at_.length:Int) !=f.regs))||(decide (p.slots < 0)))||(decide (p.slots > f.regs))))&&p.leaf)&&(!(!r3)))) (hg:=Afr rfl rfl) (hq:=fun hg=>by(have hg':=GO hg;have hg'':=GO hg';exact CF rfl ((AL (AO Kw)).trans (Cf hg _ _)) Zc rfl)) (ht:=(As (AA O7))) (hk:=?_);refine sG (g:=((!((((!r2)||((p.at_.length:Int) !=f.regs))||(decide (p.slots < 0)))||(decide (p.slots > f.regs))))&&p.leaf)) (hg:=J5 rfl rfl) (hq:=fun hg=>by(have hg':=GO hg;exact Hb rfl ((AL (AO U2)).trans (Cf hg _ _)) Zc ((AL (AO NU)).trans (KY hg _ _)))) (ht:=(As (AA S6))) (hk:=?_);refine sG (g:=(!((((!r2)||((p.at_.length:Int) !=f.regs))||(decide (p.slots < 0)))||(decide (p.slots > f.regs))))) (hg:=SJ rfl) (hq:=fun hg=>DN rfl ((AL L9).trans (Cf hg _ _)) ((AL (AO L9)).trans (KY hg _ _)) Zc) (ht:=(As (AA Mx))) (hk:=?_);refine sT (wN ?_);refine Aj rfl (fun hb4=>?_) (fun hb4=>?_)
 ·have H:=Au hb4 H;refine wS (sT (wN ?_));obtain rfl:=Ac.1 H;exact Ar ⟨.inr rfl,Fin.cl rfl⟩
 ·have H:=Av hb4 H;refine Am ?_;refine hs1 _ ?_;refine nT ?_;obtain⟨r5,k5,H⟩:=Al.1 H;have k5:=On k5;obtain⟨r6,k6,H⟩:=Al.1 H;have k6:=Q0 k6;refine dS 6 (hq:=?_);refine qT (qC k5 (qT (qC k6 (qT (qT (qN (wN ?_)))))));obtain⟨z8,HX8,Hl8,Hq8⟩:=Cc H;refine Bn (β:=(Unit)×(Unit)) (fun q8=>z8= .inl q8.1) (fun q8=>⟨A2 (.ptr 0 0::.ptr 1 0::.any::.bs tInt r5::.bs tInt.slice.slice r6::A80 (A40 (A8 []))),[.box (Aq f),.box (AM p)]⟩) ?_ ?_
  ·refine wS (sT (wN ?_));refine Ak ?_;refine Bv HX8 (fun s8 b8=>⟨A2 (.ptr 0 0::.ptr 1 0::.any::.bs tInt r5::.bs tInt.slice.slice r6::.lit (.int .i64 s8)::A80 (A40 (A7 []))),[.box (Aq f),.box (AM p)]⟩) () (?_) ?_
   ·try dsimp only
    exact Bd
   ·rintro r7 _ x8 H Hr8;try dsimp only
    dsimp only[Eb]at H;refine Ad fun Khs9 hs9=>?_
    refine wS (sT (sT (sT (sT (wN ?_)))));refine Aj rfl (fun hb10=>?_) (fun hb10=>?_)
    ·have H:=Au hb10 H;refine Am ?_;refine hs9 _ ?_;refine nT ?_;refine Ad fun Khs11 hs11=>?_
     refine Ak ?_;obtain⟨r12,k12,H⟩:=Al.1 H;have k12:=LY k12;obtain⟨c13,H⟩:=Ab.1 H;obtain⟨r14,k14,H⟩:=Al.1 H;obtain⟨r15,k15,H⟩:=Al.1 H;refine wS (sT (sT (sC k12 (sT (sT ?_)))));refine sGt rfl ?_;refine sGt rfl ?_;refine sGt rfl ?_;refine Adp rfl c13 ?_;refine sGt rfl ?_;refine sGt rfl (sT (sT ?_));refine sGf rfl ?_;refine sGf rfl ?_;refine sG (g:=(!((!r12)&&((ixD p.at_ r7) !=(-1))))) (hg:=SJ rfl) (hq:=fun hg=>by((try simp only[Cf hg]);(try simp only[KY hg]);exact Ba rfl rfl (LY (M.to_whn k14 hg)) rfl rfl)) (ht:=(As (As (AA LN)))) ?_;refine sGf rfl ?_;refine sG (g:=((!((!r12)&&((ixD p.at_ r7) !=(-1))))&&r14)) (hg:=J5 rfl rfl) (hq:=fun hg=>by(have hg':=GO hg;exact Bc rfl PJ rfl rfl)) (ht:=(As (As (AA Ob)))) (hk:=?_);refine sG (g:=((!((!r12)&&((ixD p.at_ r7) !=(-1))))&&r14)) (hg:=J5 rfl rfl) (hq:=fun hg=>by(have hg':=GO hg;exact Bc rfl Kw rfl rfl)) (ht:=(As (As (AA O7)))) (hk:=?_);refine sG (g:=((!((!r12)&&((ixD p.at_ r7) !=(-1))))&&r14)) (hg:=J5 rfl rfl) (hq:=fun hg=>by(have hg':=GO hg;exact AX.move rfl NO)) (ht:=(As (As (AA S6)))) (hk:=?_);refine sG (g:=((!((!r12)&&((ixD p.at_ r7) !=(-1))))&&r14)) (hg:=J5 rfl rfl) (hq:=fun hg=>by(have hg':=GO hg;(try simp only[Cf hg,Cf hg']);(try simp only[KY hg,KY hg']);exact Ba rfl rfl (Tg (M.to_whn k15 hg)) rfl rfl)) (ht:=(As (As (AA Mx)))) (hk:=?_);refine sG (g:=((!((!r12)&&((ixD p.at_ r7) !=(-1))))&&r14)) (hg:=J5 rfl rfl) (hq:=fun hg=>by(have hg':=GO hg;exact CT rfl ((AL (AL (AO Qd))).trans (Cf hg _ _)))) (ht:=(As (As (AA LM)))) (hk:=?_);refine sG (g:=(!((!r12)&&((ixD p.at_ r7) !=(-1))))) (hg:=SJ rfl) (hq:=fun hg=>DN rfl ((AL (AL (AO PJ))).trans (Cf hg _ _)) ((AL (AL (AO NO))).trans (KY hg _ _)) Zc) (ht:=(As (As (AA (AA Oc))))) ?_;refine sT (wN ?_);refine Aj rfl (fun hb16=>?_) (fun hb16=>?_)
     ·have H:=Au hb16 H;refine wS (sT (wN ?_));have H:=Ac.2 (Hq8 _ (Hr8 _ (Ac.1 H).symm).symm);obtain rfl:=Ac.1 H;exact Ar ⟨.inr rfl,Fin.cl rfl⟩
     ·have H:=Av hb16 H;refine Am ?_;refine hs11 _ ?_;refine nT ?_;refine wSE (sT (sT (sT (wN ?_))));have e8:=Ac.1 H;repeat(first|refine abN ?_|refine asN ?_)
      refine An ⟨_,(),e8.symm,?_⟩;try dsimp only
      exact Bd
    ·have H:=Av hb10 H;refine AB ?_;repeat(first|refine BM ?_|refine exO (by decide) ?_|refine asE ?_)
     refine exN ?_;have e8:=Hr8 _ (Ac.1 H).symm;repeat(first|refine abN ?_|refine asN ?_)
     refine An ⟨(_,()),e8.symm,?_⟩;try dsimp only
     exact Bd
  ·rintro⟨_,_⟩ hz8;try dsimp only at hz8
   have H:=Hl8 _ hz8;try dsimp only
   obtain⟨z18,HX18,Hl18,Hq18⟩:=Cc H;refine Bn (β:=(Unit)×(Unit)) (fun q18=>z18= .inl q18.1) (fun q18=>⟨A2 (.ptr 0 0::.ptr 1 0::.any::.bs tInt r5::.bs tInt.slice.slice r6::A80 (A40 (A8 []))),[.box (Aq f),.box (AM p)]⟩) ?_ ?_
   ·refine wS (sT (wN ?_));refine Ak ?_;refine Bv HX18 (fun s18 b18=>⟨A2 (.ptr 0 0::.ptr 1 0::.any::.bs tInt r5::.bs tInt.slice.slice r6::.any::.lit (.int .i64 s18)::A80 (A40 (A6 []))),[.box (Aq f),.box (AM p)]⟩) () (?_) ?_
    ·try dsimp only
     exact Bd
    ·rintro s17 _ x18 H Hr18;try dsimp only
     dsimp only[Ea]at H;refine Ad fun Khs19 hs19=>?_
     refine wS (sT (sT (sT (sT (wN ?_)))));refine Aj rfl (fun hb20=>?_) (fun hb20=>?_)
     ·have H:=Au hb20 H;refine Am ?_;refine hs19 _ ?_;refine nT ?_;refine Ad fun Khs21 hs21=>?_
      refine Ak ?_;obtain⟨r22,k22,H⟩:=Al.1 H;have k22:=LY k22;refine wS (sT (sT (sT (sT (sC k22 (sT (wN ?_)))))));refine Aj rfl (fun hb23=>?_) (fun hb23=>?_)
      ·have H:=Au hb23 H;refine wS (sT (wN ?_));have H:=Ac.2 (Hq18 _ (Hr18 _ (Ac.1 H).symm).symm);obtain rfl:=Ac.1 H;exact Ar ⟨.inr rfl,Fin.cl rfl⟩
      ·have H:=Av hb23 H;refine Am ?_;refine hs21 _ ?_;refine nT ?_;refine wSE (sT (sT (sT (wN ?_))));have e18:=Ac.1 H;repeat(first|refine abN ?_|refine asN ?_)
       refine An ⟨_,(),e18.symm,?_⟩;try dsimp only
       exact Bd
     ·have H:=Av hb20 H;refine AB ?_;repeat(first|refine BM ?_|refine exO (by decide) ?_|refine asE ?_)
      refine exN ?_;have e18:=Hr18 _ (Ac.1 H).symm;repeat(first|refine abN ?_|refine asN ?_)
      refine An ⟨(_,()),e18.symm,?_⟩;try dsimp only
      exact Bd
   ·rintro⟨_,_⟩ hz18;try dsimp only at hz18
    have H:=Hl18 _ hz18;try dsimp only
    obtain⟨z25,HX25,Hl25,Hq25⟩:=Cc H;refine Bn (β:=(Unit)×(Unit)) (fun q25=>z25= .inl q25.1) (fun q25=>⟨A80 (A40 (A10 (A5 []))),[.dead,.dead]⟩) ?_ ?_
    ·refine wS (sT (wN ?_));refine Ak ?_;refine Bv HX25 (fun s25 b25=>⟨A2 (.ptr 0 0::.ptr 1 0::.any::.bs tInt r5::.bs tInt.slice.slice r6::A2 (.lit (.int .i64 s25)::A80 (A40 (A5 [])))),[.box (Aq f),.box (AM p)]⟩) () (?_) ?_
     ·try dsimp only
      exact Bd
     ·rintro i24 _ x25 H Hr25;try dsimp only
      dsimp only[D9]at H;refine Ad fun Khs26 hs26=>?_
      refine wS (sT (sT (sT (sT (wN ?_)))));refine Aj rfl (fun hb27=>?_) (fun hb27=>?_)
      ·have H:=Au hb27 H;refine Am ?_;refine hs26 _ ?_;refine nT ?_;obtain⟨z29,HX29,Hl29,Hq29⟩:=Cc H;refine Bn (β:=(Unit)×(Unit)) (fun q29=>z29= .inl q29.1) (fun q29=>⟨A2 (.ptr 0 0::.ptr 1 0::.any::.bs tInt r5::.bs tInt.slice.slice r6::A2 (.lit (.int .i64 i24)::A80 (A40 (A5 [])))),[.box (Aq f),.box (AM p)]⟩) ?_ ?_
       ·refine Ak ?_;refine wS (sT (wN ?_));refine Ak ?_;refine Bv HX29 (fun s29 b29=>⟨A2 (.ptr 0 0::.ptr 1 0::.any::.bs tInt r5::.bs tInt.slice.slice r6::A2 (.lit (.int .i64 i24)::.lit (.int .i64 s29)::A80 (A40 (A4 [])))),[.box (Aq f),.box (AM p)]⟩) () (?_) ?_
        ·try dsimp only
         exact Bd
        ·rintro k28 _ x29 H Hr29;try dsimp only
         dsimp only[D8]at H;refine Ad fun Khs30 hs30=>?_
         refine wS (sT (sT (sT (wN ?_))));refine Aj rfl (fun hb31=>?_) (fun hb31=>?_)
         ·have H:=Au hb31 H;refine Am ?_;refine hs30 _ ?_;refine nT ?_;refine Ad fun Khs32 hs32=>?_
          refine Ak ?_;obtain⟨c33,H⟩:=Ab.1 H;obtain⟨c34,H⟩:=Ab.1 H;obtain⟨c35,H⟩:=Ab.1 H;obtain⟨c36,H⟩:=Ab.1 H;obtain⟨c37,H⟩:=Ab.1 H;obtain⟨c38,H⟩:=Ab.1 H;obtain⟨r39,k39,H⟩:=Al.1 H;refine dS 30 (hq:=?_);refine qT (qT (qT (qT (qX c33 (qT (qX c34 (qT (qT (qT (qT (qT ?_)))))))))));refine qX c35 (qT (qX c36 (qT (qT (qT ?_)))));refine qG (g:=((ixD p.at_ (ixD r5 i24)) ==(ixD p.at_ (ixD r5 k28)))) (hg:=Gg rfl) (hq:=fun hg=>Bc rfl PJ rfl rfl) (ht:=(As (As (As (AA (AA (AA Ob))))))) (hk:=?_);refine qGt rfl ?_;refine qGt rfl ?_;refine qGt rfl ?_;refine UI rfl c37 ?_;refine qGt rfl ?_;refine qGt rfl ?_;refine qGt rfl ?_;refine UI rfl c38 ?_;refine qGt rfl ?_;refine qG (g:=((ixD p.at_ (ixD r5 i24)) ==(ixD p.at_ (ixD r5 k28)))) (hg:=Gg rfl) (hq:=fun hg=>by((try simp only[Cf hg]);(try simp only[KY hg]);exact Ba rfl rfl (V0 (M.to_whn k39 hg)) rfl rfl)) (ht:=(As (As (As (As S6))))) ?_;refine qT (qN (wN ?_));refine Aj rfl (fun hb40=>?_) (fun hb40=>?_)
          ·have H:=Au hb40 H;refine wS (sT (wN ?_));have H:=Ac.2 (Hq29 _ (Hr29 _ (Ac.1 H).symm).symm);have H:=Ac.2 (Hq25 _ (Hr25 _ (Ac.1 H).symm).symm);obtain rfl:=Ac.1 H;exact Ar ⟨.inr rfl,Fin.cl rfl⟩
          ·have H:=Av hb40 H;refine Am ?_;refine hs32 _ ?_;refine nT ?_;refine wSE (sT (sT (sT (wN ?_))));have e29:=Ac.1 H;repeat(first|refine abN ?_|refine asN ?_)
           refine An ⟨_,(),e29.symm,?_⟩;try dsimp only
           exact Bd
         ·have H:=Av hb31 H;refine AB ?_;repeat(first|refine BM ?_|refine exO (by decide) ?_|refine asE ?_)
          refine exN ?_;have e29:=Hr29 _ (Ac.1 H).symm;repeat(first|refine abN ?_|refine asN ?_)
          refine An ⟨(_,()),e29.symm,?_⟩;try dsimp only
          exact Bd
       ·rintro⟨_,_⟩ hz29;try dsimp only at hz29
        have H:=Hl29 _ hz29;try dsimp only
        refine wSE (sT (sT (sT (wN ?_))));have e25:=Ac.1 H;repeat(first|refine abN ?_|refine asN ?_)
        refine An ⟨_,(),e25.symm,?_⟩;try dsimp only
        exact Bd
      ·have H:=Av hb27 H;refine AB ?_;repeat(first|refine BM ?_|refine exO (by decide) ?_|refine asE ?_)
       refine exN ?_;have e25:=Hr25 _ (Ac.1 H).symm;repeat(first|refine abN ?_|refine asN ?_)
       refine An ⟨(_,()),e25.symm,?_⟩;try dsimp only
       exact leC (Cut.dead (Cut.dead (Cut.nil _)))
    ·rintro⟨_,_⟩ hz25;try dsimp only at hz25
     have H:=Hl25 _ hz25;try dsimp only
     refine wS (sT (wN ?_));obtain rfl:=Ac.1 H;exact Ar ⟨.inr rfl,Fin.cl rfl⟩
end
end Mu
end
