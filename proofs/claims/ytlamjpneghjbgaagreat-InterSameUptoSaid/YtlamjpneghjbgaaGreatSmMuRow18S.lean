/-
  muntinlaw18.InterSame answers true and leaves its arguments as they were.
  Conditions: what comes in is of bulk at most 1048576.
-/
import Derived.Test.YtlamjpneghjbgaaGreatSm6
import Derived.WalkKit
import Derived.ProofKit
import Derived.OpenShut
set_option maxRecDepth 100000
set_option linter.unusedSimpArgs false
set_option linter.unusedVariables false
namespace Go.Proofs.YtlamjpneghjbgaaGreat.interSame
open Go.ChangeShapes Go.WideShapes Go.ChangeAt Go.RowKit
theorem ownInterSame:ownKnob Tryz.prog.godebug=none:=by kernel_rfl
theorem contractInterSame(H:Type)(enc:TypeId×Value→H)(W:World)(base:Nat)(args:Array Value)(ds gs:List (DataW H))(before:List MemPlace)
 (hval:∀(j:Nat) t v,Tryz.f7.params[j]? =some t→args[j]? =some v→Value.okWide Tryz.prog W .any base t v)
 (hW:DataW.Whole enc Tryz.prog Tryz.f7.params.toList Rows.interSameSpec.vars false W args.toList ds gs before) (hk:Rows.uptoSmall H (ds++gs)=true):
 Calls Tryz.prog 7 args W fun e W'=>∃v,e= .returned v∧Rows.interSameSpec.post enc Tryz.prog Tryz.f7 false true false false W args v W':=by
 have hW':=hW;obtain⟨p,q,hA0,hV,rfl,hfz,hnd⟩:=hW;have hA:DataW.TrodAll enc Tryz.prog W 0 (fun _=>true) true Tryz.f7.params.toList args.toList ds p:=hA0;rw[Tryz.params7]at hA hval;obtain⟨v0,vs0,d0,ds0,p0,q0,hargs,rfl,rfl,h0,r0⟩:=trodAll_cons hA;obtain⟨v1,vs1,d1,ds1,p1,q1,rfl,rfl,rfl,h1,r1⟩:=trodAll_cons r0;obtain⟨rfl,rfl,rfl⟩:=trodAll_nil r1;obtain rfl:args= #[v0,v1]:=by cases args;simp_all
 obtain⟨rfl,rfl⟩:=trodVars_none hV;have hlt:=hW'.lt;have hp0:∀x∈p0,x.block < W.heap.size:=fun x hx=>hlt x (by simp[hx])
 obtain⟨cs0,p,rfl,hR0,hb0⟩:=Mu.Wo Mu.Rx (by decide) h0 hp0;have hp1:∀x∈p1,x.block < W.heap.size:=fun x hx=>hlt x (by simp[hx])
 obtain⟨choices,hR1,hb1⟩:=Mu.Zf Mu.Ze h1 hp1 (Mu.Z4 Tryz.underlying26 (hval 1 26 v1 rfl rfl));have hbulk:Rows.uptoBulkAll [d0,d1]≤1048576:=of_decide_eq_true hk;simp only[Rows.uptoBulkAll,Rows.uptoBulk]at hbulk;have hsm:Mu.Dl.bulk p≤2097152:=by omega
 have hlen:choices.length≤1073741824:=by have:=Mu.Ak1 choices;omega
 clear hA0;refine(Mu.ZM (Mu.PS (Mu.Xc hR0) hsm (Mu.Ade hR0) hlen (Mu.Aqk hR1)) (Mu.We (Mu.Y0 hR0) (Mu.Y1 (Mu.Ako hR1)))).mono fun e W' ⟨he,hg⟩=>?_
 subst he;refine⟨_,rfl,[d0,d1],[],_,[],p0++(p1++[]),[],hW',trodAll_cons_mk (shut_bool Tryz.underlying4 _) trodAll_mk0,?_,rfl,hg.frame _,fun h=>by cases h⟩;rw[Tryz.params7];exact trodAll_cons_mk (Mu.Akk (by kernel_rfl) (of_decide_eq_true (by kernel_rfl)) h0 hg hp0) (trodAll_cons_mk (Mu.Akk (by kernel_rfl) (of_decide_eq_true (by kernel_rfl)) h1 hg hp1) trodAll_mk0)
theorem liftedInterSame(os:Os)(started:os.Started)(H:Type)(enc:TypeId×Value→H)(F:Stop.Interp):
 ReturnsInHanded {} Tryz.checked os 7 .any ((Rows.OpenSpec.upto Rows.interSameSpec).pre6 enc Tryz.prog Tryz.f7 Rows.interSameUptoRow.domain false) (((Rows.OpenSpec.upto Rows.interSameSpec).at F).post enc Tryz.prog Tryz.f7 false true false false):=by
 refine returnsInHanded_of_cond (C:=Tryz.checked) (s:=Rows.OpenSpec.upto Rows.interSameSpec) (k:=Rows.uptoSmall) rfl ownInterSame started (by kernel_rfl) Tryz.func7
  (OpenSpec.witness (enc:=enc) (C:=Tryz.checked) (s:=Rows.OpenSpec.upto Rows.interSameSpec) (k:=Rows.uptoSmall) rfl false ⟨#[],#[.agg #[.int .i64 0,.slice none 0 0,.slice none 0 0],.slice none 0 0],[]⟩ 8 (by kernel_rfl) (by kernel_rfl) (by kernel_rfl)
   (x:=([.agg [.lit (.int .i64 0),.nil,.nil],.nil],[],[])) (by kernel_rfl) rfl (by kernel_rfl)) ?_
 intro W base args ds gs before hval hW _ hk _;exact contractInterSame H enc W base args ds gs before hval hW hk
theorem proved:Rows.InterSameUptoSaid:=
 OpenClaim.holds_of_cond 7 Tryz.f7 rfl rfl rfl rfl rfl rfl rfl ⟨rfl,rfl,rfl,rfl,rfl⟩ rfl rfl rfl rfl rfl (by kernel_rfl) Tryz.func7 (by kernel_rfl)
  (of_decide_eq_true (by kernel_rfl)) (by unfold Func.isWrapper;first|(rw[if_pos (by decide+kernel)];kernel_rfl)|(rw[if_neg (by decide+kernel)];exact⟨rfl,rfl⟩))
  (fun os started H enc _ F=>liftedInterSame os started H enc F)
end Go.Proofs.YtlamjpneghjbgaaGreat.interSame
