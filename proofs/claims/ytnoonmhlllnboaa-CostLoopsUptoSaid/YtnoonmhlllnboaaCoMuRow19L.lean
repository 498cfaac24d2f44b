/-
  muntinlaw19.CostLoops answers true and leaves its arguments as they were.
  Conditions: what comes in is of bulk at most 1048576.
-/
import Derived.Test.YtnoonmhlllnboaaCo5
import Derived.WalkKit
import Derived.ProofKit
import Derived.OpenShut
set_option maxRecDepth 100000
set_option linter.unusedSimpArgs false
set_option linter.unusedVariables false
namespace Go.Proofs.Ytnoonmhlllnboaa.costLoops
open Go.ChangeShapes Go.WideShapes Go.ChangeAt Go.RowKit
theorem ownCostLoops:ownKnob Try.prog.godebug=none:=by kernel_rfl
theorem contractCostLoops(H:Type)(enc:TypeId×Value→H)(W:World)(base:Nat)(args:Array Value)(ds gs:List (DataW H))(before:List MemPlace)
 (hval:∀(j:Nat) t v,Try.f4.params[j]? =some t→args[j]? =some v→Value.okWide Try.prog W .any base t v)
 (hW:DataW.Whole enc Try.prog Try.f4.params.toList Rows.costLoopsSpec.vars false W args.toList ds gs before) (hk:Rows.uptoSmall H (ds++gs)=true):
 Calls Try.prog 4 args W fun e W'=>∃v,e= .returned v∧Rows.costLoopsSpec.post enc Try.prog Try.f4 false true false false W args v W':=by
 have hW':=hW;obtain⟨p,q,hA0,hV,rfl,hfz,hnd⟩:=hW;have hA:DataW.TrodAll enc Try.prog W 0 (fun _=>true) true Try.f4.params.toList args.toList ds p:=hA0;rw[Try.params4]at hA hval;obtain⟨v0,vs0,d0,ds0,p0,q0,hargs,rfl,rfl,h0,r0⟩:=trodAll_cons hA;obtain⟨rfl,rfl,rfl⟩:=trodAll_nil r0;obtain rfl:args= #[v0]:=by cases args;simp_all
 obtain⟨rfl,rfl⟩:=trodVars_none hV;have hlt:=hW'.lt;have hp0:∀x∈p0,x.block < W.heap.size:=fun x hx=>hlt x (by simp[hx])
 obtain⟨cs0,f,rfl,hR0,hb0⟩:=Mu.JQ Mu.GR (by decide) h0 hp0;have hbulk:Rows.uptoBulkAll [d0]≤1048576:=of_decide_eq_true hk;simp only[Rows.uptoBulkAll,Rows.uptoBulk]at hbulk;have hsm:Mu.Cl.bulk f≤2097152:=by omega
 clear hA0;refine(Mu.LX (Mu.KC f (Mu.N8 hR0) hsm) (Mu.Ly (Mu.Lx hR0))).mono fun e W' ⟨he,hg⟩=>?_
 subst he;refine⟨_,rfl,[d0],[],_,[],p0++[],[],hW',trodAll_cons_mk (shut_bool Try.underlying4 _) trodAll_mk0,?_,rfl,hg.frame _,fun h=>by cases h⟩;rw[Try.params4];exact trodAll_cons_mk (Mu.T4 (by kernel_rfl) (of_decide_eq_true (by kernel_rfl)) h0 hg hp0) trodAll_mk0
theorem liftedCostLoops(os:Os)(started:os.Started)(H:Type)(enc:TypeId×Value→H)(F:Stop.Interp):
 ReturnsInHanded {} Try.checked os 4 .any ((Rows.OpenSpec.upto Rows.costLoopsSpec).pre6 enc Try.prog Try.f4 Rows.costLoopsUptoRow.domain false) (((Rows.OpenSpec.upto Rows.costLoopsSpec).at F).post enc Try.prog Try.f4 false true false false):=by
 refine returnsInHanded_of_cond (C:=Try.checked) (s:=Rows.OpenSpec.upto Rows.costLoopsSpec) (k:=Rows.uptoSmall) rfl ownCostLoops started (by kernel_rfl) Try.func4
  (OpenSpec.witness (enc:=enc) (C:=Try.checked) (s:=Rows.OpenSpec.upto Rows.costLoopsSpec) (k:=Rows.uptoSmall) rfl false ⟨#[],#[.agg #[.string ⟨#[]⟩,.int .i64 0,.int .i64 0,.slice none 0 0]],[]⟩ 8 (by kernel_rfl) (by kernel_rfl) (by kernel_rfl)
   (x:=([.agg [.lit (.string []),.lit (.int .i64 0),.lit (.int .i64 0),.nil]],[],[])) (by kernel_rfl) rfl (by kernel_rfl)) ?_
 intro W base args ds gs before hval hW _ hk _;exact contractCostLoops H enc W base args ds gs before hval hW hk
theorem proved:Rows.CostLoopsUptoSaid:=
 OpenClaim.holds_of_cond 4 Try.f4 rfl rfl rfl rfl rfl rfl rfl ⟨rfl,rfl,rfl,rfl,rfl⟩ rfl rfl rfl rfl rfl (by kernel_rfl) Try.func4 (by kernel_rfl)
  (of_decide_eq_true (by kernel_rfl)) (by unfold Func.isWrapper;first|(rw[if_pos (by decide+kernel)];kernel_rfl)|(rw[if_neg (by decide+kernel)];exact⟨rfl,rfl⟩))
  (fun os started H enc _ F=>liftedCostLoops os started H enc F)
end Go.Proofs.Ytnoonmhlllnboaa.costLoops
