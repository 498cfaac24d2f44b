/-
  muntinlaw19.CostMore answers true and leaves its arguments as they were.
  Conditions: what comes in is of bulk at most 1048576.
-/
import Derived.Test.YtnoonmhlllnboaaCo5
import Derived.WalkKit
import Derived.ProofKit
import Derived.OpenShut
set_option maxRecDepth 100000
set_option linter.unusedSimpArgs false
set_option linter.unusedVariables false
namespace Go.Proofs.Ytnoonmhlllnboaa.costMore
open Go.ChangeShapes Go.WideShapes Go.ChangeAt Go.RowKit
theorem ownCostMore:ownKnob Try.prog.godebug=none:=by kernel_rfl
theorem contractCostMore(H:Type)(enc:TypeId×Value→H)(W:World)(base:Nat)(args:Array Value)(ds gs:List (DataW H))(before:List MemPlace)
 (hval:∀(j:Nat) t v,Try.f5.params[j]? =some t→args[j]? =some v→Value.okWide Try.prog W .any base t v)
 (hW:DataW.Whole enc Try.prog Try.f5.params.toList Rows.costMoreSpec.vars false W args.toList ds gs before) (hk:Rows.uptoSmall H (ds++gs)=true):
 Calls Try.prog 5 args W fun e W'=>∃v,e= .returned v∧Rows.costMoreSpec.post enc Try.prog Try.f5 false true false false W args v W':=by
 have hW':=hW;obtain⟨p,q,hA0,hV,rfl,hfz,hnd⟩:=hW;have hA:DataW.TrodAll enc Try.prog W 0 (fun _=>true) true Try.f5.params.toList args.toList ds p:=hA0;rw[Try.params5]at hA hval;obtain⟨v0,vs0,d0,ds0,p0,q0,hargs,rfl,rfl,h0,r0⟩:=trodAll_cons hA;obtain⟨v1,vs1,d1,ds1,p1,q1,rfl,rfl,rfl,h1,r1⟩:=trodAll_cons r0;obtain⟨v2,vs2,d2,ds2,p2,q2,rfl,rfl,rfl,h2,r2⟩:=trodAll_cons r1;obtain⟨rfl,rfl,rfl⟩:=trodAll_nil r2;obtain rfl:args= #[v0,v1,v2]:=by cases args;simp_all
 obtain⟨rfl,rfl⟩:=trodVars_none hV;obtain⟨at1,rfl,rfl,rfl,hf1⟩:=open_int Try.underlying5 (hval 1 5 v1 rfl rfl) h1;obtain⟨r,rfl,rfl,rfl,hf2⟩:=open_int Try.underlying3 (hval 2 3 v2 rfl rfl) h2;have hlt:=hW'.lt;have hp0:∀x∈p0,x.block < W.heap.size:=fun x hx=>hlt x (by simp[hx])
 obtain⟨cs0,f,rfl,hR0,hb0⟩:=Mu.JQ Mu.GR (by decide) h0 hp0;have hbulk:Rows.uptoBulkAll [d0,DataW.lit (H:=H) (.int .u8 at1),DataW.lit (H:=H) (.int .i64 r)]≤1048576:=of_decide_eq_true hk;simp only[Rows.uptoBulkAll,Rows.uptoBulk]at hbulk;have hsm:Mu.Cl.bulk f≤1500000:=by omega
 clear hA0;refine(Mu.LX (Mu.L0 f at1 r (Mu.N8 hR0) hsm hf1 hf2) (Mu.Hl (Mu.Lx hR0) (Mu.Hl (Mu.I8 _) (Mu.Ly (Mu.I8 _))))).mono fun e W' ⟨he,hg⟩=>?_
 subst he;refine⟨_,rfl,[d0,.lit (.int .u8 at1),.lit (.int .i64 r)],[],_,[],p0++([]++([]++[])),[],hW',trodAll_cons_mk (shut_bool Try.underlying4 _) trodAll_mk0,?_,rfl,hg.frame _,fun h=>by cases h⟩;rw[Try.params5];exact trodAll_cons_mk (Mu.T4 (by kernel_rfl) (of_decide_eq_true (by kernel_rfl)) h0 hg hp0) (trodAll_cons_mk (shut_int Try.underlying5 hf1) (trodAll_cons_mk (shut_int Try.underlying3 hf2) trodAll_mk0))
theorem liftedCostMore(os:Os)(started:os.Started)(H:Type)(enc:TypeId×Value→H)(F:Stop.Interp):
 ReturnsInHanded {} Try.checked os 5 .any ((Rows.OpenSpec.upto Rows.costMoreSpec).pre6 enc Try.prog Try.f5 Rows.costMoreUptoRow.domain false) (((Rows.OpenSpec.upto Rows.costMoreSpec).at F).post enc Try.prog Try.f5 false true false false):=by
 refine returnsInHanded_of_cond (C:=Try.checked) (s:=Rows.OpenSpec.upto Rows.costMoreSpec) (k:=Rows.uptoSmall) rfl ownCostMore started (by kernel_rfl) Try.func5
  (OpenSpec.witness (enc:=enc) (C:=Try.checked) (s:=Rows.OpenSpec.upto Rows.costMoreSpec) (k:=Rows.uptoSmall) rfl false ⟨#[],#[.agg #[.string ⟨#[]⟩,.int .i64 0,.int .i64 0,.slice none 0 0],.int .u8 0,.int .i64 0],[]⟩ 8 (by kernel_rfl) (by kernel_rfl) (by kernel_rfl)
   (x:=([.agg [.lit (.string []),.lit (.int .i64 0),.lit (.int .i64 0),.nil],.lit (.int .u8 0),.lit (.int .i64 0)],[],[])) (by kernel_rfl) rfl (by kernel_rfl)) ?_
 intro W base args ds gs before hval hW _ hk _;exact contractCostMore H enc W base args ds gs before hval hW hk
theorem proved:Rows.CostMoreUptoSaid:=
 OpenClaim.holds_of_cond 5 Try.f5 rfl rfl rfl rfl rfl rfl rfl ⟨rfl,rfl,rfl,rfl,rfl⟩ rfl rfl rfl rfl rfl (by kernel_rfl) Try.func5 (by kernel_rfl)
  (of_decide_eq_true (by kernel_rfl)) (by unfold Func.isWrapper;first|(rw[if_pos (by decide+kernel)];kernel_rfl)|(rw[if_neg (by decide+kernel)];exact⟨rfl,rfl⟩))
  (fun os started H enc _ F=>liftedCostMore os started H enc F)
end Go.Proofs.Ytnoonmhlllnboaa.costMore
