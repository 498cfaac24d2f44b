/-
  muntinlaw22.ColourTurned answers true and leaves its arguments as they were.
  Conditions: what comes in is of bulk at most 1048576.
-/
import Derived.Test.YtnhheaffnpflfaaGreatCu6
set_option maxRecDepth 100000
set_option linter.unusedSimpArgs false
set_option linter.unusedVariables false
namespace Go.Proofs.YtnhheaffnpflfaaGreat.colourTurned
open Go.ChangeShapes Go.WideShapes Go.ChangeAt Go.RowKit
theorem ownColourTurned:ownKnob Tryz.prog.godebug=none:=by kernel_rfl
theorem contractColourTurned(H:Type)(enc:TypeId×Value→H)(W:World)(base:Nat)(args:Array Value)(ds gs:List (DataW H))(before:List MemPlace)
 (hval:∀(j:Nat) t v,Tryz.f5.params[j]? =some t→args[j]? =some v→Value.okWide Tryz.prog W .any base t v)
 (hW:DataW.Whole enc Tryz.prog Tryz.f5.params.toList Rows.colourTurnedSpec.vars false W args.toList ds gs before)(hk:Rows.uptoSmall H (ds++gs)=true):
 Calls Tryz.prog 5 args W fun e W'=>∃v,e= .returned v∧Rows.colourTurnedSpec.post enc Tryz.prog Tryz.f5 false true false false W args v W':=by
 have hW':=hW;obtain⟨p,q,hA0,hV,rfl,hfz,hnd⟩:=hW;have hA:DataW.TrodAll enc Tryz.prog W 0 (fun _=>true) true Tryz.f5.params.toList args.toList ds p:=hA0;rw[Tryz.params5]at hA hval;obtain⟨v0,vs0,d0,ds0,p0,q0,hargs,rfl,rfl,h0,r0⟩:=trodAll_cons hA;obtain⟨v1,vs1,d1,ds1,p1,q1,rfl,rfl,rfl,h1,r1⟩:=trodAll_cons r0;obtain⟨v2,vs2,d2,ds2,p2,q2,rfl,rfl,rfl,h2,r2⟩:=trodAll_cons r1;obtain⟨rfl,rfl,rfl⟩:=trodAll_nil r2;obtain rfl:args= #[v0,v1,v2]:=by cases args;simp_all
 obtain⟨rfl,rfl⟩:=trodVars_none hV;obtain⟨x,rfl,rfl,rfl,hf1⟩:=open_int Tryz.underlying5 (hval 1 5 v1 rfl rfl) h1;obtain⟨y,rfl,rfl,rfl,hf2⟩:=open_int Tryz.underlying5 (hval 2 5 v2 rfl rfl) h2;have hlt:=hW'.lt;have hp0:∀x∈p0,x.block < W.heap.size:=fun x hx=>hlt x (by simp[hx])
 obtain⟨cs0,f,rfl,hR0,hb0⟩:=Mu.Afk Mu.Wx (by decide) h0 hp0;have hbulk:Rows.uptoBulkAll [d0,DataW.lit (H:=H) (.int .u8 x),DataW.lit (H:=H) (.int .u8 y)]≤1048576:=of_decide_eq_true hk;simp only[Rows.uptoBulkAll,Rows.uptoBulk]at hbulk;have hsm:Mu.Dh.bulk f≤2097152:=by omega
 clear hA0;refine(Mu.Alx (Mu.PO f x y (Mu.Apw hR0) hsm hf1 hf2) (Mu.TD (Mu.Aj8 hR0) (Mu.TD (Mu.X5 _) (Mu.Aj9 (Mu.X5 _))))).mono fun e W' ⟨he,hg⟩=>?_
 subst he;refine⟨_,rfl,[d0,.lit (.int .u8 x),.lit (.int .u8 y)],[],_,[],p0++([]++([]++[])),[],hW',trodAll_cons_mk (shut_bool Tryz.underlying4 _) trodAll_mk0,?_,rfl,hg.frame _,fun h=>by cases h⟩;rw[Tryz.params5];exact trodAll_cons_mk (Mu.stays (by kernel_rfl) (of_decide_eq_true (by kernel_rfl)) h0 hg hp0) (trodAll_cons_mk (shut_int Tryz.underlying5 hf1) (trodAll_cons_mk (shut_int Tryz.underlying5 hf2) trodAll_mk0))
theorem liftedColourTurned(os:Os)(started:os.Started)(H:Type)(enc:TypeId×Value→H)(F:Stop.Interp):
 ReturnsInHanded {} Tryz.checked os 5 .any ((Rows.OpenSpec.upto Rows.colourTurnedSpec).pre6 enc Tryz.prog Tryz.f5 Rows.colourTurnedUptoRow.domain false) (((Rows.OpenSpec.upto Rows.colourTurnedSpec).at F).post enc Tryz.prog Tryz.f5 false true false false):=by
 refine returnsInHanded_of_cond (C:=Tryz.checked) (s:=Rows.OpenSpec.upto Rows.colourTurnedSpec) (k:=Rows.uptoSmall) rfl ownColourTurned started (by kernel_rfl) Tryz.func5
  (OpenSpec.witness (enc:=enc) (C:=Tryz.checked) (s:=Rows.OpenSpec.upto Rows.colourTurnedSpec) (k:=Rows.uptoSmall) rfl false ⟨#[],#[.agg #[.string ⟨#[]⟩,.int .i64 0,.int .i64 0,.slice none 0 0],.int .u8 0,.int .u8 0],[]⟩ 8 (by kernel_rfl) (by kernel_rfl) (by kernel_rfl)
   (x:=([.agg [.lit (.string []),.lit (.int .i64 0),.lit (.int .i64 0),.nil],.lit (.int .u8 0),.lit (.int .u8 0)],[],[])) (by kernel_rfl) rfl (by kernel_rfl)) ?_
 intro W base args ds gs before hval hW _ hk _;exact contractColourTurned H enc W base args ds gs before hval hW hk
theorem proved:Rows.ColourTurnedUptoSaid:=
 OpenClaim.holds_of_cond 5 Tryz.f5 rfl rfl rfl rfl rfl rfl rfl ⟨rfl,rfl,rfl,rfl,rfl⟩ rfl rfl rfl rfl rfl (by kernel_rfl) Tryz.func5 (by kernel_rfl)
  (of_decide_eq_true (by kernel_rfl)) (by unfold Func.isWrapper;first|(rw[if_pos (by decide+kernel)];kernel_rfl)|(rw[if_neg (by decide+kernel)];exact⟨rfl,rfl⟩))
  (fun os started H enc _ F=>liftedColourTurned os started H enc F)
end Go.Proofs.YtnhheaffnpflfaaGreat.colourTurned
