/-
  Own texts laid together, part 4: MuBare, MuAnyF, MuBareL, MuShIns, MuShGr, MuShHead, MuShBlk, MuShTop, MuCheck, MuWordL, MuWord, MuWordO, MuWordD, MuRel, MuCloneF, MuCopied, MuNewA, MuNewB, MuNewC, MuStatP, MuGreatP, MuChkS, MuStartP.
  Conditions: as each part says.
-/
import Derived.Test.YtlamjpneghjbgaaGreatSd3
set_option linter.unusedSimpArgs false
set_option linter.unusedVariables false
section
/-
  shape.bare: an instruction with nothing but what it has.
  Conditions: its number is one of those that are.
-/
namespace Mu
open Go Go.RowKit Go.Proofs

section
variable {P : Program} {C : Ctx} {t t' : List AV} {h h' : List ABlk} {d : Option Nat} {sty ty : TypeId} {ps : String} {af : Array Go.Edge} {K : St → Prop}
theorem oW {x z : Operand} {i off n : Nat} {cells new r : List AV} {v : AV} [SZ P sty n] [GA t x (.ptr i off)] [HB h i (.box cells)] [GA t z v] [PT h v new] [WR cells off new r] [HS h i (.box r) h'] [PA t d (.lit undef) t'] (hk : K ⟨t', h'⟩) (hs : n = new.length := by exact rfl) : AOp P C ⟨d, .store sty x z, ty, ps, af, none⟩ ⟨t, h⟩ K :=
  AOp.stBox rfl GA.e HB.e (by rw [GA.e (t := t) (x := z) (r := v)]; exact PT.e) hs (WR.e (cells := cells) (off := off) (new := new) (r := r)).2 (by rw [(WR.e (cells := cells) (off := off) (new := new) (r := r)).1, HS.e (h := h) (i := i) (b := .box r) (h' := h'), PA.e (t := t) (d := d) (r := .lit undef) (t' := t')]; exact hk)
end
theorem plInsB : places? Tryz.prog 40 = some [(0, 1), (1, 1), (2, 1), (3, 1), (4, 1), (5, 1), (6, 1), (7, 1), (8, 1)] := by kernel_rfl
def hasN (op : Int) (l : List Int) (z : Int) : Int := bif l.contains op then z else 0
def bareC (x : Ins) : List AV := [.lit (.int .u8 x.op), .lit (.int .i64 (hasN x.op [0, 1, 2, 3, 5] x.d)), .lit (.int .i64 (hasN x.op [1, 2, 3, 4, 6, 9, 10] x.a)), .lit (.int .i64 (hasN x.op [1, 4] x.b)), .lit (.int .u32 (hasN x.op [0, 1] x.n)), .lit (.int .i64 (hasN x.op [5] x.f)), .lit (.slice none 0 0), .lit (.int .i64 (hasN x.op [8, 9] x.l1)), .lit (.int .i64 (hasN x.op [9] x.l2))]
set_option maxHeartbeats 4000000 in
set_option maxRecDepth 100000 in
theorem bare_fn {x : Ins} (h0 : 0 ≤ x.op) (h1 : x.op ≤ 10) : Fn Tryz.prog 198 [.agg (encIns x)] (.agg (bareC x)) := by
  obtain ⟨op, d, a, b, n, f, args, l1, l2⟩ := x
  have h0 : 0 ≤ op := h0
  have h1 : op ≤ 10 := h1
  have hop : op = 0 ∨ op = 1 ∨ op = 2 ∨ op = 3 ∨ op = 4 ∨ op = 5 ∨ op = 6 ∨ op = 7 ∨ op = 8 ∨ op = 9 ∨ op = 10 := by omega
  refine Fn.of_awpC Tryz.func198 rfl (by kernel_rfl) rfl (by kernel_rfl : aggT Tryz.prog 40 = some (true, 9)) Tryz.ntmps198 fun C hC => ?_
  simp only [List.length_cons, List.length_nil, Nat.reduceAdd, Nat.reduceSub, List.replicate_succ, List.replicate_zero, List.cons_append, List.nil_append]
  refine wS (sB (sA0 (wN ?_)))
  refine wS (sT (sT (sH (Quiet.bldP (rs := [.lit (.int .u8 op), .lit (.int .i64 0), .lit (.int .i64 0), .lit (.int .i64 0), .lit (.int .u32 0), .lit (.int .i64 0), .lit (.slice none 0 0), .lit (.int .i64 0), .lit (.int .i64 0)]) rfl plInsB rfl rfl) (sA0 (sW (wN ?_))))))
  refine Awp.seq fun K3 h3 => ?_
  refine wR (hk := ?_)
  refine Awp.block ?_
  refine Awp.seq fun K5 h5 => ?_
  refine Awp.block ?_
  refine Awp.seq fun K6 h6 => ?_
  refine Awp.block ?_
  refine Awp.seq fun K7 h7 => ?_
  refine Awp.block ?_
  refine Awp.seq fun K8 h8 => ?_
  refine Awp.block ?_
  refine Awp.seq fun K9 h9 => ?_
  refine Awp.block ?_
  refine Awp.seq fun K10 h10 => ?_
  refine Awp.block ?_
  refine Awp.seq fun K11 h11 => ?_
  refine Awp.block ?_
  refine Awp.seq fun K12 h12 => ?_
  refine Awp.block ?_
  refine Awp.seq fun K13 h13 => ?_
  refine Awp.seq fun K14 h14 => ?_
  refine wR (hk := ?_)
  refine Awp.cond rfl (fun hb16 => ?_) (fun hb16 => ?_)
  · refine Awp.exit ?_
    refine h12 _ ?_
    refine nT (hk := ?_)
    refine wS (sT (sT (sT (sW (wN ?_)))))
    refine wSE (sT (sT (sT (sW (wN ?_)))))
    refine h11 _ ?_
    refine nT (hk := ?_)
    refine wSE (sT (sT (sT (sW (wN ?_)))))
    refine h10 _ ?_
    refine nT (hk := ?_)
    refine wS (sT (sT (sT (sW (wN ?_)))))
    refine Awp.exit ?_
    refine h3 _ ?_
    refine nT (hk := ?_)
    refine wS (sT (sW (wN ?_)))
    rcases hop with rfl | rfl | rfl | rfl | rfl | rfl | rfl | rfl | rfl | rfl | rfl <;> first | (cases hb16; done) | (cases hb20; done) | (cases hb22; done) | (cases hb26; done) | (cases hb28; done) | (cases hb31; done) | (cases hb34; done) | (cases hb37; done) | (cases hb40; done) | (cases hb42; done) | (cases hb16b; done) | (cases hb20b; done) | (cases hb22b; done) | (cases hb26b; done) | (cases hb28b; done) | (cases hb31b; done) | (cases hb34b; done) | (cases hb37b; done) | (cases hb40b; done) | (cases hb42b; done) | (cases hb16c; done) | (cases hb20c; done) | (cases hb22c; done) | (cases hb26c; done) | (cases hb28c; done) | (cases hb31c; done) | (cases hb34c; done) | (cases hb37c; done) | (cases hb40c; done) | (cases hb42c; done) | (cases hb16d; done) | (cases hb20d; done) | (cases hb22d; done) | (cases hb26d; done) | (cases hb28d; done) | (cases hb31d; done) | (cases hb34d; done) | (cases hb37d; done) | (cases hb40d; done) | (cases hb42d; done) | (cases hb16e; done) | (cases hb20e; done) | (cases hb22e; done) | (cases hb26e; done) | (cases hb28e; done) | (cases hb31e; done) | (cases hb34e; done) | (cases hb37e; done) | (cases hb40e; done) | (cases hb42e; done) | (cases hb16f; done) | (cases hb20f; done) | (cases hb22f; done) | (cases hb26f; done) | (cases hb28f; done) | (cases hb31f; done) | (cases hb34f; done) | (cases hb37f; done) | (cases hb40f; done) | (cases hb42f; done) | (cases hb16g; done) | (cases hb20g; done) | (cases hb22g; done) | (cases hb26g; done) | (cases hb28g; done) | (cases hb31g; done) | (cases hb34g; done) | (cases hb37g; done) | (cases hb40g; done) | (cases hb42g; done) | (cases hb16h; done) | (cases hb20h; done) | (cases hb22h; done) | (cases hb26h; done) | (cases hb28h; done) | (cases hb31h; done) | (cases hb34h; done) | (cases hb37h; done) | (cases hb40h; done) | (cases hb42h; done) | exact Awp.ret ⟨⟨.inr rfl, 1, _, rfl, rfl, Fin.cl rfl⟩, fun i cells e1 e2 => by cases e1; cases e2; rfl⟩
  · refine Awp.skip ?_
    refine h14 _ ?_
    refine nT (hk := ?_)
    refine Awp.seq fun K17 h17 => ?_
    refine Awp.seq fun K18 h18 => ?_
    refine wR (hk := ?_)
    refine Awp.cond rfl (fun hb20 => ?_) (fun hb20 => ?_)
    · refine Awp.skip ?_
      refine h18 _ ?_
      refine nT (hk := ?_)
      refine Awp.cond rfl (fun hb22 => ?_) (fun hb22 => ?_)
      · refine Awp.exit ?_
        refine h11 _ ?_
        refine nT (hk := ?_)
        refine wSE (sT (sT (sT (sW (wN ?_)))))
        refine h10 _ ?_
        refine nT (hk := ?_)
        refine wS (sT (sT (sT (sW (wN ?_)))))
        refine Awp.exit ?_
        refine h3 _ ?_
        refine nT (hk := ?_)
        refine wS (sT (sW (wN ?_)))
        rcases hop with rfl | rfl | rfl | rfl | rfl | rfl | rfl | rfl | rfl | rfl | rfl <;> first | (cases hb16; done) | (cases hb20; done) | (cases hb22; done) | (cases hb26; done) | (cases hb28; done) | (cases hb31; done) | (cases hb34; done) | (cases hb37; done) | (cases hb40; done) | (cases hb42; done) | (cases hb16b; done) | (cases hb20b; done) | (cases hb22b; done) | (cases hb26b; done) | (cases hb28b; done) | (cases hb31b; done) | (cases hb34b; done) | (cases hb37b; done) | (cases hb40b; done) | (cases hb42b; done) | (cases hb16c; done) | (cases hb20c; done) | (cases hb22c; done) | (cases hb26c; done) | (cases hb28c; done) | (cases hb31c; done) | (cases hb34c; done) | (cases hb37c; done) | (cases hb40c; done) | (cases hb42c; done) | (cases hb16d; done) | (cases hb20d; done) | (cases hb22d; done) | (cases hb26d; done) | (cases hb28d; done) | (cases hb31d; done) | (cases hb34d; done) | (cases hb37d; done) | (cases hb40d; done) | (cases hb42d; done) | (cases hb16e; done) | (cases hb20e; done) | (cases hb22e; done) | (cases hb26e; done) | (cases hb28e; done) | (cases hb31e; done) | (cases hb34e; done) | (cases hb37e; done) | (cases hb40e; done) | (cases hb42e; done) | (cases hb16f; done) | (cases hb20f; done) | (cases hb22f; done) | (cases hb26f; done) | (cases hb28f; done) | (cases hb31f; done) | (cases hb34f; done) | (cases hb37f; done) | (cases hb40f; done) | (cases hb42f; done) | (cases hb16g; done) | (cases hb20g; done) | (cases hb22g; done) | (cases hb26g; done) | (cases hb28g; done) | (cases hb31g; done) | (cases hb34g; done) | (cases hb37g; done) | (cases hb40g; done) | (cases hb42g; done) | (cases hb16h; done) | (cases hb20h; done) | (cases hb22h; done) | (cases hb26h; done) | (cases hb28h; done) | (cases hb31h; done) | (cases hb34h; done) | (cases hb37h; done) | (cases hb40h; done) | (cases hb42h; done) | exact Awp.ret ⟨⟨.inr rfl, 1, _, rfl, rfl, Fin.cl rfl⟩, fun i cells e1 e2 => by cases e1; cases e2; rfl⟩
      · exact absurd (hb20.symm.trans hb22) (by decide)
    · refine wRE (hk := ?_)
      refine h18 _ ?_
      refine nT (hk := ?_)
      refine Awp.cond rfl (fun hb22b => ?_) (fun hb22b => ?_)
      · refine Awp.exit ?_
        refine h11 _ ?_
        refine nT (hk := ?_)
        refine wSE (sT (sT (sT (sW (wN ?_)))))
        refine h10 _ ?_
        refine nT (hk := ?_)
        refine wS (sT (sT (sT (sW (wN ?_)))))
        refine Awp.exit ?_
        refine h3 _ ?_
        refine nT (hk := ?_)
        refine wS (sT (sW (wN ?_)))
        rcases hop with rfl | rfl | rfl | rfl | rfl | rfl | rfl | rfl | rfl | rfl | rfl <;> first | (cases hb16; done) | (cases hb20; done) | (cases hb22; done) | (cases hb26; done) | (cases hb28; done) | (cases hb31; done) | (cases hb34; done) | (cases hb37; done) | (cases hb40; done) | (cases hb42; done) | (cases hb16b; done) | (cases hb20b; done) | (cases hb22b; done) | (cases hb26b; done) | (cases hb28b; done) | (cases hb31b; done) | (cases hb34b; done) | (cases hb37b; done) | (cases hb40b; done) | (cases hb42b; done) | (cases hb16c; done) | (cases hb20c; done) | (cases hb22c; done) | (cases hb26c; done) | (cases hb28c; done) | (cases hb31c; done) | (cases hb34c; done) | (cases hb37c; done) | (cases hb40c; done) | (cases hb42c; done) | (cases hb16d; done) | (cases hb20d; done) | (cases hb22d; done) | (cases hb26d; done) | (cases hb28d; done) | (cases hb31d; done) | (cases hb34d; done) | (cases hb37d; done) | (cases hb40d; done) | (cases hb42d; done) | (cases hb16e; done) | (cases hb20e; done) | (cases hb22e; done) | (cases hb26e; done) | (cases hb28e; done) | (cases hb31e; done) | (cases hb34e; done) | (cases hb37e; done) | (cases hb40e; done) | (cases hb42e; done) | (cases hb16f; done) | (cases hb20f; done) | (cases hb22f; done) | (cases hb26f; done) | (cases hb28f; done) | (cases hb31f; done) | (cases hb34f; done) | (cases hb37f; done) | (cases hb40f; done) | (cases hb42f; done) | (cases hb16g; done) | (cases hb20g; done) | (cases hb22g; done) | (cases hb26g; done) | (cases hb28g; done) | (cases hb31g; done) | (cases hb34g; done) | (cases hb37g; done) | (cases hb40g; done) | (cases hb42g; done) | (cases hb16h; done) | (cases hb20h; done) | (cases hb22h; done) | (cases hb26h; done) | (cases hb28h; done) | (cases hb31h; done) | (cases hb34h; done) | (cases hb37h; done) | (cases hb40h; done) | (cases hb42h; done) | exact Awp.ret ⟨⟨.inr rfl, 1, _, rfl, rfl, Fin.cl rfl⟩, fun i cells e1 e2 => by cases e1; cases e2; rfl⟩
      · refine Awp.skip ?_
        refine h17 _ ?_
        refine nT (hk := ?_)
        refine Awp.seq fun K23 h23 => ?_
        refine Awp.seq fun K24 h24 => ?_
        refine wR (hk := ?_)
        refine Awp.cond rfl (fun hb26 => ?_) (fun hb26 => ?_)
        · refine Awp.skip ?_
          refine h24 _ ?_
          refine nT (hk := ?_)
          refine Awp.cond rfl (fun hb28 => ?_) (fun hb28 => ?_)
          · refine Awp.exit ?_
            refine h10 _ ?_
            refine nT (hk := ?_)
            refine wS (sT (sT (sT (sW (wN ?_)))))
            refine Awp.exit ?_
            refine h3 _ ?_
            refine nT (hk := ?_)
            refine wS (sT (sW (wN ?_)))
            rcases hop with rfl | rfl | rfl | rfl | rfl | rfl | rfl | rfl | rfl | rfl | rfl <;> first | (cases hb16; done) | (cases hb20; done) | (cases hb22; done) | (cases hb26; done) | (cases hb28; done) | (cases hb31; done) | (cases hb34; done) | (cases hb37; done) | (cases hb40; done) | (cases hb42; done) | (cases hb16b; done) | (cases hb20b; done) | (cases hb22b; done) | (cases hb26b; done) | (cases hb28b; done) | (cases hb31b; done) | (cases hb34b; done) | (cases hb37b; done) | (cases hb40b; done) | (cases hb42b; done) | (cases hb16c; done) | (cases hb20c; done) | (cases hb22c; done) | (cases hb26c; done) | (cases hb28c; done) | (cases hb31c; done) | (cases hb34c; done) | (cases hb37c; done) | (cases hb40c; done) | (cases hb42c; done) | (cases hb16d; done) | (cases hb20d; done) | (cases hb22d; done) | (cases hb26d; done) | (cases hb28d; done) | (cases hb31d; done) | (cases hb34d; done) | (cases hb37d; done) | (cases hb40d; done) | (cases hb42d; done) | (cases hb16e; done) | (cases hb20e; done) | (cases hb22e; done) | (cases hb26e; done) | (cases hb28e; done) | (cases hb31e; done) | (cases hb34e; done) | (cases hb37e; done) | (cases hb40e; done) | (cases hb42e; done) | (cases hb16f; done) | (cases hb20f; done) | (cases hb22f; done) | (cases hb26f; done) | (cases hb28f; done) | (cases hb31f; done) | (cases hb34f; done) | (cases hb37f; done) | (cases hb40f; done) | (cases hb42f; done) | (cases hb16g; done) | (cases hb20g; done) | (cases hb22g; done) | (cases hb26g; done) | (cases hb28g; done) | (cases hb31g; done) | (cases hb34g; done) | (cases hb37g; done) | (cases hb40g; done) | (cases hb42g; done) | (cases hb16h; done) | (cases hb20h; done) | (cases hb22h; done) | (cases hb26h; done) | (cases hb28h; done) | (cases hb31h; done) | (cases hb34h; done) | (cases hb37h; done) | (cases hb40h; done) | (cases hb42h; done) | exact Awp.ret ⟨⟨.inr rfl, 1, _, rfl, rfl, Fin.cl rfl⟩, fun i cells e1 e2 => by cases e1; cases e2; rfl⟩
          · exact absurd (hb26.symm.trans hb28) (by decide)
        · refine wRE (hk := ?_)
          refine h24 _ ?_
          refine nT (hk := ?_)
          refine Awp.cond rfl (fun hb28b => ?_) (fun hb28b => ?_)
          · refine Awp.exit ?_
            refine h10 _ ?_
            refine nT (hk := ?_)
            refine wS (sT (sT (sT (sW (wN ?_)))))
            refine Awp.exit ?_
            refine h3 _ ?_
            refine nT (hk := ?_)
            refine wS (sT (sW (wN ?_)))
            rcases hop with rfl | rfl | rfl | rfl | rfl | rfl | rfl | rfl | rfl | rfl | rfl <;> first | (cases hb16; done) | (cases hb20; done) | (cases hb22; done) | (cases hb26; done) | (cases hb28; done) | (cases hb31; done) | (cases hb34; done) | (cases hb37; done) | (cases hb40; done) | (cases hb42; done) | (cases hb16b; done) | (cases hb20b; done) | (cases hb22b; done) | (cases hb26b; done) | (cases hb28b; done) | (cases hb31b; done) | (cases hb34b; done) | (cases hb37b; done) | (cases hb40b; done) | (cases hb42b; done) | (cases hb16c; done) | (cases hb20c; done) | (cases hb22c; done) | (cases hb26c; done) | (cases hb28c; done) | (cases hb31c; done) | (cases hb34c; done) | (cases hb37c; done) | (cases hb40c; done) | (cases hb42c; done) | (cases hb16d; done) | (cases hb20d; done) | (cases hb22d; done) | (cases hb26d; done) | (cases hb28d; done) | (cases hb31d; done) | (cases hb34d; done) | (cases hb37d; done) | (cases hb40d; done) | (cases hb42d; done) | (cases hb16e; done) | (cases hb20e; done) | (cases hb22e; done) | (cases hb26e; done) | (cases hb28e; done) | (cases hb31e; done) | (cases hb34e; done) | (cases hb37e; done) | (cases hb40e; done) | (cases hb42e; done) | (cases hb16f; done) | (cases hb20f; done) | (cases hb22f; done) | (cases hb26f; done) | (cases hb28f; done) | (cases hb31f; done) | (cases hb34f; done) | (cases hb37f; done) | (cases hb40f; done) | (cases hb42f; done) | (cases hb16g; done) | (cases hb20g; done) | (cases hb22g; done) | (cases hb26g; done) | (cases hb28g; done) | (cases hb31g; done) | (cases hb34g; done) | (cases hb37g; done) | (cases hb40g; done) | (cases hb42g; done) | (cases hb16h; done) | (cases hb20h; done) | (cases hb22h; done) | (cases hb26h; done) | (cases hb28h; done) | (cases hb31h; done) | (cases hb34h; done) | (cases hb37h; done) | (cases hb40h; done) | (cases hb42h; done) | exact Awp.ret ⟨⟨.inr rfl, 1, _, rfl, rfl, Fin.cl rfl⟩, fun i cells e1 e2 => by cases e1; cases e2; rfl⟩
          · refine Awp.skip ?_
            refine h23 _ ?_
            refine nT (hk := ?_)
            refine Awp.seq fun K29 h29 => ?_
            refine wR (hk := ?_)
            refine Awp.cond rfl (fun hb31 => ?_) (fun hb31 => ?_)
            · refine Awp.exit ?_
              refine h9 _ ?_
              refine nT (hk := ?_)
              refine Awp.via ⟨(.any :: .ptr 0 0 :: .ptr 1 0 :: .ptr 2 0 :: A40 (A20 (A3 []))), [.box (encIns ⟨op, d, a, b, n, f, args, l1, l2⟩), .box [.lit (.int .u8 0), .lit (.int .i64 0), .lit (.int .i64 0), .lit (.int .i64 0), .lit (.int .u32 0), .lit (.int .i64 0), .lit (.slice none 0 0), .lit (.int .i64 0), .lit (.int .i64 0)], .box [.lit (.int .u8 op), .lit (.int .i64 0), .lit (.int .i64 0), .lit (.int .i64 0), .lit (.int .u32 0), .lit (.int .i64 0), .lit (.slice none 0 0), .lit (.int .i64 0), .lit (.int .i64 0)]]⟩ (le_C (hc := .cons (.cons (.cons (.nil _))))) ?_
              refine dH 0 [] [] uN fun K47 hK47 => vN ?_
              refine tJoin (setAll [0, 1, 2, 3, 4, 5] (Array.replicate 8 false)) 2 (fun _ : Unit => ⟨(.any :: .ptr 0 0 :: .ptr 1 0 :: .ptr 2 0 :: A20 (A10 (A5 (.ptr 0 1 :: .lit (.int .i64 d) :: .ptr 0 4 :: .lit (.int .u32 n) :: .ptr 2 1 :: A20 (A3 []))))), [.box (encIns ⟨op, d, a, b, n, f, args, l1, l2⟩), .box [.lit (.int .u8 0), .lit (.int .i64 0), .lit (.int .i64 0), .lit (.int .i64 0), .lit (.int .u32 0), .lit (.int .i64 0), .lit (.slice none 0 0), .lit (.int .i64 0), .lit (.int .i64 0)], .box [.lit (.int .u8 op), .lit (.int .i64 d), .lit (.int .i64 0), .lit (.int .i64 0), .lit (.int .u32 0), .lit (.int .i64 0), .lit (.slice none 0 0), .lit (.int .i64 0), .lit (.int .i64 0)]]⟩) (fun _ => ?_) (fun hB => ?_)
              rotate_left
              · refine tStep [0, 2] (tC (oT ?_) (tC (oT ?_) tAll_nil))
                · refine tStep [1, 2] (tC (oT ?_) (tC (oT ?_) tAll_nil))
                  · refine tStep [2, 4] (tC (oT ?_) (tC (oT ?_) tAll_nil))
                    · refine tStep [3, 4] (tC (oT ?_) (tC (oT ?_) tAll_nil))
                      · refine tT 4 ?_
                        refine tA 5 ?_
                        refine oW ?_
                        exact tE (hB ())
                      · refine tStep [3, 5] (tC (oT ?_) (tC ?_ tAll_nil))
                        · refine tA 5 ?_
                          refine oW ?_
                          exact tE (hB ())
                        · refine oW ?_
                          refine tT 3 ?_
                          exact tE (hB ())
                    · refine tStep [2, 5] (tC (oT ?_) (tC ?_ tAll_nil))
                      · refine tStep [3, 5] (tC (oT ?_) (tC ?_ tAll_nil))
                        · refine tA 5 ?_
                          refine oW ?_
                          exact tE (hB ())
                        · refine oW ?_
                          refine tT 3 ?_
                          exact tE (hB ())
                      · refine oW ?_
                        refine tT 2 ?_
                        refine tT 3 ?_
                        exact tE (hB ())
                  · refine tStep [1, 3] (tC (oT ?_) (tC (oT ?_) tAll_nil))
                    · refine tStep [3, 4] (tC (oT ?_) (tC (oT ?_) tAll_nil))
                      · refine tT 4 ?_
                        refine tA 5 ?_
                        refine oW ?_
                        exact tE (hB ())
                      · refine tStep [3, 5] (tC (oT ?_) (tC ?_ tAll_nil))
                        · refine tA 5 ?_
                          refine oW ?_
                          exact tE (hB ())
                        · refine oW ?_
                          refine tT 3 ?_
                          exact tE (hB ())
                    · refine tT 1 ?_
                      refine tT 4 ?_
                      refine tA 5 ?_
                      refine oW ?_
                      exact tE (hB ())
                · refine tStep [0, 3] (tC (oT ?_) (tC (oT ?_) tAll_nil))
                  · refine tStep [1, 3] (tC (oT ?_) (tC (oT ?_) tAll_nil))
                    · refine tStep [3, 4] (tC (oT ?_) (tC (oT ?_) tAll_nil))
                      · refine tT 4 ?_
                        refine tA 5 ?_
                        refine oW ?_
                        exact tE (hB ())
                      · refine tStep [3, 5] (tC (oT ?_) (tC ?_ tAll_nil))
                        · refine tA 5 ?_
                          refine oW ?_
                          exact tE (hB ())
                        · refine oW ?_
                          refine tT 3 ?_
                          exact tE (hB ())
                    · refine tT 1 ?_
                      refine tT 4 ?_
                      refine tA 5 ?_
                      refine oW ?_
                      exact tE (hB ())
                  · refine tT 0 ?_
                    refine tT 1 ?_
                    refine tT 4 ?_
                    refine tA 5 ?_
                    refine oW ?_
                    exact tE (hB ())
              refine tT 6 ?_
              refine tA 7 ?_
              refine oW ?_
              refine tDone (hK47 _ ?_)
              refine Awp.exit ?_
              refine h3 _ ?_
              refine nT (hk := ?_)
              refine wS (sT (sW (wN ?_)))
              rcases hop with rfl | rfl | rfl | rfl | rfl | rfl | rfl | rfl | rfl | rfl | rfl <;> first | (cases hb16; done) | (cases hb20; done) | (cases hb22; done) | (cases hb26; done) | (cases hb28; done) | (cases hb31; done) | (cases hb34; done) | (cases hb37; done) | (cases hb40; done) | (cases hb42; done) | (cases hb16b; done) | (cases hb20b; done) | (cases hb22b; done) | (cases hb26b; done) | (cases hb28b; done) | (cases hb31b; done) | (cases hb34b; done) | (cases hb37b; done) | (cases hb40b; done) | (cases hb42b; done) | (cases hb16c; done) | (cases hb20c; done) | (cases hb22c; done) | (cases hb26c; done) | (cases hb28c; done) | (cases hb31c; done) | (cases hb34c; done) | (cases hb37c; done) | (cases hb40c; done) | (cases hb42c; done) | (cases hb16d; done) | (cases hb20d; done) | (cases hb22d; done) | (cases hb26d; done) | (cases hb28d; done) | (cases hb31d; done) | (cases hb34d; done) | (cases hb37d; done) | (cases hb40d; done) | (cases hb42d; done) | (cases hb16e; done) | (cases hb20e; done) | (cases hb22e; done) | (cases hb26e; done) | (cases hb28e; done) | (cases hb31e; done) | (cases hb34e; done) | (cases hb37e; done) | (cases hb40e; done) | (cases hb42e; done) | (cases hb16f; done) | (cases hb20f; done) | (cases hb22f; done) | (cases hb26f; done) | (cases hb28f; done) | (cases hb31f; done) | (cases hb34f; done) | (cases hb37f; done) | (cases hb40f; done) | (cases hb42f; done) | (cases hb16g; done) | (cases hb20g; done) | (cases hb22g; done) | (cases hb26g; done) | (cases hb28g; done) | (cases hb31g; done) | (cases hb34g; done) | (cases hb37g; done) | (cases hb40g; done) | (cases hb42g; done) | (cases hb16h; done) | (cases hb20h; done) | (cases hb22h; done) | (cases hb26h; done) | (cases hb28h; done) | (cases hb31h; done) | (cases hb34h; done) | (cases hb37h; done) | (cases hb40h; done) | (cases hb42h; done) | exact Awp.ret ⟨⟨.inr rfl, 1, _, rfl, rfl, Fin.cl rfl⟩, fun i cells e1 e2 => by cases e1; cases e2; rfl⟩
            · refine Awp.skip ?_
              refine h29 _ ?_
              refine nT (hk := ?_)
              refine Awp.seq fun K32 h32 => ?_
              refine wR (hk := ?_)
              refine Awp.cond rfl (fun hb34 => ?_) (fun hb34 => ?_)
              · refine Awp.exit ?_
                refine h8 _ ?_
                refine nT (hk := ?_)
                refine Awp.via ⟨(.any :: .ptr 0 0 :: .ptr 1 0 :: .ptr 2 0 :: A40 (A20 (A3 []))), [.box (encIns ⟨op, d, a, b, n, f, args, l1, l2⟩), .box [.lit (.int .u8 0), .lit (.int .i64 0), .lit (.int .i64 0), .lit (.int .i64 0), .lit (.int .u32 0), .lit (.int .i64 0), .lit (.slice none 0 0), .lit (.int .i64 0), .lit (.int .i64 0)], .box [.lit (.int .u8 op), .lit (.int .i64 0), .lit (.int .i64 0), .lit (.int .i64 0), .lit (.int .u32 0), .lit (.int .i64 0), .lit (.slice none 0 0), .lit (.int .i64 0), .lit (.int .i64 0)]]⟩ (le_C (hc := .cons (.cons (.cons (.nil _))))) ?_
                refine dH 0 [] [] uN fun K48 hK48 => vN ?_
                refine tJoin (setAll [0, 1, 2, 3, 4, 5] (Array.replicate 8 false)) 2 (fun _ : Unit => ⟨(.any :: .ptr 0 0 :: .ptr 1 0 :: .ptr 2 0 :: A40 (.any :: .ptr 0 2 :: .lit (.int .i64 a) :: .ptr 0 3 :: .lit (.int .i64 b) :: .ptr 2 2 :: A10 (A7 []))), [.box (encIns ⟨op, d, a, b, n, f, args, l1, l2⟩), .box [.lit (.int .u8 0), .lit (.int .i64 0), .lit (.int .i64 0), .lit (.int .i64 0), .lit (.int .u32 0), .lit (.int .i64 0), .lit (.slice none 0 0), .lit (.int .i64 0), .lit (.int .i64 0)], .box [.lit (.int .u8 op), .lit (.int .i64 0), .lit (.int .i64 a), .lit (.int .i64 0), .lit (.int .u32 0), .lit (.int .i64 0), .lit (.slice none 0 0), .lit (.int .i64 0), .lit (.int .i64 0)]]⟩) (fun _ => ?_) (fun hB => ?_)
                rotate_left
                · refine tStep [0, 2] (tC (oT ?_) (tC (oT ?_) tAll_nil))
                  · refine tStep [1, 2] (tC (oT ?_) (tC (oT ?_) tAll_nil))
                    · refine tStep [2, 4] (tC (oT ?_) (tC (oT ?_) tAll_nil))
                      · refine tStep [3, 4] (tC (oT ?_) (tC (oT ?_) tAll_nil))
                        · refine tT 4 ?_
                          refine tA 5 ?_
                          refine oW ?_
                          exact tE (hB ())
                        · refine tStep [3, 5] (tC (oT ?_) (tC ?_ tAll_nil))
                          · refine tA 5 ?_
                            refine oW ?_
                            exact tE (hB ())
                          · refine oW ?_
                            refine tT 3 ?_
                            exact tE (hB ())
                      · refine tStep [2, 5] (tC (oT ?_) (tC ?_ tAll_nil))
                        · refine tStep [3, 5] (tC (oT ?_) (tC ?_ tAll_nil))
                          · refine tA 5 ?_
                            refine oW ?_
                            exact tE (hB ())
                          · refine oW ?_
                            refine tT 3 ?_
                            exact tE (hB ())
                        · refine oW ?_
                          refine tT 2 ?_
                          refine tT 3 ?_
                          exact tE (hB ())
                    · refine tStep [1, 3] (tC (oT ?_) (tC (oT ?_) tAll_nil))
                      · refine tStep [3, 4] (tC (oT ?_) (tC (oT ?_) tAll_nil))
                        · refine tT 4 ?_
                          refine tA 5 ?_
                          refine oW ?_
                          exact tE (hB ())
                        · refine tStep [3, 5] (tC (oT ?_) (tC ?_ tAll_nil))
                          · refine tA 5 ?_
                            refine oW ?_
                            exact tE (hB ())
                          · refine oW ?_
                            refine tT 3 ?_
                            exact tE (hB ())
                      · refine tT 1 ?_
                        refine tT 4 ?_
                        refine tA 5 ?_
                        refine oW ?_
                        exact tE (hB ())
                  · refine tStep [0, 3] (tC (oT ?_) (tC (oT ?_) tAll_nil))
                    · refine tStep [1, 3] (tC (oT ?_) (tC (oT ?_) tAll_nil))
                      · refine tStep [3, 4] (tC (oT ?_) (tC (oT ?_) tAll_nil))
                        · refine tT 4 ?_
                          refine tA 5 ?_
                          refine oW ?_
                          exact tE (hB ())
                        · refine tStep [3, 5] (tC (oT ?_) (tC ?_ tAll_nil))
                          · refine tA 5 ?_
                            refine oW ?_
                            exact tE (hB ())
                          · refine oW ?_
                            refine tT 3 ?_
                            exact tE (hB ())
                      · refine tT 1 ?_
                        refine tT 4 ?_
                        refine tA 5 ?_
                        refine oW ?_
                        exact tE (hB ())
                    · refine tT 0 ?_
                      refine tT 1 ?_
                      refine tT 4 ?_
                      refine tA 5 ?_
                      refine oW ?_
                      exact tE (hB ())
                refine tT 6 ?_
                refine tA 7 ?_
                refine oW ?_
                refine tDone (hK48 _ ?_)
                refine Awp.exit ?_
                refine h3 _ ?_
                refine nT (hk := ?_)
                refine wS (sT (sW (wN ?_)))
                rcases hop with rfl | rfl | rfl | rfl | rfl | rfl | rfl | rfl | rfl | rfl | rfl <;> first | (cases hb16; done) | (cases hb20; done) | (cases hb22; done) | (cases hb26; done) | (cases hb28; done) | (cases hb31; done) | (cases hb34; done) | (cases hb37; done) | (cases hb40; done) | (cases hb42; done) | (cases hb16b; done) | (cases hb20b; done) | (cases hb22b; done) | (cases hb26b; done) | (cases hb28b; done) | (cases hb31b; done) | (cases hb34b; done) | (cases hb37b; done) | (cases hb40b; done) | (cases hb42b; done) | (cases hb16c; done) | (cases hb20c; done) | (cases hb22c; done) | (cases hb26c; done) | (cases hb28c; done) | (cases hb31c; done) | (cases hb34c; done) | (cases hb37c; done) | (cases hb40c; done) | (cases hb42c; done) | (cases hb16d; done) | (cases hb20d; done) | (cases hb22d; done) | (cases hb26d; done) | (cases hb28d; done) | (cases hb31d; done) | (cases hb34d; done) | (cases hb37d; done) | (cases hb40d; done) | (cases hb42d; done) | (cases hb16e; done) | (cases hb20e; done) | (cases hb22e; done) | (cases hb26e; done) | (cases hb28e; done) | (cases hb31e; done) | (cases hb34e; done) | (cases hb37e; done) | (cases hb40e; done) | (cases hb42e; done) | (cases hb16f; done) | (cases hb20f; done) | (cases hb22f; done) | (cases hb26f; done) | (cases hb28f; done) | (cases hb31f; done) | (cases hb34f; done) | (cases hb37f; done) | (cases hb40f; done) | (cases hb42f; done) | (cases hb16g; done) | (cases hb20g; done) | (cases hb22g; done) | (cases hb26g; done) | (cases hb28g; done) | (cases hb31g; done) | (cases hb34g; done) | (cases hb37g; done) | (cases hb40g; done) | (cases hb42g; done) | (cases hb16h; done) | (cases hb20h; done) | (cases hb22h; done) | (cases hb26h; done) | (cases hb28h; done) | (cases hb31h; done) | (cases hb34h; done) | (cases hb37h; done) | (cases hb40h; done) | (cases hb42h; done) | exact Awp.ret ⟨⟨.inr rfl, 1, _, rfl, rfl, Fin.cl rfl⟩, fun i cells e1 e2 => by cases e1; cases e2; rfl⟩
              · refine Awp.skip ?_
                refine h32 _ ?_
                refine nT (hk := ?_)
                refine Awp.seq fun K35 h35 => ?_
                refine wR (hk := ?_)
                refine Awp.cond rfl (fun hb37 => ?_) (fun hb37 => ?_)
                · refine Awp.exit ?_
                  refine h7 _ ?_
                  refine nT (hk := ?_)
                  refine Awp.via ⟨(.any :: .ptr 0 0 :: .ptr 1 0 :: .ptr 2 0 :: A40 (A20 (A3 []))), [.box (encIns ⟨op, d, a, b, n, f, args, l1, l2⟩), .box [.lit (.int .u8 0), .lit (.int .i64 0), .lit (.int .i64 0), .lit (.int .i64 0), .lit (.int .u32 0), .lit (.int .i64 0), .lit (.slice none 0 0), .lit (.int .i64 0), .lit (.int .i64 0)], .box [.lit (.int .u8 op), .lit (.int .i64 0), .lit (.int .i64 0), .lit (.int .i64 0), .lit (.int .u32 0), .lit (.int .i64 0), .lit (.slice none 0 0), .lit (.int .i64 0), .lit (.int .i64 0)]]⟩ (le_C (hc := .cons (.cons (.cons (.nil _))))) ?_
                  refine dH 0 [] [] uN fun K49 hK49 => vN ?_
                  refine tJoin (setAll [0, 1, 2, 3, 4, 5] (Array.replicate 8 false)) 2 (fun _ : Unit => ⟨(.any :: .ptr 0 0 :: .ptr 1 0 :: .ptr 2 0 :: A40 (A7 (.ptr 0 1 :: .lit (.int .i64 d) :: .ptr 0 5 :: .lit (.int .i64 f) :: .ptr 2 1 :: A10 [.any]))), [.box (encIns ⟨op, d, a, b, n, f, args, l1, l2⟩), .box [.lit (.int .u8 0), .lit (.int .i64 0), .lit (.int .i64 0), .lit (.int .i64 0), .lit (.int .u32 0), .lit (.int .i64 0), .lit (.slice none 0 0), .lit (.int .i64 0), .lit (.int .i64 0)], .box [.lit (.int .u8 op), .lit (.int .i64 d), .lit (.int .i64 0), .lit (.int .i64 0), .lit (.int .u32 0), .lit (.int .i64 0), .lit (.slice none 0 0), .lit (.int .i64 0), .lit (.int .i64 0)]]⟩) (fun _ => ?_) (fun hB => ?_)
                  rotate_left
                  · refine tStep [0, 2] (tC (oT ?_) (tC (oT ?_) tAll_nil))
                    · refine tStep [1, 2] (tC (oT ?_) (tC (oT ?_) tAll_nil))
                      · refine tStep [2, 4] (tC (oT ?_) (tC (oT ?_) tAll_nil))
                        · refine tStep [3, 4] (tC (oT ?_) (tC (oT ?_) tAll_nil))
                          · refine tT 4 ?_
                            refine tA 5 ?_
                            refine oW ?_
                            exact tE (hB ())
                          · refine tStep [3, 5] (tC (oT ?_) (tC ?_ tAll_nil))
                            · refine tA 5 ?_
                              refine oW ?_
                              exact tE (hB ())
                            · refine oW ?_
                              refine tT 3 ?_
                              exact tE (hB ())
                        · refine tStep [2, 5] (tC (oT ?_) (tC ?_ tAll_nil))
                          · refine tStep [3, 5] (tC (oT ?_) (tC ?_ tAll_nil))
                            · refine tA 5 ?_
                              refine oW ?_
                              exact tE (hB ())
                            · refine oW ?_
                              refine tT 3 ?_
                              exact tE (hB ())
                          · refine oW ?_
                            refine tT 2 ?_
                            refine tT 3 ?_
                            exact tE (hB ())
                      · refine tStep [1, 3] (tC (oT ?_) (tC (oT ?_) tAll_nil))
                        · refine tStep [3, 4] (tC (oT ?_) (tC (oT ?_) tAll_nil))
                          · refine tT 4 ?_
                            refine tA 5 ?_
                            refine oW ?_
                            exact tE (hB ())
                          · refine tStep [3, 5] (tC (oT ?_) (tC ?_ tAll_nil))
                            · refine tA 5 ?_
                              refine oW ?_
                              exact tE (hB ())
                            · refine oW ?_
                              refine tT 3 ?_
                              exact tE (hB ())
                        · refine tT 1 ?_
                          refine tT 4 ?_
                          refine tA 5 ?_
                          refine oW ?_
                          exact tE (hB ())
                    · refine tStep [0, 3] (tC (oT ?_) (tC (oT ?_) tAll_nil))
                      · refine tStep [1, 3] (tC (oT ?_) (tC (oT ?_) tAll_nil))
                        · refine tStep [3, 4] (tC (oT ?_) (tC (oT ?_) tAll_nil))
                          · refine tT 4 ?_
                            refine tA 5 ?_
                            refine oW ?_
                            exact tE (hB ())
                          · refine tStep [3, 5] (tC (oT ?_) (tC ?_ tAll_nil))
                            · refine tA 5 ?_
                              refine oW ?_
                              exact tE (hB ())
                            · refine oW ?_
                              refine tT 3 ?_
                              exact tE (hB ())
                        · refine tT 1 ?_
                          refine tT 4 ?_
                          refine tA 5 ?_
                          refine oW ?_
                          exact tE (hB ())
                      · refine tT 0 ?_
                        refine tT 1 ?_
                        refine tT 4 ?_
                        refine tA 5 ?_
                        refine oW ?_
                        exact tE (hB ())
                  refine tT 6 ?_
                  refine tA 7 ?_
                  refine oW ?_
                  refine tDone (hK49 _ ?_)
                  refine Awp.exit ?_
                  refine h3 _ ?_
                  refine nT (hk := ?_)
                  refine wS (sT (sW (wN ?_)))
                  rcases hop with rfl | rfl | rfl | rfl | rfl | rfl | rfl | rfl | rfl | rfl | rfl <;> first | (cases hb16; done) | (cases hb20; done) | (cases hb22; done) | (cases hb26; done) | (cases hb28; done) | (cases hb31; done) | (cases hb34; done) | (cases hb37; done) | (cases hb40; done) | (cases hb42; done) | (cases hb16b; done) | (cases hb20b; done) | (cases hb22b; done) | (cases hb26b; done) | (cases hb28b; done) | (cases hb31b; done) | (cases hb34b; done) | (cases hb37b; done) | (cases hb40b; done) | (cases hb42b; done) | (cases hb16c; done) | (cases hb20c; done) | (cases hb22c; done) | (cases hb26c; done) | (cases hb28c; done) | (cases hb31c; done) | (cases hb34c; done) | (cases hb37c; done) | (cases hb40c; done) | (cases hb42c; done) | (cases hb16d; done) | (cases hb20d; done) | (cases hb22d; done) | (cases hb26d; done) | (cases hb28d; done) | (cases hb31d; done) | (cases hb34d; done) | (cases hb37d; done) | (cases hb40d; done) | (cases hb42d; done) | (cases hb16e; done) | (cases hb20e; done) | (cases hb22e; done) | (cases hb26e; done) | (cases hb28e; done) | (cases hb31e; done) | (cases hb34e; done) | (cases hb37e; done) | (cases hb40e; done) | (cases hb42e; done) | (cases hb16f; done) | (cases hb20f; done) | (cases hb22f; done) | (cases hb26f; done) | (cases hb28f; done) | (cases hb31f; done) | (cases hb34f; done) | (cases hb37f; done) | (cases hb40f; done) | (cases hb42f; done) | (cases hb16g; done) | (cases hb20g; done) | (cases hb22g; done) | (cases hb26g; done) | (cases hb28g; done) | (cases hb31g; done) | (cases hb34g; done) | (cases hb37g; done) | (cases hb40g; done) | (cases hb42g; done) | (cases hb16h; done) | (cases hb20h; done) | (cases hb22h; done) | (cases hb26h; done) | (cases hb28h; done) | (cases hb31h; done) | (cases hb34h; done) | (cases hb37h; done) | (cases hb40h; done) | (cases hb42h; done) | exact Awp.ret ⟨⟨.inr rfl, 1, _, rfl, rfl, Fin.cl rfl⟩, fun i cells e1 e2 => by cases e1; cases e2; rfl⟩
                · refine Awp.skip ?_
                  refine h35 _ ?_
                  refine nT (hk := ?_)
                  refine Awp.seq fun K38 h38 => ?_
                  refine wR (hk := ?_)
                  refine Awp.cond rfl (fun hb40 => ?_) (fun hb40 => ?_)
                  · refine Awp.exit ?_
                    refine h6 _ ?_
                    refine nT (hk := ?_)
                    refine Awp.via ⟨(.any :: .ptr 0 0 :: .ptr 1 0 :: .ptr 2 0 :: A40 (A20 (A3 []))), [.box (encIns ⟨op, d, a, b, n, f, args, l1, l2⟩), .box [.lit (.int .u8 0), .lit (.int .i64 0), .lit (.int .i64 0), .lit (.int .i64 0), .lit (.int .u32 0), .lit (.int .i64 0), .lit (.slice none 0 0), .lit (.int .i64 0), .lit (.int .i64 0)], .box [.lit (.int .u8 op), .lit (.int .i64 0), .lit (.int .i64 0), .lit (.int .i64 0), .lit (.int .u32 0), .lit (.int .i64 0), .lit (.slice none 0 0), .lit (.int .i64 0), .lit (.int .i64 0)]]⟩ (le_C (hc := .cons (.cons (.cons (.nil _))))) ?_
                    refine dHE 0 [] [] uN (vN ?_)
                    refine tJoin (setAll [0, 1, 2, 3, 4, 5] (Array.replicate 8 false)) 2 (fun _ : Unit => ⟨(.any :: .ptr 0 0 :: .ptr 1 0 :: .ptr 2 0 :: A40 (A10 (A3 (.ptr 0 2 :: .lit (.int .i64 a) :: .ptr 0 8 :: .lit (.int .i64 l2) :: .ptr 2 2 :: A5 [])))), [.box (encIns ⟨op, d, a, b, n, f, args, l1, l2⟩), .box [.lit (.int .u8 0), .lit (.int .i64 0), .lit (.int .i64 0), .lit (.int .i64 0), .lit (.int .u32 0), .lit (.int .i64 0), .lit (.slice none 0 0), .lit (.int .i64 0), .lit (.int .i64 0)], .box [.lit (.int .u8 op), .lit (.int .i64 0), .lit (.int .i64 a), .lit (.int .i64 0), .lit (.int .u32 0), .lit (.int .i64 0), .lit (.slice none 0 0), .lit (.int .i64 0), .lit (.int .i64 0)]]⟩) (fun _ => ?_) (fun hB => ?_)
                    rotate_left
                    · refine tStep [0, 2] (tC (oT ?_) (tC (oT ?_) tAll_nil))
                      · refine tStep [1, 2] (tC (oT ?_) (tC (oT ?_) tAll_nil))
                        · refine tStep [2, 4] (tC (oT ?_) (tC (oT ?_) tAll_nil))
                          · refine tStep [3, 4] (tC (oT ?_) (tC (oT ?_) tAll_nil))
                            · refine tT 4 ?_
                              refine tA 5 ?_
                              refine oW ?_
                              exact tE (hB ())
                            · refine tStep [3, 5] (tC (oT ?_) (tC ?_ tAll_nil))
                              · refine tA 5 ?_
                                refine oW ?_
                                exact tE (hB ())
                              · refine oW ?_
                                refine tT 3 ?_
                                exact tE (hB ())
                          · refine tStep [2, 5] (tC (oT ?_) (tC ?_ tAll_nil))
                            · refine tStep [3, 5] (tC (oT ?_) (tC ?_ tAll_nil))
                              · refine tA 5 ?_
                                refine oW ?_
                                exact tE (hB ())
                              · refine oW ?_
                                refine tT 3 ?_
                                exact tE (hB ())
                            · refine oW ?_
                              refine tT 2 ?_
                              refine tT 3 ?_
                              exact tE (hB ())
                        · refine tStep [1, 3] (tC (oT ?_) (tC (oT ?_) tAll_nil))
                          · refine tStep [3, 4] (tC (oT ?_) (tC (oT ?_) tAll_nil))
                            · refine tT 4 ?_
                              refine tA 5 ?_
                              refine oW ?_
                              exact tE (hB ())
                            · refine tStep [3, 5] (tC (oT ?_) (tC ?_ tAll_nil))
                              · refine tA 5 ?_
                                refine oW ?_
                                exact tE (hB ())
                              · refine oW ?_
                                refine tT 3 ?_
                                exact tE (hB ())
                          · refine tT 1 ?_
                            refine tT 4 ?_
                            refine tA 5 ?_
                            refine oW ?_
                            exact tE (hB ())
                      · refine tStep [0, 3] (tC (oT ?_) (tC (oT ?_) tAll_nil))
                        · refine tStep [1, 3] (tC (oT ?_) (tC (oT ?_) tAll_nil))
                          · refine tStep [3, 4] (tC (oT ?_) (tC (oT ?_) tAll_nil))
                            · refine tT 4 ?_
                              refine tA 5 ?_
                              refine oW ?_
                              exact tE (hB ())
                            · refine tStep [3, 5] (tC (oT ?_) (tC ?_ tAll_nil))
                              · refine tA 5 ?_
                                refine oW ?_
                                exact tE (hB ())
                              · refine oW ?_
                                refine tT 3 ?_
                                exact tE (hB ())
                          · refine tT 1 ?_
                            refine tT 4 ?_
                            refine tA 5 ?_
                            refine oW ?_
                            exact tE (hB ())
                        · refine tT 0 ?_
                          refine tT 1 ?_
                          refine tT 4 ?_
                          refine tA 5 ?_
                          refine oW ?_
                          exact tE (hB ())
                    refine tT 6 ?_
                    refine tA 7 ?_
                    refine oW ?_
                    refine tDone ?_
                    refine h5 _ ?_
                    refine nT (hk := ?_)
                    refine wS (sT (sT (sT (sW (wN ?_)))))
                    refine Awp.exit ?_
                    refine h3 _ ?_
                    refine nT (hk := ?_)
                    refine wS (sT (sW (wN ?_)))
                    rcases hop with rfl | rfl | rfl | rfl | rfl | rfl | rfl | rfl | rfl | rfl | rfl <;> first | (cases hb16; done) | (cases hb20; done) | (cases hb22; done) | (cases hb26; done) | (cases hb28; done) | (cases hb31; done) | (cases hb34; done) | (cases hb37; done) | (cases hb40; done) | (cases hb42; done) | (cases hb16b; done) | (cases hb20b; done) | (cases hb22b; done) | (cases hb26b; done) | (cases hb28b; done) | (cases hb31b; done) | (cases hb34b; done) | (cases hb37b; done) | (cases hb40b; done) | (cases hb42b; done) | (cases hb16c; done) | (cases hb20c; done) | (cases hb22c; done) | (cases hb26c; done) | (cases hb28c; done) | (cases hb31c; done) | (cases hb34c; done) | (cases hb37c; done) | (cases hb40c; done) | (cases hb42c; done) | (cases hb16d; done) | (cases hb20d; done) | (cases hb22d; done) | (cases hb26d; done) | (cases hb28d; done) | (cases hb31d; done) | (cases hb34d; done) | (cases hb37d; done) | (cases hb40d; done) | (cases hb42d; done) | (cases hb16e; done) | (cases hb20e; done) | (cases hb22e; done) | (cases hb26e; done) | (cases hb28e; done) | (cases hb31e; done) | (cases hb34e; done) | (cases hb37e; done) | (cases hb40e; done) | (cases hb42e; done) | (cases hb16f; done) | (cases hb20f; done) | (cases hb22f; done) | (cases hb26f; done) | (cases hb28f; done) | (cases hb31f; done) | (cases hb34f; done) | (cases hb37f; done) | (cases hb40f; done) | (cases hb42f; done) | (cases hb16g; done) | (cases hb20g; done) | (cases hb22g; done) | (cases hb26g; done) | (cases hb28g; done) | (cases hb31g; done) | (cases hb34g; done) | (cases hb37g; done) | (cases hb40g; done) | (cases hb42g; done) | (cases hb16h; done) | (cases hb20h; done) | (cases hb22h; done) | (cases hb26h; done) | (cases hb28h; done) | (cases hb31h; done) | (cases hb34h; done) | (cases hb37h; done) | (cases hb40h; done) | (cases hb42h; done) | exact Awp.ret ⟨⟨.inr rfl, 1, _, rfl, rfl, Fin.cl rfl⟩, fun i cells e1 e2 => by cases e1; cases e2; rfl⟩
                  · refine Awp.skip ?_
                    refine h38 _ ?_
                    refine nT (hk := ?_)
                    refine wR (hk := ?_)
                    refine Awp.cond rfl (fun hb42 => ?_) (fun hb42 => ?_)
                    · refine Awp.exit ?_
                      refine h5 _ ?_
                      refine nT (hk := ?_)
                      refine wS (sT (sT (sT (sW (wN ?_)))))
                      refine Awp.exit ?_
                      refine h3 _ ?_
                      refine nT (hk := ?_)
                      refine wS (sT (sW (wN ?_)))
                      rcases hop with rfl | rfl | rfl | rfl | rfl | rfl | rfl | rfl | rfl | rfl | rfl <;> first | (cases hb16; done) | (cases hb20; done) | (cases hb22; done) | (cases hb26; done) | (cases hb28; done) | (cases hb31; done) | (cases hb34; done) | (cases hb37; done) | (cases hb40; done) | (cases hb42; done) | (cases hb16b; done) | (cases hb20b; done) | (cases hb22b; done) | (cases hb26b; done) | (cases hb28b; done) | (cases hb31b; done) | (cases hb34b; done) | (cases hb37b; done) | (cases hb40b; done) | (cases hb42b; done) | (cases hb16c; done) | (cases hb20c; done) | (cases hb22c; done) | (cases hb26c; done) | (cases hb28c; done) | (cases hb31c; done) | (cases hb34c; done) | (cases hb37c; done) | (cases hb40c; done) | (cases hb42c; done) | (cases hb16d; done) | (cases hb20d; done) | (cases hb22d; done) | (cases hb26d; done) | (cases hb28d; done) | (cases hb31d; done) | (cases hb34d; done) | (cases hb37d; done) | (cases hb40d; done) | (cases hb42d; done) | (cases hb16e; done) | (cases hb20e; done) | (cases hb22e; done) | (cases hb26e; done) | (cases hb28e; done) | (cases hb31e; done) | (cases hb34e; done) | (cases hb37e; done) | (cases hb40e; done) | (cases hb42e; done) | (cases hb16f; done) | (cases hb20f; done) | (cases hb22f; done) | (cases hb26f; done) | (cases hb28f; done) | (cases hb31f; done) | (cases hb34f; done) | (cases hb37f; done) | (cases hb40f; done) | (cases hb42f; done) | (cases hb16g; done) | (cases hb20g; done) | (cases hb22g; done) | (cases hb26g; done) | (cases hb28g; done) | (cases hb31g; done) | (cases hb34g; done) | (cases hb37g; done) | (cases hb40g; done) | (cases hb42g; done) | (cases hb16h; done) | (cases hb20h; done) | (cases hb22h; done) | (cases hb26h; done) | (cases hb28h; done) | (cases hb31h; done) | (cases hb34h; done) | (cases hb37h; done) | (cases hb40h; done) | (cases hb42h; done) | exact Awp.ret ⟨⟨.inr rfl, 1, _, rfl, rfl, Fin.cl rfl⟩, fun i cells e1 e2 => by cases e1; cases e2; rfl⟩
                    · refine Awp.skip ?_
                      refine h13 _ ?_
                      refine nT (hk := ?_)
                      refine Awp.exit ?_
                      refine h3 _ ?_
                      refine nT (hk := ?_)
                      refine wS (sT (sW (wN ?_)))
                      rcases hop with rfl | rfl | rfl | rfl | rfl | rfl | rfl | rfl | rfl | rfl | rfl <;> first | (cases hb16; done) | (cases hb20; done) | (cases hb22; done) | (cases hb26; done) | (cases hb28; done) | (cases hb31; done) | (cases hb34; done) | (cases hb37; done) | (cases hb40; done) | (cases hb42; done) | (cases hb16b; done) | (cases hb20b; done) | (cases hb22b; done) | (cases hb26b; done) | (cases hb28b; done) | (cases hb31b; done) | (cases hb34b; done) | (cases hb37b; done) | (cases hb40b; done) | (cases hb42b; done) | (cases hb16c; done) | (cases hb20c; done) | (cases hb22c; done) | (cases hb26c; done) | (cases hb28c; done) | (cases hb31c; done) | (cases hb34c; done) | (cases hb37c; done) | (cases hb40c; done) | (cases hb42c; done) | (cases hb16d; done) | (cases hb20d; done) | (cases hb22d; done) | (cases hb26d; done) | (cases hb28d; done) | (cases hb31d; done) | (cases hb34d; done) | (cases hb37d; done) | (cases hb40d; done) | (cases hb42d; done) | (cases hb16e; done) | (cases hb20e; done) | (cases hb22e; done) | (cases hb26e; done) | (cases hb28e; done) | (cases hb31e; done) | (cases hb34e; done) | (cases hb37e; done) | (cases hb40e; done) | (cases hb42e; done) | (cases hb16f; done) | (cases hb20f; done) | (cases hb22f; done) | (cases hb26f; done) | (cases hb28f; done) | (cases hb31f; done) | (cases hb34f; done) | (cases hb37f; done) | (cases hb40f; done) | (cases hb42f; done) | (cases hb16g; done) | (cases hb20g; done) | (cases hb22g; done) | (cases hb26g; done) | (cases hb28g; done) | (cases hb31g; done) | (cases hb34g; done) | (cases hb37g; done) | (cases hb40g; done) | (cases hb42g; done) | (cases hb16h; done) | (cases hb20h; done) | (cases hb22h; done) | (cases hb26h; done) | (cases hb28h; done) | (cases hb31h; done) | (cases hb34h; done) | (cases hb37h; done) | (cases hb40h; done) | (cases hb42h; done) | exact Awp.ret ⟨⟨.inr rfl, 1, _, rfl, rfl, Fin.cl rfl⟩, fun i cells e1 e2 => by cases e1; cases e2; rfl⟩
end Mu
end
section
/-
  slices.ContainsFunc on numbers.
  Conditions: rows of at most 2^30 numbers.
-/
namespace Mu
open Go Go.RowKit Go.Proofs

def idxF (b : Int → Bool) (l : List Int) : Int := if l.findIdx b < l.length then (l.findIdx b : Int) else -1
theorem idxF_some {b : Int → Bool} {l : List Int} {k : Nat} {z : Int} (hk : l[k]? = some z) (hz : b z = true) (h : ∀ (i : Nat) (y : Int), i < k → l[i]? = some y → b y = false) : idxF b l = (k : Int) := by
  have hkl := (List.getElem?_eq_some_iff.1 hk).1
  have e : l.findIdx b = k := by
    rw [List.findIdx_eq hkl]
    refine ⟨?_, fun j hj => ?_⟩
    · rw [← Option.some.inj ((List.getElem?_eq_getElem hkl).symm.trans hk)] at hz
      exact hz
    · exact h j _ hj (List.getElem?_eq_getElem (by omega))
  unfold idxF
  rw [e, if_pos hkl]
theorem idxF_none {b : Int → Bool} {l : List Int} (h : ∀ z ∈ l, b z = false) : idxF b l = -1 := by
  unfold idxF
  rw [if_neg]
  intro hlt
  have := List.findIdx_getElem (w := hlt)
  rw [h _ (List.getElem_mem hlt)] at this
  cases this
theorem idxF_any {b : Int → Bool} {l : List Int} : decide (idxF b l ≥ 0) = l.any b := by
  cases h : l.any b with
  | true =>
    obtain ⟨z, hz, hb⟩ := List.any_eq_true.1 h
    have := List.findIdx_lt_length_of_exists ⟨z, hz, hb⟩
    unfold idxF
    rw [if_pos this]
    exact decide_eq_true (by omega)
  | false =>
    rw [idxF_none fun z hz => by
      have := List.any_eq_false.1 h z hz
      simpa using this]
    rfl

set_option maxRecDepth 100000 in
theorem indexL_fn {f : FuncId} {b : Int → Bool} {l : List Int} (hl : l.length ≤ 1073741824) (hF : ∀ z ∈ l, Fn Tryz.prog f [.lit (.int .i64 z)] (.lit (.bool (b z)))) : Fn Tryz.prog 196 [.bs tInt l, .lit (.func (.func f) #[] #[])] (.lit (.int .i64 (idxF b l))) := by
  refine Fn.of_awp Tryz.func196 rfl (by kernel_rfl) rfl Tryz.ntmps196 fun C hC => ?_
  simp only [List.length_cons, List.length_nil, Nat.reduceAdd, Nat.reduceSub, List.replicate_succ, List.replicate_zero, List.cons_append, List.nil_append]
  refine wR (hk := ?_)
  refine Awp.seq fun K2 h2 => ?_
  refine wS (sT (sT (sT (wN ?_))))
  refine Awp.block ?_
  refine Awp.loopF (fun k : Nat => ⟨(.bs tInt l :: .lit (.func (.func f) #[] #[]) :: A5 (.lit (.int .i64 (l.length : Int)) :: .lit (.int .i64 (k : Int)) :: A10 [])), []⟩) (fun k => k ≤ l.length ∧ ∀ (i : Nat) (y : Int), i < k → l[i]? = some y → b y = false) (fun k => l.length - k) 0 ⟨Nat.zero_le _, fun i y hi => absurd hi (Nat.not_lt_zero _)⟩ (St.le_t rfl (by (try simp only [putA, List.set_cons_zero, List.set_cons_succ]); repeat (first | exact Fgt.nil | refine Fgt.keep rfl ?_ | refine Fgt.any ?_))) ?_
  rintro k ⟨hk, hall⟩
  refine wS (sT (wN ?_))
  refine Awp.seq fun K6 h6 => ?_
  refine Awp.cond rfl (fun hb7 => ?_) (fun hb7 => ?_)
  · have hlt : k < l.length := by
      have := of_decide_eq_true hb7
      omega
    have hz := inB_get (inBn hlt)
    rw [Int.toNat_natCast] at hz
    refine Awp.skip ?_
    refine h6 _ ?_
    refine nT (hk := ?_)
    refine Awp.seq fun K8 h8 => ?_
    refine Awp.block ?_
    refine wR (hk := ?_)
    refine wS (sT (sT (sT (sX (inBn hlt) (sT ?_)))))
    refine sH (Quiet.callFV rfl rfl rfl (hF _ (List.mem_of_getElem? hz)) rfl rfl) (wN ?_)
    refine Awp.cond rfl (fun hb11 => ?_) (fun hb11 => ?_)
    · refine wR (hk := ?_)
      rw [idxF_some hz hb11 hall]
      exact Awp.ret ⟨.inr rfl, Fin.cl rfl⟩
    · refine Awp.skip ?_
      refine h8 _ ?_
      refine nT (hk := ?_)
      refine wRE (hk := ?_)
      refine athen_n ⟨k + 1, ⟨hlt, fun i y hi hy => by
        by_cases e : i = k
        · subst e
          rw [hz] at hy
          cases hy
          exact hb11
        · exact hall i y (by omega) hy⟩, by omega, ?_⟩
      exact St.le_t rfl (by (try simp only [putA, List.set_cons_zero, List.set_cons_succ]); repeat (first | exact Fgt.nil | refine Fgt.keep rfl ?_ | refine Fgt.any ?_))
  · refine Awp.exit ?_
    refine h2 _ ?_
    refine nT (hk := ?_)
    refine wR (hk := ?_)
    rw [idxF_none fun z hz => by
      obtain ⟨i, hi⟩ := List.getElem?_of_mem hz
      have := (List.getElem?_eq_some_iff.1 hi).1
      have h7 := of_decide_eq_false hb7
      exact hall i z (by omega) hi]
    exact Awp.ret ⟨.inr rfl, Fin.cl rfl⟩
set_option maxRecDepth 100000 in
theorem anyL_fn {f : FuncId} {b : Int → Bool} {l : List Int} (hl : l.length ≤ 1073741824) (hF : ∀ z ∈ l, Fn Tryz.prog f [.lit (.int .i64 z)] (.lit (.bool (b z)))) : Fn Tryz.prog 149 [.bs tInt l, .lit (.func (.func f) #[] #[])] (.lit (.bool (l.any b))) := by
  rw [← idxF_any]
  refine Fn.of_awp Tryz.func149 rfl (by kernel_rfl) rfl Tryz.ntmps149 fun C hC => ?_
  simp only [List.length_cons, List.length_nil, Nat.reduceAdd, Nat.reduceSub, List.replicate_succ, List.replicate_zero, List.cons_append, List.nil_append]
  refine wR (hk := ?_)
  refine wS (sT (sT (sC (indexL_fn hl hF) (sT (sT (wN ?_))))))
  exact Awp.ret ⟨.inr rfl, Fin.cl rfl⟩
set_option maxRecDepth 100000 in
theorem indexC_fn {f : FuncId} {α : Type} {T : Ty α} {d : α} {b : Int → Bool} {l : List Int} (hl : l.length ≤ 1073741824) (hF : ∀ z ∈ l, Fn Tryz.prog f [.lit (.int .i64 z), .bp T d 0] (.lit (.bool (b z)))) : Fn Tryz.prog 196 [.bs tInt l, .fn f [.bp T d 0]] (.lit (.int .i64 (idxF b l))) := by
  refine Fn.of_awp Tryz.func196 rfl (by kernel_rfl) rfl Tryz.ntmps196 fun C hC => ?_
  simp only [List.length_cons, List.length_nil, Nat.reduceAdd, Nat.reduceSub, List.replicate_succ, List.replicate_zero, List.cons_append, List.nil_append]
  refine wR (hk := ?_)
  refine Awp.seq fun K2 h2 => ?_
  refine wS (sT (sT (sT (wN ?_))))
  refine Awp.block ?_
  refine Awp.loopF (fun k : Nat => ⟨(.bs tInt l :: .fn f [.bp T d 0] :: A5 (.lit (.int .i64 (l.length : Int)) :: .lit (.int .i64 (k : Int)) :: A10 [])), []⟩) (fun k => k ≤ l.length ∧ ∀ (i : Nat) (y : Int), i < k → l[i]? = some y → b y = false) (fun k => l.length - k) 0 ⟨Nat.zero_le _, fun i y hi => absurd hi (Nat.not_lt_zero _)⟩ (St.le_t rfl (by (try simp only [putA, List.set_cons_zero, List.set_cons_succ]); repeat (first | exact Fgt.nil | refine Fgt.keep rfl ?_ | refine Fgt.any ?_))) ?_
  rintro k ⟨hk, hall⟩
  refine wS (sT (wN ?_))
  refine Awp.seq fun K6 h6 => ?_
  refine Awp.cond rfl (fun hb7 => ?_) (fun hb7 => ?_)
  · have hlt : k < l.length := by
      have := of_decide_eq_true hb7
      omega
    have hz := inB_get (inBn hlt)
    rw [Int.toNat_natCast] at hz
    refine Awp.skip ?_
    refine h6 _ ?_
    refine nT (hk := ?_)
    refine Awp.seq fun K8 h8 => ?_
    refine Awp.block ?_
    refine wR (hk := ?_)
    refine wS (sT (sT (sT (sX (inBn hlt) (sT ?_)))))
    refine sH (Quiet.callFn rfl rfl rfl (hF _ (List.mem_of_getElem? hz)) rfl rfl) (wN ?_)
    refine Awp.cond rfl (fun hb11 => ?_) (fun hb11 => ?_)
    · refine wR (hk := ?_)
      rw [idxF_some hz hb11 hall]
      exact Awp.ret ⟨.inr rfl, Fin.cl rfl⟩
    · refine Awp.skip ?_
      refine h8 _ ?_
      refine nT (hk := ?_)
      refine wRE (hk := ?_)
      refine athen_n ⟨k + 1, ⟨hlt, fun i y hi hy => by
        by_cases e : i = k
        · subst e
          rw [hz] at hy
          cases hy
          exact hb11
        · exact hall i y (by omega) hy⟩, by omega, ?_⟩
      exact St.le_t rfl (by (try simp only [putA, List.set_cons_zero, List.set_cons_succ]); repeat (first | exact Fgt.nil | refine Fgt.keep rfl ?_ | refine Fgt.any ?_))
  · refine Awp.exit ?_
    refine h2 _ ?_
    refine nT (hk := ?_)
    refine wR (hk := ?_)
    rw [idxF_none fun z hz => by
      obtain ⟨i, hi⟩ := List.getElem?_of_mem hz
      have := (List.getElem?_eq_some_iff.1 hi).1
      have h7 := of_decide_eq_false hb7
      exact hall i z (by omega) hi]
    exact Awp.ret ⟨.inr rfl, Fin.cl rfl⟩
set_option maxRecDepth 100000 in
theorem anyC_fn {f : FuncId} {α : Type} {T : Ty α} {d : α} {b : Int → Bool} {l : List Int} (hl : l.length ≤ 1073741824) (hF : ∀ z ∈ l, Fn Tryz.prog f [.lit (.int .i64 z), .bp T d 0] (.lit (.bool (b z)))) : Fn Tryz.prog 149 [.bs tInt l, .fn f [.bp T d 0]] (.lit (.bool (l.any b))) := by
  rw [← idxF_any]
  refine Fn.of_awp Tryz.func149 rfl (by kernel_rfl) rfl Tryz.ntmps149 fun C hC => ?_
  simp only [List.length_cons, List.length_nil, Nat.reduceAdd, Nat.reduceSub, List.replicate_succ, List.replicate_zero, List.cons_append, List.nil_append]
  refine wR (hk := ?_)
  refine wS (sT (sT (sC (indexC_fn hl hF) (sT (sT (wN ?_))))))
  exact Awp.ret ⟨.inr rfl, Fin.cl rfl⟩
end Mu
end
section
/-
  shape.bare as others call it; the least of three.
  Conditions: none.
-/
namespace Mu
open Go Go.RowKit Go.Proofs

theorem Fn.up {P : Program} {f : FuncId} {xs : List AV} {r r' : AV} (hu : Up r r') (h : Fn P f xs r) : Fn P f xs r' := ⟨h.1, fun w S vs a b => (h.2 w S vs a b).mono fun e w' ⟨v, he, hb, S', k1, k2, k3, k4⟩ => ⟨v, he, hb, S', k1, k2, k3, hu.rel k4⟩⟩
def bareL (x : Ins) : Ins := ⟨x.op, hasN x.op [0, 1, 2, 3, 5] x.d, hasN x.op [1, 2, 3, 4, 6, 9, 10] x.a, hasN x.op [1, 4] x.b, hasN x.op [0, 1] x.n, hasN x.op [5] x.f, [], hasN x.op [8, 9] x.l1, hasN x.op [9] x.l2⟩
def shape_bare (x : Ins) : M Ins := M.chk (decide (0 ≤ x.op) && decide (x.op ≤ 10)) (M.ok (bareL x))
theorem shape_bare_l {x r : Ins} (H : (shape_bare x).to r) : Fn Tryz.prog 198 [.agg (encIns x)] (.agg (encIns r)) := by
  obtain ⟨c, H⟩ := M.to_chk.1 H
  obtain rfl := M.to_ok.1 H
  rw [Bool.and_eq_true, decide_eq_true_eq, decide_eq_true_eq] at c
  exact (bare_fn c.1 c.2).up (Up.ag (.cons (.refl _) (.cons (.refl _) (.cons (.refl _) (.cons (.refl _) (.cons (.refl _) (.cons (.refl _) (.cons (.nil _) (.cons (.refl _) (.cons (.refl _) .nil))))))))))
section
variable {P : Program} {C : Ctx} {t : List AV} {h : List ABlk} {o : Oper}
def min3 (a b c : Int) : Int := if c < (if b < a then b else a) then c else (if b < a then b else a)
theorem Quiet.min3 {tys : Array TypeId} {x y z : Operand} {k : IntKind} {a b c : Int} (ho : o.op = .call { callee := .builtin .min, args := #[x, y, z], argTypes := tys }) (hx : evA t x = .lit (.int k a)) (hy : evA t y = .lit (.int k b)) (hz : evA t z = .lit (.int k c)) : Quiet P C t h o (.lit (.int k (Mu.min3 a b c))) :=
  Quiet.of_run fun S ψ w ρ H hρ => by
    have h1 := hρ x (by simp [ho, Op.operands, Call.operands])
    have h2 := hρ y (by simp [ho, Op.operands, Call.operands])
    have h3 := hρ z (by simp [ho, Op.operands, Call.operands])
    rw [hx] at h1
    rw [hy] at h2
    rw [hz] at h3
    unfold AV.rel at h1 h2 h3
    refine ⟨.int k (Mu.min3 a b c), ?_, by unfold AV.rel; rfl⟩
    simp [execOp, ho, resolve, invoke, builtin, h1, h2, h3, Builtin.min_, Builtin.min2, Mu.min3]
end
def shape_ins_1 (rP0 : Int) : M Bool := M.ok (decide (rP0 < 0))
set_option maxRecDepth 100000 in
set_option maxHeartbeats 4000000 in
theorem shape_ins_1_l {rP0 : Int} {r : Bool} (H : (shape_ins_1 rP0).to r) : Fn Tryz.prog 199 [.lit (.int .i64 rP0)] (.lit (.bool r)) := by
  delta shape_ins_1 at H
  try dsimp only at H
  refine Fn.of_awp Tryz.func199 rfl (by kernel_rfl) rfl Tryz.ntmps199 fun C hC => ?_
  simp only [List.length_cons, List.length_nil, Nat.reduceAdd, Nat.reduceSub, List.replicate_succ, List.replicate_zero, List.cons_append, List.nil_append]
  refine wS (sT (wN ?_))
  refine wS (sT (sT (sT (wN ?_))))
  obtain rfl := M.to_ok.1 H
  exact Awp.ret ⟨.inr rfl, Fin.cl rfl⟩
theorem ins1_fn (z : Int) : Fn Tryz.prog 199 [.lit (.int .i64 z)] (.lit (.bool (decide (z < 0)))) := shape_ins_1_l (M.ok_to _)
end Mu
end
section
/-
  shape.ins: whether an instruction may be.
  Conditions: none.
-/
namespace Mu
open Go Go.RowKit Go.Proofs

def shape_ins (p : Prog) (f : Func) (x : Ins) : M Bool := M.cnd (decide (x.op > 10)) (M.ok false) (M.bnd (shape_bare x) fun r3 => M.chk (!(!((!(((((((r3.d == x.d) && (r3.a == x.a)) && (r3.b == x.b)) && (r3.n == x.n)) && (r3.f == x.f)) && (r3.l1 == x.l1)) && (r3.l2 == x.l2))) || (decide ((min3 x.d x.a x.b) < 0)))) || (decide (x.args.length ≤ 1073741824))) (M.cnd (((!(((((((r3.d == x.d) && (r3.a == x.a)) && (r3.b == x.b)) && (r3.n == x.n)) && (r3.f == x.f)) && (r3.l1 == x.l1)) && (r3.l2 == x.l2))) || (decide ((min3 x.d x.a x.b) < 0))) || (x.args.any (fun z => decide (z < 0)))) (M.ok false) (M.cnd (x.op == 5) (M.bnd (shape_has x.f (p.funcs.length : Int)) fun r10 => M.chk (!r10 || (inBd p.funcs x.f)) (M.ok (r10 && ((x.args.length : Int) == ((ixD p.funcs x.f).args))))) (M.bnd (M.whn ((((x.args.length : Int) == 0) && ((x.op != 1) || (decide (x.n ≤ 13)))) && (!((x.op != 8) && (x.op != 9)))) false (shape_has x.l1 (f.blocks.length : Int))) fun r12 => M.bnd (M.whn (((((x.args.length : Int) == 0) && ((x.op != 1) || (decide (x.n ≤ 13)))) && (!((x.op != 8) && (x.op != 9)))) && r12) false (shape_has x.l2 (f.blocks.length : Int))) fun r13 => M.ok ((((x.args.length : Int) == 0) && ((x.op != 1) || (decide (x.n ≤ 13)))) && (((x.op != 8) && (x.op != 9)) || (r12 && r13)))))))
set_option maxRecDepth 100000 in
set_option maxHeartbeats 4000000 in
theorem shape_ins_l {p : Prog} {f : Func} {x : Ins} {r : Bool} (H : (shape_ins p f x).to r) : Fn Tryz.prog 157 [.agg (encProg p), .agg (encFunc f), .agg (encIns x)] (.lit (.bool r)) := by
  delta shape_ins at H
  try dsimp only at H
  refine Fn.of_awp Tryz.func157 rfl (by kernel_rfl) rfl Tryz.ntmps157 fun C hC => ?_
  simp only [List.length_cons, List.length_nil, Nat.reduceAdd, Nat.reduceSub, List.replicate_succ, List.replicate_zero, List.cons_append, List.nil_append]
  refine wS (sB (sB (sB (sT (wN ?_)))))
  refine Awp.seq fun Khs1 hs1 => ?_
  refine wS (sT (sT (sT (wN ?_))))
  refine Awp.cond rfl (fun hb2 => ?_) (fun hb2 => ?_)
  · have H := M.to_t hb2 H
    refine wS (sT (wN ?_))
    obtain rfl := M.to_ok.1 H
    exact Awp.ret ⟨.inr rfl, Fin.cl rfl⟩
  · have H := M.to_f hb2 H
    refine Awp.skip ?_
    refine hs1 _ ?_
    refine nT (hk := ?_)
    obtain ⟨r3, k3, H⟩ := M.to_bnd.1 H
    have k3 := shape_bare_l k3
    refine Awp.via ⟨.agg (encProg p) :: .agg (encFunc f) :: .agg (encIns x) :: .ptr 0 0 :: .ptr 1 0 :: .ptr 2 0 :: .lit (.bool false) :: A3 (.ptr 2 0 :: .lit (.int .u8 x.op) :: .lit (.bool (decide (x.op > 10))) :: A80 (A40 (A8 []))), [.box (encProg p), .box (encFunc f), .box (encIns x), .dead]⟩ (St.le.trans le_TA (St.le_deads 1 rfl)) ?_
    refine Awp.seq fun Kg4 hg4 => ?_
    refine Awp.drawG (n := 7) (fun b => ⟨.agg (encProg p) :: .agg (encFunc f) :: .agg (encIns x) :: .ptr 0 0 :: .ptr 1 0 :: .ptr 2 0 :: .lit (.bool false) :: (bif b 4 then .ptr 3 0 else .any) :: (bif b 6 then .bs tInt x.args else .any) :: .any :: .ptr 2 0 :: .lit (.int .u8 x.op) :: .lit (.bool (decide (x.op > 10))) :: (bif b 0 then .agg (encIns x) else .any) :: (bif b 1 then .agg (encIns r3) else .any) :: (bif b 2 then .ptr 2 6 else .any) :: (bif b 3 then .bs tInt x.args else .any) :: A80 (A40 (A4 [])), [.box (encProg p), .box (encFunc f), .box (encIns x), (bif b 5 then .box (encIns r3) else (bif b 4 then .box [.lit (.int .u8 0), .lit (.int .i64 0), .lit (.int .i64 0), .lit (.int .i64 0), .lit (.int .u32 0), .lit (.int .i64 0), .lit (.slice none 0 0), .lit (.int .i64 0), .lit (.int .i64 0)] else .dead))]⟩) rfl (by kernel_rfl) (by kernel_rfl) ?_ (hg4 _ ?_)
    · refine gS_cons (fun b hb ha hc => ?_) ?_
      · try dsimp only
        refine AOp.q (Quiet.loadA_ptr rfl get5 rfl rfl) ?_
        exact St.le.refl
      refine gS_cons (fun b hb ha hc => ?_) ?_
      · have h0 : b 0 = true := ha 0 _ rfl rfl
        try dsimp only
        refine AOp.q (Quiet.callA rfl (mapc ((getS8 get5).trans (cndT h0 _ _)) rfl) k3 rfl rfl) ?_
        exact St.le.refl
      refine gS_cons (fun b hb ha hc => ?_) ?_
      · try dsimp only
        refine AOp.q (Quiet.fa_ptr rfl get5 rfl) ?_
        exact St.le.refl
      refine gS_cons (fun b hb ha hc => ?_) ?_
      · have h2 : b 2 = true := ha 0 _ rfl rfl
        try dsimp only
        refine AOp.q (Quiet.load_ptr rfl ((getS8 get7).trans (cndT h2 _ _)) rfl rfl) ?_
        exact St.le.refl
      refine gS_cons (fun b hb ha hc => ?_) ?_
      · have h5 : b 5 = false := not_before hc (i := 4) (j := 5) (k := 0) rfl rfl rfl rfl hb
        have u5 : upd b 4 5 = false := h5
        try dsimp only
        refine AOp.alAt 3 rfl (congrArg some ((cndBF h5 _ _).trans (cndBF hb _ _))) (by repeat (first | exact nrH_nil | refine nrH_cons rfl ?_ | refine nrH_cons (nrB_c rfl rfl) ?_ | refine nrH_cons (nrB_c rfl (nrB_c rfl rfl)) ?_ | refine nrH_cons (nrB_c rfl (nrB_c rfl (nrB_c rfl rfl))) ?_)) (by repeat (first | exact nrL_nil | refine nrL_cons rfl ?_ | refine nrL_cons (nr_f hb rfl) ?_ | refine nrL_cons (nr_c rfl rfl) ?_)) ?_
        simp only [cndBF u5]
        exact St.le.refl
      refine gS_cons (fun b hb ha hc => ?_) ?_
      · have h1 : b 1 = true := ha 1 _ rfl rfl
        have h4 : b 4 = true := ha 0 _ rfl rfl
        try dsimp only
        refine AOp.stBoxV rfl (get7.trans (cndT h4 _ _)) (congrArg some ((cndBF hb _ _).trans (cndBT h4 _ _))) ((getS8 get6).trans (cndT h1 _ _)) (Parts.aggB rfl) rfl (Nat.le_of_ble_eq_true rfl) ?_
        exact St.le.refl
      refine gS_cons (fun b hb ha hc => ?_) ?_
      · have h3 : b 3 = true := ha 0 _ rfl rfl
        try dsimp only
        refine AOp.q (Quiet.assign rfl ((getS8 (getS8 get0)).trans (cndT h3 _ _))) ?_
        exact St.le.refl
      exact gS_nil
    · refine Awp.via ⟨.agg (encProg p) :: .agg (encFunc f) :: .agg (encIns x) :: .ptr 0 0 :: .ptr 1 0 :: .ptr 2 0 :: .lit (.bool false) :: .ptr 3 0 :: .bs tInt x.args :: .any :: .ptr 2 0 :: .lit (.int .u8 x.op) :: .lit (.bool (decide (x.op > 10))) :: .agg (encIns x) :: .agg (encIns r3) :: .ptr 2 6 :: .bs tInt x.args :: A80 (A40 (A4 [])), [.box (encProg p), .box (encFunc f), .box (encIns x), .box (encIns r3)]⟩ St.le.refl ?_
      refine wS (sT (sW (wN ?_)))
      refine wS (sT (sT (sT (sT (sT (sT ?_)))))); refine sGt rfl ?_; refine sGt rfl ?_; refine sGt rfl ?_; refine sGt rfl ?_; refine sGt rfl (sT (sT ?_)); refine sGt rfl ?_; refine sGt rfl ?_; refine sGt rfl ?_; refine sGt rfl ?_; refine sGt rfl (sT (sT ?_)); refine sGt rfl ?_; refine sGt rfl ?_; refine sGt rfl ?_; refine sGt rfl ?_; refine sGt rfl (sT (sT ?_)); refine sGt rfl ?_; refine sGt rfl ?_; refine sGt rfl ?_; refine sGt rfl ?_; refine sGt rfl (sT (sT ?_)); refine sGt rfl ?_; refine sGt rfl ?_; refine sGt rfl ?_; refine sGt rfl ?_; refine sGt rfl (sT (sT ?_)); refine sGt rfl ?_; refine sGt rfl ?_; refine sGt rfl ?_; refine sGt rfl ?_; refine sGt rfl (sT (sT (wN ?_)))
      refine Awp.seq fun Khs5 hs5 => ?_
      obtain ⟨c6, H⟩ := M.to_chk.1 H
      refine wS (sT (sT (sT ?_))); refine sGf rfl ?_; refine sGf rfl ?_; refine sGf rfl ?_; refine sGf rfl ?_; refine sGf rfl ?_; refine sGf rfl ?_; refine sG (g := (!(!(((((((r3.d == x.d) && (r3.a == x.a)) && (r3.b == x.b)) && (r3.n == x.n)) && (r3.f == x.f)) && (r3.l1 == x.l1)) && (r3.l2 == x.l2))))) (hg := gA_f rfl) (hq := fun hg => Quiet.min3 rfl ((getS32 (getS32 get5)).trans (cndT hg _ _)) ((getS32 (getS32 get7)).trans (cndT hg _ _)) ((getS32 (getS32 (getS8 get1))).trans (cndT hg _ _))) (ht := (setS32 (setS32 (setS8 set2)))) (hk := ?_); refine sGf rfl (sT (sT ?_)); refine sGf rfl ?_; refine sG (g := (!((!(((((((r3.d == x.d) && (r3.a == x.a)) && (r3.b == x.b)) && (r3.n == x.n)) && (r3.f == x.f)) && (r3.l1 == x.l1)) && (r3.l2 == x.l2))) || (decide ((min3 x.d x.a x.b) < 0))))) (hg := gA_f rfl) (hq := fun hg => Quiet.call2 rfl ((getS32 (getS32 (getS8 get6))).trans (cndT hg _ _)) rfl (anyL_fn (of_decide_eq_true (imp_of c6 hg)) fun z _ => ins1_fn z) rfl rfl) (ht := (setS32 (setS32 (setS8 set7)))) (hk := ?_); refine sT (wN ?_)
      refine Awp.cond rfl (fun hb7 => ?_) (fun hb7 => ?_)
      · have H := M.to_t hb7 H
        refine wS (sT (wN ?_))
        obtain rfl := M.to_ok.1 H
        exact Awp.ret ⟨.inr rfl, Fin.cl rfl⟩
      · have H := M.to_f hb7 H
        refine Awp.skip ?_
        refine hs5 _ ?_
        refine nT (hk := ?_)
        refine Awp.seq fun Khs8 hs8 => ?_
        refine wS (sT (sT (sT (wN ?_))))
        refine Awp.cond rfl (fun hb9 => ?_) (fun hb9 => ?_)
        · have H := M.to_t hb9 H
          obtain ⟨r10, k10, H⟩ := M.to_bnd.1 H
          have k10 := shape_has_l k10
          obtain ⟨c11, H⟩ := M.to_chk.1 H
          refine wS (sT (sT (sT (sT (sT (sC k10 (sT ?_))))))); refine sGt rfl ?_; refine sGt rfl ?_; refine sGt rfl ?_; refine sGt rfl ?_; refine sGt rfl ?_; refine sGt rfl ?_; refine sGXt rfl c11 ?_; refine sGt rfl ?_; refine sGt rfl ?_; refine sGt rfl (sT (sT (wN ?_)))
          obtain rfl := M.to_ok.1 H
          exact Awp.ret ⟨.inr rfl, Fin.cl rfl⟩
        · have H := M.to_f hb9 H
          refine Awp.skip ?_
          refine hs8 _ ?_
          refine nT (hk := ?_)
          obtain ⟨r12, k12, H⟩ := M.to_bnd.1 H
          obtain ⟨r13, k13, H⟩ := M.to_bnd.1 H
          refine wS (sT (sT (sT (sT ?_)))); refine sGt rfl ?_; refine sGt rfl ?_; refine sGt rfl ?_; refine sGt rfl ?_; refine sG (g := (((x.args.length : Int) == 0) && (!(x.op != 1)))) (hg := gA_fc rfl rfl) (hq := fun hg => by (have hg' := and_l hg; exact Quiet.fa_ptr rfl get5 rfl)) (ht := (setS32 (setS32 (setS32 (setS8 set6))))) (hk := ?_); refine sG (g := (((x.args.length : Int) == 0) && (!(x.op != 1)))) (hg := gA_fc rfl rfl) (hq := fun hg => by (have hg' := and_l hg; exact Quiet.load_ptr rfl ((getS32 (getS32 (getS32 (getS8 get6)))).trans (cndT hg _ _)) rfl rfl)) (ht := (setS32 (setS32 (setS32 (setS8 set7))))) (hk := ?_); refine sG (g := (((x.args.length : Int) == 0) && (!(x.op != 1)))) (hg := gA_fc rfl rfl) (hq := fun hg => by (have hg' := and_l hg; exact Quiet.bin rfl ((getS32 (getS32 (getS32 (getS8 get7)))).trans (cndT hg _ _)) getC rfl)) (ht := (setS32 (setS32 (setS32 (setS8 (setS8 set0)))))) (hk := ?_); refine sG (g := ((x.args.length : Int) == 0)) (hg := gA_t rfl) (hq := fun hg => Quiet.pickOrB rfl ((getS32 (getS32 (getS32 (getS8 get5)))).trans (cndT hg _ _)) getC ((getS32 (getS32 (getS32 (getS8 (getS8 get0))))).trans (cndA hg _ _))) (ht := (setS32 (setS32 (setS32 (setS8 (setS8 set1)))))) (hk := ?_); refine sT (sT ?_); refine sGt rfl ?_; refine sGt rfl ?_; refine sGt rfl ?_; refine sGt rfl ?_; refine sG (g := ((((x.args.length : Int) == 0) && ((x.op != 1) || (decide (x.n ≤ 13)))) && (x.op != 8))) (hg := gA_tc rfl rfl) (hq := fun hg => by (have hg' := and_l hg; exact Quiet.fa_ptr rfl get5 rfl)) (ht := (setS32 (setS32 (setS32 (setS8 (setS8 (setS8 set0))))))) (hk := ?_); refine sG (g := ((((x.args.length : Int) == 0) && ((x.op != 1) || (decide (x.n ≤ 13)))) && (x.op != 8))) (hg := gA_tc rfl rfl) (hq := fun hg => by (have hg' := and_l hg; exact Quiet.load_ptr rfl ((getS32 (getS32 (getS32 (getS8 (getS8 (getS8 get0)))))).trans (cndT hg _ _)) rfl rfl)) (ht := (setS32 (setS32 (setS32 (setS8 (setS8 (setS8 set1))))))) (hk := ?_); refine sG (g := ((((x.args.length : Int) == 0) && ((x.op != 1) || (decide (x.n ≤ 13)))) && (x.op != 8))) (hg := gA_tc rfl rfl) (hq := fun hg => by (have hg' := and_l hg; exact Quiet.bin rfl ((getS32 (getS32 (getS32 (getS8 (getS8 (getS8 get1)))))).trans (cndT hg _ _)) getC rfl)) (ht := (setS32 (setS32 (setS32 (setS8 (setS8 (setS8 set2))))))) (hk := ?_); refine sG (g := (((x.args.length : Int) == 0) && ((x.op != 1) || (decide (x.n ≤ 13))))) (hg := gA_t rfl) (hq := fun hg => Quiet.pickAndB rfl ((getS32 (getS32 (getS32 (getS8 (getS8 get7))))).trans (cndT hg _ _)) ((getS32 (getS32 (getS32 (getS8 (getS8 (getS8 get2)))))).trans (cndA hg _ _)) getC) (ht := (setS32 (setS32 (setS32 (setS8 (setS8 (setS8 set3))))))) (hk := ?_); refine sGt rfl ?_; refine sG (g := ((((x.args.length : Int) == 0) && ((x.op != 1) || (decide (x.n ≤ 13)))) && (!((x.op != 8) && (x.op != 9))))) (hg := gA_fc rfl rfl) (hq := fun hg => by (have hg' := and_l hg; exact Quiet.fa_ptr rfl get5 rfl)) (ht := (setS32 (setS32 (setS32 (setS8 (setS8 (setS8 set5))))))) (hk := ?_); refine sG (g := ((((x.args.length : Int) == 0) && ((x.op != 1) || (decide (x.n ≤ 13)))) && (!((x.op != 8) && (x.op != 9))))) (hg := gA_fc rfl rfl) (hq := fun hg => by (have hg' := and_l hg; exact Quiet.load_ptr rfl ((getS32 (getS32 (getS32 (getS8 (getS8 (getS8 get5)))))).trans (cndT hg _ _)) rfl rfl)) (ht := (setS32 (setS32 (setS32 (setS8 (setS8 (setS8 set6))))))) (hk := ?_); refine sG (g := ((((x.args.length : Int) == 0) && ((x.op != 1) || (decide (x.n ≤ 13)))) && (!((x.op != 8) && (x.op != 9))))) (hg := gA_fc rfl rfl) (hq := fun hg => by (have hg' := and_l hg; exact Quiet.fa_ptr rfl get4 rfl)) (ht := (setS32 (setS32 (setS32 (setS8 (setS8 (setS8 set7))))))) (hk := ?_); refine sG (g := ((((x.args.length : Int) == 0) && ((x.op != 1) || (decide (x.n ≤ 13)))) && (!((x.op != 8) && (x.op != 9))))) (hg := gA_fc rfl rfl) (hq := fun hg => by (have hg' := and_l hg; exact Quiet.load_ptr rfl ((getS32 (getS32 (getS32 (getS8 (getS8 (getS8 get7)))))).trans (cndT hg _ _)) rfl rfl)) (ht := (setS32 (setS32 (setS32 (setS32 set0))))) (hk := ?_); refine sG (g := ((((x.args.length : Int) == 0) && ((x.op != 1) || (decide (x.n ≤ 13)))) && (!((x.op != 8) && (x.op != 9))))) (hg := gA_fc rfl rfl) (hq := fun hg => by (have hg' := and_l hg; exact Quiet.ln rfl ((getS32 (getS32 (getS32 (getS32 get0)))).trans (cndT hg _ _)))) (ht := (setS32 (setS32 (setS32 (setS32 set1))))) (hk := ?_); refine sG (g := ((((x.args.length : Int) == 0) && ((x.op != 1) || (decide (x.n ≤ 13)))) && (!((x.op != 8) && (x.op != 9))))) (hg := gA_fc rfl rfl) (hq := fun hg => by (have hg' := and_l hg; (try simp only [cndT hg, cndT hg']); (try simp only [cndA hg, cndA hg']); exact Quiet.callA rfl rfl (shape_has_l (M.to_whn k12 hg)) rfl rfl)) (ht := (setS32 (setS32 (setS32 (setS32 set2))))) (hk := ?_); refine sG (g := ((((x.args.length : Int) == 0) && ((x.op != 1) || (decide (x.n ≤ 13)))) && (!((x.op != 8) && (x.op != 9))))) (hg := gA_fc rfl rfl) (hq := fun hg => by (have hg' := and_l hg; exact Quiet.move rfl ((getS32 (getS32 (getS32 (getS32 get2)))).trans (cndT hg _ _)))) (ht := (setS32 (setS32 (setS32 (setS32 set3))))) (hk := ?_); refine sG (g := (((((x.args.length : Int) == 0) && ((x.op != 1) || (decide (x.n ≤ 13)))) && (!((x.op != 8) && (x.op != 9)))) && r12)) (hg := gA_tc rfl rfl) (hq := fun hg => by (have hg' := and_l hg; have hg'' := and_l hg'; exact Quiet.fa_ptr rfl get5 rfl)) (ht := (setS32 (setS32 (setS32 (setS32 set4))))) (hk := ?_); refine sG (g := (((((x.args.length : Int) == 0) && ((x.op != 1) || (decide (x.n ≤ 13)))) && (!((x.op != 8) && (x.op != 9)))) && r12)) (hg := gA_tc rfl rfl) (hq := fun hg => by (have hg' := and_l hg; have hg'' := and_l hg'; exact Quiet.load_ptr rfl ((getS32 (getS32 (getS32 (getS32 get4)))).trans (cndT hg _ _)) rfl rfl)) (ht := (setS32 (setS32 (setS32 (setS32 set5))))) (hk := ?_); refine sG (g := (((((x.args.length : Int) == 0) && ((x.op != 1) || (decide (x.n ≤ 13)))) && (!((x.op != 8) && (x.op != 9)))) && r12)) (hg := gA_tc rfl rfl) (hq := fun hg => by (have hg' := and_l hg; have hg'' := and_l hg'; exact Quiet.fa_ptr rfl get4 rfl)) (ht := (setS32 (setS32 (setS32 (setS32 set6))))) (hk := ?_); refine sG (g := (((((x.args.length : Int) == 0) && ((x.op != 1) || (decide (x.n ≤ 13)))) && (!((x.op != 8) && (x.op != 9)))) && r12)) (hg := gA_tc rfl rfl) (hq := fun hg => by (have hg' := and_l hg; have hg'' := and_l hg'; exact Quiet.load_ptr rfl ((getS32 (getS32 (getS32 (getS32 get6)))).trans (cndT hg _ _)) rfl rfl)) (ht := (setS32 (setS32 (setS32 (setS32 set7))))) (hk := ?_); refine sG (g := (((((x.args.length : Int) == 0) && ((x.op != 1) || (decide (x.n ≤ 13)))) && (!((x.op != 8) && (x.op != 9)))) && r12)) (hg := gA_tc rfl rfl) (hq := fun hg => by (have hg' := and_l hg; have hg'' := and_l hg'; exact Quiet.ln rfl ((getS32 (getS32 (getS32 (getS32 get7)))).trans (cndT hg _ _)))) (ht := (setS32 (setS32 (setS32 (setS32 (setS8 set0)))))) (hk := ?_); refine sG (g := (((((x.args.length : Int) == 0) && ((x.op != 1) || (decide (x.n ≤ 13)))) && (!((x.op != 8) && (x.op != 9)))) && r12)) (hg := gA_tc rfl rfl) (hq := fun hg => by (have hg' := and_l hg; have hg'' := and_l hg'; (try simp only [cndT hg, cndT hg', cndT hg'']); (try simp only [cndA hg, cndA hg', cndA hg'']); exact Quiet.callA rfl rfl (shape_has_l (M.to_whn k13 hg)) rfl rfl)) (ht := (setS32 (setS32 (setS32 (setS32 (setS8 set1)))))) (hk := ?_); refine sG (g := ((((x.args.length : Int) == 0) && ((x.op != 1) || (decide (x.n ≤ 13)))) && (!((x.op != 8) && (x.op != 9))))) (hg := gA_fc rfl rfl) (hq := fun hg => by (have hg' := and_l hg; exact Quiet.pickAndB rfl ((getS32 (getS32 (getS32 (getS32 get3)))).trans (cndT hg _ _)) ((getS32 (getS32 (getS32 (getS32 (getS8 get1))))).trans (cndA hg _ _)) getC)) (ht := (setS32 (setS32 (setS32 (setS32 (setS8 set2)))))) (hk := ?_); refine sG (g := (((x.args.length : Int) == 0) && ((x.op != 1) || (decide (x.n ≤ 13))))) (hg := gA_t rfl) (hq := fun hg => Quiet.pickOrB rfl ((getS32 (getS32 (getS32 (getS8 (getS8 (getS8 get4)))))).trans (cndT hg _ _)) getC ((getS32 (getS32 (getS32 (getS32 (getS8 get2))))).trans (cndA hg _ _))) (ht := (setS32 (setS32 (setS32 (setS32 (setS8 set3)))))) (hk := ?_); refine sT (sT (wN ?_))
          obtain rfl := M.to_ok.1 H
          exact Awp.ret ⟨.inr rfl, Fin.cl rfl⟩
end Mu
end
section
/-
  shape.greatest: one more than the greatest register.
  Conditions: none.
-/
namespace Mu
open Go Go.RowKit Go.Proofs

def okInB (x : Ins) : Bool := wfB .u8 x.op && wfB .i64 x.d && wfB .i64 x.a && wfB .i64 x.b && wfB .u32 x.n && wfB .i64 x.f && wfB .i64 x.l1 && wfB .i64 x.l2 && x.args.all (wfB .i64)
theorem okInB_iff {x : Ins} : okInB x = true ↔ okIns x := by
  unfold okInB
  simp only [Bool.and_eq_true, List.all_eq_true]
  exact ⟨fun ⟨⟨⟨⟨⟨⟨⟨⟨a, b⟩, c⟩, d⟩, e⟩, f⟩, g⟩, i⟩, j⟩ => ⟨a, b, c, d, e, f, g, i, j⟩, fun h => ⟨⟨⟨⟨⟨⟨⟨⟨h.op, h.d⟩, h.a⟩, h.b⟩, h.n⟩, h.f⟩, h.l1⟩, h.l2⟩, h.args⟩⟩
theorem int_flatS : ∀ (w : World) (S S' : Nat → Prop) (cs : List Value) (d : Int), tInt.RS w S cs d → tInt.RS w S' cs d := fun _ _ _ _ _ h => tInt_R.2 (tInt_R.1 h)
def sh_Reads (x : Ins) : M (List Int) := M.chk (okInB x && decide (x.args.length ≤ 2097152)) (M.ok (readsC x))
theorem sh_Reads_own {x : Ins} {r : List Int} (H : (sh_Reads x).to r) : FnOwn Tryz.prog 161 [.agg (encIns x)] 3 tInt r := by
  obtain ⟨c, H⟩ := M.to_chk.1 H
  obtain rfl := M.to_ok.1 H
  rw [Bool.and_eq_true] at c
  have ho := okInB_iff.1 c.1
  have hl := of_decide_eq_true c.2
  exact ⟨by kernel_rfl, fun w S vs hS hr => by
    have hr' := AV.relL_ext (Ext.grow [] ψ0 (fun _ _ => rfl) hS) _ _ hr
    obtain ⟨v, rfl, hv⟩ := arg1 hr'
    obtain ⟨cs, rfl, hc⟩ := rel_agg hv
    refine (shape_reads x w cs (put_ins ho hc) hl).mono ?_
    rintro e w' ⟨v, rfl, hO, hb⟩
    refine ⟨v, _, rfl, hb, hO, fun i d hd => ?_⟩
    show tInt.RS w' S ((((readsC x).map (Value.int .i64)).drop (i * 1)).take 1) d
    have hi : ((readsC x).map (Value.int .i64))[i]? = some (.int .i64 d) := by rw [List.getElem?_map, hd]; rfl
    rw [Nat.mul_one, List.take_one, List.head?_drop, hi]
    exact tInt_R.2 ⟨rfl, readsC_ok ho d (List.mem_of_getElem? hd)⟩⟩
def sh_Writes (x : Ins) : M (Int × Bool) := M.chk (okInB x) (M.ok (if writesB x then x.d else 0, writesB x))
theorem sh_Writes_l {x : Ins} {r : Int × Bool} (H : (sh_Writes x).to r) : Fn Tryz.prog 120 [.agg (encIns x)] (.tup [.lit (.int .i64 r.1), .lit (.bool r.2)]) := by
  obtain ⟨c, H⟩ := M.to_chk.1 H
  obtain rfl := M.to_ok.1 H
  exact shW_fn x (okInB_iff.1 c)
noncomputable section
def shape_greatest_L25 (l18 : List Int) : (Int × Int) → M ((Int × Int) ⊕ Int) := fun (n24, x25) => M.cnd (decide (x25 < (l18.length : Int))) (M.chk (inBd l18 x25) (M.ok (.inl ((if (IntKind.i64.wrap ((if 4096 < (ixD l18 x25) then 4096 else (ixD l18 x25)) + 1)) > n24 then (IntKind.i64.wrap ((if 4096 < (ixD l18 x25) then 4096 else (ixD l18 x25)) + 1)) else n24), IntKind.i64.wrap (x25 + 1))))) (M.ok (.inr n24))
def shape_greatest_L12 (f : Func) (x2 : Int) : (Int × Int) → M ((Int × Int) ⊕ Int) := fun (n8, x9) => M.cnd (decide (x9 < (((ixD f.blocks x2).ins).length : Int))) (M.chk (inBd ((ixD f.blocks x2).ins) x9) (M.bnd (sh_Reads (ixD ((ixD f.blocks x2).ins) x9)) fun r16 => M.bnd (M.bnd (sh_Writes (ixD ((ixD f.blocks x2).ins) x9)) fun r20 => M.cnd r20.2 (M.chk (wfB .i64 r20.1) (M.chk (rowB (r16.length + [r20.1].length) 8) (M.ok (r16 ++ [r20.1])))) (M.ok r16)) fun l18 => M.bnd (M.loop (shape_greatest_L25 l18) (n8, 0)) fun n28 => M.ok (.inl (n28, IntKind.i64.wrap (x9 + 1))))) (M.ok (.inr n8))
def shape_greatest_L5 (f : Func) : (Int × Int) → M ((Int × Int) ⊕ Int) := fun (n1, x2) => M.cnd (decide (x2 < (f.blocks.length : Int))) (M.chk (inBd f.blocks x2) (M.bnd (M.loop (shape_greatest_L12 f x2) (n1, 0)) fun n11 => M.ok (.inl (n11, IntKind.i64.wrap (x2 + 1))))) (M.ok (.inr n1))
def shape_greatest (f : Func) : M Int := M.bnd (M.loop (shape_greatest_L5 f) (0, 0)) fun n4 => M.ok n4
set_option maxRecDepth 100000 in
set_option maxHeartbeats 4000000 in
theorem shape_greatest_l {f : Func} {r : Int} (H : (shape_greatest f).to r) : Fn Tryz.prog 154 [.agg (encFunc f)] (.lit (.int .i64 r)) := by
  delta shape_greatest at H
  try dsimp only at H
  refine Fn.of_awp Tryz.func154 rfl (by kernel_rfl) rfl Tryz.ntmps154 fun C hC => ?_
  simp only [List.length_cons, List.length_nil, Nat.reduceAdd, Nat.reduceSub, List.replicate_succ, List.replicate_zero, List.cons_append, List.nil_append]
  refine wS (sB (sT (wN ?_)))
  refine wS (sT (wN ?_))
  obtain ⟨z3, HX3, Hl3⟩ := M.to_bnd.1 H
  refine Awp.seqJ (β := (Int) × (Unit)) (fun q3 => z3 = q3.1) (fun q3 => ⟨A3 (.lit (.int .i64 q3.1) :: A40 (A10 [])), [.dead]⟩) ?_ ?_
  · refine wS (sT (sT (sT (sT (wN ?_)))))
    refine Awp.block ?_
    refine Awp.loopM HX3 (fun s3 b3 => ⟨A3 (.lit (.int .i64 s3.1) :: A10 (.bs tBlock f.blocks :: .lit (.int .i64 (f.blocks.length : Int)) :: .lit (.int .i64 s3.2) :: A20 (A10 (A7 [])))), [.dead]⟩) () (?_) ?_
    · try dsimp only
      exact leC (Cut.dead (Cut.nil _))
    · rintro ⟨n1, x2⟩ _ x3 H Hr3
      try dsimp only
      dsimp only [shape_greatest_L5] at H
      refine wS (sT (wN ?_))
      refine Awp.seq fun Khs5 hs5 => ?_
      refine Awp.cond rfl (fun hb6 => ?_) (fun hb6 => ?_)
      · have H := M.to_t hb6 H
        refine Awp.skip ?_
        refine hs5 _ ?_
        refine nT (hk := ?_)
        obtain ⟨c7, H⟩ := M.to_chk.1 H
        obtain ⟨z10, HX10, Hl10⟩ := M.to_bnd.1 H
        refine Awp.seqJ (β := (Int) × (Unit)) (fun q10 => z10 = q10.1) (fun q10 => ⟨A3 (.lit (.int .i64 q10.1) :: A10 (.bs tBlock f.blocks :: .lit (.int .i64 (f.blocks.length : Int)) :: .lit (.int .i64 x2) :: A20 (A10 (A7 [])))), [.dead, .dead]⟩) ?_ ?_
        · refine Awp.block ?_
          refine wS (sX c7 (sT (sA0 (sW (wN ?_)))))
          refine wS (sT (sT (sT (sT (wN ?_)))))
          refine Awp.block ?_
          refine Awp.loopM HX10 (fun s10 b10 => ⟨A3 (.lit (.int .i64 s10.1) :: A10 (.bs tBlock f.blocks :: .lit (.int .i64 (f.blocks.length : Int)) :: .lit (.int .i64 x2) :: A4 (.bs tIns ((ixD f.blocks x2).ins) :: .lit (.int .i64 (((ixD f.blocks x2).ins).length : Int)) :: .lit (.int .i64 s10.2) :: A20 (A10 [])))), [.dead, .dead]⟩) () (?_) ?_
          · try dsimp only
            exact leC (Cut.cons (Cut.dead (Cut.nil _)))
          · rintro ⟨n8, x9⟩ _ x10 H Hr10
            try dsimp only
            dsimp only [shape_greatest_L12] at H
            refine wS (sT (wN ?_))
            refine Awp.seq fun Khs12 hs12 => ?_
            refine Awp.cond rfl (fun hb13 => ?_) (fun hb13 => ?_)
            · have H := M.to_t hb13 H
              refine Awp.skip ?_
              refine hs12 _ ?_
              refine nT (hk := ?_)
              refine Awp.seq fun Khs14 hs14 => ?_
              refine Awp.block ?_
              obtain ⟨c15, H⟩ := M.to_chk.1 H
              refine wS (sX c15 (sT (sA0 (sW (wN ?_)))))
              obtain ⟨r16, k16, H⟩ := M.to_bnd.1 H
              have k16 := sh_Reads_own k16
              refine wS (sT ?_); (refine aSeq_t rfl (AOp.callOwnI 3 rfl rfl k16 (by decide) int_flatS (.cons (.cl rfl) .nil) ?_); refine sNtM (ht := (setS8 (setS8 (setS8 set4)))) (hk := ?_)); refine sT (wN ?_)
              obtain ⟨z19, HX19, Hl19⟩ := M.to_bnd.1 H
              refine Awp.seqJ (β := ((List Int)) × (Nat)) (fun q19 => z19 = q19.1) (fun q19 => ⟨A3 (.lit (.int .i64 n8) :: A4 (.own 3 q19.2 :: A5 (.bs tBlock f.blocks :: .lit (.int .i64 (f.blocks.length : Int)) :: .lit (.int .i64 x2) :: A4 (.bs tIns ((ixD f.blocks x2).ins) :: .lit (.int .i64 (((ixD f.blocks x2).ins).length : Int)) :: .lit (.int .i64 x9) :: A20 (A10 []))))), [.dead, .dead, .dead, .row q19.2 3 tInt q19.1]⟩) ?_ ?_
              · have H := HX19
                obtain ⟨r20, k20, H⟩ := M.to_bnd.1 H
                have k20 := sh_Writes_l k20
                refine wS (sT (sC k20 (sT (sT (sT (sT (sT (wN ?_))))))))
                refine wS (sT (wN ?_))
                refine Awp.cond rfl (fun hb21 => ?_) (fun hb21 => ?_)
                · have H := M.to_t hb21 H
                  obtain ⟨c22, H⟩ := M.to_chk.1 H
                  obtain ⟨c23, H⟩ := M.to_chk.1 H
                  refine wSE (sT (sT ?_)); refine sA (hq := Quiet.lt (xs := [.tmp 36]) (T := tInt) (ds := [r20.1]) rfl rfl rfl (by rfl) (by decide) (.cons (Fit.int c22) .nil)) (ht := (setS32 set5)) (hk := ?_); refine sP c23 (sT (wN ?_))
                  have e19 := M.to_ok.1 H
                  repeat (first | refine abN ?_ | refine asN ?_)
                  refine athen_n ⟨(_, 0 + 1), e19.symm, ?_⟩
                  try dsimp only
                  exact leC (Cut.cons (Cut.cons (Cut.dead (Cut.cons (Cut.nil _)))))
                · have H := M.to_f hb21 H
                  refine Awp.skip ?_
                  have e19 := M.to_ok.1 H
                  repeat (first | refine abN ?_ | refine asN ?_)
                  refine athen_n ⟨(_, 0), e19.symm, ?_⟩
                  try dsimp only
                  exact leC (Cut.cons (Cut.cons (Cut.dead (Cut.cons (Cut.nil _)))))
              · rintro ⟨l18, v17⟩ hz19
                try dsimp only at hz19
                have H := Hl19
                rw [hz19] at H
                try dsimp only
                refine wS (sT (sT (sT (wN ?_))))
                obtain ⟨z27, HX27, Hl27⟩ := M.to_bnd.1 H
                refine Awp.tailJ (β := (Int) × (Unit)) (fun q27 => z27 = q27.1) (fun q27 => ⟨A3 (.lit (.int .i64 q27.1) :: A10 (.bs tBlock f.blocks :: .lit (.int .i64 (f.blocks.length : Int)) :: .lit (.int .i64 x2) :: A4 (.bs tIns ((ixD f.blocks x2).ins) :: .lit (.int .i64 (((ixD f.blocks x2).ins).length : Int)) :: .lit (.int .i64 x9) :: A20 (A10 [])))), [.dead, .dead, .dead, .dead]⟩) ?_ ?_
                · refine Awp.block ?_
                  refine Awp.loopM HX27 (fun s27 b27 => ⟨A3 (.lit (.int .i64 s27.1) :: A10 (.bs tBlock f.blocks :: .lit (.int .i64 (f.blocks.length : Int)) :: .lit (.int .i64 x2) :: A4 (.bs tIns ((ixD f.blocks x2).ins) :: .lit (.int .i64 (((ixD f.blocks x2).ins).length : Int)) :: .lit (.int .i64 x9) :: A10 (A5 (.own 3 b27 :: .lit (.int .i64 (l18.length : Int)) :: .lit (.int .i64 s27.2) :: A10 (A2 [])))))), [.dead, .dead, .dead, .row b27 3 tInt l18]⟩) v17 (?_) ?_
                  · try dsimp only
                    exact le_TA
                  · rintro ⟨n24, x25⟩ v26 x27 H Hr27
                    try dsimp only
                    dsimp only [shape_greatest_L25] at H
                    refine wS (sT (wN ?_))
                    refine Awp.seq fun Khs29 hs29 => ?_
                    refine Awp.cond rfl (fun hb30 => ?_) (fun hb30 => ?_)
                    · have H := M.to_t hb30 H
                      refine Awp.skip ?_
                      refine hs29 _ ?_
                      refine nT (hk := ?_)
                      refine Awp.seq fun Khs31 hs31 => ?_
                      refine Awp.block ?_
                      obtain ⟨c32, H⟩ := M.to_chk.1 H
                      refine wS ?_; refine sA (hq := Quiet.ixoM rfl (getS32 get7) rfl (getS32 (getS8 get1)) rfl c32) (ht := (setS32 (setS8 set3))) (hk := ?_); refine sA (hq := Quiet.load_rp rfl (getS32 (getS8 get3)) rfl (inB_get c32) rfl) (ht := (setS32 (setS8 set4))) (hk := ?_); refine sT (wN ?_)
                      refine wSE (sT (sT ?_)); refine sA (hq := Quiet.min2 rfl (getS32 (getS8 get6)) getC) (ht := (setS32 (setS8 set7))) (hk := ?_); refine sT ?_; refine sA (hq := Quiet.max2 rfl (getS32 (getS8 get5)) (getS32 (getS8 (getS8 get0)))) (ht := (setS32 (setS8 (setS8 set1)))) (hk := ?_); refine sT (wN ?_)
                      refine hs31 _ ?_
                      refine nT (hk := ?_)
                      refine wSE (sT (sT (wN ?_)))
                      have e27 := M.to_ok.1 H
                      repeat (first | refine abN ?_ | refine asN ?_)
                      refine athen_n ⟨_, v26, e27.symm, ?_⟩
                      try dsimp only
                      exact le_TA
                    · have H := M.to_f hb30 H
                      refine Awp.exit ?_
                      repeat (first | refine athen_e ?_ | refine exO (by decide) ?_ | refine asE ?_)
                      refine exN ?_
                      have e27 := Hr27 _ (M.to_ok.1 H).symm
                      repeat (first | refine abN ?_ | refine asN ?_)
                      refine athen_n ⟨(_, ()), e27.symm, ?_⟩
                      try dsimp only
                      exact leC (Cut.cons (Cut.cons (Cut.cons (Cut.dead (Cut.nil _)))))
                · rintro ⟨n28, _⟩ s27 hz27 hle27
                  try dsimp only at hz27
                  try dsimp only at hle27
                  have H := Hl27
                  rw [hz27] at H
                  repeat (first | refine abN ?_ | refine asN ?_)
                  refine hs14 _ (Awp.via _ hle27 ?_)
                  refine wSE (sT (sT (wN ?_)))
                  have e10 := M.to_ok.1 H
                  repeat (first | refine abN ?_ | refine asN ?_)
                  refine athen_n ⟨_, (), e10.symm, ?_⟩
                  try dsimp only
                  exact leC (Cut.cons (Cut.cons (Cut.nil _)))
            · have H := M.to_f hb13 H
              refine Awp.exit ?_
              repeat (first | refine athen_e ?_ | refine exO (by decide) ?_ | refine asE ?_)
              refine exN ?_
              have e10 := Hr10 _ (M.to_ok.1 H).symm
              repeat (first | refine abN ?_ | refine asN ?_)
              refine athen_n ⟨(_, ()), e10.symm, ?_⟩
              try dsimp only
              exact le_TA
        · rintro ⟨n11, _⟩ hz10
          try dsimp only at hz10
          have H := Hl10
          rw [hz10] at H
          try dsimp only
          refine wSE (sT (sT (wN ?_)))
          have e3 := M.to_ok.1 H
          repeat (first | refine abN ?_ | refine asN ?_)
          refine athen_n ⟨_, (), e3.symm, ?_⟩
          try dsimp only
          exact leC (Cut.cons (Cut.nil _))
      · have H := M.to_f hb6 H
        refine Awp.exit ?_
        repeat (first | refine athen_e ?_ | refine exO (by decide) ?_ | refine asE ?_)
        refine exN ?_
        have e3 := Hr3 _ (M.to_ok.1 H).symm
        repeat (first | refine abN ?_ | refine asN ?_)
        refine athen_n ⟨(_, ()), e3.symm, ?_⟩
        try dsimp only
        exact le_TA
  · rintro ⟨n4, _⟩ hz3
    try dsimp only at hz3
    have H := Hl3
    rw [hz3] at H
    try dsimp only
    refine wS (sT (sT (wN ?_)))
    obtain rfl := M.to_ok.1 H
    exact Awp.ret ⟨.inr rfl, Fin.cl rfl⟩
end
end Mu
end
section
/-
  shape.head: whether a function may be, but for its blocks.
  Conditions: its name is of at most 2^30 bytes.
-/
namespace Mu
open Go Go.RowKit Go.Proofs

section
variable {P : Program} {C : Ctx} {t t' : List AV} {h : List ABlk} {ops : Array Oper} {rest : List Oper} {d : Option Nat} {ty : TypeId} {ps : String} {af : Array Go.Edge} {j : Nat} {L : List AV → Prop}
theorem qGq {op : Op} {r : AV} {g : Bool} (hq : g = true → Quiet P C t h ⟨d, op, ty, ps, af, some (j, true)⟩ r) [PA t d (cond g r (.lit undef)) t'] (hk : aQ P C ops h L rest t') (hg : gA ops t ⟨d, op, ty, ps, af, some (j, true)⟩ = some (g == true) := by rfl) : aQ P C ops h L (⟨d, op, ty, ps, af, some (j, true)⟩ :: rest) t := qG (hg := gA_t hg) (hq := hq) (ht := PA.e) (hk := hk)
theorem qGqf {op : Op} {r : AV} {g : Bool} (hq : (!g) = true → Quiet P C t h ⟨d, op, ty, ps, af, some (j, false)⟩ r) [PA t d (cond (!g) r (.lit undef)) t'] (hk : aQ P C ops h L rest t') (hg : gA ops t ⟨d, op, ty, ps, af, some (j, false)⟩ = some (g == false) := by rfl) : aQ P C ops h L (⟨d, op, ty, ps, af, some (j, false)⟩ :: rest) t := qG (hg := gA_f hg) (hq := hq) (ht := PA.e) (hk := hk)
end
def nmF (p : Prog) (i : Nat) : ByteArray := (ixD p.funcs (i : Int)).name
set_option maxRecDepth 100000 in
theorem head1_fn {p : Prog} {i : Nat} (hi : i < p.funcs.length) : Fn Tryz.prog 153 [.lit (.int .i64 (i : Int)), .bp tProg p 0] (.lit (.string (nmF p i))) := by
  refine Fn.of_awp Tryz.func153 rfl (by kernel_rfl) rfl Tryz.ntmps153 fun C hC => ?_
  simp only [List.length_cons, List.length_nil, Nat.reduceAdd, Nat.reduceSub, List.replicate_succ, List.replicate_zero, List.cons_append, List.nil_append]
  refine wR (hk := ?_)
  refine wS (sT (sT (sT (sX (inBn hi) (sT (sT (sT (wN ?_))))))))
  exact Awp.ret ⟨.inr rfl, Fin.cl rfl⟩
def maxI (a b : Int) : Int := if b > a then b else a
def headB (p : Prog) (n : Nat) (nb : Bool) (g : Int) : Bool := !twB (nmF p) n nb && decide ((ixD p.funcs (n : Int)).args ≥ 0) && decide ((ixD p.funcs (n : Int)).args ≤ 6) && ((ixD p.funcs (n : Int)).regs == maxI (ixD p.funcs (n : Int)).args g) && decide ((ixD p.funcs (n : Int)).regs ≤ 4096) && decide (((ixD p.funcs (n : Int)).blocks.length : Int) > 0)
set_option maxRecDepth 100000 in
theorem head_fn {p : Prog} {n : Nat} {nb : Bool} {g : Int} (hp : wfI .i64 p.heap) (hn : n < p.funcs.length) (hl : p.funcs.length ≤ 1073741824) (hnb : Fn Tryz.prog 197 [.lit (.string (nmF p n))] (.lit (.bool nb))) (hg : Fn Tryz.prog 154 [.agg (encFunc (ixD p.funcs (n : Int)))] (.lit (.int .i64 g))) : Fn Tryz.prog 91 [.agg (encProg p), .lit (.int .i64 (n : Int))] (.lit (.bool (headB p n nb g))) := by
  have htw := twice_fn (f := 153) (T := tProg) (d := p) (nm := nmF p) (n := n) (nb := nb) (by omega) (fun i hi => head1_fn (by omega)) hnb
  refine Fn.of_awp Tryz.func91 rfl (by kernel_rfl) rfl Tryz.ntmps91 fun C hC => ?_
  simp only [List.length_cons, List.length_nil, Nat.reduceAdd, Nat.reduceSub, List.replicate_succ, List.replicate_zero, List.cons_append, List.nil_append]
  refine wS (sB (sT (wN ?_)))
  refine wS (sT (sT (sT (sX (inBn hn) (sT (sA0 (sW (wN ?_))))))))
  refine Awp.via _ (St.le_fzBoxE hC 0 2 (T := tProg) (d := p) rfl rfl rfl fun w S cs H => put_prog (h := []) hp H) ?_
  refine nT (hk := ?_)
  refine dS 36 (hq := qT ?_)
  refine qH (r := .fn 153 [.bp tProg p 0]) (Quiet.mkFn (cap := #[.tmp 2]) rfl) ?_
  refine qH (Quiet.call2 rfl rfl rfl htw rfl rfl) (qT (qT ?_))
  refine qGt rfl ?_
  refine qGt rfl ?_
  refine qGt rfl (qT (qT ?_))
  refine qGt rfl ?_
  refine qGt rfl ?_
  refine qGt rfl (qT (qT ?_))
  refine qGt rfl ?_
  refine qGt rfl ?_
  refine qGt rfl ?_
  refine qGt rfl ?_
  refine qGq (fun hg => Quiet.loadA_ptr rfl rfl rfl rfl) ?_
  refine qGq (fun hge => Quiet.call1 rfl (GX.e hge) hg rfl rfl) ?_
  refine qGq (fun hge => (Quiet.max2 rfl (GX.e hge) (GX.e hge) : Quiet _ _ _ _ _ (.lit (.int .i64 (maxI (ixD p.funcs (n : Int)).args g))))) ?_
  refine qGt rfl (qT (qT ?_))
  refine qGt rfl ?_
  refine qGt rfl ?_
  refine qGt rfl (qT (qT ?_))
  refine qGt rfl ?_
  refine qGt rfl ?_
  refine qGt rfl ?_
  refine qGt rfl (qT (qT (qN (wN ?_))))
  exact Awp.ret ⟨.inr rfl, Fin.cl rfl⟩
end Mu
end
section
/-
  shape.block: whether a block may be.
  Conditions: names of at most 2^30 bytes.
-/
namespace Mu
open Go Go.RowKit Go.Proofs

theorem Quiet.call3 {P : Program} {C : Ctx} {t : List AV} {h : List ABlk} {o : Oper} {f : FuncId} {x y z : Operand} {tys : Array TypeId} {a b c r : AV} (ho : o.op = .call { callee := .value (.func f), args := #[x, y, z], argTypes := tys }) (hx : evA t x = a) (hy : evA t y = b) (hz : evA t z = c) (hF : Fn P f [a, b, c] r) (hc : AV.clL [a, b, c] = true) (hr : AV.cl r = true) : Quiet P C t h o r := Quiet.callA ho (by show [evA t x, evA t y, evA t z] = [a, b, c]; rw [hx, hy, hz]) hF hc hr
def nmB (f : Func) (i : Nat) : ByteArray := (ixD f.blocks (i : Int)).name
set_option maxRecDepth 100000 in
theorem block1_fn {f : Func} {i : Nat} (hi : i < f.blocks.length) : Fn Tryz.prog 155 [.lit (.int .i64 (i : Int)), .bp tFunc f 0] (.lit (.string (nmB f i))) := by
  refine Fn.of_awp Tryz.func155 rfl (by kernel_rfl) rfl Tryz.ntmps155 fun C hC => ?_
  simp only [List.length_cons, List.length_nil, Nat.reduceAdd, Nat.reduceSub, List.replicate_succ, List.replicate_zero, List.cons_append, List.nil_append]
  refine wR (hk := ?_)
  refine wS (sT (sT (sT (sX (inBn hi) (sT (sT (sT (wN ?_))))))))
  exact Awp.ret ⟨.inr rfl, Fin.cl rfl⟩
def endsSB (x : Ins) : Bool := decide (x.op ≥ 8) && decide (x.op ≤ 10)
def okI (b : Block) (iv : Ins → Bool) (i : Nat) : Bool := !((endsSB (ixD b.ins (i : Int)) != ((i : Int) == ((b.ins.length - 1 : Nat) : Int))) || !iv (ixD b.ins (i : Int)))
def blockSB (f : Func) (n : Nat) (nb : Bool) (iv : Ins → Bool) : Bool := !(twB (nmB f) n nb || ((ixD f.blocks (n : Int)).ins.length : Int) == 0) && (List.range (ixD f.blocks (n : Int)).ins.length).all (okI (ixD f.blocks (n : Int)) iv)
set_option maxRecDepth 100000 in
theorem block_fn {p : Prog} {f : Func} {n : Nat} {nb : Bool} {iv : Ins → Bool} (ho : okFunc f) (hn : n < f.blocks.length) (hl : f.blocks.length ≤ 1073741824) (hil : (ixD f.blocks (n : Int)).ins.length ≤ 1073741824) (hnb : Fn Tryz.prog 197 [.lit (.string (nmB f n))] (.lit (.bool nb)))
    (hiv : ∀ x ∈ (ixD f.blocks (n : Int)).ins, Fn Tryz.prog 157 [.agg (encProg p), .agg (encFunc f), .agg (encIns x)] (.lit (.bool (iv x)))) : Fn Tryz.prog 92 [.agg (encProg p), .agg (encFunc f), .lit (.int .i64 (n : Int))] (.lit (.bool (blockSB f n nb iv))) := by
  have htw := twice_fn (f := 155) (T := tFunc) (d := f) (nm := nmB f) (n := n) (nb := nb) (by omega) (fun i hi => block1_fn (by omega)) hnb
  obtain ⟨b, hb⟩ : ∃ b, b = ixD f.blocks (n : Int) := ⟨_, rfl⟩
  have hB : blockSB f n nb iv = (!(twB (nmB f) n nb || (b.ins.length : Int) == 0) && (List.range b.ins.length).all (okI b iv)) := by rw [hb]; rfl
  rw [← hb] at hil hiv
  rw [hB]
  refine Fn.of_awp Tryz.func92 rfl (by kernel_rfl) rfl Tryz.ntmps92 fun C hC => ?_
  simp only [List.length_cons, List.length_nil, Nat.reduceAdd, Nat.reduceSub, List.replicate_succ, List.replicate_zero, List.cons_append, List.nil_append]
  refine wS (sB (sB (sT (wN ?_))))
  refine wS (sT (sT (sT (sX (inBn hn) ?_))))
  rw [← hb]
  refine sT (sA0 (sW (wN ?_)))
  refine Awp.via _ (St.le_fzBoxE hC 1 4 (T := tFunc) (d := f) rfl rfl rfl fun w S cs H => put_func (h := []) (ψ := ψ0) ho H) ?_
  refine nT (hk := ?_)
  refine Awp.seq fun K3 h3 => ?_
  refine wS (sT ?_)
  refine sH (r := .fn 155 [.bp tFunc f 0]) (Quiet.mkFn (cap := #[.tmp 4]) rfl) ?_
  refine sH (Quiet.call2 rfl rfl rfl htw rfl rfl) (sT ?_)
  refine sGf rfl ?_
  refine sGf rfl ?_
  refine sGf rfl ?_
  refine sGf rfl ?_
  refine sT (wN ?_)
  refine Awp.cond rfl (fun hb5 => ?_) (fun hb5 => ?_)
  · refine wR (hk := ?_)
    rw [show (twB (nmB f) n nb || (b.ins.length : Int) == 0) = true from hb5]
    exact Awp.ret ⟨.inr rfl, Fin.cl rfl⟩
  · have hbe : (twB (nmB f) n nb || (b.ins.length : Int) == 0) = false := hb5
    have hpos : 0 < b.ins.length := by
      rw [Bool.or_eq_false_iff] at hb5
      have := hb5.2
      simp at this
      exact List.length_pos_iff.2 this
    refine Awp.skip ?_
    refine h3 _ ?_
    refine nT (hk := ?_)
    refine Awp.seq fun K8 h8 => ?_
    refine wS (sT (sT (sT (sT (wN ?_)))))
    refine Awp.block ?_
    refine Awp.loopF (fun k : Nat => ⟨(A3 (.ptr 0 0 :: .bp tFunc f 0 :: A2 (.ptr 2 0 :: A10 (A7 (.bs tIns b.ins :: .lit (.int .i64 (b.ins.length : Int)) :: .lit (.int .i64 (k : Int)) :: A20 [.any]))))), [.box (encProg p), .dead, .box (encBlock b)]⟩) (fun k => k ≤ b.ins.length ∧ ∀ i, i < k → okI b iv i = true) (fun k => b.ins.length - k) 0 ⟨Nat.zero_le _, fun i hi => absurd hi (Nat.not_lt_zero _)⟩ (St.le_c (.cons (.cons (.cons (.nil _)))) rfl (by (try simp only [putA, List.set_cons_zero, List.set_cons_succ]); repeat (first | exact Fgt.nil | refine Fgt.keep rfl ?_ | refine Fgt.any ?_))) ?_
    rintro k ⟨hk, hall⟩
    refine wS (sT (wN ?_))
    refine Awp.seq fun K12 h12 => ?_
    refine Awp.cond rfl (fun hb13 => ?_) (fun hb13 => ?_)
    · have hlt : k < b.ins.length := by
        have := of_decide_eq_true hb13
        omega
      obtain ⟨x, hx⟩ : ∃ x, x = ixD b.ins (k : Int) := ⟨_, rfl⟩
      have hxm : x ∈ b.ins := by rw [hx]; exact List.mem_of_getElem? (inB_get (inBn hlt))
      have hok : okI b iv k = !((endsSB x != ((k : Int) == ((b.ins.length - 1 : Nat) : Int))) || !iv x) := by rw [hx]; rfl
      refine Awp.skip ?_
      refine h12 _ ?_
      refine nT (hk := ?_)
      refine Awp.seq fun K14 h14 => ?_
      refine Awp.block ?_
      refine wS (sT (sX (inBn hlt) ?_))
      rw [← hx]
      refine sT (sA0 (sT (sW (wN ?_))))
      refine dS 16 (hq := qT ?_)
      refine qC (ends_fn x) ?_
      refine qT (qT (qT (qT (qT ?_))))
      rw [show IntKind.i64.wrap ((b.ins.length : Int) - 1) = ((b.ins.length - 1 : Nat) : Int) by rw [IntWalk.i64_in _ (by omega)]; omega]
      refine qT ?_
      refine qH (Quiet.neb rfl rfl rfl rfl) (qT ?_)
      refine qGqf (fun hg => Quiet.loadA_ptr rfl rfl rfl rfl) ?_
      refine qGqf (fun hg => Quiet.loadA_bp rfl rfl rfl) ?_
      refine qGqf (fun hg => Quiet.loadA_ptr rfl rfl rfl rfl) ?_
      refine qGqf (fun hg => Quiet.call3 rfl (GX.e hg) (GX.e hg) (GX.e hg) (hiv x hxm) rfl rfl) ?_
      refine qGf rfl ?_
      refine qT (qN (wN ?_))
      refine Awp.cond rfl (fun hb17 => ?_) (fun hb17 => ?_)
      · refine wR (hk := ?_)
        have hf : okI b iv k = false := by
          rw [hok, show ((endsSB x != ((k : Int) == ((b.ins.length - 1 : Nat) : Int))) || !iv x) = true from hb17]
          rfl
        have : (List.range b.ins.length).all (okI b iv) = false := List.all_eq_false.2 ⟨k, List.mem_range.2 hlt, by rw [hf]; simp⟩
        rw [hbe, Bool.not_false, Bool.true_and, this]
        exact Awp.ret ⟨.inr rfl, Fin.cl rfl⟩
      · refine Awp.skip ?_
        refine h14 _ ?_
        refine nT (hk := ?_)
        refine wRE (hk := ?_)
        have hf : okI b iv k = true := by
          rw [hok, show ((endsSB x != ((k : Int) == ((b.ins.length - 1 : Nat) : Int))) || !iv x) = false from hb17]
          rfl
        refine athen_n ⟨k + 1, ⟨hlt, fun i hi => by
          by_cases e : i = k
          · subst e; exact hf
          · exact hall i (by omega)⟩, by omega, ?_⟩
        exact St.le_c (.cons (.cons (.cons (.nil _)))) rfl (by (try simp only [putA, List.set_cons_zero, List.set_cons_succ]); repeat (first | exact Fgt.nil | refine Fgt.keep rfl ?_ | refine Fgt.any ?_))
    · refine Awp.exit ?_
      refine h8 _ ?_
      refine nT (hk := ?_)
      refine wR (hk := ?_)
      have : (List.range b.ins.length).all (okI b iv) = true := List.all_eq_true.2 fun i hi => hall i (by have := List.mem_range.1 hi; have := of_decide_eq_false hb13; omega)
      rw [hbe, Bool.not_false, Bool.true_and, this]
      exact Awp.ret ⟨.inr rfl, Fin.cl rfl⟩
end Mu
end
section
/-
  shape.top: whether a program may be, but for its functions.
  Conditions: at most 2^30 threads.
-/
namespace Mu
open Go Go.RowKit Go.Proofs

def hasB (z n : Int) : Bool := decide (z ≥ 0) && decide (z < n)
theorem has_fn (z n : Int) : Fn Tryz.prog 151 [.lit (.int .i64 z), .lit (.int .i64 n)] (.lit (.bool (hasB z n))) := shape_has_l (M.ok_to _)
theorem hasB_in {p : Prog} {z : Int} (h : hasB z (p.funcs.length : Int) = true) : inBd p.funcs z = true := by
  unfold hasB at h
  rw [Bool.and_eq_true, decide_eq_true_eq, decide_eq_true_eq] at h
  exact inB_iff.2 ⟨h.1, by omega⟩
def topT (p : Prog) (z : Int) : Bool := !hasB z (p.funcs.length : Int) || (ixD p.funcs z).args != 0
set_option maxRecDepth 100000 in
theorem top1_fn {p : Prog} {z : Int} : Fn Tryz.prog 150 [.lit (.int .i64 z), .bp tProg p 0] (.lit (.bool (topT p z))) := by
  refine Fn.of_awp Tryz.func150 rfl (by kernel_rfl) rfl Tryz.ntmps150 fun C hC => ?_
  simp only [List.length_cons, List.length_nil, Nat.reduceAdd, Nat.reduceSub, List.replicate_succ, List.replicate_zero, List.cons_append, List.nil_append]
  refine wR (hk := ?_)
  refine wS (sT (sT (sT (sT ?_))))
  refine sC (has_fn z _) (sT (sT ?_))
  refine sGf rfl ?_
  refine sGf rfl ?_
  refine sGf rfl ?_
  refine sGqf (g := !hasB z (p.funcs.length : Int)) (fun hg => Quiet.ixM (T := tFunc) (l := p.funcs) (z := z) rfl (GX.e hg) (GX.e hg) rfl (hasB_in (by simpa using hg))) ?_
  refine sGf rfl ?_
  refine sGf rfl ?_
  refine sGf rfl ?_
  refine sT (sT (wN ?_))
  exact Awp.ret ⟨.inr rfl, Fin.cl rfl⟩
def topB (p : Prog) : Bool := !(decide (p.heap < 0) || decide (p.heap > 1024) || decide ((p.funcs.length : Int) < 1) || decide ((p.funcs.length : Int) > 64) || decide ((p.threads.length : Int) < 1) || decide ((p.threads.length : Int) > 4)) && !p.threads.any (topT p)
set_option maxRecDepth 100000 in
theorem top_fnS {p : Prog} (hp : wfI .i64 p.heap) (ht : p.threads.length ≤ 1073741824) : Fn Tryz.prog 90 [.agg (encProg p)] (.lit (.bool (topB p))) := by
  have ha := anyC_fn (f := 150) (T := tProg) (d := p) (b := topT p) ht fun z _ => top1_fn
  refine Fn.of_awp Tryz.func90 rfl (by kernel_rfl) rfl Tryz.ntmps90 fun C hC => ?_
  simp only [List.length_cons, List.length_nil, Nat.reduceAdd, Nat.reduceSub, List.replicate_succ, List.replicate_zero, List.cons_append, List.nil_append]
  refine wS (sB (sT (wN ?_)))
  refine Awp.via _ (St.le_fzBoxE hC 0 1 (T := tProg) (d := p) rfl rfl rfl fun w S cs H => put_prog (h := []) hp H) ?_
  refine nT (hk := ?_)
  refine Awp.seq fun K2 h2 => ?_
  refine wS (sT (sT (sT (sT ?_))))
  refine sGf rfl ?_
  refine sGf rfl ?_
  refine sGf rfl (sT (sT ?_))
  refine sGf rfl ?_
  refine sGf rfl ?_
  refine sGf rfl ?_
  refine sGf rfl (sT (sT ?_))
  refine sGf rfl ?_
  refine sGf rfl ?_
  refine sGf rfl ?_
  refine sGf rfl (sT (sT ?_))
  refine sGf rfl ?_
  refine sGf rfl ?_
  refine sGf rfl ?_
  refine sGf rfl (sT (sT ?_))
  refine sGf rfl ?_
  refine sGf rfl ?_
  refine sGf rfl ?_
  refine sGf rfl (sT (wN ?_))
  refine Awp.cond rfl (fun hb4 => ?_) (fun hb4 => ?_)
  · refine wR (hk := ?_)
    have hbe : (decide (p.heap < 0) || decide (p.heap > 1024) || decide ((p.funcs.length : Int) < 1) || decide ((p.funcs.length : Int) > 64) || decide ((p.threads.length : Int) < 1) || decide ((p.threads.length : Int) > 4)) = true := hb4
    unfold topB
    rw [hbe]
    exact Awp.ret ⟨.inr rfl, Fin.cl rfl⟩
  · have hbe : (decide (p.heap < 0) || decide (p.heap > 1024) || decide ((p.funcs.length : Int) < 1) || decide ((p.funcs.length : Int) > 64) || decide ((p.threads.length : Int) < 1) || decide ((p.threads.length : Int) > 4)) = false := hb4
    refine Awp.skip ?_
    refine h2 _ ?_
    refine nT (hk := ?_)
    refine wS (sT (sT ?_))
    refine sH (r := .fn 150 [.bp tProg p 0]) (Quiet.mkFn (cap := #[.tmp 1]) rfl) ?_
    refine sC ha (sT (sT (wN ?_)))
    unfold topB
    rw [hbe, Bool.not_false, Bool.true_and]
    exact Awp.ret ⟨.inr rfl, Fin.cl rfl⟩
end Mu
end
section
/-
  shape.Check: whether a program may be; what is known if it may.
  Conditions: what its parts answer is known.
-/
namespace Mu
open Go Go.RowKit Go.Proofs

theorem FnTurnS.of_awpC2 {P : Program} {f : FuncId} {fn : Go.Func} {c : Code} {args : List AV} {ι : Type} {R : Res} {Rs : ι → Res} {rs : ι → AV} {n m : Nat} {t u : Tmp} {ty : TypeId} (hf : P.funcs[f]? = some fn) (hb : fn.body = some c) (hE : Enters P f = true) (hres : fn.results = #[.cell t ty, .tmp u]) (ha : aggT P ty = some (true, m)) (hn : fn.ntmps = n) (hm : R.mrk = [])
    (h : ∀ C : Ctx, Awp P C c (RetsTS R Rs rs fun s r => ∃ i cells, evA s.t (.tmp t) = .ptr i 0 ∧ s.h[i]? = some (.box cells) ∧ cells.length = m ∧ AV.clL cells = true ∧ AV.cl (evA s.t (.tmp u)) = true ∧ .tup [.agg cells, evA s.t (.tmp u)] = r) ⟨args ++ List.replicate (n - args.length) (.lit undef), [.res R]⟩) : FnTurnS P f R args Rs rs :=
  FnTurnS.of_awpQ _ hf hb hE hn hm (fun C s a w r S ψ ⟨i, cells, hev, hi, hlen, hcl, hcu, hr⟩ H hl => by
    have hv := ev_rel hl (.tmp t)
    rw [hev] at hv
    unfold AV.rel at hv
    obtain ⟨g, h1, h2⟩ := hv.2 (by rw [hi]; rfl)
    obtain ⟨g', cs, e', h3, _, _, h4, h5⟩ := H.blk i _ hi
    rw [h1] at h3
    cases h3
    have hc : ∀ j u, cs[j]? = some u → w.cell? ⟨g, 0 + j, none⟩ = some u := fun j u hu => by simp [World.cell?, h4, hu]
    have hload := run_load_agg (P := P) (ty := ty) (b := g) (off := 0) ha (by rw [relL_len h5]; exact hlen) hc
    refine ⟨.tuple #[.agg cs.toArray, a.eval (.tmp u)], ?_, ?_⟩
    · have e1 : (a.tmps[t]?).getD undef = .pointer (some ⟨g, 0, none⟩) := by rw [← Array.getD_eq_getD_getElem?]; exact h2
      have e2 : (a.tmps[u]?).getD undef = a.eval (.tmp u) := by rw [← Array.getD_eq_getD_getElem?]; rfl
      unfold Instr.loadAt Instr.sureAddr at hload
      simp only [Sem.run_bind, Sem.run_pure, Result.andThen_ok] at hload
      simp [results, hres, e1, e2, asAddr, hload]
    · subst hr
      unfold AV.rel
      refine ⟨[.agg cs.toArray, a.eval (.tmp u)], rfl, ?_⟩
      unfold AV.relL
      refine ⟨_, _, rfl, (by unfold AV.rel; exact ⟨cs, rfl, AV.relL_cl _ _ hcl h5⟩), ?_⟩
      unfold AV.relL
      refine ⟨_, _, rfl, AV.rel_cl _ _ hcu (ev_rel hl (.tmp u)), ?_⟩
      unfold AV.relL
      rfl) fun C _ => h C
theorem plPosC : places? Tryz.prog 54 = some [(0, 1), (1, 1)] := by kernel_rfl
instance inMuCheck1 : ZC Tryz.prog 54 [.int .i64 0, .int .i64 0] := ⟨by kernel_rfl⟩
instance inMuCheck2 : SZ Tryz.prog 54 2 := ⟨by kernel_rfl⟩
section
variable {p : Prog} {nb : ByteArray → Bool} {gr : Func → Int} {iv : Func → Ins → Bool}
def hdOk (p : Prog) (nb : ByteArray → Bool) (gr : Func → Int) (n : Nat) : Bool := headB p n (nb (nmF p n)) (gr (ixD p.funcs (n : Int)))
def bkOk (nb : ByteArray → Bool) (iv : Func → Ins → Bool) (f : Func) (i : Nat) : Bool := blockSB f i (nb (nmB f i)) (iv f)
/-- what the parts answer -/
structure ChkIn (p : Prog) (nb : ByteArray → Bool) (gr : Func → Int) (iv : Func → Ins → Bool) : Prop where
  heap : wfI .i64 p.heap
  thr : p.threads.length ≤ 1073741824
  fl : p.funcs.length ≤ 1073741824
  ok : ∀ f ∈ p.funcs, okFunc f
  bl : ∀ f ∈ p.funcs, f.blocks.length ≤ 1073741824
  il : ∀ f ∈ p.funcs, ∀ b ∈ f.blocks, b.ins.length ≤ 1073741824
  nameF : ∀ f ∈ p.funcs, Fn Tryz.prog 197 [.lit (.string f.name)] (.lit (.bool (nb f.name)))
  nameB : ∀ f ∈ p.funcs, ∀ b ∈ f.blocks, Fn Tryz.prog 197 [.lit (.string b.name)] (.lit (.bool (nb b.name)))
  great : ∀ f ∈ p.funcs, Fn Tryz.prog 154 [.agg (encFunc f)] (.lit (.int .i64 (gr f)))
  ins : ∀ f ∈ p.funcs, ∀ b ∈ f.blocks, ∀ x ∈ b.ins, Fn Tryz.prog 157 [.agg (encProg p), .agg (encFunc f), .agg (encIns x)] (.lit (.bool (iv f x)))
  inF : topB p = true → (∀ n, n < p.funcs.length → hdOk p nb gr n = true) → (∀ f ∈ p.funcs, ∀ i, i < f.blocks.length → bkOk nb iv f i = true) → ∀ f ∈ p.funcs, ∃ n, InF n f
/-- it may be, as far as that is told of its parts alone -/
structure Stat (p : Prog) (nb : ByteArray → Bool) (gr : Func → Int) (iv : Func → Ins → Bool) : Prop where
  top : topB p = true
  heads : ∀ n, n < p.funcs.length → hdOk p nb gr n = true
  blocks : ∀ f ∈ p.funcs, ∀ i, i < f.blocks.length → bkOk nb iv f i = true
abbrev ChkO (p : Prog) (nb : ByteArray → Bool) (gr : Func → Int) (iv : Func → Ins → Bool) : Type := { q : (Int × Int) × Int // (q.2 = 0 ∧ Stat p nb gr iv) ∨ q.2 = 140 }
def chkR (q : (Int × Int) × Int) : AV := .tup [.agg [.lit (.int .i64 q.1.1), .lit (.int .i64 q.1.2)], .lit (.int .i64 q.2)]
set_option maxHeartbeats 1000000 in
set_option maxRecDepth 100000 in
theorem check_fn (hI : ChkIn p nb gr iv) : FnTurnS Tryz.prog 39 .emp [.agg (encProg p)] (fun _ : ChkO p nb gr iv => .emp) (fun q => chkR q.1) := by
  have hfl := hI.fl
  refine FnTurnS.of_awpC2 Tryz.func39 rfl (by kernel_rfl) rfl (by kernel_rfl : aggT Tryz.prog 54 = some (true, 2)) Tryz.ntmps39 rfl fun C => ?_
  simp only [List.length_cons, List.length_nil, Nat.reduceAdd, Nat.reduceSub, List.replicate_succ, List.replicate_zero, List.cons_append, List.nil_append]
  refine wS (sB (sA0 (sT (wN ?_))))
  refine Awp.seq fun K2 h2 => ?_
  refine wS (sT (sC (top_fnS hI.heap hI.thr) (sT (wN ?_))))
  refine Awp.cond rfl (fun hb4 => ?_) (fun hb4 => ?_)
  · refine wS (sH (Quiet.bldP (rs := [.lit (.int .i64 (-1)), .lit (.int .i64 (-1))]) rfl plPosC rfl rfl) (sW (sT (wN ?_))))
    exact Awp.ret ⟨.inr rfl, ⟨((-1, -1), 140), .inr rfl⟩, rfl, rfl, 2, _, rfl, rfl, rfl, rfl, rfl, rfl⟩
  · have htop : topB p = true := by simpa using hb4
    refine Awp.skip ?_
    refine h2 _ ?_
    refine nT (hk := ?_)
    refine Awp.seq fun K7 h7 => ?_
    refine wS (sT (sT (sT (sT (wN ?_)))))
    refine Awp.block ?_
    refine Awp.loopF (fun k : Nat => ⟨(.any :: .ptr 1 0 :: .ptr 2 0 :: A10 (A7 (.lit (.int .i64 (p.funcs.length : Int)) :: .lit (.int .i64 (k : Int)) :: A40 (A20 (A9 []))))), [.res .emp, .box (encProg p), .box [.lit (.int .i64 0), .lit (.int .i64 0)]]⟩) (fun k => k ≤ p.funcs.length ∧ ∀ n, n < k → hdOk p nb gr n = true) (fun k => p.funcs.length - k) 0 ⟨Nat.zero_le _, fun n hn => absurd hn (Nat.not_lt_zero _)⟩ (St.le_t rfl (by (try simp only [putA, List.set_cons_zero, List.set_cons_succ]); repeat (first | exact Fgt.nil | refine Fgt.keep rfl ?_ | refine Fgt.any ?_))) ?_
    rintro k ⟨hk, hall⟩
    refine wS (sT (wN ?_))
    refine Awp.seq fun K11 h11 => ?_
    refine Awp.cond rfl (fun hb12 => ?_) (fun hb12 => ?_)
    · have hlt : k < p.funcs.length := by
        have := of_decide_eq_true hb12
        omega
      have hfm : ixD p.funcs (k : Int) ∈ p.funcs := List.mem_of_getElem? (inB_get (inBn hlt))
      refine Awp.skip ?_
      refine h11 _ ?_
      refine nT (hk := ?_)
      refine Awp.seq fun K13 h13 => ?_
      refine Awp.block ?_
      refine wR (hk := ?_)
      refine wS (sT (sT ?_))
      refine sC (head_fn hI.heap hlt hfl (hI.nameF _ hfm) (hI.great _ hfm)) (sT (wN ?_))
      refine Awp.cond rfl (fun hb16 => ?_) (fun hb16 => ?_)
      · refine wS (sT ?_)
        refine sH (Quiet.bldP (rs := [.lit (.int .i64 (k : Int)), .lit (.int .i64 (-1))]) rfl plPosC rfl rfl) (sW (sT (wN ?_)))
        exact Awp.ret ⟨.inr rfl, ⟨((k, -1), 140), .inr rfl⟩, rfl, rfl, 2, _, rfl, rfl, rfl, rfl, rfl, rfl⟩
      · refine Awp.skip ?_
        refine h13 _ ?_
        refine nT (hk := ?_)
        refine wRE (hk := ?_)
        have hhd : hdOk p nb gr k = true := by
          cases e : hdOk p nb gr k with
          | true => rfl
          | false => exact absurd (show (!hdOk p nb gr k) = false from hb16) (by rw [e]; decide)
        refine athen_n ⟨k + 1, ⟨hlt, fun i hi => by
          by_cases e : i = k
          · subst e; exact hhd
          · exact hall i (by omega)⟩, by omega, ?_⟩
        exact St.le_c (.cons (.cons (.cons (.nil _)))) rfl (by (try simp only [putA, List.set_cons_zero, List.set_cons_succ]); repeat (first | exact Fgt.nil | refine Fgt.keep rfl ?_ | refine Fgt.any ?_))
    · have hheads : ∀ n, n < p.funcs.length → hdOk p nb gr n = true := fun n hn => hall n (by have := of_decide_eq_false hb12; omega)
      refine Awp.exit ?_
      refine h7 _ ?_
      refine nT (hk := ?_)
      refine Awp.seq fun K20 h20 => ?_
      refine wS (sT (sT (sT (sT (wN ?_)))))
      refine Awp.block ?_
      refine Awp.loopF (fun k : Nat => ⟨(.any :: .ptr 1 0 :: .ptr 2 0 :: A20 (A9 (.bs tFunc p.funcs :: .lit (.int .i64 (p.funcs.length : Int)) :: .lit (.int .i64 (k : Int)) :: A40 (A10 (A6 []))))), [.res .emp, .box (encProg p), .box [.lit (.int .i64 0), .lit (.int .i64 0)]]⟩) (fun k => k ≤ p.funcs.length ∧ ∀ n, n < k → ∀ i, i < (ixD p.funcs (n : Int)).blocks.length → bkOk nb iv (ixD p.funcs (n : Int)) i = true) (fun k => p.funcs.length - k) 0 ⟨Nat.zero_le _, fun n hn => absurd hn (Nat.not_lt_zero _)⟩ (St.le_t rfl (by (try simp only [putA, List.set_cons_zero, List.set_cons_succ]); repeat (first | exact Fgt.nil | refine Fgt.keep rfl ?_ | refine Fgt.any ?_))) ?_
      rintro k2 ⟨hk2, hall2⟩
      refine wS (sT (wN ?_))
      refine Awp.seq fun K24 h24 => ?_
      refine Awp.cond rfl (fun hb25 => ?_) (fun hb25 => ?_)
      · have hlt2 : k2 < p.funcs.length := by
          have := of_decide_eq_true hb25
          omega
        obtain ⟨f, hf⟩ : ∃ f, f = ixD p.funcs (k2 : Int) := ⟨_, rfl⟩
        have hfm : f ∈ p.funcs := by rw [hf]; exact List.mem_of_getElem? (inB_get (inBn hlt2))
        have hbl := hI.bl f hfm
        refine Awp.skip ?_
        refine h24 _ ?_
        refine nT (hk := ?_)
        refine Awp.seq fun K26 h26 => ?_
        refine Awp.block ?_
        refine wS (sT (sX (inBn hlt2) ?_))
        rw [← hf]
        refine sT (sA0 (sT (sW (wN ?_))))
        refine wS (sT (sT (sT (sT (wN ?_)))))
        refine Awp.block ?_
        refine Awp.loopF (fun k : Nat => ⟨(.any :: .ptr 1 0 :: .ptr 2 0 :: A2 (.lit (.int .i64 (k2 : Int)) :: .ptr 3 0 :: A20 (A5 (.bs tFunc p.funcs :: .lit (.int .i64 (p.funcs.length : Int)) :: .lit (.int .i64 (k2 : Int)) :: A6 (.lit (.int .i64 (f.blocks.length : Int)) :: .lit (.int .i64 (k : Int)) :: A40 (A8 [])))))), [.res .emp, .box (encProg p), .box [.lit (.int .i64 0), .lit (.int .i64 0)], .box (encFunc f)]⟩) (fun k => k ≤ f.blocks.length ∧ ∀ i, i < k → bkOk nb iv f i = true) (fun k => f.blocks.length - k) 0 ⟨Nat.zero_le _, fun n hn => absurd hn (Nat.not_lt_zero _)⟩ (St.le_t rfl (by (try simp only [putA, List.set_cons_zero, List.set_cons_succ]); repeat (first | exact Fgt.nil | refine Fgt.keep rfl ?_ | refine Fgt.any ?_))) ?_
        rintro i ⟨hi, hall3⟩
        refine wS (sT (wN ?_))
        refine Awp.seq fun K31 h31 => ?_
        refine Awp.cond rfl (fun hb32 => ?_) (fun hb32 => ?_)
        · have hlt3 : i < f.blocks.length := by
            have := of_decide_eq_true hb32
            omega
          have hbm : ixD f.blocks (i : Int) ∈ f.blocks := List.mem_of_getElem? (inB_get (inBn hlt3))
          refine Awp.skip ?_
          refine h31 _ ?_
          refine nT (hk := ?_)
          refine Awp.seq fun K33 h33 => ?_
          refine Awp.block ?_
          refine wR (hk := ?_)
          refine wS (sT (sT (sT ?_)))
          refine sC (block_fn (hI.ok f hfm) hlt3 hbl (hI.il f hfm _ hbm) (hI.nameB f hfm _ hbm) (hI.ins f hfm _ hbm)) (sT (wN ?_))
          refine Awp.cond rfl (fun hb36 => ?_) (fun hb36 => ?_)
          · refine wS (sT (sT ?_))
            refine sH (Quiet.bldP (rs := [.lit (.int .i64 (k2 : Int)), .lit (.int .i64 (i : Int))]) rfl plPosC rfl rfl) (sW (sT (wN ?_)))
            exact Awp.ret ⟨.inr rfl, ⟨((k2, i), 140), .inr rfl⟩, rfl, rfl, 2, _, rfl, rfl, rfl, rfl, rfl, rfl⟩
          · refine Awp.skip ?_
            refine h33 _ ?_
            refine nT (hk := ?_)
            refine wRE (hk := ?_)
            have hbk : bkOk nb iv f i = true := by
              cases e : bkOk nb iv f i with
              | true => rfl
              | false => exact absurd (show (!bkOk nb iv f i) = false from hb36) (by rw [e]; decide)
            refine athen_n ⟨i + 1, ⟨hlt3, fun j hj => by
              by_cases e : j = i
              · subst e; exact hbk
              · exact hall3 j (by omega)⟩, by omega, ?_⟩
            exact St.le_c (.cons (.cons (.cons (.cons (.nil _))))) rfl (by (try simp only [putA, List.set_cons_zero, List.set_cons_succ]); repeat (first | exact Fgt.nil | refine Fgt.keep rfl ?_ | refine Fgt.any ?_))
        · refine Awp.exit ?_
          refine h26 _ ?_
          refine nT (hk := ?_)
          refine wRE (hk := ?_)
          refine athen_n ⟨k2 + 1, ⟨hlt2, fun n hn j hj => by
            by_cases e : n = k2
            · subst e
              rw [← hf] at hj ⊢
              exact hall3 j (by have := of_decide_eq_false hb32; omega)
            · exact hall2 n (by omega) j hj⟩, by omega, ?_⟩
          exact St.le_c (.cons (.cons (.cons (.nil _)))) rfl (by (try simp only [putA, List.set_cons_zero, List.set_cons_succ]); repeat (first | exact Fgt.nil | refine Fgt.keep rfl ?_ | refine Fgt.any ?_))
      · have hblocks : ∀ f ∈ p.funcs, ∀ i, i < f.blocks.length → bkOk nb iv f i = true := fun f hf i hi => by
          obtain ⟨n, hn⟩ := List.getElem?_of_mem hf
          have hnl := (List.getElem?_eq_some_iff.1 hn).1
          have e : ixD p.funcs (n : Int) = f := by
            have := inB_get (inBn hnl)
            rw [Int.toNat_natCast, hn] at this
            exact (Option.some.inj this).symm
          have := hall2 n (by have := of_decide_eq_false hb25; omega) i (by rw [e]; exact hi)
          rwa [e] at this
        have hSt : Stat p nb gr iv := ⟨htop, hheads, hblocks⟩
        refine Awp.exit ?_
        refine h20 _ ?_
        refine nT (hk := ?_)
        refine Awp.seq fun K41 h41 => ?_
        refine wS (sT (sT (sT (sT (wN ?_)))))
        refine Awp.block ?_
        refine Awp.loopF (fun k : Nat => ⟨(A2 (.ptr 2 0 :: A40 (A10 (A3 (.bs tFunc p.funcs :: .lit (.int .i64 (p.funcs.length : Int)) :: .lit (.int .i64 (k : Int)) :: A20 (A10 (A2 []))))))), [.res .emp, .box (encProg p), .box [.lit (.int .i64 0), .lit (.int .i64 0)]]⟩) (fun k => k ≤ p.funcs.length) (fun k => p.funcs.length - k) 0 (Nat.zero_le _) (St.le_t rfl (by (try simp only [putA, List.set_cons_zero, List.set_cons_succ]); repeat (first | exact Fgt.nil | refine Fgt.keep rfl ?_ | refine Fgt.any ?_))) ?_
        rintro k4 hk4
        refine wS (sT (wN ?_))
        refine Awp.seq fun K45 h45 => ?_
        refine Awp.cond rfl (fun hb46 => ?_) (fun hb46 => ?_)
        · have hlt4 : k4 < p.funcs.length := by
            have := of_decide_eq_true hb46
            omega
          obtain ⟨f, hf⟩ : ∃ f, f = ixD p.funcs (k4 : Int) := ⟨_, rfl⟩
          have hfm : f ∈ p.funcs := by rw [hf]; exact List.mem_of_getElem? (inB_get (inBn hlt4))
          obtain ⟨n, hF⟩ := hI.inF htop hheads hblocks f hfm
          have hbl := hI.bl f hfm
          refine Awp.skip ?_
          refine h45 _ ?_
          refine nT (hk := ?_)
          refine Awp.seq fun K47 h47 => ?_
          refine Awp.block ?_
          refine wS (sT (sX (inBn hlt4) ?_))
          rw [← hf]
          refine sT (sA0 (sT (sW (wN ?_))))
          refine wS (sT ?_)
          refine aSeq_t rfl (AOp.callN rfl (sure_fn hF) (fun _ => rfl) rfl rfl (fun _ => rfl) fun q => ?_)
          obtain ⟨⟨go, O⟩, hOl, hO⟩ := q
          have hOl : O.length = f.blocks.length := hOl
          have hO : okO n O := hO
          refine sNt (hk := sT (sT (wN ?_)))
          refine Awp.block ?_
          refine Awp.loopF (fun k : Nat => ⟨(A2 (.ptr 2 0 :: A5 (.lit (.int .i64 (k4 : Int)) :: .ptr 3 0 :: A40 (A6 (.bs tFunc p.funcs :: .lit (.int .i64 (p.funcs.length : Int)) :: .lit (.int .i64 (k4 : Int)) :: A5 (.lit (slV go O.length O.length) :: .lit (.int .i64 (O.length : Int)) :: .lit (.int .i64 (k : Int)) :: A20 (A4 []))))))), [.res .emp, .box (encProg p), .box [.lit (.int .i64 0), .lit (.int .i64 0)], .box (encFunc f), .res (outR go O)]⟩) (fun k => k ≤ O.length) (fun k => O.length - k) 0 (Nat.zero_le _) (St.le_t rfl (by (try simp only [putA, List.set_cons_zero, List.set_cons_succ]); repeat (first | exact Fgt.nil | refine Fgt.keep rfl ?_ | refine Fgt.any ?_))) ?_
          rintro j hj
          refine wS (sT (wN ?_))
          refine Awp.seq fun K52 h52 => ?_
          refine Awp.cond rfl (fun hb53 => ?_) (fun hb53 => ?_)
          · have hlt5 : j < O.length := by
              have := of_decide_eq_true hb53
              omega
            obtain ⟨x, hx⟩ : ∃ x, O[j]? = some x := ⟨_, List.getElem?_eq_getElem hlt5⟩
            obtain ⟨b, hb⟩ : ∃ b, b = ixD f.blocks (j : Int) := ⟨_, rfl⟩
            have hbm : b ∈ f.blocks := by rw [hb]; exact List.mem_of_getElem? (inB_get (inBn (by omega)))
            obtain ⟨hbi, hbl2, hbr, hbg⟩ := hF.ins b hbm
            refine Awp.skip ?_
            refine h52 _ ?_
            refine nT (hk := ?_)
            refine Awp.seq fun K54 h54 => ?_
            refine Awp.block ?_
            refine wS (sT ?_)
            refine sH (Quiet.ixl0 rfl rfl rfl hlt5) ?_
            refine sH (Quiet.ldO (i := 4) rfl rfl rfl hx) (sT (sT (wN ?_)))
            refine Awp.seq fun K56 h56 => ?_
            refine wS (sT (sH (Quiet.eqNilS rfl rfl rfl) (wN ?_)))
            refine Awp.cond rfl (fun hb58 => ?_) (fun hb58 => ?_)
            · refine Awp.exit ?_
              refine h54 _ ?_
              refine nT (hk := ?_)
              refine wSE (sT (sT (wN ?_)))
              refine athen_n ⟨j + 1, hlt5, by omega, ?_⟩
              rw [wrap_k (by omega)]
              exact St.le_c (.cons (.cons (.cons (.cons (.cons (.nil _)))))) rfl (by (try simp only [putA, List.set_cons_zero, List.set_cons_succ]); repeat (first | exact Fgt.nil | refine Fgt.keep rfl ?_ | refine Fgt.any ?_))
            · obtain ⟨s, rfl⟩ : ∃ s, x = some s := by
                cases x with
                | none => cases hb58
                | some s => exact ⟨s, rfl⟩
              have hsl : s.l.length = n := hO s (List.mem_of_getElem? hx)
              have hn4 := hF.nle
              refine Awp.skip ?_
              refine h56 _ ?_
              refine nT (hk := ?_)
              refine wS (sT (sT (sT (sX (inBn (show j < f.blocks.length by omega)) ?_))))
              rw [← hb]
              refine sT (sT ?_)
              refine aSeq_t rfl (AOp.callOS (i := 4) [.agg (encBlock b)] rfl hx rfl (through_fn (b := b) (l := s.l) (by omega) hbl2 (by rw [hsl]; exact hbr)) (fun _ => rfl) (fun p w S S' h => row_free h) (fun _ => rfl) (fun p w S S' v h => thruR_free p.1 h) rfl rfl fun q => ?_)
              obtain ⟨⟨s2, fine⟩, hs2⟩ := q
              refine sNt (hk := ?_)
              dsimp only [thruR]
              refine sT (sT (sT (sT (sT (wN ?_)))))
              refine wR (hk := ?_)
              refine Awp.cond rfl (fun hb61 => ?_) (fun hb61 => ?_)
              · refine wS (sT (sT ?_))
                refine sH (Quiet.bldP (rs := [.lit (.int .i64 (k4 : Int)), .lit (.int .i64 (j : Int))]) rfl plPosC rfl rfl) (sW (sT (wN ?_)))
                exact Awp.ret ⟨.inr rfl, ⟨((k4, j), 140), .inr rfl⟩, rfl, rfl, 2, _, rfl, rfl, rfl, rfl, rfl, rfl⟩
              · refine Awp.skip ?_
                refine h54 _ ?_
                refine nT (hk := ?_)
                refine wSE (sT (sT (wN ?_)))
                refine athen_n ⟨j + 1, hlt5, by omega, ?_⟩
                rw [wrap_k (by omega)]
                exact St.le_c (.cons (.cons (.cons (.cons (.cons (.nil _)))))) rfl (by (try simp only [putA, List.set_cons_zero, List.set_cons_succ]); repeat (first | exact Fgt.nil | refine Fgt.keep rfl ?_ | refine Fgt.any ?_))
          · refine Awp.exit ?_
            refine h47 _ ?_
            refine nT (hk := ?_)
            refine wSE (sT (sT (wN ?_)))
            refine athen_n ⟨k4 + 1, hlt4, by omega, ?_⟩
            rw [wrap_k (by omega)]
            exact St.le_c (.cons (.cons (.cons (.nil _)))) rfl (by (try simp only [putA, List.set_cons_zero, List.set_cons_succ]); repeat (first | exact Fgt.nil | refine Fgt.keep rfl ?_ | refine Fgt.any ?_))
        · refine Awp.exit ?_
          refine h41 _ ?_
          refine nT (hk := ?_)
          refine wS (sH (Quiet.bldP (rs := [.lit (.int .i64 0), .lit (.int .i64 0)]) rfl plPosC rfl rfl) (sW (sT (wN ?_))))
          exact Awp.ret ⟨.inr rfl, ⟨((0, 0), 0), .inl ⟨rfl, hSt⟩⟩, rfl, rfl, 2, _, rfl, rfl, rfl, rfl, rfl, rfl⟩
end
end Mu
end
section
/-
  word: what each operation makes.
  Conditions: none.
-/
namespace Mu
open Go Go.RowKit Go.Proofs

def word_operations_1 (a : Int) (bP1 : Int) : M (Int × Bool) := M.ok (IntKind.u32.wrap (a + bP1), true)
set_option maxRecDepth 100000 in
set_option maxHeartbeats 4000000 in
theorem word_operations_1_l {a : Int} {bP1 : Int} {r : Int × Bool} (H : (word_operations_1 a bP1).to r) : Fn Tryz.prog 220 [.lit (.int .u32 a), .lit (.int .u32 bP1)] (.tup [.lit (.int .u32 r.1), .lit (.bool r.2)]) := by
  delta word_operations_1 at H
  try dsimp only at H
  refine Fn.of_awp2 Tryz.func220 rfl (by kernel_rfl) rfl Tryz.ntmps220 fun C hC => ?_
  simp only [List.length_cons, List.length_nil, Nat.reduceAdd, Nat.reduceSub, List.replicate_succ, List.replicate_zero, List.cons_append, List.nil_append]
  refine wS (sT (sT (wN ?_)))
  refine wS (sT (sT (sT (sT (sT (wN ?_))))))
  obtain rfl := M.to_ok.1 H
  exact Awp.ret ⟨.inr rfl, _, _, Fin.cl rfl, rfl, rfl⟩
def word_operations_2 (a : Int) (bP1 : Int) : M (Int × Bool) := M.ok (IntKind.u32.wrap (a - bP1), true)
set_option maxRecDepth 100000 in
set_option maxHeartbeats 4000000 in
theorem word_operations_2_l {a : Int} {bP1 : Int} {r : Int × Bool} (H : (word_operations_2 a bP1).to r) : Fn Tryz.prog 221 [.lit (.int .u32 a), .lit (.int .u32 bP1)] (.tup [.lit (.int .u32 r.1), .lit (.bool r.2)]) := by
  delta word_operations_2 at H
  try dsimp only at H
  refine Fn.of_awp2 Tryz.func221 rfl (by kernel_rfl) rfl Tryz.ntmps221 fun C hC => ?_
  simp only [List.length_cons, List.length_nil, Nat.reduceAdd, Nat.reduceSub, List.replicate_succ, List.replicate_zero, List.cons_append, List.nil_append]
  refine wS (sT (sT (wN ?_)))
  refine wS (sT (sT (sT (sT (sT (wN ?_))))))
  obtain rfl := M.to_ok.1 H
  exact Awp.ret ⟨.inr rfl, _, _, Fin.cl rfl, rfl, rfl⟩
def word_operations_3 (a : Int) (bP1 : Int) : M (Int × Bool) := M.ok (IntKind.u32.wrap (a * bP1), true)
set_option maxRecDepth 100000 in
set_option maxHeartbeats 4000000 in
theorem word_operations_3_l {a : Int} {bP1 : Int} {r : Int × Bool} (H : (word_operations_3 a bP1).to r) : Fn Tryz.prog 222 [.lit (.int .u32 a), .lit (.int .u32 bP1)] (.tup [.lit (.int .u32 r.1), .lit (.bool r.2)]) := by
  delta word_operations_3 at H
  try dsimp only at H
  refine Fn.of_awp2 Tryz.func222 rfl (by kernel_rfl) rfl Tryz.ntmps222 fun C hC => ?_
  simp only [List.length_cons, List.length_nil, Nat.reduceAdd, Nat.reduceSub, List.replicate_succ, List.replicate_zero, List.cons_append, List.nil_append]
  refine wS (sT (sT (wN ?_)))
  refine wS (sT (sT (sT (sT (sT (wN ?_))))))
  obtain rfl := M.to_ok.1 H
  exact Awp.ret ⟨.inr rfl, _, _, Fin.cl rfl, rfl, rfl⟩
def word_operations_4 (a : Int) (bP1 : Int) : M Int := M.chk (bP1 != 0) (M.ok (IntKind.i64.wrap (Int.tdiv a bP1)))
set_option maxRecDepth 100000 in
set_option maxHeartbeats 4000000 in
theorem word_operations_4_l {a : Int} {bP1 : Int} {r : Int} (H : (word_operations_4 a bP1).to r) : Fn Tryz.prog 224 [.lit (.int .i64 a), .lit (.int .i64 bP1)] (.lit (.int .i64 r)) := by
  delta word_operations_4 at H
  try dsimp only at H
  refine Fn.of_awp Tryz.func224 rfl (by kernel_rfl) rfl Tryz.ntmps224 fun C hC => ?_
  simp only [List.length_cons, List.length_nil, Nat.reduceAdd, Nat.reduceSub, List.replicate_succ, List.replicate_zero, List.cons_append, List.nil_append]
  refine wS (sT (wN ?_))
  obtain ⟨c1, H⟩ := M.to_chk.1 H
  refine wS (sT (sT ?_)); refine sA (hq := Quiet.quoM rfl get5 get6 c1) (ht := set7) (hk := ?_); refine sT (wN ?_)
  obtain rfl := M.to_ok.1 H
  exact Awp.ret ⟨.inr rfl, Fin.cl rfl⟩
def word_operations_5 (a : Int) (bP1 : Int) : M Int := M.chk (bP1 != 0) (M.ok (Int.tmod a bP1))
set_option maxRecDepth 100000 in
set_option maxHeartbeats 4000000 in
theorem word_operations_5_l {a : Int} {bP1 : Int} {r : Int} (H : (word_operations_5 a bP1).to r) : Fn Tryz.prog 225 [.lit (.int .i64 a), .lit (.int .i64 bP1)] (.lit (.int .i64 r)) := by
  delta word_operations_5 at H
  try dsimp only at H
  refine Fn.of_awp Tryz.func225 rfl (by kernel_rfl) rfl Tryz.ntmps225 fun C hC => ?_
  simp only [List.length_cons, List.length_nil, Nat.reduceAdd, Nat.reduceSub, List.replicate_succ, List.replicate_zero, List.cons_append, List.nil_append]
  refine wS (sT (wN ?_))
  obtain ⟨c1, H⟩ := M.to_chk.1 H
  refine wS (sT (sT ?_)); refine sA (hq := Quiet.remM rfl get5 get6 c1) (ht := set7) (hk := ?_); refine sT (wN ?_)
  obtain rfl := M.to_ok.1 H
  exact Awp.ret ⟨.inr rfl, Fin.cl rfl⟩
def word_operations_6 (a : Int) (bP1 : Int) : M (Int × Bool) := M.ok (bits .and .u32 a bP1, true)
set_option maxRecDepth 100000 in
set_option maxHeartbeats 4000000 in
theorem word_operations_6_l {a : Int} {bP1 : Int} {r : Int × Bool} (H : (word_operations_6 a bP1).to r) : Fn Tryz.prog 226 [.lit (.int .u32 a), .lit (.int .u32 bP1)] (.tup [.lit (.int .u32 r.1), .lit (.bool r.2)]) := by
  delta word_operations_6 at H
  try dsimp only at H
  refine Fn.of_awp2 Tryz.func226 rfl (by kernel_rfl) rfl Tryz.ntmps226 fun C hC => ?_
  simp only [List.length_cons, List.length_nil, Nat.reduceAdd, Nat.reduceSub, List.replicate_succ, List.replicate_zero, List.cons_append, List.nil_append]
  refine wS (sT (sT (wN ?_)))
  refine wS (sT (sT ?_)); refine sA (hq := Quiet.bit rfl get6 get7 rfl rfl) (ht := (setS8 set0)) (hk := ?_); refine sT (sT (wN ?_))
  obtain rfl := M.to_ok.1 H
  exact Awp.ret ⟨.inr rfl, _, _, Fin.cl rfl, rfl, rfl⟩
def word_operations_7 (a : Int) (bP1 : Int) : M (Int × Bool) := M.ok (bits .or .u32 a bP1, true)
set_option maxRecDepth 100000 in
set_option maxHeartbeats 4000000 in
theorem word_operations_7_l {a : Int} {bP1 : Int} {r : Int × Bool} (H : (word_operations_7 a bP1).to r) : Fn Tryz.prog 227 [.lit (.int .u32 a), .lit (.int .u32 bP1)] (.tup [.lit (.int .u32 r.1), .lit (.bool r.2)]) := by
  delta word_operations_7 at H
  try dsimp only at H
  refine Fn.of_awp2 Tryz.func227 rfl (by kernel_rfl) rfl Tryz.ntmps227 fun C hC => ?_
  simp only [List.length_cons, List.length_nil, Nat.reduceAdd, Nat.reduceSub, List.replicate_succ, List.replicate_zero, List.cons_append, List.nil_append]
  refine wS (sT (sT (wN ?_)))
  refine wS (sT (sT ?_)); refine sA (hq := Quiet.bit rfl get6 get7 rfl rfl) (ht := (setS8 set0)) (hk := ?_); refine sT (sT (wN ?_))
  obtain rfl := M.to_ok.1 H
  exact Awp.ret ⟨.inr rfl, _, _, Fin.cl rfl, rfl, rfl⟩
def word_operations_8 (a : Int) (bP1 : Int) : M (Int × Bool) := M.ok (bits .xor .u32 a bP1, true)
set_option maxRecDepth 100000 in
set_option maxHeartbeats 4000000 in
theorem word_operations_8_l {a : Int} {bP1 : Int} {r : Int × Bool} (H : (word_operations_8 a bP1).to r) : Fn Tryz.prog 228 [.lit (.int .u32 a), .lit (.int .u32 bP1)] (.tup [.lit (.int .u32 r.1), .lit (.bool r.2)]) := by
  delta word_operations_8 at H
  try dsimp only at H
  refine Fn.of_awp2 Tryz.func228 rfl (by kernel_rfl) rfl Tryz.ntmps228 fun C hC => ?_
  simp only [List.length_cons, List.length_nil, Nat.reduceAdd, Nat.reduceSub, List.replicate_succ, List.replicate_zero, List.cons_append, List.nil_append]
  refine wS (sT (sT (wN ?_)))
  refine wS (sT (sT ?_)); refine sA (hq := Quiet.bit rfl get6 get7 rfl rfl) (ht := (setS8 set0)) (hk := ?_); refine sT (sT (wN ?_))
  obtain rfl := M.to_ok.1 H
  exact Awp.ret ⟨.inr rfl, _, _, Fin.cl rfl, rfl, rfl⟩
def word_operations_9 (a : Int) (bP1 : Int) : M (Int × Bool) := M.chk (decide (0 ≤ (bits .and .u32 bP1 31))) (M.ok (shlV .u32 a (bits .and .u32 bP1 31), true))
set_option maxRecDepth 100000 in
set_option maxHeartbeats 4000000 in
theorem word_operations_9_l {a : Int} {bP1 : Int} {r : Int × Bool} (H : (word_operations_9 a bP1).to r) : Fn Tryz.prog 229 [.lit (.int .u32 a), .lit (.int .u32 bP1)] (.tup [.lit (.int .u32 r.1), .lit (.bool r.2)]) := by
  delta word_operations_9 at H
  try dsimp only at H
  refine Fn.of_awp2 Tryz.func229 rfl (by kernel_rfl) rfl Tryz.ntmps229 fun C hC => ?_
  simp only [List.length_cons, List.length_nil, Nat.reduceAdd, Nat.reduceSub, List.replicate_succ, List.replicate_zero, List.cons_append, List.nil_append]
  refine wS (sT (sT (wN ?_)))
  obtain ⟨c1, H⟩ := M.to_chk.1 H
  refine wS (sT (sT ?_)); refine sA (hq := Quiet.bit rfl get7 getC rfl rfl) (ht := (setS8 set0)) (hk := ?_); refine sA (hq := Quiet.shlM rfl get6 (getS8 get0) c1) (ht := (setS8 set1)) (hk := ?_); refine sT (sT (wN ?_))
  obtain rfl := M.to_ok.1 H
  exact Awp.ret ⟨.inr rfl, _, _, Fin.cl rfl, rfl, rfl⟩
def word_operations_10 (a : Int) (bP1 : Int) : M (Int × Bool) := M.chk (decide (0 ≤ (bits .and .u32 bP1 31))) (M.ok (shrV .u32 a (bits .and .u32 bP1 31), true))
set_option maxRecDepth 100000 in
set_option maxHeartbeats 4000000 in
theorem word_operations_10_l {a : Int} {bP1 : Int} {r : Int × Bool} (H : (word_operations_10 a bP1).to r) : Fn Tryz.prog 230 [.lit (.int .u32 a), .lit (.int .u32 bP1)] (.tup [.lit (.int .u32 r.1), .lit (.bool r.2)]) := by
  delta word_operations_10 at H
  try dsimp only at H
  refine Fn.of_awp2 Tryz.func230 rfl (by kernel_rfl) rfl Tryz.ntmps230 fun C hC => ?_
  simp only [List.length_cons, List.length_nil, Nat.reduceAdd, Nat.reduceSub, List.replicate_succ, List.replicate_zero, List.cons_append, List.nil_append]
  refine wS (sT (sT (wN ?_)))
  obtain ⟨c1, H⟩ := M.to_chk.1 H
  refine wS (sT (sT ?_)); refine sA (hq := Quiet.bit rfl get7 getC rfl rfl) (ht := (setS8 set0)) (hk := ?_); refine sA (hq := Quiet.shrM rfl get6 (getS8 get0) c1) (ht := (setS8 set1)) (hk := ?_); refine sT (sT (wN ?_))
  obtain rfl := M.to_ok.1 H
  exact Awp.ret ⟨.inr rfl, _, _, Fin.cl rfl, rfl, rfl⟩
def word_operations_11 (a : Int) (bP1 : Int) : M (Int × Bool) := M.chk (decide (0 ≤ (bits .and .u32 bP1 31))) (M.ok (IntKind.u32.wrap (shrV .i32 (IntKind.i32.wrap a) (bits .and .u32 bP1 31)), true))
set_option maxRecDepth 100000 in
set_option maxHeartbeats 4000000 in
theorem word_operations_11_l {a : Int} {bP1 : Int} {r : Int × Bool} (H : (word_operations_11 a bP1).to r) : Fn Tryz.prog 231 [.lit (.int .u32 a), .lit (.int .u32 bP1)] (.tup [.lit (.int .u32 r.1), .lit (.bool r.2)]) := by
  delta word_operations_11 at H
  try dsimp only at H
  refine Fn.of_awp2 Tryz.func231 rfl (by kernel_rfl) rfl Tryz.ntmps231 fun C hC => ?_
  simp only [List.length_cons, List.length_nil, Nat.reduceAdd, Nat.reduceSub, List.replicate_succ, List.replicate_zero, List.cons_append, List.nil_append]
  refine wS (sT (sT (wN ?_)))
  obtain ⟨c1, H⟩ := M.to_chk.1 H
  refine wS (sT ?_); refine sA (hq := Quiet.cv rfl get6 rfl) (ht := set7) (hk := ?_); refine sT ?_; refine sA (hq := Quiet.bit rfl (getS8 get0) getC rfl rfl) (ht := (setS8 set1)) (hk := ?_); refine sA (hq := Quiet.shrM rfl get7 (getS8 get1) c1) (ht := (setS8 set2)) (hk := ?_); refine sA (hq := Quiet.cv rfl (getS8 get2) rfl) (ht := (setS8 set3)) (hk := ?_); refine sT (sT (wN ?_))
  obtain rfl := M.to_ok.1 H
  exact Awp.ret ⟨.inr rfl, _, _, Fin.cl rfl, rfl, rfl⟩
def word_operations_12 (a : Int) (bP1 : Int) : M (Int × Bool) := M.bnd (word_truth (decide ((IntKind.i32.wrap a) < (IntKind.i32.wrap bP1)))) fun r1 => M.ok (r1.1, r1.2)
set_option maxRecDepth 100000 in
set_option maxHeartbeats 4000000 in
theorem word_operations_12_l {a : Int} {bP1 : Int} {r : Int × Bool} (H : (word_operations_12 a bP1).to r) : Fn Tryz.prog 232 [.lit (.int .u32 a), .lit (.int .u32 bP1)] (.tup [.lit (.int .u32 r.1), .lit (.bool r.2)]) := by
  delta word_operations_12 at H
  try dsimp only at H
  refine Fn.of_awp2 Tryz.func232 rfl (by kernel_rfl) rfl Tryz.ntmps232 fun C hC => ?_
  simp only [List.length_cons, List.length_nil, Nat.reduceAdd, Nat.reduceSub, List.replicate_succ, List.replicate_zero, List.cons_append, List.nil_append]
  refine wS (sT (sT (wN ?_)))
  obtain ⟨r1, k1, H⟩ := M.to_bnd.1 H
  have k1 := word_truth_l k1
  refine wS (sT ?_); refine sA (hq := Quiet.cv rfl get6 rfl) (ht := set7) (hk := ?_); refine sT ?_; refine sA (hq := Quiet.cv rfl (getS8 get0) rfl) (ht := (setS8 set1)) (hk := ?_); refine sT (sC k1 (sT (sT (sT (sT (wN ?_))))))
  obtain rfl := M.to_ok.1 H
  exact Awp.ret ⟨.inr rfl, _, _, Fin.cl rfl, rfl, rfl⟩
def word_operations_13 (a : Int) (bP1 : Int) : M (Int × Bool) := M.bnd (word_truth (decide (a < bP1))) fun r1 => M.ok (r1.1, r1.2)
set_option maxRecDepth 100000 in
set_option maxHeartbeats 4000000 in
theorem word_operations_13_l {a : Int} {bP1 : Int} {r : Int × Bool} (H : (word_operations_13 a bP1).to r) : Fn Tryz.prog 234 [.lit (.int .u32 a), .lit (.int .u32 bP1)] (.tup [.lit (.int .u32 r.1), .lit (.bool r.2)]) := by
  delta word_operations_13 at H
  try dsimp only at H
  refine Fn.of_awp2 Tryz.func234 rfl (by kernel_rfl) rfl Tryz.ntmps234 fun C hC => ?_
  simp only [List.length_cons, List.length_nil, Nat.reduceAdd, Nat.reduceSub, List.replicate_succ, List.replicate_zero, List.cons_append, List.nil_append]
  refine wS (sT (sT (wN ?_)))
  obtain ⟨r1, k1, H⟩ := M.to_bnd.1 H
  have k1 := word_truth_l k1
  refine wS (sT (sT (sT (sC k1 (sT (sT (sT (sT (wN ?_)))))))))
  obtain rfl := M.to_ok.1 H
  exact Awp.ret ⟨.inr rfl, _, _, Fin.cl rfl, rfl, rfl⟩
def word_operations_14 (a : Int) (bP1 : Int) : M (Int × Bool) := M.bnd (word_truth (a == bP1)) fun r1 => M.ok (r1.1, r1.2)
set_option maxRecDepth 100000 in
set_option maxHeartbeats 4000000 in
theorem word_operations_14_l {a : Int} {bP1 : Int} {r : Int × Bool} (H : (word_operations_14 a bP1).to r) : Fn Tryz.prog 235 [.lit (.int .u32 a), .lit (.int .u32 bP1)] (.tup [.lit (.int .u32 r.1), .lit (.bool r.2)]) := by
  delta word_operations_14 at H
  try dsimp only at H
  refine Fn.of_awp2 Tryz.func235 rfl (by kernel_rfl) rfl Tryz.ntmps235 fun C hC => ?_
  simp only [List.length_cons, List.length_nil, Nat.reduceAdd, Nat.reduceSub, List.replicate_succ, List.replicate_zero, List.cons_append, List.nil_append]
  refine wS (sT (sT (wN ?_)))
  obtain ⟨r1, k1, H⟩ := M.to_bnd.1 H
  have k1 := word_truth_l k1
  refine wS (sT (sT (sT (sC k1 (sT (sT (sT (sT (wN ?_)))))))))
  obtain rfl := M.to_ok.1 H
  exact Awp.ret ⟨.inr rfl, _, _, Fin.cl rfl, rfl, rfl⟩
end Mu
end
section
/-
  word.Do: some word, or none.
  Conditions: none.
-/
namespace Mu
open Go Go.RowKit Go.Proofs

theorem wrapWf (a : Int) : wfI .u32 (IntKind.u32.wrap a) := by
  have e : IntKind.u32.wrap a = a % 4294967296 := by simp [IntKind.wrap, IntKind.signed, IntKind.bits]
  rw [e]
  simp [wfI, Lit.wf, IntKind.min, IntKind.max, IntKind.signed, IntKind.bits]
  omega
theorem bitsWf (op : BinOp) (a b : Int) : wfI .u32 (bits op .u32 a b) := wrapWf _
/-- a known function, where it lies -/
def tFV (v : Value) : Ty Unit where
  size := 1
  bulk := fun _ => 1
  RS := fun _ _ cs _ => cs = [v] ∧ v.oneCell' = true
  len := by rintro _ _ _ _ ⟨rfl, _⟩; rfl
  keepS := fun h _ _ => h
instance inMuWord1 {v : Value} : EncOf (tFV v) fun _ => [.lit v] := ⟨fun w S h ψ cs d H => by
  obtain ⟨rfl, _⟩ := (show cs = [v] ∧ v.oneCell' = true from H)
  simp only [AV.relL, AV.rel]
  exact ⟨_, _, rfl, rfl, rfl⟩, fun w S cs d H u hu => by
  obtain ⟨rfl, h1⟩ := (show cs = [v] ∧ v.oneCell' = true from H)
  rw [List.mem_singleton.1 hu]
  exact h1, by show 0 < 1; decide⟩
theorem Parts0.litW {h : List ABlk} {v : Value} {cells : List Value} (e : v.cells.toList = cells) : Parts0 h (.lit v) (cells.map .lit) := fun C S ψ w u _ hv => by
  unfold AV.rel at hv
  subst hv
  rw [e]
  exact relL_lits cells
/-- what an operation answers -/
def WOk (f : FuncId) (l : List AV) (a b : Int) : Prop := ∃ w is, wfI .u32 w ∧ Fn Tryz.prog f ([.lit (.int .u32 a), .lit (.int .u32 b)] ++ l) (.tup [.lit (.int .u32 w), .lit (.bool is)])
section
variable {a b : Int}
theorem shiftOk (b : Int) : decide (0 ≤ bits .and .u32 b 31) = true := decide_eq_true (wf_u32 (bitsWf _ _ _)).1
theorem truth_to (c : Bool) : (word_truth c).to (if c then 1 else 0, true) := by
  cases c
  · exact M.f_to rfl (M.ok_to _)
  · exact M.t_to rfl (M.ok_to _)
theorem truthWf (c : Bool) : wfI .u32 (if c then 1 else 0) := by cases c <;> simp [wfI, Lit.wf, IntKind.min, IntKind.max, IntKind.signed, IntKind.bits]
theorem w1 : WOk 220 [] a b := ⟨_, _, wrapWf _, word_operations_1_l (M.ok_to _)⟩
theorem w2 : WOk 221 [] a b := ⟨_, _, wrapWf _, word_operations_2_l (M.ok_to _)⟩
theorem w3 : WOk 222 [] a b := ⟨_, _, wrapWf _, word_operations_3_l (M.ok_to _)⟩
theorem w6 : WOk 226 [] a b := ⟨bits .and .u32 a b, true, bitsWf .and a b, word_operations_6_l (M.ok_to _)⟩
theorem w7 : WOk 227 [] a b := ⟨bits .or .u32 a b, true, bitsWf .or a b, word_operations_7_l (M.ok_to _)⟩
theorem w8 : WOk 228 [] a b := ⟨bits .xor .u32 a b, true, bitsWf .xor a b, word_operations_8_l (M.ok_to _)⟩
theorem w9 : WOk 229 [] a b := ⟨_, _, wrapWf _, word_operations_9_l (M.chk_to (shiftOk b) (M.ok_to _))⟩
theorem shrWf (ha : wfI .u32 a) (k : Nat) : wfI .u32 (a / 2 ^ k) := by
  have h := wf_u32 ha
  have hp : (0 : Int) < 2 ^ k := Int.pow_pos (by decide)
  have h1 : 0 ≤ a / 2 ^ k := Int.ediv_nonneg h.1 (by omega)
  have h2 : a / 2 ^ k ≤ a := Int.ediv_le_self _ h.1
  simp [wfI, Lit.wf, IntKind.min, IntKind.max, IntKind.signed, IntKind.bits]
  omega
theorem w10 (ha : wfI .u32 a) : WOk 230 [] a b := ⟨_, _, shrWf ha _, word_operations_10_l (M.chk_to (shiftOk b) (M.ok_to _))⟩
theorem w11 : WOk 231 [] a b := ⟨_, _, wrapWf _, word_operations_11_l (M.chk_to (shiftOk b) (M.ok_to _))⟩
theorem w12 : WOk 232 [] a b := ⟨_, _, truthWf _, word_operations_12_l (M.bnd_to (truth_to _) (M.ok_to _))⟩
theorem w13 : WOk 234 [] a b := ⟨_, _, truthWf _, word_operations_13_l (M.bnd_to (truth_to _) (M.ok_to _))⟩
theorem w14 : WOk 235 [] a b := ⟨_, _, truthWf _, word_operations_14_l (M.bnd_to (truth_to _) (M.ok_to _))⟩
set_option maxRecDepth 100000 in
theorem signed1_zero {v : Value} : Fn Tryz.prog 249 [.lit (.int .u32 a), .lit (.int .u32 0), .bp (tFV v) () 0] (.tup [.lit (.int .u32 0), .lit (.bool false)]) := by
  refine Fn.of_awp2 Tryz.func249 rfl (by kernel_rfl) rfl Tryz.ntmps249 fun C hC => ?_
  simp only [List.length_cons, List.length_nil, Nat.reduceAdd, Nat.reduceSub, List.replicate_succ, List.replicate_zero, List.cons_append, List.nil_append]
  refine wR (hk := ?_)
  refine Awp.seq fun K2 h2 => ?_
  refine wS (sT (sT (wN ?_)))
  refine Awp.cond rfl (fun hb4 => ?_) (fun hb4 => ?_)
  · refine wR (hk := ?_)
    exact Awp.ret ⟨.inr rfl, _, _, Fin.cl rfl, rfl, rfl⟩
  · cases hb4
theorem sx_rng (a : Int) : -9223372036854775808 ≤ IntKind.i32.wrap a ∧ IntKind.i32.wrap a ≤ 9223372036854775807 := by
  have e : IntKind.i32.wrap a = if a % 4294967296 ≥ 2147483648 then a % 4294967296 - 4294967296 else a % 4294967296 := by simp [IntKind.wrap, IntKind.signed, IntKind.bits]
  rw [e]
  split <;> omega
theorem sx_ne (hb : wfI .u32 b) (h0 : b ≠ 0) : IntKind.i32.wrap b ≠ 0 := by
  have h := wf_u32 hb
  have e : IntKind.i32.wrap b = if b % 4294967296 ≥ 2147483648 then b % 4294967296 - 4294967296 else b % 4294967296 := by simp [IntKind.wrap, IntKind.signed, IntKind.bits]
  rw [e]
  split <;> omega
set_option maxRecDepth 100000 in
theorem signed1_some {g : FuncId} {F : Int → Int → Int} (hF : ∀ x y : Int, y ≠ 0 → Fn Tryz.prog g [.lit (.int .i64 x), .lit (.int .i64 y)] (.lit (.int .i64 (F x y)))) (hb : wfI .u32 b) (h0 : b ≠ 0) : ∃ w, wfI .u32 w ∧ Fn Tryz.prog 249 [.lit (.int .u32 a), .lit (.int .u32 b), .bp (tFV (.func (.func g) #[] #[])) () 0] (.tup [.lit (.int .u32 w), .lit (.bool true)]) := by
  have hs := sx_ne hb h0
  refine ⟨IntKind.u32.wrap (F (IntKind.i32.wrap a) (IntKind.i32.wrap b)), wrapWf _, ?_⟩
  refine Fn.of_awp2 Tryz.func249 rfl (by kernel_rfl) rfl Tryz.ntmps249 fun C hC => ?_
  simp only [List.length_cons, List.length_nil, Nat.reduceAdd, Nat.reduceSub, List.replicate_succ, List.replicate_zero, List.cons_append, List.nil_append]
  refine wR (hk := ?_)
  refine Awp.seq fun K2 h2 => ?_
  refine wS (sT (sT (wN ?_)))
  refine Awp.cond rfl (fun hb4 => ?_) (fun hb4 => ?_)
  · exact absurd (by simpa using hb4) h0
  · refine Awp.skip ?_
    refine h2 _ ?_
    refine nT (hk := ?_)
    refine wS ?_
    refine sH (Quiet.load1 (n := 1) (r := .lit (.func (.func g) #[] #[])) rfl (by kernel_rfl) rfl (CellsOf.bp (T := tFV (.func (.func g) #[] #[])) (d := ()) EncOf.ok) rfl) (sT ?_)
    refine sH (Quiet.cv rfl rfl rfl) ?_
    refine sH (Quiet.cv rfl rfl (IntWalk.i64_in _ (sx_rng a))) (sT ?_)
    refine sH (Quiet.cv rfl rfl rfl) ?_
    refine sH (Quiet.cv rfl rfl (IntWalk.i64_in _ (sx_rng b))) ?_
    refine sH (Quiet.callFV rfl rfl rfl (hF _ _ hs) rfl rfl) ?_
    refine sH (Quiet.cv rfl rfl rfl) (sT (sT (wN ?_)))
    exact Awp.ret ⟨.inr rfl, _, _, Fin.cl rfl, rfl, rfl⟩
set_option maxRecDepth 100000 in
theorem signed_fn {g : FuncId} : Fn Tryz.prog 223 [.lit (.func (.func g) #[] #[])] (.fn 249 [.bp (tFV (.func (.func g) #[] #[])) () 0]) := by
  refine Fn.of_awp Tryz.func223 rfl (by kernel_rfl) rfl Tryz.ntmps223 fun C hC => ?_
  simp only [List.length_cons, List.length_nil, Nat.reduceAdd, Nat.reduceSub, List.replicate_succ, List.replicate_zero, List.cons_append, List.nil_append]
  refine wS ?_
  refine aSeq_t rfl (AOp.boxI 0 rfl rfl (Parts0.litW (cells := [.func (.func g) #[] #[]]) rfl) ?_)
  refine sNt (hk := sT (wN ?_))
  refine Awp.via _ (St.le_fzBoxE hC 0 1 (T := tFV (.func (.func g) #[] #[])) (d := ()) rfl rfl rfl fun w S cs H => ?_) ?_
  · unfold AV.relL at H
    obtain ⟨v, vs, rfl, h1, h2⟩ := H
    unfold AV.rel at h1
    unfold AV.relL at h2
    subst h1 h2
    exact ⟨rfl, rfl⟩
  refine nT (hk := ?_)
  refine wS ?_
  refine sH (r := .fn 249 [.bp (tFV (.func (.func g) #[] #[])) () 0]) (Quiet.mkFn (cap := #[.tmp 1]) rfl) (sT (wN ?_))
  exact Awp.ret ⟨.inr rfl, Fin.cl rfl⟩
end
end Mu
end
section
/-
  word.Do: some word, or none, of any two words.
  Conditions: none.
-/
namespace Mu
open Go Go.RowKit Go.Proofs

theorem fill_arr1 {w : World} {S : Nat → Prop} {h : List ABlk} {ψ : Nat → Value} : ∀ (ps : List (Nat × AV)) (cs rs : List AV) (vs : List (Nat × Value)) (us : List Value), putCellsA cs ps = some rs → AV.relL w S h ψ cs us →
    vs.map (·.1) = ps.map (·.1) → (∀ (j : Nat) (p : Nat × AV) (v : Nat × Value), ps[j]? = some p → vs[j]? = some v → ∃ u, v.2.cells = #[u] ∧ AV.rel w S h ψ p.2 u) →
    ∃ us', Instr.fill (fun i => some (i * 1, 1)) us.toArray vs = some us'.toArray ∧ AV.relL w S h ψ rs us'
  | [], cs, rs, vs, us, hp, hr, hv, _ => by
    cases hp
    have : vs = [] := by simpa using hv
    subst this
    exact ⟨us, rfl, hr⟩
  | (j, x) :: ps, cs, rs, vs, us, hp, hr, hv, hrel => by
    cases vs with
    | nil => simp at hv
    | cons v vs =>
      simp only [List.map_cons, List.cons.injEq] at hv
      obtain ⟨hv1, hv2⟩ := hv
      unfold putCellsA at hp
      split at hp <;> try (cases hp; done)
      rename_i hoff
      obtain ⟨u, h2, h1⟩ := hrel 0 _ _ rfl rfl
      have hul := relL_len hr
      obtain ⟨us', h3, h4⟩ := fill_arr1 ps (cs.set j x) rs vs (us.set j u) hp (relL_set hr j h1) hv2 fun j p v hp hv => hrel (j + 1) p v (by simpa using hp) (by simpa using hv)
      refine ⟨us', ?_, h4⟩
      obtain ⟨i, v⟩ := v
      dsimp only at hv1 h1 h2 h3
      subst hv1
      unfold Instr.fill
      simp only [Nat.mul_one, h2]
      have hc : ¬ ((decide ((#[u] : Array Value).size ≠ 1) || decide (i + (#[u] : Array Value).size > us.toArray.size)) = true) := by
        simp
        omega
      rw [if_neg hc]
      simpa using h3
section
variable {P : Program} {C : Ctx} {t : List AV} {h : List ABlk} {o : Oper}
theorem One.fn {f : FuncId} {l : List AV} : One h (.fn f l) := fun C S ψ w u H hu => by
  unfold AV.rel at hu
  obtain ⟨cs, e, _⟩ := hu
  rw [e]
  rfl
/-- an array of structs of one cell -/
theorem Quiet.bldWs {ty : TypeId} {parts : Array (Nat × Operand)} {zs : List Value} {n : Nat} {rs : List AV} (xs : List (Nat × AV)) (ho : o.op = .build ty parts) (hz : zeroCells? P ty = some zs) (hs : arrOf P ty = some (n, 1))
    (hx : parts.toList.map (fun p => (p.1, evA t p.2)) = xs.map fun q => (q.1, .agg [q.2])) (hr : putCellsA (zs.map .lit) xs = some rs) : Quiet P C t h o (.agg rs) :=
  Quiet.of_run fun S ψ w ρ H hρ => by
    unfold zeroCells? at hz
    obtain ⟨z, hz1, rfl⟩ := Option.map_eq_some_iff.1 hz
    obtain ⟨i, hi, hz2⟩ := Option.bind_eq_some_iff.1 hz1
    unfold arrOf at hs
    split at hs <;> try (cases hs; done)
    rename_i n' e hu
    cases h2 : P.info? e with
    | none => rw [h2] at hs; cases hs
    | some ie =>
      rw [h2] at hs
      simp only [Option.map_some, Option.some.injEq, Prod.mk.injEq] at hs
      obtain ⟨rfl, he1⟩ := hs
      have hmem : ∀ p ∈ parts.toList, AV.rel w S h ψ (evA t p.2) (ρ p.2) := fun p hp => hρ p.2 (by rw [ho]; exact List.mem_toArray.2 (List.mem_map.2 ⟨p, hp, rfl⟩))
      obtain ⟨us', h3, h4⟩ := fill_arr1 (w := w) (S := S) (h := h) (ψ := ψ) _ _ rs (parts.toList.map fun p => (p.1, ρ p.2)) z.cells.toList hr (relL_lits _) (by
          have := congrArg (List.map (·.1)) hx
          rw [List.map_map, List.map_map] at this
          rw [List.map_map]
          exact this) fun j p v hp hv => by
        rw [List.getElem?_map] at hv
        obtain ⟨q, hq, rfl⟩ := Option.map_eq_some_iff.1 hv
        have e1 : (parts.toList.map fun p => (p.1, evA t p.2))[j]? = (xs.map fun q => (q.1, AV.agg [q.2]))[j]? := by rw [hx]
        rw [List.getElem?_map, List.getElem?_map, hq, hp] at e1
        have e2 := Option.some.inj e1
        have hq2 := hmem q (List.mem_of_getElem? hq)
        rw [show evA t q.2 = .agg [p.2] from (Prod.mk.inj e2).2] at hq2
        unfold AV.rel at hq2
        obtain ⟨cs, e3, hl⟩ := hq2
        unfold AV.relL at hl
        obtain ⟨u, us, rfl, h5, h6⟩ := hl
        unfold AV.relL at h6
        subst h6
        exact ⟨u, by rw [e3]; rfl, h5⟩
      refine ⟨.agg us'.toArray, ?_, by unfold AV.rel; exact ⟨us', rfl, h4⟩⟩
      have hf : Instr.fill (fun i => some (i * 1, 1)) z.cells (parts.map fun p => (p.1, ρ p.2)).toList = some us'.toArray := by simpa using h3
      simp only [execOp, ho, Instr.build, zeroValue, typeInfo, underlying, Go.sizeOf, Sem.run_bind, run_program, Result.andThen_ok, hi, hz2, Sem.run_pure, hu, h2, he1, hf]
/-- a struct of one cell -/
theorem Quiet.bldOne {x : AV} {ty : TypeId} {y : Operand} {z : Value} (ho : o.op = .build ty #[(0, y)]) (hz : zeroCells? P ty = some [z]) (hp : places? P ty = some [(0, 1)]) (hy : evA t y = x) (h1 : One h x) : Quiet P C t h o (.agg [x]) :=
  Quiet.build (rs := [x]) ho hz hp (by show putCells [(0, 1)] [.lit z] [(0, evA t y)] = some [x]; rw [hy]; rfl) fun p hp => by
    have hp : p ∈ [(0, y)] := hp
    rw [List.mem_singleton.1 hp, hy]
    exact h1
end
@[reducible] def wSg (g : FuncId) : AV := .fn 249 [.bp (tFV (.func (.func g) #[] #[])) () 0]
@[reducible] def wLt (g : FuncId) : AV := .lit (.func (.func g) #[] #[])
@[reducible] def wOps : List AV := [wLt 220, wLt 221, wLt 222, wSg 224, wSg 225, wLt 226, wLt 227, wLt 228, wLt 229, wLt 230, wLt 231, wLt 232, wLt 234, wLt 235]
theorem plWop : places? Tryz.prog 241 = some [(0, 1)] := by kernel_rfl
theorem zcWop : zeroCells? Tryz.prog 241 = some [.nilFunc] := by kernel_rfl
instance inMuWordO1 : ZC Tryz.prog 242 [.nilFunc, .nilFunc, .nilFunc, .nilFunc, .nilFunc, .nilFunc, .nilFunc, .nilFunc, .nilFunc, .nilFunc, .nilFunc, .nilFunc, .nilFunc, .nilFunc] := ⟨by kernel_rfl⟩
instance inMuWordO2 : SZ Tryz.prog 242 14 := ⟨by kernel_rfl⟩
instance inMuWordO3 {h : List ABlk} {f : FuncId} {l : List AV} : OneI h (.fn f l) := ⟨One.fn⟩
set_option maxRecDepth 100000 in
theorem wops_fn : Fn Tryz.prog 200 [] (.agg wOps) := by
  refine Fn.of_awpC Tryz.func200 rfl (by kernel_rfl) rfl (by kernel_rfl : aggT Tryz.prog 242 = some (true, 14)) Tryz.ntmps200 fun C hC => ?_
  simp only [List.length_cons, List.length_nil, Nat.reduceAdd, Nat.reduceSub, List.replicate_succ, List.replicate_zero, List.cons_append, List.nil_append]
  refine wS (sA0 (wN ?_))
  refine wS ?_
  refine sH (Quiet.bldOne (x := wLt 220) rfl zcWop plWop rfl (One.lit rfl)) ?_
  refine sH (Quiet.bldOne (x := wLt 221) rfl zcWop plWop rfl (One.lit rfl)) ?_
  refine sH (Quiet.bldOne (x := wLt 222) rfl zcWop plWop rfl (One.lit rfl)) ?_
  refine sC (signed_fn (g := 224)) ?_
  refine sH (Quiet.bldOne (x := wSg 224) rfl zcWop plWop rfl One.fn) ?_
  refine sC (signed_fn (g := 225)) ?_
  refine sH (Quiet.bldOne (x := wSg 225) rfl zcWop plWop rfl One.fn) ?_
  refine sH (Quiet.bldOne (x := wLt 226) rfl zcWop plWop rfl (One.lit rfl)) ?_
  refine sH (Quiet.bldOne (x := wLt 227) rfl zcWop plWop rfl (One.lit rfl)) ?_
  refine sH (Quiet.bldOne (x := wLt 228) rfl zcWop plWop rfl (One.lit rfl)) ?_
  refine sH (Quiet.bldOne (x := wLt 229) rfl zcWop plWop rfl (One.lit rfl)) ?_
  refine sH (Quiet.bldOne (x := wLt 230) rfl zcWop plWop rfl (One.lit rfl)) ?_
  refine sH (Quiet.bldOne (x := wLt 231) rfl zcWop plWop rfl (One.lit rfl)) ?_
  refine sH (Quiet.bldOne (x := wLt 232) rfl zcWop plWop rfl (One.lit rfl)) ?_
  refine sH (Quiet.bldOne (x := wLt 234) rfl zcWop plWop rfl (One.lit rfl)) ?_
  refine sH (Quiet.bldOne (x := wLt 235) rfl zcWop plWop rfl (One.lit rfl)) ?_
  refine sH (Quiet.bldWs (rs := wOps) (n := 14) (zs := List.replicate 14 .nilFunc) [(0, wLt 220), (1, wLt 221), (2, wLt 222), (3, wSg 224), (4, wSg 225), (5, wLt 226), (6, wLt 227), (7, wLt 228), (8, wLt 229), (9, wLt 230), (10, wLt 231), (11, wLt 232), (12, wLt 234), (13, wLt 235)] rfl (by kernel_rfl) (by kernel_rfl) rfl rfl) ?_
  refine sW (wN ?_)
  exact Awp.ret ⟨⟨.inr rfl, 0, wOps, rfl, rfl, Fin.cl rfl⟩, fun i cells h1 h2 => by cases h1; cases h2; rfl⟩
end Mu
end
section
/-
  word.Do: some word, or none, of any two words.
  Conditions: none.
-/
namespace Mu
open Go Go.RowKit Go.Proofs

instance inMuWordD1 : AG Tryz.prog 239 false 1 := ⟨by kernel_rfl⟩
instance inMuWordD2 : FO Tryz.prog 241 0 0 := ⟨by kernel_rfl⟩
section
variable {a b w : Int} {is : Bool}
set_option maxRecDepth 100000 in
theorem do0 (hF : Fn Tryz.prog 220 ([.lit (.int .u32 a), .lit (.int .u32 b)] ++ []) (.tup [.lit (.int .u32 w), .lit (.bool is)])) : Fn Tryz.prog 162 [.lit (.int .u8 0), .lit (.int .u32 a), .lit (.int .u32 b)] (.tup [.lit (.int .u32 w), .lit (.bool is)]) := by
  refine Fn.of_awp2 Tryz.func162 rfl (by kernel_rfl) rfl Tryz.ntmps162 fun C hC => ?_
  simp only [List.length_cons, List.length_nil, Nat.reduceAdd, Nat.reduceSub, List.replicate_succ, List.replicate_zero, List.cons_append, List.nil_append]
  refine wR (hk := ?_)
  refine wS (sC wops_fn (sA0 ?_))
  refine sW (wN ?_)
  refine Awp.seq fun K3 h3 => ?_
  refine wS (sT (sH (Quiet.cv (m := 0) rfl rfl rfl) (sT (wN ?_))))
  refine Awp.cond rfl (fun hb5 => ?_) (fun hb5 => ?_)
  · exact absurd hb5 (by decide)
  · refine Awp.skip ?_
    refine h3 _ ?_
    refine nT (hk := ?_)
    refine wS (sT ?_)
    refine sH (r := .ptr 0 0) (Quiet.ixArr (k := 0) (n := 14) (by kernel_rfl) rfl rfl rfl rfl (by omega)) (sT (sT (sT (sT ?_))))
    refine sH (Quiet.callFV rfl rfl rfl hF rfl rfl) (sT (sT (sT (sT (wN ?_)))))
    exact Awp.ret ⟨.inr rfl, _, _, Fin.cl rfl, rfl, rfl⟩
set_option maxRecDepth 100000 in
theorem do1 (hF : Fn Tryz.prog 221 ([.lit (.int .u32 a), .lit (.int .u32 b)] ++ []) (.tup [.lit (.int .u32 w), .lit (.bool is)])) : Fn Tryz.prog 162 [.lit (.int .u8 1), .lit (.int .u32 a), .lit (.int .u32 b)] (.tup [.lit (.int .u32 w), .lit (.bool is)]) := by
  refine Fn.of_awp2 Tryz.func162 rfl (by kernel_rfl) rfl Tryz.ntmps162 fun C hC => ?_
  simp only [List.length_cons, List.length_nil, Nat.reduceAdd, Nat.reduceSub, List.replicate_succ, List.replicate_zero, List.cons_append, List.nil_append]
  refine wR (hk := ?_)
  refine wS (sC wops_fn (sA0 ?_))
  refine sW (wN ?_)
  refine Awp.seq fun K3 h3 => ?_
  refine wS (sT (sH (Quiet.cv (m := 1) rfl rfl rfl) (sT (wN ?_))))
  refine Awp.cond rfl (fun hb5 => ?_) (fun hb5 => ?_)
  · exact absurd hb5 (by decide)
  · refine Awp.skip ?_
    refine h3 _ ?_
    refine nT (hk := ?_)
    refine wS (sT ?_)
    refine sH (r := .ptr 0 1) (Quiet.ixArr (k := 1) (n := 14) (by kernel_rfl) rfl rfl rfl rfl (by omega)) (sT (sT (sT (sT ?_))))
    refine sH (Quiet.callFV rfl rfl rfl hF rfl rfl) (sT (sT (sT (sT (wN ?_)))))
    exact Awp.ret ⟨.inr rfl, _, _, Fin.cl rfl, rfl, rfl⟩
set_option maxRecDepth 100000 in
theorem do2 (hF : Fn Tryz.prog 222 ([.lit (.int .u32 a), .lit (.int .u32 b)] ++ []) (.tup [.lit (.int .u32 w), .lit (.bool is)])) : Fn Tryz.prog 162 [.lit (.int .u8 2), .lit (.int .u32 a), .lit (.int .u32 b)] (.tup [.lit (.int .u32 w), .lit (.bool is)]) := by
  refine Fn.of_awp2 Tryz.func162 rfl (by kernel_rfl) rfl Tryz.ntmps162 fun C hC => ?_
  simp only [List.length_cons, List.length_nil, Nat.reduceAdd, Nat.reduceSub, List.replicate_succ, List.replicate_zero, List.cons_append, List.nil_append]
  refine wR (hk := ?_)
  refine wS (sC wops_fn (sA0 ?_))
  refine sW (wN ?_)
  refine Awp.seq fun K3 h3 => ?_
  refine wS (sT (sH (Quiet.cv (m := 2) rfl rfl rfl) (sT (wN ?_))))
  refine Awp.cond rfl (fun hb5 => ?_) (fun hb5 => ?_)
  · exact absurd hb5 (by decide)
  · refine Awp.skip ?_
    refine h3 _ ?_
    refine nT (hk := ?_)
    refine wS (sT ?_)
    refine sH (r := .ptr 0 2) (Quiet.ixArr (k := 2) (n := 14) (by kernel_rfl) rfl rfl rfl rfl (by omega)) (sT (sT (sT (sT ?_))))
    refine sH (Quiet.callFV rfl rfl rfl hF rfl rfl) (sT (sT (sT (sT (wN ?_)))))
    exact Awp.ret ⟨.inr rfl, _, _, Fin.cl rfl, rfl, rfl⟩
set_option maxRecDepth 100000 in
theorem do3 (hF : Fn Tryz.prog 249 ([.lit (.int .u32 a), .lit (.int .u32 b)] ++ [.bp (tFV (.func (.func 224) #[] #[])) () 0]) (.tup [.lit (.int .u32 w), .lit (.bool is)])) : Fn Tryz.prog 162 [.lit (.int .u8 3), .lit (.int .u32 a), .lit (.int .u32 b)] (.tup [.lit (.int .u32 w), .lit (.bool is)]) := by
  refine Fn.of_awp2 Tryz.func162 rfl (by kernel_rfl) rfl Tryz.ntmps162 fun C hC => ?_
  simp only [List.length_cons, List.length_nil, Nat.reduceAdd, Nat.reduceSub, List.replicate_succ, List.replicate_zero, List.cons_append, List.nil_append]
  refine wR (hk := ?_)
  refine wS (sC wops_fn (sA0 ?_))
  refine sW (wN ?_)
  refine Awp.seq fun K3 h3 => ?_
  refine wS (sT (sH (Quiet.cv (m := 3) rfl rfl rfl) (sT (wN ?_))))
  refine Awp.cond rfl (fun hb5 => ?_) (fun hb5 => ?_)
  · exact absurd hb5 (by decide)
  · refine Awp.skip ?_
    refine h3 _ ?_
    refine nT (hk := ?_)
    refine wS (sT ?_)
    refine sH (r := .ptr 0 3) (Quiet.ixArr (k := 3) (n := 14) (by kernel_rfl) rfl rfl rfl rfl (by omega)) (sT (sT (sT (sT ?_))))
    refine sH (Quiet.callFn rfl rfl rfl hF rfl rfl) (sT (sT (sT (sT (wN ?_)))))
    exact Awp.ret ⟨.inr rfl, _, _, Fin.cl rfl, rfl, rfl⟩
set_option maxRecDepth 100000 in
theorem do4 (hF : Fn Tryz.prog 249 ([.lit (.int .u32 a), .lit (.int .u32 b)] ++ [.bp (tFV (.func (.func 225) #[] #[])) () 0]) (.tup [.lit (.int .u32 w), .lit (.bool is)])) : Fn Tryz.prog 162 [.lit (.int .u8 4), .lit (.int .u32 a), .lit (.int .u32 b)] (.tup [.lit (.int .u32 w), .lit (.bool is)]) := by
  refine Fn.of_awp2 Tryz.func162 rfl (by kernel_rfl) rfl Tryz.ntmps162 fun C hC => ?_
  simp only [List.length_cons, List.length_nil, Nat.reduceAdd, Nat.reduceSub, List.replicate_succ, List.replicate_zero, List.cons_append, List.nil_append]
  refine wR (hk := ?_)
  refine wS (sC wops_fn (sA0 ?_))
  refine sW (wN ?_)
  refine Awp.seq fun K3 h3 => ?_
  refine wS (sT (sH (Quiet.cv (m := 4) rfl rfl rfl) (sT (wN ?_))))
  refine Awp.cond rfl (fun hb5 => ?_) (fun hb5 => ?_)
  · exact absurd hb5 (by decide)
  · refine Awp.skip ?_
    refine h3 _ ?_
    refine nT (hk := ?_)
    refine wS (sT ?_)
    refine sH (r := .ptr 0 4) (Quiet.ixArr (k := 4) (n := 14) (by kernel_rfl) rfl rfl rfl rfl (by omega)) (sT (sT (sT (sT ?_))))
    refine sH (Quiet.callFn rfl rfl rfl hF rfl rfl) (sT (sT (sT (sT (wN ?_)))))
    exact Awp.ret ⟨.inr rfl, _, _, Fin.cl rfl, rfl, rfl⟩
set_option maxRecDepth 100000 in
theorem do5 (hF : Fn Tryz.prog 226 ([.lit (.int .u32 a), .lit (.int .u32 b)] ++ []) (.tup [.lit (.int .u32 w), .lit (.bool is)])) : Fn Tryz.prog 162 [.lit (.int .u8 5), .lit (.int .u32 a), .lit (.int .u32 b)] (.tup [.lit (.int .u32 w), .lit (.bool is)]) := by
  refine Fn.of_awp2 Tryz.func162 rfl (by kernel_rfl) rfl Tryz.ntmps162 fun C hC => ?_
  simp only [List.length_cons, List.length_nil, Nat.reduceAdd, Nat.reduceSub, List.replicate_succ, List.replicate_zero, List.cons_append, List.nil_append]
  refine wR (hk := ?_)
  refine wS (sC wops_fn (sA0 ?_))
  refine sW (wN ?_)
  refine Awp.seq fun K3 h3 => ?_
  refine wS (sT (sH (Quiet.cv (m := 5) rfl rfl rfl) (sT (wN ?_))))
  refine Awp.cond rfl (fun hb5 => ?_) (fun hb5 => ?_)
  · exact absurd hb5 (by decide)
  · refine Awp.skip ?_
    refine h3 _ ?_
    refine nT (hk := ?_)
    refine wS (sT ?_)
    refine sH (r := .ptr 0 5) (Quiet.ixArr (k := 5) (n := 14) (by kernel_rfl) rfl rfl rfl rfl (by omega)) (sT (sT (sT (sT ?_))))
    refine sH (Quiet.callFV rfl rfl rfl hF rfl rfl) (sT (sT (sT (sT (wN ?_)))))
    exact Awp.ret ⟨.inr rfl, _, _, Fin.cl rfl, rfl, rfl⟩
set_option maxRecDepth 100000 in
theorem do6 (hF : Fn Tryz.prog 227 ([.lit (.int .u32 a), .lit (.int .u32 b)] ++ []) (.tup [.lit (.int .u32 w), .lit (.bool is)])) : Fn Tryz.prog 162 [.lit (.int .u8 6), .lit (.int .u32 a), .lit (.int .u32 b)] (.tup [.lit (.int .u32 w), .lit (.bool is)]) := by
  refine Fn.of_awp2 Tryz.func162 rfl (by kernel_rfl) rfl Tryz.ntmps162 fun C hC => ?_
  simp only [List.length_cons, List.length_nil, Nat.reduceAdd, Nat.reduceSub, List.replicate_succ, List.replicate_zero, List.cons_append, List.nil_append]
  refine wR (hk := ?_)
  refine wS (sC wops_fn (sA0 ?_))
  refine sW (wN ?_)
  refine Awp.seq fun K3 h3 => ?_
  refine wS (sT (sH (Quiet.cv (m := 6) rfl rfl rfl) (sT (wN ?_))))
  refine Awp.cond rfl (fun hb5 => ?_) (fun hb5 => ?_)
  · exact absurd hb5 (by decide)
  · refine Awp.skip ?_
    refine h3 _ ?_
    refine nT (hk := ?_)
    refine wS (sT ?_)
    refine sH (r := .ptr 0 6) (Quiet.ixArr (k := 6) (n := 14) (by kernel_rfl) rfl rfl rfl rfl (by omega)) (sT (sT (sT (sT ?_))))
    refine sH (Quiet.callFV rfl rfl rfl hF rfl rfl) (sT (sT (sT (sT (wN ?_)))))
    exact Awp.ret ⟨.inr rfl, _, _, Fin.cl rfl, rfl, rfl⟩
set_option maxRecDepth 100000 in
theorem do7 (hF : Fn Tryz.prog 228 ([.lit (.int .u32 a), .lit (.int .u32 b)] ++ []) (.tup [.lit (.int .u32 w), .lit (.bool is)])) : Fn Tryz.prog 162 [.lit (.int .u8 7), .lit (.int .u32 a), .lit (.int .u32 b)] (.tup [.lit (.int .u32 w), .lit (.bool is)]) := by
  refine Fn.of_awp2 Tryz.func162 rfl (by kernel_rfl) rfl Tryz.ntmps162 fun C hC => ?_
  simp only [List.length_cons, List.length_nil, Nat.reduceAdd, Nat.reduceSub, List.replicate_succ, List.replicate_zero, List.cons_append, List.nil_append]
  refine wR (hk := ?_)
  refine wS (sC wops_fn (sA0 ?_))
  refine sW (wN ?_)
  refine Awp.seq fun K3 h3 => ?_
  refine wS (sT (sH (Quiet.cv (m := 7) rfl rfl rfl) (sT (wN ?_))))
  refine Awp.cond rfl (fun hb5 => ?_) (fun hb5 => ?_)
  · exact absurd hb5 (by decide)
  · refine Awp.skip ?_
    refine h3 _ ?_
    refine nT (hk := ?_)
    refine wS (sT ?_)
    refine sH (r := .ptr 0 7) (Quiet.ixArr (k := 7) (n := 14) (by kernel_rfl) rfl rfl rfl rfl (by omega)) (sT (sT (sT (sT ?_))))
    refine sH (Quiet.callFV rfl rfl rfl hF rfl rfl) (sT (sT (sT (sT (wN ?_)))))
    exact Awp.ret ⟨.inr rfl, _, _, Fin.cl rfl, rfl, rfl⟩
set_option maxRecDepth 100000 in
theorem do8 (hF : Fn Tryz.prog 229 ([.lit (.int .u32 a), .lit (.int .u32 b)] ++ []) (.tup [.lit (.int .u32 w), .lit (.bool is)])) : Fn Tryz.prog 162 [.lit (.int .u8 8), .lit (.int .u32 a), .lit (.int .u32 b)] (.tup [.lit (.int .u32 w), .lit (.bool is)]) := by
  refine Fn.of_awp2 Tryz.func162 rfl (by kernel_rfl) rfl Tryz.ntmps162 fun C hC => ?_
  simp only [List.length_cons, List.length_nil, Nat.reduceAdd, Nat.reduceSub, List.replicate_succ, List.replicate_zero, List.cons_append, List.nil_append]
  refine wR (hk := ?_)
  refine wS (sC wops_fn (sA0 ?_))
  refine sW (wN ?_)
  refine Awp.seq fun K3 h3 => ?_
  refine wS (sT (sH (Quiet.cv (m := 8) rfl rfl rfl) (sT (wN ?_))))
  refine Awp.cond rfl (fun hb5 => ?_) (fun hb5 => ?_)
  · exact absurd hb5 (by decide)
  · refine Awp.skip ?_
    refine h3 _ ?_
    refine nT (hk := ?_)
    refine wS (sT ?_)
    refine sH (r := .ptr 0 8) (Quiet.ixArr (k := 8) (n := 14) (by kernel_rfl) rfl rfl rfl rfl (by omega)) (sT (sT (sT (sT ?_))))
    refine sH (Quiet.callFV rfl rfl rfl hF rfl rfl) (sT (sT (sT (sT (wN ?_)))))
    exact Awp.ret ⟨.inr rfl, _, _, Fin.cl rfl, rfl, rfl⟩
set_option maxRecDepth 100000 in
theorem do9 (hF : Fn Tryz.prog 230 ([.lit (.int .u32 a), .lit (.int .u32 b)] ++ []) (.tup [.lit (.int .u32 w), .lit (.bool is)])) : Fn Tryz.prog 162 [.lit (.int .u8 9), .lit (.int .u32 a), .lit (.int .u32 b)] (.tup [.lit (.int .u32 w), .lit (.bool is)]) := by
  refine Fn.of_awp2 Tryz.func162 rfl (by kernel_rfl) rfl Tryz.ntmps162 fun C hC => ?_
  simp only [List.length_cons, List.length_nil, Nat.reduceAdd, Nat.reduceSub, List.replicate_succ, List.replicate_zero, List.cons_append, List.nil_append]
  refine wR (hk := ?_)
  refine wS (sC wops_fn (sA0 ?_))
  refine sW (wN ?_)
  refine Awp.seq fun K3 h3 => ?_
  refine wS (sT (sH (Quiet.cv (m := 9) rfl rfl rfl) (sT (wN ?_))))
  refine Awp.cond rfl (fun hb5 => ?_) (fun hb5 => ?_)
  · exact absurd hb5 (by decide)
  · refine Awp.skip ?_
    refine h3 _ ?_
    refine nT (hk := ?_)
    refine wS (sT ?_)
    refine sH (r := .ptr 0 9) (Quiet.ixArr (k := 9) (n := 14) (by kernel_rfl) rfl rfl rfl rfl (by omega)) (sT (sT (sT (sT ?_))))
    refine sH (Quiet.callFV rfl rfl rfl hF rfl rfl) (sT (sT (sT (sT (wN ?_)))))
    exact Awp.ret ⟨.inr rfl, _, _, Fin.cl rfl, rfl, rfl⟩
set_option maxRecDepth 100000 in
theorem do10 (hF : Fn Tryz.prog 231 ([.lit (.int .u32 a), .lit (.int .u32 b)] ++ []) (.tup [.lit (.int .u32 w), .lit (.bool is)])) : Fn Tryz.prog 162 [.lit (.int .u8 10), .lit (.int .u32 a), .lit (.int .u32 b)] (.tup [.lit (.int .u32 w), .lit (.bool is)]) := by
  refine Fn.of_awp2 Tryz.func162 rfl (by kernel_rfl) rfl Tryz.ntmps162 fun C hC => ?_
  simp only [List.length_cons, List.length_nil, Nat.reduceAdd, Nat.reduceSub, List.replicate_succ, List.replicate_zero, List.cons_append, List.nil_append]
  refine wR (hk := ?_)
  refine wS (sC wops_fn (sA0 ?_))
  refine sW (wN ?_)
  refine Awp.seq fun K3 h3 => ?_
  refine wS (sT (sH (Quiet.cv (m := 10) rfl rfl rfl) (sT (wN ?_))))
  refine Awp.cond rfl (fun hb5 => ?_) (fun hb5 => ?_)
  · exact absurd hb5 (by decide)
  · refine Awp.skip ?_
    refine h3 _ ?_
    refine nT (hk := ?_)
    refine wS (sT ?_)
    refine sH (r := .ptr 0 10) (Quiet.ixArr (k := 10) (n := 14) (by kernel_rfl) rfl rfl rfl rfl (by omega)) (sT (sT (sT (sT ?_))))
    refine sH (Quiet.callFV rfl rfl rfl hF rfl rfl) (sT (sT (sT (sT (wN ?_)))))
    exact Awp.ret ⟨.inr rfl, _, _, Fin.cl rfl, rfl, rfl⟩
set_option maxRecDepth 100000 in
theorem do11 (hF : Fn Tryz.prog 232 ([.lit (.int .u32 a), .lit (.int .u32 b)] ++ []) (.tup [.lit (.int .u32 w), .lit (.bool is)])) : Fn Tryz.prog 162 [.lit (.int .u8 11), .lit (.int .u32 a), .lit (.int .u32 b)] (.tup [.lit (.int .u32 w), .lit (.bool is)]) := by
  refine Fn.of_awp2 Tryz.func162 rfl (by kernel_rfl) rfl Tryz.ntmps162 fun C hC => ?_
  simp only [List.length_cons, List.length_nil, Nat.reduceAdd, Nat.reduceSub, List.replicate_succ, List.replicate_zero, List.cons_append, List.nil_append]
  refine wR (hk := ?_)
  refine wS (sC wops_fn (sA0 ?_))
  refine sW (wN ?_)
  refine Awp.seq fun K3 h3 => ?_
  refine wS (sT (sH (Quiet.cv (m := 11) rfl rfl rfl) (sT (wN ?_))))
  refine Awp.cond rfl (fun hb5 => ?_) (fun hb5 => ?_)
  · exact absurd hb5 (by decide)
  · refine Awp.skip ?_
    refine h3 _ ?_
    refine nT (hk := ?_)
    refine wS (sT ?_)
    refine sH (r := .ptr 0 11) (Quiet.ixArr (k := 11) (n := 14) (by kernel_rfl) rfl rfl rfl rfl (by omega)) (sT (sT (sT (sT ?_))))
    refine sH (Quiet.callFV rfl rfl rfl hF rfl rfl) (sT (sT (sT (sT (wN ?_)))))
    exact Awp.ret ⟨.inr rfl, _, _, Fin.cl rfl, rfl, rfl⟩
set_option maxRecDepth 100000 in
theorem do12 (hF : Fn Tryz.prog 234 ([.lit (.int .u32 a), .lit (.int .u32 b)] ++ []) (.tup [.lit (.int .u32 w), .lit (.bool is)])) : Fn Tryz.prog 162 [.lit (.int .u8 12), .lit (.int .u32 a), .lit (.int .u32 b)] (.tup [.lit (.int .u32 w), .lit (.bool is)]) := by
  refine Fn.of_awp2 Tryz.func162 rfl (by kernel_rfl) rfl Tryz.ntmps162 fun C hC => ?_
  simp only [List.length_cons, List.length_nil, Nat.reduceAdd, Nat.reduceSub, List.replicate_succ, List.replicate_zero, List.cons_append, List.nil_append]
  refine wR (hk := ?_)
  refine wS (sC wops_fn (sA0 ?_))
  refine sW (wN ?_)
  refine Awp.seq fun K3 h3 => ?_
  refine wS (sT (sH (Quiet.cv (m := 12) rfl rfl rfl) (sT (wN ?_))))
  refine Awp.cond rfl (fun hb5 => ?_) (fun hb5 => ?_)
  · exact absurd hb5 (by decide)
  · refine Awp.skip ?_
    refine h3 _ ?_
    refine nT (hk := ?_)
    refine wS (sT ?_)
    refine sH (r := .ptr 0 12) (Quiet.ixArr (k := 12) (n := 14) (by kernel_rfl) rfl rfl rfl rfl (by omega)) (sT (sT (sT (sT ?_))))
    refine sH (Quiet.callFV rfl rfl rfl hF rfl rfl) (sT (sT (sT (sT (wN ?_)))))
    exact Awp.ret ⟨.inr rfl, _, _, Fin.cl rfl, rfl, rfl⟩
set_option maxRecDepth 100000 in
theorem do13 (hF : Fn Tryz.prog 235 ([.lit (.int .u32 a), .lit (.int .u32 b)] ++ []) (.tup [.lit (.int .u32 w), .lit (.bool is)])) : Fn Tryz.prog 162 [.lit (.int .u8 13), .lit (.int .u32 a), .lit (.int .u32 b)] (.tup [.lit (.int .u32 w), .lit (.bool is)]) := by
  refine Fn.of_awp2 Tryz.func162 rfl (by kernel_rfl) rfl Tryz.ntmps162 fun C hC => ?_
  simp only [List.length_cons, List.length_nil, Nat.reduceAdd, Nat.reduceSub, List.replicate_succ, List.replicate_zero, List.cons_append, List.nil_append]
  refine wR (hk := ?_)
  refine wS (sC wops_fn (sA0 ?_))
  refine sW (wN ?_)
  refine Awp.seq fun K3 h3 => ?_
  refine wS (sT (sH (Quiet.cv (m := 13) rfl rfl rfl) (sT (wN ?_))))
  refine Awp.cond rfl (fun hb5 => ?_) (fun hb5 => ?_)
  · exact absurd hb5 (by decide)
  · refine Awp.skip ?_
    refine h3 _ ?_
    refine nT (hk := ?_)
    refine wS (sT ?_)
    refine sH (r := .ptr 0 13) (Quiet.ixArr (k := 13) (n := 14) (by kernel_rfl) rfl rfl rfl rfl (by omega)) (sT (sT (sT (sT ?_))))
    refine sH (Quiet.callFV rfl rfl rfl hF rfl rfl) (sT (sT (sT (sT (wN ?_)))))
    exact Awp.ret ⟨.inr rfl, _, _, Fin.cl rfl, rfl, rfl⟩
set_option maxRecDepth 100000 in
theorem doBig {n : Int} (hn : 14 ≤ n) (hn2 : n ≤ 255) : Fn Tryz.prog 162 [.lit (.int .u8 n), .lit (.int .u32 a), .lit (.int .u32 b)] (.tup [.lit (.int .u32 0), .lit (.bool false)]) := by
  refine Fn.of_awp2 Tryz.func162 rfl (by kernel_rfl) rfl Tryz.ntmps162 fun C hC => ?_
  simp only [List.length_cons, List.length_nil, Nat.reduceAdd, Nat.reduceSub, List.replicate_succ, List.replicate_zero, List.cons_append, List.nil_append]
  refine wR (hk := ?_)
  refine wS (sC wops_fn (sA0 ?_))
  refine sW (wN ?_)
  refine Awp.seq fun K3 h3 => ?_
  refine wS (sT (sH (Quiet.cv (m := n) rfl rfl (IntWalk.i64_in _ (by omega))) (sT (wN ?_))))
  refine Awp.cond rfl (fun hb5 => ?_) (fun hb5 => ?_)
  · refine wR (hk := ?_)
    exact Awp.ret ⟨.inr rfl, _, _, Fin.cl rfl, rfl, rfl⟩
  · exact absurd (of_decide_eq_false hb5) (by omega)
theorem tdivOk (x y : Int) (hy : y ≠ 0) : Fn Tryz.prog 224 [.lit (.int .i64 x), .lit (.int .i64 y)] (.lit (.int .i64 (IntKind.i64.wrap (Int.tdiv x y)))) := word_operations_4_l (M.chk_to (by simpa using hy) (M.ok_to _))
theorem tmodOk (x y : Int) (hy : y ≠ 0) : Fn Tryz.prog 225 [.lit (.int .i64 x), .lit (.int .i64 y)] (.lit (.int .i64 (Int.tmod x y))) := word_operations_5_l (M.chk_to (by simpa using hy) (M.ok_to _))
theorem wSg_ok {g : FuncId} {F : Int → Int → Int} (hF : ∀ x y : Int, y ≠ 0 → Fn Tryz.prog g [.lit (.int .i64 x), .lit (.int .i64 y)] (.lit (.int .i64 (F x y)))) (hb : wfI .u32 b) : WOk 249 [.bp (tFV (.func (.func g) #[] #[])) () 0] a b := by
  by_cases h0 : b = 0
  · subst h0
    exact ⟨0, false, hb, signed1_zero⟩
  · obtain ⟨w, h1, h2⟩ := signed1_some (a := a) hF hb h0
    exact ⟨w, true, h1, h2⟩
/-- some word, or none -/
theorem do_any (n : Int) (h0 : 0 ≤ n) (h1 : n ≤ 255) (ha : wfI .u32 a) (hb : wfI .u32 b) : ∃ w is, wfI .u32 w ∧ Fn Tryz.prog 162 [.lit (.int .u8 n), .lit (.int .u32 a), .lit (.int .u32 b)] (.tup [.lit (.int .u32 w), .lit (.bool is)]) := by
  have hc : n = 0 ∨ n = 1 ∨ n = 2 ∨ n = 3 ∨ n = 4 ∨ n = 5 ∨ n = 6 ∨ n = 7 ∨ n = 8 ∨ n = 9 ∨ n = 10 ∨ n = 11 ∨ n = 12 ∨ n = 13 ∨ 14 ≤ n := by omega
  rcases hc with rfl | rfl | rfl | rfl | rfl | rfl | rfl | rfl | rfl | rfl | rfl | rfl | rfl | rfl | h
  · obtain ⟨w, is, hw, hF⟩ := w1 (a := a) (b := b)
    exact ⟨w, is, hw, do0 hF⟩
  · obtain ⟨w, is, hw, hF⟩ := w2 (a := a) (b := b)
    exact ⟨w, is, hw, do1 hF⟩
  · obtain ⟨w, is, hw, hF⟩ := w3 (a := a) (b := b)
    exact ⟨w, is, hw, do2 hF⟩
  · obtain ⟨w, is, hw, hF⟩ := wSg_ok (a := a) tdivOk hb
    exact ⟨w, is, hw, do3 hF⟩
  · obtain ⟨w, is, hw, hF⟩ := wSg_ok (a := a) tmodOk hb
    exact ⟨w, is, hw, do4 hF⟩
  · obtain ⟨w, is, hw, hF⟩ := w6 (a := a) (b := b)
    exact ⟨w, is, hw, do5 hF⟩
  · obtain ⟨w, is, hw, hF⟩ := w7 (a := a) (b := b)
    exact ⟨w, is, hw, do6 hF⟩
  · obtain ⟨w, is, hw, hF⟩ := w8 (a := a) (b := b)
    exact ⟨w, is, hw, do7 hF⟩
  · obtain ⟨w, is, hw, hF⟩ := w9 (a := a) (b := b)
    exact ⟨w, is, hw, do8 hF⟩
  · obtain ⟨w, is, hw, hF⟩ := w10 (b := b) ha
    exact ⟨w, is, hw, do9 hF⟩
  · obtain ⟨w, is, hw, hF⟩ := w11 (a := a) (b := b)
    exact ⟨w, is, hw, do10 hF⟩
  · obtain ⟨w, is, hw, hF⟩ := w12 (a := a) (b := b)
    exact ⟨w, is, hw, do11 hF⟩
  · obtain ⟨w, is, hw, hF⟩ := w13 (a := a) (b := b)
    exact ⟨w, is, hw, do12 hF⟩
  · obtain ⟨w, is, hw, hF⟩ := w14 (a := a) (b := b)
    exact ⟨w, is, hw, do13 hF⟩
  · exact ⟨0, false, by simp [wfI, Lit.wf, IntKind.min, IntKind.max, IntKind.signed, IntKind.bits], doBig h h1⟩
open Classical in
/-- what word.Do makes -/
noncomputable def dwF (n a b : Int) : Option Int := if h : 0 ≤ n ∧ n ≤ 255 ∧ wfI .u32 a ∧ wfI .u32 b then (if (Classical.choose_spec (do_any (a := a) (b := b) n h.1 h.2.1 h.2.2.1 h.2.2.2)).choose then some (Classical.choose (do_any (a := a) (b := b) n h.1 h.2.1 h.2.2.1 h.2.2.2)) else none) else none
theorem dwF_ok (n a b : Int) (h0 : 0 ≤ n) (h1 : n ≤ 255) (ha : wfI .u32 a) (hb : wfI .u32 b) : ∃ w is, wfI .u32 w ∧ Fn Tryz.prog 162 [.lit (.int .u8 n), .lit (.int .u32 a), .lit (.int .u32 b)] (.tup [.lit (.int .u32 w), .lit (.bool is)]) ∧ dwF n a b = if is then some w else none := by
  have h : 0 ≤ n ∧ n ≤ 255 ∧ wfI .u32 a ∧ wfI .u32 b := ⟨h0, h1, ha, hb⟩
  have hs := (Classical.choose_spec (do_any (a := a) (b := b) n h.1 h.2.1 h.2.2.1 h.2.2.2)).choose_spec
  refine ⟨_, _, hs.1, hs.2, ?_⟩
  unfold dwF
  rw [dif_pos h]
end
end Mu
end
section
/-
  Known rows of one's own that are from now on only read, also where another row leads to them.
  Conditions: none; generic.
-/
namespace Mu
open Go Go.RowKit Go.Proofs

section
variable {P : Program} {C : Ctx} {t : List AV} {h : List ABlk} {α : Type} {T : Ty α} {l : List α}
theorem St.le_fzRV (hC : C.std) (i j : Nat) {e : TypeId} {v : Value} (hi : h[i]? = some (.res (rowR v e T l))) (hj : t[j]? = some (.lit v)) : St.le C ⟨t, h⟩ ⟨t.set j (.bs T l), h.set i .dead⟩ :=
  St.le_fzG i j hi rfl rfl hj (fz_std hC hi rfl) fun S ψ w u H hr => by
    obtain ⟨_, hR0⟩ := H.blk i _ hi
    unfold AV.rel at hr ⊢
    rw [hr]
    obtain ⟨cells, k1, k0, k2⟩ := hR0
    exact own_slice k1 (fun i d hd => Ty.keepS _ (k2 i d hd) (fun _ _ => rfl) fun _ h => .inl h) fun g hg => .inr (ownBlock_blkOf hg)
/-- a memory lets go of blocks: they are from now on only read -/
theorem St.le_release (hC : C.std) (i : Nat) {A A' : Res} (hi : h[i]? = some (.res A)) (hm : A.mrk = []) (hm' : A'.mrk = []) (hF : ∀ g, A'.F g → A.F g) (hR : ∀ w S, A.R w S → A'.R w (fun k => S k ∨ (A.F k ∧ ¬ A'.F k))) : St.le C ⟨t, h⟩ ⟨t, h.set i (.res A')⟩ := fun a w ⟨hd, S, ψ, H, hl⟩ => by
  have hB := H.blk i _ hi
  have hil := (List.getElem?_eq_some_iff.1 hi).1
  have X1 : Ext w S h ψ w S (h.set i (.res (Res.raw A'.F))) (ψset ψ i (ψ i)) := Ext.set (fun _ _ => rfl) hi (fun c' hc => by simp [ABlk.ver] at hc) fun h => by simp [ABlk.isBox] at h
  have H1 := H.set (b' := .res (Res.raw A'.F)) (v' := ψ i) hi rfl ⟨rfl, rfl, rfl, Nat.le_refl _, fun _ _ _ => rfl⟩ X1 ⟨fun g hg => hB.1 g (hF g hg), trivial⟩ fun g hg => .inl (hF g hg)
  rw [ψset_id] at H1 X1
  obtain ⟨S', hS'⟩ : ∃ S' : Nat → Prop, S' = fun k => S k ∨ (A.F k ∧ ¬ A'.F k) := ⟨_, rfl⟩
  have hown : ∀ k, S' k → ¬ owns (h.set i (.res (Res.raw A'.F))) ψ k := fun k hk ⟨j, hj1, hj2⟩ => by
    rw [hS'] at hk
    by_cases hji : j = i
    · subst hji
      rw [List.getElem?_set_self hil] at hj2
      rcases hk with hk | hk
      · exact (hB.1 k (hF k hj2)).2.1 hk
      · exact hk.2 hj2
    · rw [List.getElem?_set_ne (Ne.symm hji)] at hj1 hj2
      rcases hk with hk | hk
      · exact (H.own_lt ⟨j, hj1, hj2⟩).2.2 hk
      · exact H.dis i j (Ne.symm hji) (by rw [hi]; rfl) hj1 k (by rw [hi]; exact hk.1) hj2
  have H2 : HRel C (h.set i (.res (Res.raw A'.F))) S' ψ w := H1.wide (fun k hk => by rw [hS']; exact .inl hk) (fun k hk => by
    rw [hS'] at hk
    rcases hk with hk | hk
    · exact .inl hk
    · exact .inr (Nat.le_of_not_lt fun hlt => (hB.1 k hk.1).1 (hC k hlt))) fun k hk => ⟨by
    rw [hS'] at hk
    rcases hk with hk | hk
    · exact H.lt k hk
    · exact (hB.1 k hk.1).2.2, hown k hk⟩
  have X2 : Ext w S (h.set i (.res (Res.raw A'.F))) ψ w S' (h.set i (.res (Res.raw A'.F))) ψ := Ext.grow _ _ (fun _ _ => rfl) fun k hk => by rw [hS']; exact .inl hk
  have hi2 : (h.set i (.res (Res.raw A'.F)))[i]? = some (.res (Res.raw A'.F)) := List.getElem?_set_self hil
  have X3 : Ext w S' (h.set i (.res (Res.raw A'.F))) ψ w S' ((h.set i (.res (Res.raw A'.F))).set i (.res A')) (ψset ψ i (ψ i)) := Ext.set (fun _ _ => rfl) hi2 (fun c' hc => by simp [ABlk.ver] at hc) fun h => by simp [ABlk.isBox] at h
  have H3 := H2.set (b' := .res A') (v' := ψ i) hi2 rfl ⟨rfl, rfl, rfl, Nat.le_refl _, fun _ _ _ => rfl⟩ X3 ⟨fun g hg => (H2.blk i _ hi2).1 g hg, by rw [hS']; exact hR w S hB.2⟩ fun g hg => .inl hg
  rw [ψset_id] at H3 X3
  rw [List.set_set] at H3 X3
  refine ⟨by rw [hd]; exact (mkD_set hi (by show A'.mrk.map mark = A.mrk.map mark; rw [hm, hm'])).symm, S', ψ, H3, AV.relL_ext X3 _ _ (AV.relL_ext X2 _ _ (AV.relL_ext X1 _ _ hl))⟩
end
section
variable {P : Program} {C : Ctx} {t : List AV} {h : List ABlk} {α : Type} {T : Ty α} {l : List α}
/-- an inner row is from now on only read: the cell that leads to it says so -/
theorem St.le_fzCell (hC : C.std) (i j k c : Nat) {m : Nat} {vo vi : Value} {eo ei : TypeId} {L : List (List Cl)} {row : List Cl} (hij : i ≠ j) (hi : h[i]? = some (.res (rowR vo eo (tCl m) L))) (hj : h[j]? = some (.res (rowR vi ei T l))) (hk : L[k]? = some row) (hc : row[c]? = some (.v vi)) (y : Cl) (hy : y.av = .bs T l) : St.le C ⟨t, h⟩ ⟨t, (h.set j .dead).set i (.res (rowR vo eo (tCl m) (L.set k (row.set c y))))⟩ := by
  have hil := (List.getElem?_eq_some_iff.1 hi).1
  have h2 := St.le_release (t := t) (A' := rowR vo eo (tCl m) (L.set k (row.set c y))) hC i (List.getElem?_set_self (l := h.set j .dead) (i := i) (a := .res (.all [rowR vo eo (tCl m) L, rowR vi ei T l])) (by rw [List.length_set]; exact hil)) rfl rfl (fun g hg => ⟨_, List.mem_cons_self .., hg⟩) fun w S ⟨hall, hdis⟩ => by
    obtain ⟨cells, k1, k0, k2⟩ := hall _ (List.mem_cons_self ..)
    obtain ⟨ci, i1, i0, i2⟩ := hall (rowR vi ei T l) (by simp)
    refine ⟨cells, by rw [List.length_set]; exact k1, k0, fun a d hd => ?_⟩
    by_cases hak : k = a
    · subst hak
      rw [List.getElem?_set_self (List.getElem?_eq_some_iff.1 hk).1] at hd
      cases hd
      obtain ⟨e1, e2, e3⟩ := k2 k row hk
      refine ⟨by rw [List.length_set]; exact e1, ?_, e3⟩
      rw [List.map_set, hy]
      obtain ⟨u, hu, hr⟩ := relL_get e2 (by rw [List.getElem?_map, hc]; rfl : (row.map Cl.av)[c]? = some (.lit vi))
      unfold AV.rel at hr
      rw [hr] at hu
      refine relL_keep (AV.relL_ext (Ext.grow [] ψ0 (fun _ _ => rfl) fun _ h => .inl h) _ _ e2) hu ?_
      unfold AV.rel
      exact own_slice i1 (fun i d hd => Ty.keepS _ (i2 i d hd) (fun _ _ => rfl) fun _ h => .inl h) fun g hg => .inr ⟨⟨rowR vi ei T l, by simp, ownBlock_blkOf hg⟩, fun hf => hdis 0 1 _ _ (by decide) rfl rfl g hf (ownBlock_blkOf hg)⟩
    · rw [List.getElem?_set_ne hak] at hd
      exact (tCl m).keepS (k2 a d hd) (fun _ _ => rfl) fun _ h => .inl h
  rw [List.set_set] at h2
  exact St.le.trans (St.le_twoJ i j hij hi hj rfl rfl) h2
/-- rows of structs as rows of cells -/
theorem St.le_toCl (i : Nat) {m : Nat} {v : Value} {e : TypeId} {enc : α → List AV} [EncOf T enc] (cl : α → List Cl) (hsz : T.size = m + 1) (hcl : ∀ d, (cl d).map Cl.av = enc d) (hlen : ∀ d, (cl d).length = m + 1) (hi : h[i]? = some (.res (rowR v e T l))) : St.le C ⟨t, h⟩ ⟨t, h.set i (.res (rowR v e (tCl m) (l.map cl)))⟩ :=
  St.le_res hi (fun g hg => hg) (fun w S ⟨cells, k1, k0, k2⟩ => ⟨cells, by rw [List.length_map]; rw [hsz] at k1; exact k1, Nat.succ_pos m, fun a d hd => by
    rw [List.getElem?_map] at hd
    obtain ⟨d0, hd0, rfl⟩ := Option.map_eq_some_iff.1 hd
    have h1 := k2 a d0 hd0
    rw [hsz] at h1
    exact ⟨hlen d0, by rw [hcl]; exact EncOf.ok w S [] ψ0 _ d0 h1, EncOf.one w S _ d0 h1⟩⟩) rfl
theorem St.le_ofCl (i : Nat) {m : Nat} {v : Value} {e : TypeId} (cl : α → List Cl) (hsz : T.size = m + 1) (hput : ∀ d ∈ l, ∀ (w : World) (S : Nat → Prop) (cs : List Value), AV.relL w S [] ψ0 ((cl d).map Cl.av) cs → T.RS w S cs d) (hi : h[i]? = some (.res (rowR v e (tCl m) (l.map cl)))) : St.le C ⟨t, h⟩ ⟨t, h.set i (.res (rowR v e T l))⟩ :=
  St.le_res hi (fun g hg => hg) (fun w S ⟨cells, k1, k0, k2⟩ => ⟨cells, by rw [List.length_map] at k1; rw [hsz]; exact k1, by rw [hsz]; exact Nat.succ_pos m, fun a d hd => by
    obtain ⟨_, h2, _⟩ := k2 a (cl d) (by rw [List.getElem?_map, hd]; rfl)
    rw [hsz]
    exact hput d (List.mem_of_getElem? hd) w S _ h2⟩) rfl
end
end Mu
end
section
/-
  flat.copied: a program of its own memory.
  Conditions: rows that memory has room for.
-/
namespace Mu
open Go Go.RowKit Go.Proofs

theorem St.le_nilBs {C : Ctx} {t : List AV} {h : List ABlk} (j : Nat) {α : Type} (T : Ty α) (hj : t[j]? = some (.lit (.slice none 0 0))) : St.le C ⟨t, h⟩ ⟨t.set j (.bs T []), h⟩ := fun a w ⟨hd, S, ψ, H, hl⟩ => by
  obtain ⟨v, hv, hr⟩ := relL_get hl hj
  refine ⟨hd, S, ψ, H, relL_keep hl hv ?_⟩
  unfold AV.rel at hr ⊢
  subst hr
  exact T.slice_nilS _ _
theorem Fn.nilOr {P : Program} {f : FuncId} {α : Type} {T : Ty α} {l : List α} {rest : List AV} {r : AV} (hE : Enters P f = true) (hN : l = [] → Fn P f (.lit (.slice none 0 0) :: rest) r) (hP : Fn P f (.tv T.sliceP l :: rest) r) : Fn P f (.bs T l :: rest) r := ⟨hE, fun w S vs a hr => by
  unfold AV.relL at hr
  obtain ⟨v, us, rfl, h1, h2⟩ := hr
  have h1' := h1
  unfold AV.rel at h1
  obtain ⟨A, cc, rfl⟩ := slice_form h1
  cases A with
  | none =>
    obtain ⟨e1, e2, e3⟩ := slice_nil_at h1
    refine (hN e1).2 w S _ a ?_
    unfold AV.relL
    exact ⟨_, _, rfl, by unfold AV.rel; rw [e2, e3], h2⟩
  | some ad =>
    refine hP.2 w S _ a ?_
    unfold AV.relL
    exact ⟨_, _, rfl, by unfold AV.rel; exact ⟨h1, fun e => by cases e⟩, h2⟩⟩
section
variable {l : List Int}
set_option maxRecDepth 100000 in
theorem cloneFN_int : Fn Tryz.prog 95 [.lit (.slice none 0 0)] (.bs tInt []) := by
  refine Fn.of_awp Tryz.func95 rfl (by kernel_rfl) rfl Tryz.ntmps95 fun C hC => ?_
  simp only [List.length_cons, List.length_nil, Nat.reduceAdd, Nat.reduceSub, List.replicate_succ, List.replicate_zero, List.cons_append, List.nil_append]
  refine wR (hk := ?_)
  refine Awp.seq fun K2 h2 => ?_
  refine wS (sT (sH (Quiet.eqNilN rfl rfl rfl) (wN ?_)))
  refine Awp.cond rfl (fun hb4 => ?_) (fun hb4 => ?_)
  · refine wR (hk := ?_)
    refine Awp.via _ (St.le_nilBs 2 tInt rfl) ?_
    refine nT (hk := ?_)
    exact Awp.ret ⟨.inr rfl, Fin.cl rfl⟩
  · cases hb4
set_option maxRecDepth 100000 in
theorem cloneFP_int (hl : l.length ≤ 1073741824) : Fn Tryz.prog 95 [.tv (Ty.sliceP tInt) l] (.bs tInt l) := by
  refine Fn.of_awp Tryz.func95 rfl (by kernel_rfl) rfl Tryz.ntmps95 fun C hC => ?_
  simp only [List.length_cons, List.length_nil, Nat.reduceAdd, Nat.reduceSub, List.replicate_succ, List.replicate_zero, List.cons_append, List.nil_append]
  refine wR (hk := ?_)
  refine Awp.seq fun K2 h2 => ?_
  refine wS (sT (sH (Quiet.eqNilP rfl rfl rfl) (wN ?_)))
  refine Awp.cond rfl (fun hb4 => ?_) (fun hb4 => ?_)
  · cases hb4
  · refine Awp.skip ?_
    refine h2 _ ?_
    refine nT (hk := ?_)
    refine Awp.via _ (St.le_ofP 0 rfl) ?_
    refine nT (hk := ?_)
    refine wS ?_
    refine aSeq_t rfl (AOp.litE (T := tInt) rfl (by decide) fun g => ?_)
    refine sNt (hk := sT ?_)
    refine aSeq_t rfl (AOp.appendQ (i := 0) (l := []) (bytes := 8) (T := tInt) rfl (by kernel_rfl) rfl rfl rfl EncOf.one (by unfold maxLen; simp; omega) (by simp; omega) fun g' c' => ?_)
    refine sNt (hk := sT (wN ?_))
    refine Awp.via _ (St.le_fzRV hC 0 2 rfl rfl) ?_
    refine nT (hk := ?_)
    exact Awp.ret ⟨.inr rfl, Fin.cl rfl⟩
set_option maxRecDepth 100000 in
theorem cloneF_int (hl : l.length ≤ 1073741824) : Fn Tryz.prog 95 [.bs tInt l] (.bs tInt l) := Fn.nilOr rfl (fun h => by subst h; exact cloneFN_int) (cloneFP_int hl)
end
section
variable {l : List Int}
set_option maxRecDepth 100000 in
theorem cloneFN_word : Fn Tryz.prog 41 [.lit (.slice none 0 0)] (.bs (Ty.int .u32) []) := by
  refine Fn.of_awp Tryz.func41 rfl (by kernel_rfl) rfl Tryz.ntmps41 fun C hC => ?_
  simp only [List.length_cons, List.length_nil, Nat.reduceAdd, Nat.reduceSub, List.replicate_succ, List.replicate_zero, List.cons_append, List.nil_append]
  refine wR (hk := ?_)
  refine Awp.seq fun K2 h2 => ?_
  refine wS (sT (sH (Quiet.eqNilN rfl rfl rfl) (wN ?_)))
  refine Awp.cond rfl (fun hb4 => ?_) (fun hb4 => ?_)
  · refine wR (hk := ?_)
    refine Awp.via _ (St.le_nilBs 2 (Ty.int .u32) rfl) ?_
    refine nT (hk := ?_)
    exact Awp.ret ⟨.inr rfl, Fin.cl rfl⟩
  · cases hb4
set_option maxRecDepth 100000 in
theorem cloneFP_word (hl : l.length ≤ 1073741824) : Fn Tryz.prog 41 [.tv (Ty.sliceP (Ty.int .u32)) l] (.bs (Ty.int .u32) l) := by
  refine Fn.of_awp Tryz.func41 rfl (by kernel_rfl) rfl Tryz.ntmps41 fun C hC => ?_
  simp only [List.length_cons, List.length_nil, Nat.reduceAdd, Nat.reduceSub, List.replicate_succ, List.replicate_zero, List.cons_append, List.nil_append]
  refine wR (hk := ?_)
  refine Awp.seq fun K2 h2 => ?_
  refine wS (sT (sH (Quiet.eqNilP rfl rfl rfl) (wN ?_)))
  refine Awp.cond rfl (fun hb4 => ?_) (fun hb4 => ?_)
  · cases hb4
  · refine Awp.skip ?_
    refine h2 _ ?_
    refine nT (hk := ?_)
    refine Awp.via _ (St.le_ofP 0 rfl) ?_
    refine nT (hk := ?_)
    refine wS ?_
    refine aSeq_t rfl (AOp.litE (T := (Ty.int .u32)) rfl (by decide) fun g => ?_)
    refine sNt (hk := sT ?_)
    refine aSeq_t rfl (AOp.appendQ (i := 0) (l := []) (bytes := 4) (T := (Ty.int .u32)) rfl (by kernel_rfl) rfl rfl rfl EncOf.one (by unfold maxLen; simp; omega) (by simp; omega) fun g' c' => ?_)
    refine sNt (hk := sT (wN ?_))
    refine Awp.via _ (St.le_fzRV hC 0 2 rfl rfl) ?_
    refine nT (hk := ?_)
    exact Awp.ret ⟨.inr rfl, Fin.cl rfl⟩
set_option maxRecDepth 100000 in
theorem cloneF_word (hl : l.length ≤ 1073741824) : Fn Tryz.prog 41 [.bs (Ty.int .u32) l] (.bs (Ty.int .u32) l) := Fn.nilOr rfl (fun h => by subst h; exact cloneFN_word) (cloneFP_word hl)
end
end Mu
end
section
/-
  flat.copied: a program of its own memory.
  Conditions: rows that memory has room for.
-/
namespace Mu
open Go Go.RowKit Go.Proofs

@[reducible] def insV (og : Option Nat) (n c : Nat) : Value := .slice (og.map fun g => ⟨g, 0, none⟩) n c
section
variable {P : Program} {C : Ctx} {t : List AV} {h : List ABlk} {o : Oper} {α : Type} {T : Ty α} {l : List α} {K : St → Prop}
theorem Quiet.ixN {ty : TypeId} {x y : Operand} {ik : IntKind} {g n c k m : Nat} [ES P ty m] (ho : o.op = .indexAddr ty x y) (hx : evA t x = .lit (slV g n c)) (hy : evA t y = .lit (.int ik (k : Int))) (hk : k < n) : Quiet P C t h o (.lit (ptV g (k * m))) := by
  have := Quiet.ixl (P := P) (n := m) (C := C) (h := h) (k := k) ho hx hy hk
  rwa [Nat.zero_add] at this
/-- a cell of a row of cells -/
theorem Quiet.ldCl {ty : TypeId} {x : Operand} {n i g c m k j : Nat} {L : List (List Cl)} {row : List Cl} {y : Cl} {e : TypeId} {nl : Nat} [AG P ty false n] (ho : o.op = .load ty x) (hx : evA t x = .lit (ptV g (k * (m + 1) + j))) (hi : h[i]? = some (.res (rowR (slV g nl c) e (tCl m) L))) (hn : L.length = nl) (hk : L[k]? = some row) (hj : row[j]? = some y) : Quiet P C t h o y.av :=
  Quiet.ld_res ho hx hi y.cl fun w S H => by
    subst hn
    exact rowV_at (T := tCl m) (enc := fun l => l.map Cl.av) (k := k) (j := j) rfl H hk (by rw [List.getElem?_map, hj]; rfl)
theorem AOp.stCl {ty : TypeId} {x y : Operand} {i g n c m k j : Nat} {L : List (List Cl)} {row : List Cl} {u : Value} {e : TypeId} [SZ P ty 1] (ho : o.op = .store ty x y) (hx : evA t x = .lit (ptV g (k * (m + 1) + j))) (hy : evA t y = .lit u) (h1 : One h (.lit u)) (hi : h[i]? = some (.res (rowR (slV g n c) e (tCl m) L))) (hn : L.length = n) (hk : L[k]? = some row) (hj : j < m + 1)
    (hK : K ⟨putA t o.dst (.lit undef), h.set i (.res (rowR (slV g n c) e (tCl m) (L.set k (row.set j (.v u)))))⟩) : AOp P C o ⟨t, h⟩ K := by
  subst hn
  refine AOp.stRL (T := tCl m) (g := g) (c := c) (k := k) (j := j) (d := row) (row.set j (.v u)) ho hx hi hk rfl (by rw [hy]; exact RowUpd.cl (.v u) h1 hj) ?_
  rw [show rowL g c e (tCl m) (L.set k (row.set j (.v u))) = rowR (slV g L.length c) e (tCl m) (L.set k (row.set j (.v u))) by unfold rowL; rw [List.length_set]]
  exact hK
end
theorem RowUpd.bsC {h : List ABlk} {α0 β : Type} {T : Ty α0} {enc : α0 → List AV} [EncOf T enc] {d d' : α0} {off : Nat} {T2 : Ty β} {l2 : List β} (ho : off + 1 ≤ T.size) (he : (enc d).take off ++ [.bs T2 l2] ++ (enc d).drop (off + 1) = enc d')
    (hput : ∀ (w : World) (S : Nat → Prop) (cs : List Value), AV.relL w S [] ψ0 (enc d') cs → T.RS w S cs d') : RowUpd h T d off (.bs T2 l2) 1 d' := fun C S ψ w v cs H hv hcs => by
  have h1 : v.oneCell' = true := One.bs (h := h) (T := T2) (l := l2) C S ψ w v H hv
  have hu : v.cells.toList = [v] := by rw [cells_one h1]
  refine ⟨by rw [hu]; rfl, ho, fun x hx => by rw [hu] at hx; rw [List.mem_singleton.1 hx]; exact h1, hput w S _ ?_⟩
  have he1 : AV.relL w S [] ψ0 (enc d) cs := EncOf.ok (T := T) (enc := enc) w S [] ψ0 cs d hcs
  rw [← he, hu]
  refine relL_append (relL_append (relL_take he1 off) ?_) (relL_drop he1 (off + 1))
  unfold AV.relL
  refine ⟨v, [], rfl, by unfold AV.rel at hv ⊢; exact hv, ?_⟩
  unfold AV.relL
  rfl
/-- cells that lead to a row that is from now on only read -/
theorem St.le_fzAgg {C : Ctx} (hC : C.std) {t : List AV} {h : List ABlk} (i j : Nat) {α : Type} {T : Ty α} {l : List α} {e : TypeId} {v : Value} {a b : AV} (hi : h[i]? = some (.res (rowR v e T l))) (hj : t[j]? = some (.agg [a, b, .lit v])) (ha : AV.cl a = true) (hb : AV.cl b = true) : St.le C ⟨t, h⟩ ⟨t.set j (.agg [a, b, .bs T l]), h.set i .dead⟩ :=
  St.le_fzG i j hi rfl rfl hj (fz_std hC hi rfl) fun S ψ w u H hr => by
    obtain ⟨_, hR0⟩ := H.blk i _ hi
    obtain ⟨cells, k1, k0, k2⟩ := hR0
    unfold AV.rel at hr ⊢
    obtain ⟨cs, e1, hl⟩ := hr
    refine ⟨cs, e1, ?_⟩
    unfold AV.relL at hl ⊢
    obtain ⟨u1, us1, e2, h1, hl⟩ := hl
    unfold AV.relL at hl ⊢
    obtain ⟨u2, us2, e3, h2, hl⟩ := hl
    unfold AV.relL at hl ⊢
    obtain ⟨u3, us3, e4, h3, hl⟩ := hl
    unfold AV.relL at hl
    unfold AV.rel at h3
    have X : Ext w S ([] : List ABlk) ψ0 w (fun k => S k ∨ ftp (some (.res (rowR v e T l))) (ψ i) k) [] ψ0 := Ext.grow _ _ (fun _ _ => rfl) fun _ h => .inl h
    refine ⟨u1, us1, e2, AV.rel_cl _ _ ha (AV.rel_ext X _ _ (AV.rel_cl _ _ ha h1)), u2, us2, e3, AV.rel_cl _ _ hb (AV.rel_ext X _ _ (AV.rel_cl _ _ hb h2)), u3, us3, e4, ?_, by unfold AV.relL; exact hl⟩
    unfold AV.rel
    rw [h3]
    exact own_slice k1 (fun i d hd => Ty.keepS _ (k2 i d hd) (fun _ _ => rfl) fun _ h => .inl h) fun g hg => .inr (ownBlock_blkOf hg)
abbrev VOk {α : Type} (l : List α) : Type := { q : Option Nat × Nat // l ≠ [] → ∃ g, q.1 = some g }
set_option maxRecDepth 100000 in
theorem cloneV_func {l : List Func} (hl : l.length ≤ 1073741824) : FnTurnS Tryz.prog 96 .emp [.bs tFunc l] (fun q : VOk l => rowR (insV q.1.1 l.length q.1.2) 45 tFunc l) (fun q => .lit (insV q.1.1 l.length q.1.2)) :=
  FnTurnS.nilOr rfl (fun h => by subst h; exact cloneN_func.reidx (fun _ => ⟨(none, 0), fun h => absurd rfl h⟩) (fun _ => rfl) fun _ => rfl) ((cloneP_func hl).reidx (fun q : Nat × Nat => ⟨(some q.1, q.2), fun _ => ⟨q.1, rfl⟩⟩) (fun _ => rfl) fun _ => rfl)
set_option maxRecDepth 100000 in
theorem cloneV_block {l : List Block} (hl : l.length ≤ 1073741824) : FnTurnS Tryz.prog 97 .emp [.bs tBlock l] (fun q : VOk l => rowR (insV q.1.1 l.length q.1.2) 48 tBlock l) (fun q => .lit (insV q.1.1 l.length q.1.2)) :=
  FnTurnS.nilOr rfl (fun h => by subst h; exact cloneN_block.reidx (fun _ => ⟨(none, 0), fun h => absurd rfl h⟩) (fun _ => rfl) fun _ => rfl) ((cloneP_block hl).reidx (fun q : Nat × Nat => ⟨(some q.1, q.2), fun _ => ⟨q.1, rfl⟩⟩) (fun _ => rfl) fun _ => rfl)
set_option maxRecDepth 100000 in
theorem cloneV_ins {l : List Ins} (hl : l.length ≤ 1073741824) : FnTurnS Tryz.prog 98 .emp [.bs tIns l] (fun q : VOk l => rowR (insV q.1.1 l.length q.1.2) 40 tIns l) (fun q => .lit (insV q.1.1 l.length q.1.2)) :=
  FnTurnS.nilOr rfl (fun h => by subst h; exact cloneN_ins.reidx (fun _ => ⟨(none, 0), fun h => absurd rfl h⟩) (fun _ => rfl) fun _ => rfl) ((cloneP_ins hl).reidx (fun q : Nat × Nat => ⟨(some q.1, q.2), fun _ => ⟨q.1, rfl⟩⟩) (fun _ => rfl) fun _ => rfl)
theorem Quiet.ldIn {P : Program} {C : Ctx} {t : List AV} {h : List ABlk} {o : Oper} {ty : TypeId} {y : Operand} {n i g c j : Nat} {l : List Ins} {x : Ins} {e : TypeId} [AG P ty false n] (ho : o.op = .load ty y) (hy : evA t y = .lit (ptV g (j * 9 + 6))) (hi : h[i]? = some (.res (rowR (slV g l.length c) e tIns l))) (hx : l[j]? = some x) : Quiet P C t h o (.bs tInt x.args) :=
  Quiet.ld_res ho hy hi rfl fun w S H => rowV_at (T := tIns) (enc := encIns) (k := j) (j := 6) rfl H hx rfl
theorem AOp.stIn {P : Program} {C : Ctx} {t : List AV} {h : List ABlk} {o : Oper} {K : St → Prop} {ty : TypeId} {y z : Operand} {i g c j : Nat} {l : List Ins} {x : Ins} {e : TypeId} [SZ P ty 1] (ho : o.op = .store ty y z) (hy : evA t y = .lit (ptV g (j * 9 + 6))) (hz : evA t z = .bs tInt x.args) (hi : h[i]? = some (.res (rowR (slV g l.length c) e tIns l))) (hx : l[j]? = some x) (hok : okIns x)
    (hK : K ⟨putA t o.dst (.lit undef), h.set i (.res (rowR (slV g l.length c) e tIns l))⟩) : AOp P C o ⟨t, h⟩ K := by
  refine AOp.stRL (T := tIns) (g := g) (c := c) (k := j) (j := 6) (d := x) x ho hy hi hx rfl (by rw [hz]; exact RowUpd.bsC (enc := encIns) (T2 := tInt) (l2 := x.args) (by decide) rfl fun w S cs H => put_ins (h := []) (ψ := ψ0) hok H) ?_
  rw [set_at hx]
  exact hK
def funcCl (f : Func) : List Cl := [.v (.string f.name), .v (.int .i64 f.args), .v (.int .i64 f.regs), .bs f.blocks]
def blkCl (b : Block) : List Cl := [.v (.string b.name), .xs b.ins]
instance inMuCopied1 : ES Tryz.prog 23 4 := ⟨by kernel_rfl⟩
set_option maxHeartbeats 1000000 in
set_option maxRecDepth 100000 in
theorem copied_fn {p : Prog} (hth : p.threads.length ≤ 1073741824) (hfl : p.funcs.length ≤ 1073741824) (hok : ∀ f ∈ p.funcs, okFunc f ∧ f.blocks.length ≤ 1073741824 ∧ ∀ b ∈ f.blocks, b.ins.length ≤ 1073741824 ∧ ∀ x ∈ b.ins, x.args.length ≤ 1073741824) : Fn Tryz.prog 40 [.agg (encProg p)] (.agg (encProg p)) := by
  refine Fn.of_awpC Tryz.func40 rfl (by kernel_rfl) rfl (by kernel_rfl : aggT Tryz.prog 25 = some (true, 3)) Tryz.ntmps40 fun C hC => ?_
  simp only [List.length_cons, List.length_nil, Nat.reduceAdd, Nat.reduceSub, List.replicate_succ, List.replicate_zero, List.cons_append, List.nil_append]
  refine wS (sB (sA0 (wN ?_)))
  refine Awp.via ⟨(.agg (encProg p) :: .ptr 0 0 :: .ptr 1 0 :: A80 [.any]), [.box (encProg p), .box [.lit (.int .i64 0), .lit (.slice none 0 0), .lit (.slice none 0 0)]]⟩ (le_C (hc := .cons (.cons (.nil _)))) ?_
  refine dH 5 [] [0, 1, 2, 3, 4] uN fun K2 hK2 => vT (vT (vH (Quiet.call1 rfl rfl (cloneF_int hth) rfl rfl) (vT (vT (vN ?_)))))
  refine tJoin (setAll [0, 1, 2, 3, 4, 5, 6] (Array.replicate 10 false)) 3 (fun q : VOk p.funcs => ⟨(.agg (encProg p) :: .ptr 0 0 :: .ptr 1 0 :: A5 (.ptr 0 1 :: .bs tInt p.threads :: .bs tInt p.threads :: .ptr 0 2 :: .bs tFunc p.funcs :: .lit (insV q.1.1 p.funcs.length q.1.2) :: .ptr 0 1 :: A40 (A20 (A9 [])))), [.box (encProg p), .box [.lit (.int .i64 0), .lit (.slice none 0 0), .lit (.slice none 0 0)], .res (rowR (insV q.1.1 p.funcs.length q.1.2) 45 tFunc p.funcs)]⟩) (fun q => ?_) (fun hB => ?_)
  rotate_left
  · refine tStep [5, 6] (tC ?_ (tC (oT ?_) tAll_nil))
    · refine AOp.callN rfl (cloneV_func hfl) (fun _ => rfl) rfl rfl (fun _ => rfl) fun q => ?_
      exact tNt (hk := tT 6 (tE (hB q)))
    · refine tA 5 ?_
      refine AOp.callN rfl (cloneV_func hfl) (fun _ => rfl) rfl rfl (fun _ => rfl) fun q => ?_
      exact tNt (hk := tE (hB q))
  refine tA 7 ?_
  refine oW ?_
  refine tT 8 ?_
  refine tA 9 ?_
  refine oW ?_
  refine tDone (hK2 _ ?_)
  obtain ⟨⟨og, cF⟩, hog⟩ := q
  have hog : p.funcs ≠ [] → ∃ g, og = some g := hog
  dsimp only
  refine Awp.via _ (St.le_toCl 2 (m := 3) funcCl rfl (fun d => rfl) (fun d => rfl) rfl) ?_
  refine nT (hk := ?_)
  have hLl : (p.funcs.map funcCl).length = p.funcs.length := List.length_map _
  refine Awp.seq fun K3 h3 => ?_
  refine wS (sT (sT (sH (Quiet.lnl rfl rfl) (sT (wN ?_)))))
  refine Awp.block ?_
  refine Awp.loopF (fun i : Nat => ⟨(.any :: .ptr 0 0 :: .ptr 1 0 :: A10 (A5 (.lit (.int .i64 (p.funcs.length : Int)) :: .lit (.int .i64 (i : Int)) :: A40 (A20 (A4 []))))), [.box [.lit (.int .i64 p.heap), .bs tInt p.threads, .lit (insV og p.funcs.length cF)], .box [.lit (.int .i64 0), .lit (.slice none 0 0), .lit (.slice none 0 0)], .res (rowR (insV og p.funcs.length cF) 45 (tCl 3) (p.funcs.map funcCl))]⟩) (fun i => i ≤ p.funcs.length) (fun i => p.funcs.length - i) 0 (Nat.zero_le _) (St.le_t rfl (by (try simp only [putA, List.set_cons_zero, List.set_cons_succ]); repeat (first | exact Fgt.nil | refine Fgt.keep rfl ?_ | refine Fgt.any ?_))) ?_
  rintro i hi
  refine wS (sT (wN ?_))
  refine Awp.seq fun K7 h7 => ?_
  refine Awp.cond rfl (fun hb8 => ?_) (fun hb8 => ?_)
  · have hlt : i < p.funcs.length := by
      have := of_decide_eq_true hb8
      omega
    obtain ⟨gF, rfl⟩ := hog (fun e => by rw [e] at hlt; exact absurd hlt (Nat.not_lt_zero _))
    obtain ⟨f, hf⟩ : ∃ f, p.funcs[i]? = some f := ⟨_, List.getElem?_eq_getElem hlt⟩
    obtain ⟨hokf, hbl, hblk⟩ := hok f (List.mem_of_getElem? hf)
    have hLF : (p.funcs.map funcCl)[i]? = some (funcCl f) := by rw [List.getElem?_map, hf]; rfl
    simp only [insV, Option.map_some]
    refine Awp.skip ?_
    refine h7 _ ?_
    refine nT (hk := ?_)
    refine Awp.seq fun K9 h9 => ?_
    refine Awp.block ?_
    refine wS (sT (sT (wN ?_)))
    refine wS (sT (sT (sT ?_)))
    refine sH (Quiet.ixN (m := 4) rfl rfl rfl hlt) (sT (wN ?_))
    refine wS (sT (sT (sT (sT ?_))))
    refine sH (Quiet.ldCl (i := 2) (m := 3) (k := i) (j := 3) rfl rfl rfl hLl hLF rfl) ?_
    refine aSeq_t rfl (AOp.callN rfl (cloneV_block hbl) (fun _ => rfl) rfl rfl (fun _ => rfl) fun qB => ?_)
    refine sNt (hk := sT (sT ?_))
    refine aSeq_t rfl (AOp.stCl (i := 2) (m := 3) (k := i) (j := 3) (u := insV qB.1.1 f.blocks.length qB.1.2) rfl rfl rfl (One.lit rfl) rfl hLl hLF (by decide) ?_)
    refine sNt (hk := wN ?_)
    obtain ⟨⟨oB, cB⟩, hoB⟩ := qB
    have hoB : f.blocks ≠ [] → ∃ g, oB = some g := hoB
    dsimp only
    refine Awp.via _ (St.le_toCl 3 (m := 1) blkCl rfl (fun d => rfl) (fun d => rfl) rfl) ?_
    refine nT (hk := ?_)
    have hLBl : (f.blocks.map blkCl).length = f.blocks.length := List.length_map _
    have hL1l : ((p.funcs.map funcCl).set i ((funcCl f).set 3 (.v (insV oB f.blocks.length cB)))).length = p.funcs.length := by rw [List.length_set]; exact hLl
    have hL1 : ((p.funcs.map funcCl).set i ((funcCl f).set 3 (.v (insV oB f.blocks.length cB))))[i]? = some ((funcCl f).set 3 (.v (insV oB f.blocks.length cB))) := List.getElem?_set_self (by rw [hLl]; exact hlt)
    refine wS (sT (sT (sT ?_)))
    refine sH (Quiet.ldCl (i := 2) (m := 3) (k := i) (j := 3) (y := .v (insV oB f.blocks.length cB)) rfl rfl rfl hL1l hL1 rfl) ?_
    refine sH (Quiet.lnl rfl rfl) (sT (wN ?_))
    refine Awp.block ?_
    refine Awp.loopF (fun k : Nat => ⟨(.any :: .ptr 0 0 :: .ptr 1 0 :: .any :: .lit (ptV gF (i * 4)) :: A10 (A3 (.lit (.int .i64 (p.funcs.length : Int)) :: .lit (.int .i64 (i : Int)) :: A10 (A8 (.lit (.int .i64 (f.blocks.length : Int)) :: .lit (.int .i64 (k : Int)) :: A40 (A4 [])))))), [.box [.lit (.int .i64 p.heap), .bs tInt p.threads, .lit (slV gF p.funcs.length cF)], .box [.lit (.int .i64 0), .lit (.slice none 0 0), .lit (.slice none 0 0)], .res (rowR (slV gF p.funcs.length cF) 45 (tCl 3) ((p.funcs.map funcCl).set i ((funcCl f).set 3 (.v (insV oB f.blocks.length cB))))), .res (rowR (insV oB f.blocks.length cB) 48 (tCl 1) (f.blocks.map blkCl))]⟩) (fun k => k ≤ f.blocks.length) (fun k => f.blocks.length - k) 0 (Nat.zero_le _) (St.le_t rfl (by (try simp only [putA, List.set_cons_zero, List.set_cons_succ]); repeat (first | exact Fgt.nil | refine Fgt.keep rfl ?_ | refine Fgt.any ?_))) ?_
    rintro k hk
    refine wS (sT (wN ?_))
    refine Awp.seq fun K16 h16 => ?_
    refine Awp.cond rfl (fun hb17 => ?_) (fun hb17 => ?_)
    · have hlt2 : k < f.blocks.length := by
        have := of_decide_eq_true hb17
        omega
      obtain ⟨gB, rfl⟩ := hoB (fun e => by rw [e] at hlt2; exact absurd hlt2 (Nat.not_lt_zero _))
      obtain ⟨b, hb⟩ : ∃ b, f.blocks[k]? = some b := ⟨_, List.getElem?_eq_getElem hlt2⟩
      obtain ⟨hil, hargs⟩ := hblk b (List.mem_of_getElem? hb)
      have hLB : (f.blocks.map blkCl)[k]? = some (blkCl b) := by rw [List.getElem?_map, hb]; rfl
      refine Awp.skip ?_
      refine h16 _ ?_
      refine nT (hk := ?_)
      refine Awp.seq fun K18 h18 => ?_
      refine Awp.block ?_
      refine wS (sT (sT (wN ?_)))
      refine wS (sT (sT (sT ?_)))
      refine sH (Quiet.ldCl (i := 2) (m := 3) (k := i) (j := 3) (y := .v (slV gB f.blocks.length cB)) rfl rfl rfl hL1l hL1 rfl) (sT ?_)
      refine sH (Quiet.ixN (m := 2) rfl rfl rfl hlt2) (sT (wN ?_))
      refine wS (sT (sT (sT (sT ?_))))
      refine sH (Quiet.ldCl (i := 3) (m := 1) (k := k) (j := 1) (g := gB) (c := cB) rfl rfl rfl hLBl hLB rfl) ?_
      refine aSeq_t rfl (AOp.callN rfl (cloneV_ins hil) (fun _ => rfl) rfl rfl (fun _ => rfl) fun qI => ?_)
      refine sNt (hk := sT (sT ?_))
      refine aSeq_t rfl (AOp.stCl (i := 3) (m := 1) (k := k) (j := 1) (g := gB) (c := cB) (u := insV qI.1.1 b.ins.length qI.1.2) rfl rfl rfl (One.lit rfl) rfl hLBl hLB (by decide) ?_)
      refine sNt (hk := wN ?_)
      obtain ⟨⟨oI, cI⟩, hoI⟩ := qI
      have hoI : b.ins ≠ [] → ∃ g, oI = some g := hoI
      dsimp only
      have hL2l : ((f.blocks.map blkCl).set k ((blkCl b).set 1 (.v (insV oI b.ins.length cI)))).length = f.blocks.length := by rw [List.length_set]; exact hLBl
      have hL2 : ((f.blocks.map blkCl).set k ((blkCl b).set 1 (.v (insV oI b.ins.length cI))))[k]? = some ((blkCl b).set 1 (.v (insV oI b.ins.length cI))) := List.getElem?_set_self (by rw [hLBl]; exact hlt2)
      refine wS (sT (sT (sT ?_)))
      refine sH (Quiet.ldCl (i := 3) (m := 1) (k := k) (j := 1) (g := gB) (c := cB) (y := .v (insV oI b.ins.length cI)) rfl rfl rfl hL2l hL2 rfl) ?_
      refine sH (Quiet.lnl rfl rfl) (sT (wN ?_))
      refine Awp.block ?_
      refine Awp.loopF (fun j : Nat => ⟨(.any :: .ptr 0 0 :: .ptr 1 0 :: .any :: .lit (ptV gF (i * 4)) :: .any :: .lit (ptV gB (k * 2)) :: A10 (.any :: .lit (.int .i64 (p.funcs.length : Int)) :: .lit (.int .i64 (i : Int)) :: A10 (A8 (.lit (.int .i64 (f.blocks.length : Int)) :: .lit (.int .i64 (k : Int)) :: A20 (.lit (.int .i64 (b.ins.length : Int)) :: .lit (.int .i64 (j : Int)) :: A20 (A2 [])))))), [.box [.lit (.int .i64 p.heap), .bs tInt p.threads, .lit (slV gF p.funcs.length cF)], .box [.lit (.int .i64 0), .lit (.slice none 0 0), .lit (.slice none 0 0)], .res (rowR (slV gF p.funcs.length cF) 45 (tCl 3) ((p.funcs.map funcCl).set i ((funcCl f).set 3 (.v (slV gB f.blocks.length cB))))), .res (rowR (slV gB f.blocks.length cB) 48 (tCl 1) ((f.blocks.map blkCl).set k ((blkCl b).set 1 (.v (insV oI b.ins.length cI))))), .res (rowR (insV oI b.ins.length cI) 40 tIns b.ins)]⟩) (fun j => j ≤ b.ins.length) (fun j => b.ins.length - j) 0 (Nat.zero_le _) (St.le_t rfl (by (try simp only [putA, List.set_cons_zero, List.set_cons_succ]); repeat (first | exact Fgt.nil | refine Fgt.keep rfl ?_ | refine Fgt.any ?_))) ?_
      rintro j hj
      refine wS (sT (wN ?_))
      refine Awp.seq fun K25 h25 => ?_
      refine Awp.cond rfl (fun hb26 => ?_) (fun hb26 => ?_)
      · have hlt3 : j < b.ins.length := by
          have := of_decide_eq_true hb26
          omega
        obtain ⟨gI, rfl⟩ := hoI (fun e => by rw [e] at hlt3; exact absurd hlt3 (Nat.not_lt_zero _))
        obtain ⟨x, hx⟩ : ∃ x, b.ins[j]? = some x := ⟨_, List.getElem?_eq_getElem hlt3⟩
        have hax := hargs x (List.mem_of_getElem? hx)
        have hokx : okIns x := (hokf.blocks b (List.mem_of_getElem? hb)).ins x (List.mem_of_getElem? hx)
        refine Awp.skip ?_
        refine h25 _ ?_
        refine nT (hk := ?_)
        refine Awp.seq fun K27 h27 => ?_
        refine Awp.block ?_
        refine wS (sT (sT (wN ?_)))
        refine dSE 16 (hq := qT (qT (qT ?_)))
        refine qH (Quiet.ldCl (i := 3) (m := 1) (k := k) (j := 1) (g := gB) (c := cB) (y := .v (slV gI b.ins.length cI)) rfl rfl rfl hL2l hL2 rfl) (qT (qT (qT (qT ?_))))
        refine qH (Quiet.ldCl (i := 3) (m := 1) (k := k) (j := 1) (g := gB) (c := cB) (y := .v (slV gI b.ins.length cI)) rfl rfl rfl hL2l hL2 rfl) (qT ?_)
        refine qH (Quiet.ixN (m := 9) rfl rfl rfl hlt3) (qT ?_)
        refine qH (Quiet.ldIn (i := 4) (g := gI) (c := cI) (j := j) rfl rfl rfl hx) ?_
        refine qH (Quiet.call1 rfl rfl (cloneF_int hax) rfl rfl) ?_
        refine qH (Quiet.ixN (m := 9) rfl rfl rfl hlt3) (qT (qN ?_))
        refine aSeq_t rfl (AOp.stIn (i := 4) (g := gI) (c := cI) (j := j) rfl rfl rfl rfl hx hokx ?_)
        refine sNt (hk := wN ?_)
        refine h27 _ ?_
        refine nT (hk := ?_)
        refine wSE (sT (sT (wN ?_)))
        refine athen_n ⟨j + 1, hlt3, by omega, ?_⟩
        rw [wrap_k (by omega)]
        exact St.le_c (.cons (.cons (.cons (.cons (.cons (.nil _)))))) rfl (by (try simp only [putA, List.set_cons_zero, List.set_cons_succ]); repeat (first | exact Fgt.nil | refine Fgt.keep rfl ?_ | refine Fgt.any ?_))
      · refine Awp.via _ (St.le_fzCell hC 3 4 k 1 (by decide) rfl rfl hL2 rfl (.xs b.ins) rfl) ?_
        refine nT (hk := ?_)
        rw [show (((f.blocks.map blkCl).set k ((blkCl b).set 1 (.v (insV oI b.ins.length cI)))).set k (((blkCl b).set 1 (.v (insV oI b.ins.length cI))).set 1 (.xs b.ins))) = f.blocks.map blkCl from by rw [List.set_set]; exact set_at hLB]
        refine Awp.exit ?_
        refine h18 _ ?_
        refine nT (hk := ?_)
        refine wSE (sT (sT (wN ?_)))
        refine athen_n ⟨k + 1, hlt2, by omega, ?_⟩
        rw [wrap_k (by omega)]
        exact St.le_c (.cons (.cons (.cons (.cons (.nil _))))) rfl (by (try simp only [putA, List.set_cons_zero, List.set_cons_succ]); repeat (first | exact Fgt.nil | refine Fgt.keep rfl ?_ | refine Fgt.any ?_))
    · refine Awp.via _ (St.le_ofCl 3 (T := tBlock) (l := f.blocks) blkCl rfl (fun d hd w S cs H => put_block (h := []) (ψ := ψ0) (hokf.blocks d hd).name H) rfl) ?_
      refine nT (hk := ?_)
      refine Awp.via _ (St.le_fzCell hC 2 3 i 3 (by decide) rfl rfl hL1 rfl (.bs f.blocks) rfl) ?_
      refine nT (hk := ?_)
      rw [show (((p.funcs.map funcCl).set i ((funcCl f).set 3 (.v (insV oB f.blocks.length cB)))).set i (((funcCl f).set 3 (.v (insV oB f.blocks.length cB))).set 3 (.bs f.blocks))) = p.funcs.map funcCl from by rw [List.set_set]; exact set_at hLF]
      refine Awp.exit ?_
      refine h9 _ ?_
      refine nT (hk := ?_)
      refine wSE (sT (sT (wN ?_)))
      refine athen_n ⟨i + 1, hlt, by omega, ?_⟩
      rw [wrap_k (by omega)]
      exact St.le_c (.cons (.cons (.cons (.nil _)))) rfl (by (try simp only [putA, List.set_cons_zero, List.set_cons_succ]); repeat (first | exact Fgt.nil | refine Fgt.keep rfl ?_ | refine Fgt.any ?_))
  · refine Awp.exit ?_
    refine h3 _ ?_
    refine nT (hk := ?_)
    refine wS (sT ?_)
    refine aSeq_via rfl (St.le_ofCl 2 (T := tFunc) (l := p.funcs) funcCl rfl (fun d hd w S cs H => put_func (h := []) (ψ := ψ0) (hok d hd).1 H) rfl) ?_
    refine aSeq_via rfl (St.le_fzAgg hC 2 83 rfl rfl rfl rfl) ?_
    refine sNt (hk := ?_)
    refine sW (wN ?_)
    exact Awp.ret ⟨⟨.inr rfl, 1, _, rfl, rfl, Fin.cl rfl⟩, fun i cells e1 e2 => by cases e1; cases e2; rfl⟩
end Mu
end
section
/-
  A model's record is built.
  Conditions: none.
-/
namespace Mu
open Go Go.RowKit Go.Proofs

theorem plModel : places? Tryz.prog 89 = some [(0, 3), (3, 1), (4, 1), (5, 1), (6, 1), (7, 1), (8, 2)] := by kernel_rfl
theorem zcModel : zeroCells? Tryz.prog 89 = some [.int .i64 0, .slice none 0 0, .slice none 0 0, .slice none 0 0, .slice none 0 0, .slice none 0 0, .int .i64 0, .slice none 0 0, .int .u8 0, .int .u32 0] := by kernel_rfl
theorem fill_mod {z : Array Value} {c0 c1 c2 yv uv z0 z1 z2 z3 z4 z5 z6 z7 z8 z9 : Value} (hz : z = #[z0, z1, z2, z3, z4, z5, z6, z7, z8, z9]) (hy : yv.cells = #[yv]) (hu : uv.cells = #[uv]) :
    Instr.fill (fun i => (#[(0, 3), (3, 1), (4, 1), (5, 1), (6, 1), (7, 1), (8, 2)] : Array (Nat × Nat))[i]?) z [(0, .agg #[c0, c1, c2]), (1, yv), (5, uv)] = some #[c0, c1, c2, yv, z4, z5, z6, uv, z8, z9] := by
  subst hz
  simp [Instr.fill, hy, hu, show (Value.agg #[c0, c1, c2]).cells = #[c0, c1, c2] from rfl]
theorem Quiet.bldMod {P : Program} {C : Ctx} {t : List AV} {h : List ABlk} {o : Oper} {ty : TypeId} {x y u : Operand} {z0 z1 z2 z3 z4 z5 z6 z7 z8 z9 : Value} {a b c d e : AV} (hz : zeroCells? P ty = some [z0, z1, z2, z3, z4, z5, z6, z7, z8, z9]) (ho : o.op = .build ty #[(0, x), (1, y), (5, u)]) (hpl : places? P ty = some [(0, 3), (3, 1), (4, 1), (5, 1), (6, 1), (7, 1), (8, 2)]) (hx : evA t x = .agg [a, b, c]) (hy : evA t y = d) (hu : evA t u = e) (h1 : One h d) (h2 : One h e) : Quiet P C t h o (.agg [a, b, c, d, .lit z4, .lit z5, .lit z6, e, .lit z8, .lit z9]) :=
  Quiet.of_run fun S ψ w ρ H hρ => by
    unfold zeroCells? at hz
    obtain ⟨z, hz1, hzc⟩ := Option.map_eq_some_iff.1 hz
    obtain ⟨i, hi, hz2⟩ := Option.bind_eq_some_iff.1 hz1
    unfold places? at hpl
    split at hpl <;> try (cases hpl; done)
    rename_i fs hun
    have hrp := run_places (P := P) w fs.toList _ hpl
    have hm := hρ x (by rw [ho]; simp [Op.operands])
    have hmy := hρ y (by rw [ho]; simp [Op.operands])
    have hmu := hρ u (by rw [ho]; simp [Op.operands])
    rw [hx] at hm
    rw [hy] at hmy
    rw [hu] at hmu
    have hy1 := cells_one (h1 C S ψ w _ H hmy)
    have hu1 := cells_one (h2 C S ψ w _ H hmu)
    unfold AV.rel at hm
    obtain ⟨cs, ec, hcs⟩ := hm
    have hl := relL_len hcs
    obtain ⟨c0, c1, c2, rfl⟩ : ∃ c0 c1 c2, cs = [c0, c1, c2] := by
      match cs, hl with
      | [c0, c1, c2], _ => exact ⟨c0, c1, c2, rfl⟩
    have hzz : z.cells = #[z0, z1, z2, z3, z4, z5, z6, z7, z8, z9] := by
      apply Array.ext'
      rw [hzc]
    have hlit : ∀ v : Value, AV.rel w S h ψ (.lit v) v := fun v => by unfold AV.rel; rfl
    refine ⟨.agg #[c0, c1, c2, ρ y, z4, z5, z6, ρ u, z8, z9], ?_, by
      unfold AV.rel
      refine ⟨[c0, c1, c2, ρ y, z4, z5, z6, ρ u, z8, z9], rfl, ?_⟩
      refine relL_append (l := [a, b, c]) hcs ?_
      simp only [AV.relL]
      exact ⟨_, _, rfl, hmy, _, _, rfl, hlit _, _, _, rfl, hlit _, _, _, rfl, hlit _, _, _, rfl, hmu, _, _, rfl, hlit _, _, _, rfl, hlit _, rfl⟩⟩
    have hpa : (fs.mapM (m := Sem) fun f => do pure (f.offset, ← Go.sizeOf f.type)).run P w = .ok #[(0, 3), (3, 1), (4, 1), (5, 1), (6, 1), (7, 1), (8, 2)] w := by
      rw [← Array.toArray_toList (xs := fs), List.mapM_toArray, Sem.run_map, hrp]
      rfl
    have hf := fill_mod (c0 := c0) (c1 := c1) (c2 := c2) hzz hy1 hu1
    have hf' : Instr.fill (fun i => (#[(0, 3), (3, 1), (4, 1), (5, 1), (6, 1), (7, 1), (8, 2)] : Array (Nat × Nat))[i]?) z.cells ((#[(0, x), (1, y), (5, u)] : Array (Nat × Operand)).map fun p => (p.1, ρ p.2)).toList = some #[c0, c1, c2, ρ y, z4, z5, z6, ρ u, z8, z9] := by
      simpa [ec] using hf
    simp only [execOp, ho, Instr.build, zeroValue, typeInfo, underlying, Sem.run_bind, run_program, Result.andThen_ok, hi, hz2, Sem.run_pure, hun, hpa, hf']
end Mu
end
section
/-
  A row of one record, where it lies; a nil row as an argument.
  Conditions: none; generic.
-/
namespace Mu
open Go Go.RowKit Go.Proofs

theorem FnTurnS.nil3 {P : Program} {f : FuncId} {ι : Type} {R : Res} {Rs : ι → Res} {rs : ι → AV} {a b : AV} {α : Type} {T : Ty α} (h : FnTurnS P f R [a, b, .bs T []] Rs rs) : FnTurnS P f R [a, b, .lit (.slice none 0 0)] Rs rs := ⟨h.1, fun w S vs x y z hr => h.2 w S vs x y z (by
  unfold AV.relL at hr ⊢
  obtain ⟨v, us, e, h1, h2⟩ := hr
  refine ⟨v, us, e, h1, ?_⟩
  unfold AV.relL at h2 ⊢
  obtain ⟨v2, us2, e2, h3, h4⟩ := h2
  refine ⟨v2, us2, e2, h3, ?_⟩
  unfold AV.relL at h4 ⊢
  obtain ⟨v3, us3, e3, h5, h6⟩ := h4
  refine ⟨v3, us3, e3, ?_, h6⟩
  unfold AV.rel at h5 ⊢
  subst h5
  exact T.slice_nilS _ _)⟩
section
variable {P : Program} {C : Ctx} {t : List AV} {h : List ABlk} {o : Oper} {K : St → Prop} {α : Type} {T : Ty α}
theorem AOp.lit1 {ty e : TypeId} {bytes m : Nat} {x : Operand} {cells : List AV} {d : α} [RT P ty e m bytes] (ho : o.op = .buildSlice ty 1 #[(0, x)]) (hx : evA t x = .agg cells) (hcl : AV.clL cells = true) (hm : T.size = m) (hlen : cells.length = m) (h0 : 0 < m) (hput : ∀ (w : World) (S : Nat → Prop) (cs : List Value), AV.relL w S [] ψ0 cells cs → T.RS w S cs d) (hbig : m ≤ 16777216)
    (hK : ∀ g : Nat, K ⟨putA t o.dst (.lit (slV g 1 1)), h ++ [.res (rowR (slV g 1 1) e T [d])]⟩) : AOp P C o ⟨t, h⟩ K := by
  refine AOp.make_res (ι := Nat) (Rs := fun g => rowR (slV g 1 1) e T [d]) (val := fun g => slV g 1 1) (fun _ => rfl) (fun S ψ w ρ H hρ => ?_) hK
  have ho' : o.op = .buildSlice ty ([x] : List Operand).length (numbered [x]) := ho
  have hx' := hρ x (by rw [ho]; simp [Op.operands])
  rw [hx] at hx'
  unfold AV.rel at hx'
  obtain ⟨cs, hv, hrel⟩ := hx'
  have hrel := AV.relL_cl (h' := []) (ψ' := ψ0) _ _ hcl hrel
  have hcl2 : cs.length = m := by rw [relL_len hrel, hlen]
  have hrun := run_buildOp (P := P) (ρ := ρ) (w := w) ho'
  rw [run_lit (RT.eq (P := P) (ty := ty) (e := e) (n := m) (bytes := bytes)) (by simp; exact hbig) (fun v hv' => by
    have hv' : v ∈ [ρ x] := hv'
    rw [List.mem_singleton.1 hv', hv]
    show cs.toArray.size = m
    simpa using hcl2)] at hrun
  have hcells : ([x].map ρ).flatMap (fun v => v.cells.toList) = cs := by
    show (ρ x).cells.toList ++ [] = cs
    rw [hv]
    simp [Value.cells]
  rw [hcells] at hrun
  have hb : Below w.heap.size w (w.alloc (.cells cs.toArray e)) := (Below.refl _ _).alloc (Nat.le_refl _) _
  rw [hrun]
  refine ⟨⟨hb.os, hb.tape, hb.output, hb.size, fun k hk _ => hb.block k hk⟩, w.heap.size, rfl, ?_, fun k hk => ?_⟩
  · have hR := rowL_of (g := w.heap.size) (c := 1) (e := e) (T := T) (l := [d]) (S := S) (heap_alloc_new w (.cells cs.toArray e)) (by simp) (by unfold maxLen; decide) (by rw [hm]; simp [hcl2]) (by rw [hm]; exact h0) fun j d' hj => ?_
    · exact hR
    · cases j with
      | succ j => cases hj
      | zero =>
        cases hj
        rw [Nat.zero_mul, List.drop_zero, List.take_of_length_le (by rw [hm]; show cs.length ≤ m; omega)]
        exact T.keepS (hput w S cs hrel) (fun k hk => hb.block k (H.lt k hk)) fun _ h => h
  · have hk : some w.heap.size = some k := hk
    cases hk
    exact ⟨.inr (Nat.le_refl _), by simp⟩
end
theorem Ctx.std_of {C : Ctx} (h : C.turn .emp) : C.std := fun k hk => h k hk fun hf => hf.elim
theorem FnTurnS.of_awp2C {P : Program} {f : FuncId} {fn : Go.Func} {c : Code} {args : List AV} {ι : Type} {R : Res} {Rs : ι → Res} {rs : ι → AV} {n : Nat} {t u : Tmp} (hf : P.funcs[f]? = some fn) (hb : fn.body = some c) (hE : Enters P f = true) (hres : fn.results = #[.tmp t, .tmp u]) (hn : fn.ntmps = n) (hm : R.mrk = [])
    (h : ∀ C : Ctx, C.turn R → Awp P C c (RetsTS R Rs rs fun s r => .tup [evA s.t (.tmp t), evA s.t (.tmp u)] = r ∧ AV.cl r = true) ⟨args ++ List.replicate (n - args.length) (.lit undef), [.res R]⟩) : FnTurnS P f R args Rs rs :=
  FnTurnS.of_awpQ _ hf hb hE hn hm (fun C s a w r S ψ ⟨h1, h2⟩ H hl => ⟨.tuple #[a.eval (.tmp t), a.eval (.tmp u)], by
    have e1 : (a.tmps[t]?).getD undef = a.eval (.tmp t) := by rw [← Array.getD_eq_getD_getElem?]; rfl
    have e2 : (a.tmps[u]?).getD undef = a.eval (.tmp u) := by rw [← Array.getD_eq_getD_getElem?]; rfl
    simp [results, hres, e1, e2], by
    subst h1
    refine AV.rel_cl (h := s.h) (ψ := ψ) _ _ h2 ?_
    unfold AV.rel
    refine ⟨[a.eval (.tmp t), a.eval (.tmp u)], rfl, ?_⟩
    unfold AV.relL
    refine ⟨_, _, rfl, ev_rel hl (.tmp t), ?_⟩
    unfold AV.relL
    refine ⟨_, _, rfl, ev_rel hl (.tmp u), ?_⟩
    unfold AV.relL
    rfl⟩) h
end Mu
end
section
/-
  A thread more for a model.
  Conditions: none; generic.
-/
namespace Mu
open Go Go.RowKit Go.Proofs

section
variable {P : Program} {C : Ctx} {t : List AV} {h : List ABlk} {o : Oper} {K : St → Prop}
/-- a thread more -/
theorem AOp.pushTh {ty : TypeId} {x y : Operand} {i j : Nat} {p : Prog} {m : MdA} (q : ThA) (hij : i ≠ j) (ho : o.op = .call { callee := .builtin .append, args := #[x, y], argTypes := #[ty, ty] }) (hT : rowTy P ty = some (97, (tCl 0).size, 24)) (hx : evA t x = .lit m.tv) (hy : evA t y = .bs (tCl 0) [[Cl.v q.cv]]) (hi : h[i]? = some (.res (modR p m))) (hj : h[j]? = some (.res (thR q)))
    (hb : rowB (m.ths.length + 1) 24 = true) (hK : ∀ v', K ⟨putA t o.dst (.lit v'), (h.set j .dead).set i (.res (modR p { m with tv := v', ths := m.ths ++ [q] })) ++ [.dead]⟩) : AOp P C o ⟨t, h⟩ K := by
  unfold rowB at hb
  simp only [Bool.and_eq_true, decide_eq_true_eq] at hb
  have hil := (List.getElem?_eq_some_iff.1 hi).1
  refine AOp.le (St.le_push i j hij hi hj) ?_
  refine AOp.inAll (ι := Value) (t' := fun v' => putA t o.dst (.lit v')) (A := rowR m.tv 97 (tCl 0) (m.ths.map fun t => [Cl.v t.cv])) (A' := fun v' => rowR v' 97 (tCl 0) (m.ths.map (fun t => [Cl.v t.cv]) ++ [[Cl.v q.cv]])) i 3 [] (List.getElem?_set_self (by rw [List.length_set]; exact hil)) rfl rfl (fun _ => rfl) (fun h1 K1 hi1 _ hK1 => ?_) fun v' => ?_
  · exact AOp.appendL ho hT hx hi1 hy (EncOf.one (T := tCl 0) (enc := fun l => l.map Cl.av)) (by rw [List.length_map]; exact hb.1) (by rw [List.length_map]; exact hb.2) fun v' => by have := hK1 v'; rwa [List.append_nil] at this
  · have e : (modL p m ++ [thR q]).set 3 (rowR v' 97 (tCl 0) (m.ths.map (fun t => [Cl.v t.cv]) ++ [[Cl.v q.cv]])) = modL p { m with tv := v', ths := m.ths ++ [q] } := by
      show _ :: _ :: _ :: _ :: (m.ths.map thR ++ [thR q]) = _ :: _ :: _ :: rowR v' 97 (tCl 0) ((m.ths ++ [q]).map fun t => [Cl.v t.cv]) :: (m.ths ++ [q]).map thR
      rw [List.map_append, List.map_append]
      rfl
    rw [List.set_set, e]
    exact hK v'
/-- where the threads' row lies -/
theorem AOp.tsAt {p : Prog} {m : MdA} (i : Nat) (hi : h[i]? = some (.res (modR p m))) (hne : m.ths ≠ []) (hk : ∀ tg c, m.tv = slV tg m.ths.length c → AOp P C o ⟨t, h⟩ K) : AOp P C o ⟨t, h⟩ K := fun Q' a w H => by
  obtain ⟨hd, S, ψ, HR, hl⟩ := id H
  obtain ⟨cells, hown, _⟩ := mod_ths (HR.blk i _ hi).2
  rcases hown.2 with ⟨_, e0⟩ | ⟨g, cap, cur, e, _⟩
  · exact absurd (List.eq_nil_of_length_eq_zero (by rw [List.length_map] at e0; exact e0)) hne
  · rw [List.length_map] at e
    exact hk g cap e Q' a w H
end
theorem plStack : places? Tryz.prog 95 = some [(0, 1)] := by kernel_rfl
theorem plThread : places? Tryz.prog 97 = some [(0, 1)] := by kernel_rfl
theorem zcStack : zeroCells? Tryz.prog 95 = some [.slice none 0 0] := by kernel_rfl
theorem zcThread : zeroCells? Tryz.prog 97 = some [.slice none 0 0] := by kernel_rfl
theorem fill_one {z : Array Value} {c0 z0 : Value} {v : Value} (hz : z = #[z0]) (hv : v.cells = #[c0]) : Instr.fill (fun i => (#[(0, 1)] : Array (Nat × Nat))[i]?) z [(0, v)] = some #[c0] := by
  subst hz
  simp [Instr.fill, hv]
/-- a record of one cell -/
theorem Quiet.bldA1 {P : Program} {C : Ctx} {t : List AV} {h : List ABlk} {o : Oper} {ty : TypeId} {x : Operand} {z0 : Value} {u : Value} (hz : zeroCells? P ty = some [z0]) (ho : o.op = .build ty #[(0, x)]) (hpl : places? P ty = some [(0, 1)]) (hx : evA t x = .lit u ∧ u.oneCell' = true ∨ evA t x = .agg [.lit u]) : Quiet P C t h o (.agg [.lit u]) :=
  Quiet.of_run fun S ψ w ρ H hρ => by
    unfold zeroCells? at hz
    obtain ⟨z, hz1, hzc⟩ := Option.map_eq_some_iff.1 hz
    obtain ⟨i, hi, hz2⟩ := Option.bind_eq_some_iff.1 hz1
    unfold places? at hpl
    split at hpl <;> try (cases hpl; done)
    rename_i fs hun
    have hrp := run_places (P := P) w fs.toList _ hpl
    have hm := hρ x (by rw [ho]; simp [Op.operands])
    have hu : (ρ x).cells = #[u] := by
      rcases hx with ⟨hx, h1⟩ | hx
      · rw [hx] at hm
        unfold AV.rel at hm
        rw [hm]
        exact cells_one (One.lit h1 C S ψ w _ H (by unfold AV.rel; rfl))
      · rw [hx] at hm
        unfold AV.rel at hm
        obtain ⟨cs, ec, hcs⟩ := hm
        have hl := relL_len hcs
        obtain ⟨c0, rfl⟩ : ∃ c0, cs = [c0] := by
          match cs, hl with
          | [c0], _ => exact ⟨c0, rfl⟩
        unfold AV.relL at hcs
        obtain ⟨v, us, e, h1, _⟩ := hcs
        unfold AV.rel at h1
        cases e
        rw [ec, h1]
        rfl
    have hzz : z.cells = #[z0] := by
      apply Array.ext'
      rw [hzc]
    refine ⟨.agg #[u], ?_, by
      unfold AV.rel
      refine ⟨[u], rfl, ?_⟩
      simp only [AV.relL]
      exact ⟨_, _, rfl, by unfold AV.rel; rfl, rfl⟩⟩
    have hpa : (fs.mapM (m := Sem) fun f => do pure (f.offset, ← Go.sizeOf f.type)).run P w = .ok #[(0, 1)] w := by
      rw [← Array.toArray_toList (xs := fs), List.mapM_toArray, Sem.run_map, hrp]
      rfl
    have hf' : Instr.fill (fun i => (#[(0, 1)] : Array (Nat × Nat))[i]?) z.cells ((#[(0, x)] : Array (Nat × Operand)).map fun p => (p.1, ρ p.2)).toList = some #[u] := by
      simpa using fill_one hzz hu
    simp only [execOp, ho, Instr.build, zeroValue, typeInfo, underlying, Sem.run_bind, run_program, Result.andThen_ok, hi, hz2, Sem.run_pure, hun, hpa, hf']
theorem rs_lits {w : World} {S : Nat → Prop} {n : Nat} {l : List Value} (hl : l.length = n + 1) (h1 : ∀ v ∈ l, v.oneCell' = true) {cs : List Value} (h : AV.relL w S [] ψ0 (l.map .lit) cs) : (tCl n).RS w S cs (l.map .v) := by
  have hc : ∀ (l cs : List Value), AV.relL w S [] ψ0 (l.map .lit) cs → cs = l := by
    intro l
    induction l with
    | nil =>
      intro cs h
      unfold AV.relL at h
      exact h
    | cons a l ih =>
      intro cs h
      rw [List.map_cons] at h
      unfold AV.relL at h
      obtain ⟨v, us, rfl, h1, h2⟩ := h
      unfold AV.rel at h1
      rw [h1, ih us h2]
  refine ⟨by rw [List.length_map]; exact hl, ?_, fun u hu => h1 u (by rw [← hc l cs h]; exact hu)⟩
  rw [List.map_map]
  exact h
end Mu
end
section
/-
  What shape.ins answers, in plain words.
  Conditions: none.
-/
namespace Mu
open Go Go.RowKit Go.Proofs

structure InsF (p : Prog) (f : Func) (x : Ins) : Prop where
  op : x.op ≤ 10
  nn : 0 ≤ x.d ∧ 0 ≤ x.a ∧ 0 ≤ x.b ∧ ∀ r ∈ x.args, 0 ≤ r
  call : x.op = 5 → hasB x.f (p.funcs.length : Int) = true ∧ (x.args.length : Int) = (ixD p.funcs x.f).args
  other : x.op ≠ 5 → x.args = []
  n : x.op = 1 → x.n ≤ 13
  l : x.op = 8 ∨ x.op = 9 → hasB x.l1 (f.blocks.length : Int) = true ∧ hasB x.l2 (f.blocks.length : Int) = true
theorem min3_nn {a b c : Int} (h : decide (min3 a b c < 0) = false) : 0 ≤ a ∧ 0 ≤ b ∧ 0 ≤ c := by
  have h := of_decide_eq_false h
  unfold min3 at h
  split at h <;> split at h <;> first | omega | (rename_i h1 h2; split at h1 <;> omega)
theorem ins_to {p : Prog} {f : Func} {x : Ins} (h0 : 0 ≤ x.op) (hl : x.args.length ≤ 1073741824) : ∃ r, (shape_ins p f x).to r ∧ (r = true → InsF p f x) := by
  unfold shape_ins
  cases h1 : decide (x.op > 10) with
  | true => exact ⟨false, M.t_to rfl (M.ok_to _), fun e => by cases e⟩
  | false =>
    have h1' := of_decide_eq_false h1
    obtain ⟨s, hs⟩ : ∃ s, s = bareL x := ⟨_, rfl⟩
    have hb : (shape_bare x).to s := by
      rw [hs]
      exact M.chk_to (by rw [decide_eq_true h0, decide_eq_true (by omega : x.op ≤ 10)]; rfl) (M.ok_to _)
    generalize hc : (((!(((((((s.d == x.d) && (s.a == x.a)) && (s.b == x.b)) && (s.n == x.n)) && (s.f == x.f)) && (s.l1 == x.l1)) && (s.l2 == x.l2))) || (decide ((min3 x.d x.a x.b) < 0))) || (x.args.any (fun z => decide (z < 0)))) = c
    have hlen : decide (x.args.length ≤ 1073741824) = true := decide_eq_true hl
    cases c with
    | true => exact ⟨false, M.f_to rfl (M.bnd_to hb (M.chk_to (by rw [hlen, Bool.or_true]) (M.t_to hc (M.ok_to _)))), fun e => by cases e⟩
    | false =>
      rw [Bool.or_eq_false_iff, Bool.or_eq_false_iff] at hc
      have hc' := hc
      obtain ⟨⟨_, hm⟩, ha⟩ := hc
      obtain ⟨m1, m2, m3⟩ := min3_nn hm
      have hargs : ∀ r ∈ x.args, 0 ≤ r := fun r hr => by
        have := List.any_eq_false.1 ha r hr
        have := of_decide_eq_false (by simpa using this : decide (r < 0) = false)
        omega
      have hcc : (((!(((((((s.d == x.d) && (s.a == x.a)) && (s.b == x.b)) && (s.n == x.n)) && (s.f == x.f)) && (s.l1 == x.l1)) && (s.l2 == x.l2))) || (decide ((min3 x.d x.a x.b) < 0))) || (x.args.any (fun z => decide (z < 0)))) = false := by rw [Bool.or_eq_false_iff, Bool.or_eq_false_iff]; exact hc'
      cases h5 : x.op == 5 with
      | true =>
        have e5 : x.op = 5 := by simpa using h5
        refine ⟨hasB x.f (p.funcs.length : Int) && ((x.args.length : Int) == (ixD p.funcs x.f).args), M.f_to rfl (M.bnd_to hb (M.chk_to (by rw [hlen, Bool.or_true]) (M.f_to hcc (M.t_to rfl (M.bnd_to (M.ok_to _) (M.chk_to ?_ (M.ok_to _))))))), fun e => ?_⟩
        · cases hh : hasB x.f (p.funcs.length : Int) with
          | true => exact (by rw [show inBd p.funcs x.f = true from hasB_in hh, Bool.or_true])
          | false =>
            show (!hasB x.f (p.funcs.length : Int) || _) = true
            rw [hh]
            rfl
        · rw [Bool.and_eq_true] at e
          exact ⟨by omega, ⟨m1, m2, m3, hargs⟩, fun _ => ⟨e.1, by simpa using e.2⟩, fun h => absurd e5 h, fun h => by omega, fun h => by omega⟩
      | false =>
        have e5 : x.op ≠ 5 := by simpa using h5
        have fin : ∀ (r12 r13 : Bool), ((((((x.args.length : Int) == 0) && ((x.op != 1) || (decide (x.n ≤ 13)))) && (((x.op != 8) && (x.op != 9)) || (r12 && r13))) = true) → (r12 = true → hasB x.l1 (f.blocks.length : Int) = true) → (r13 = true → hasB x.l2 (f.blocks.length : Int) = true) → InsF p f x) := fun r12 r13 e k1 k2 => by
          simp only [Bool.and_eq_true, Bool.or_eq_true, bne_iff_ne, ne_eq, beq_iff_eq, decide_eq_true_eq] at e
          obtain ⟨⟨e1, e2⟩, e3⟩ := e
          refine ⟨by omega, ⟨m1, m2, m3, hargs⟩, fun h => absurd h e5, fun _ => List.eq_nil_of_length_eq_zero (by omega), fun h => by rcases e2 with e2 | e2; exact absurd h e2; exact e2, fun h => ?_⟩
          rcases e3 with e3 | e3
          · omega
          · exact ⟨k1 e3.1, k2 e3.2⟩
        generalize hc1 : ((((x.args.length : Int) == 0) && ((x.op != 1) || (decide (x.n ≤ 13)))) && (!((x.op != 8) && (x.op != 9)))) = c1
        cases c1 with
        | false =>
          exact ⟨_, M.f_to rfl (M.bnd_to hb (M.chk_to (by rw [hlen, Bool.or_true]) (M.f_to hcc (M.f_to rfl (M.bnd_to (M.whn_f rfl) (M.bnd_to (M.whn_f rfl) (M.ok_to _))))))), fun e => fin false false e (fun h => by cases h) fun h => by cases h⟩
        | true =>
          rcases hh1 : hasB x.l1 (f.blocks.length : Int) with _ | _
          · exact ⟨_, M.f_to rfl (M.bnd_to hb (M.chk_to (by rw [hlen, Bool.or_true]) (M.f_to hcc (M.f_to rfl (M.bnd_to (M.whn_t rfl (M.ok_to _)) (M.bnd_to (M.whn_f (by show (true && hasB x.l1 (f.blocks.length : Int)) = false; rw [hh1]; rfl)) (M.ok_to _))))))), fun e => fin _ _ e (fun h => h) fun h => by cases h⟩
          · exact ⟨_, M.f_to rfl (M.bnd_to hb (M.chk_to (by rw [hlen, Bool.or_true]) (M.f_to hcc (M.f_to rfl (M.bnd_to (M.whn_t rfl (M.ok_to _)) (M.bnd_to (M.whn_t (by show (true && hasB x.l1 (f.blocks.length : Int)) = true; rw [hh1]; rfl) (M.ok_to _)) (M.ok_to _))))))), fun e => fin _ _ e (fun h => h) fun h => h⟩
end Mu
end
section
/-
  What shape.greatest answers, in plain words.
  Conditions: none.
-/
namespace Mu
open Go Go.RowKit Go.Proofs

/-- a number is more than a register (or than all that may be) -/
def GE (z n : Int) : Prop := (if 4096 < z then 4096 else z) + 1 ≤ n
theorem GE.le {z n m : Int} (h : GE z n) (h2 : n ≤ m) : GE z m := Int.le_trans h h2
theorem mx_facts {v m : Int} (hm : m ≤ 4097) (hv : v ≤ 4097) : m ≤ (if v > m then v else m) ∧ v ≤ (if v > m then v else m) ∧ (if v > m then v else m) ≤ 4097 := by
  by_cases h : v > m
  · rw [if_pos h]
    omega
  · rw [if_neg h]
    omega
theorem gr25 {l : List Int} (hok : okInts l) (hl : l.length ≤ 1073741824) {n : Int} (h0 : 0 ≤ n) (h1 : n ≤ 4097) : ∃ r, (M.loop (shape_greatest_L25 l) (n, 0)).to r ∧ (n ≤ r ∧ r ≤ 4097 ∧ ∀ z ∈ l, GE z r) := by
  refine M.loop_inv (fun s : Int × Int => 0 ≤ s.2 ∧ s.2.toNat ≤ l.length ∧ n ≤ s.1 ∧ s.1 ≤ 4097 ∧ ∀ (i : Nat) (z : Int), i < s.2.toNat → l[i]? = some z → GE z s.1) (fun s => l.length - s.2.toNat) _ (fun s hs => ?_) (n, 0) ⟨Int.le_refl _, Nat.zero_le _, Int.le_refl _, h1, fun i z hi => absurd hi (Nat.not_lt_zero _)⟩
  obtain ⟨m, k⟩ := s
  obtain ⟨k0, kl, km, km2, hall⟩ := hs
  have k0 : 0 ≤ k := k0
  have kl : k.toNat ≤ l.length := kl
  have km : n ≤ m := km
  have km2 : m ≤ 4097 := km2
  have hall : ∀ (i : Nat) (z : Int), i < k.toNat → l[i]? = some z → GE z m := hall
  unfold shape_greatest_L25
  cases hc : decide (k < (l.length : Int)) with
  | false =>
    have := of_decide_eq_false hc
    refine ⟨.inr m, M.f_to hc (M.ok_to _), fun s' e => (by cases e), fun r e => ?_⟩
    cases e
    refine ⟨km, km2, fun z hz => ?_⟩
    obtain ⟨i, hi⟩ := List.getElem?_of_mem hz
    have := (List.getElem?_eq_some_iff.1 hi).1
    exact hall i z (by omega) hi
  | true =>
    have hk := of_decide_eq_true hc
    have hin : inBd l k = true := inB_iff.2 ⟨k0, by omega⟩
    have hz := inB_get hin
    obtain ⟨z, hze⟩ : ∃ z, z = ixD l k := ⟨_, rfl⟩
    rw [← hze] at hz
    have hwz := wfI_i64 (hok z (List.mem_of_getElem? hz))
    have hw : IntKind.i64.wrap ((if 4096 < z then 4096 else z) + 1) = (if 4096 < z then 4096 else z) + 1 := IntWalk.i64_in _ (by split <;> omega)
    refine ⟨_, M.t_to hc (M.chk_to hin (M.ok_to _)), fun s' e => ?_, fun r e => (by cases e)⟩
    cases e
    rw [← hze, hw, show IntKind.i64.wrap (k + 1) = k + 1 from IntWalk.i64_in _ (by omega)]
    have hv : (if 4096 < z then 4096 else z) + 1 ≤ 4097 := by split <;> omega
    obtain ⟨f1, f2, f3⟩ := mx_facts km2 hv
    refine ⟨⟨by show 0 ≤ k + 1; omega, by show (k + 1).toNat ≤ _; omega, Int.le_trans km f1, f3, fun i y hi hy => ?_⟩, by show l.length - (k + 1).toNat < l.length - k.toNat; omega⟩
    have hi : i < (k + 1).toNat := hi
    by_cases e : i = k.toNat
    · subst e
      rw [hz] at hy
      cases hy
      exact f2
    · exact (hall i y (by omega) hy).le f1
/-- the registers of an instruction -/
def regsLG (x : Ins) : List Int := readsC x ++ if writesB x then [x.d] else []
theorem regs_to {x : Ins} (ho : okIns x) (ha : x.args.length ≤ 2097152) : (M.bnd (sh_Reads x) fun r16 => M.bnd (sh_Writes x) fun r20 => M.cnd r20.2 (M.chk (wfB .i64 r20.1) (M.chk (rowB (r16.length + [r20.1].length) 8) (M.ok (r16 ++ [r20.1])))) (M.ok r16)).to (regsLG x) := by
  have h1 : (sh_Reads x).to (readsC x) := M.chk_to (by rw [okInB_iff.2 ho, decide_eq_true ha]; rfl) (M.ok_to _)
  have h2 : (sh_Writes x).to (if writesB x then x.d else 0, writesB x) := M.chk_to (okInB_iff.2 ho) (M.ok_to _)
  have hl := readsC_lenT ha
  refine M.bnd_to h1 (M.bnd_to h2 ?_)
  unfold regsLG
  cases hw : writesB x with
  | true => exact M.t_to rfl (M.chk_to ho.d (M.chk_to (by show rowB ((readsC x).length + 1) 8 = true; exact row1 (by omega)) (M.ok_to _)))
  | false =>
    have e : readsC x ++ (if false = true then [x.d] else []) = readsC x := by simp
    rw [e]
    exact M.f_to rfl (M.ok_to _)
theorem regsL_ok {x : Ins} (ho : okIns x) (ha : x.args.length ≤ 2097152) : okInts (regsLG x) ∧ (regsLG x).length ≤ 1073741824 := by
  have hl := readsC_lenT ha
  unfold regsLG
  refine ⟨fun z hz => ?_, ?_⟩
  · rcases List.mem_append.1 hz with hz | hz
    · exact readsC_ok ho z hz
    · split at hz
      · rw [List.mem_singleton.1 hz]
        exact ho.d
      · cases hz
  · rw [List.length_append]
    split <;> simp <;> omega
theorem gr12 {f : Func} {x2 : Int} (hok : ∀ x ∈ (ixD f.blocks x2).ins, okIns x ∧ x.args.length ≤ 2097152) (hl : (ixD f.blocks x2).ins.length ≤ 1073741824) {n : Int} (h0 : 0 ≤ n) (h1 : n ≤ 4097) : ∃ r, (M.loop (shape_greatest_L12 f x2) (n, 0)).to r ∧ (n ≤ r ∧ r ≤ 4097 ∧ ∀ x ∈ (ixD f.blocks x2).ins, ∀ z ∈ regsLG x, GE z r) := by
  obtain ⟨l, hle⟩ : ∃ l, l = (ixD f.blocks x2).ins := ⟨_, rfl⟩
  rw [← hle] at hok hl ⊢
  refine M.loop_inv (fun s : Int × Int => 0 ≤ s.2 ∧ s.2.toNat ≤ l.length ∧ n ≤ s.1 ∧ s.1 ≤ 4097 ∧ ∀ (i : Nat) (x : Ins), i < s.2.toNat → l[i]? = some x → ∀ z ∈ regsLG x, GE z s.1) (fun s => l.length - s.2.toNat) _ (fun s hs => ?_) (n, 0) ⟨Int.le_refl _, Nat.zero_le _, Int.le_refl _, h1, fun i z hi => absurd hi (Nat.not_lt_zero _)⟩
  obtain ⟨m, k⟩ := s
  obtain ⟨k0, kl, km, km2, hall⟩ := hs
  have k0 : 0 ≤ k := k0
  have kl : k.toNat ≤ l.length := kl
  have km : n ≤ m := km
  have km2 : m ≤ 4097 := km2
  have hall : ∀ (i : Nat) (x : Ins), i < k.toNat → l[i]? = some x → ∀ z ∈ regsLG x, GE z m := hall
  unfold shape_greatest_L12
  rw [← hle]
  cases hc : decide (k < (l.length : Int)) with
  | false =>
    have := of_decide_eq_false hc
    refine ⟨.inr m, M.f_to hc (M.ok_to _), fun s' e => (by cases e), fun r e => ?_⟩
    cases e
    refine ⟨km, km2, fun x hx => ?_⟩
    obtain ⟨i, hi⟩ := List.getElem?_of_mem hx
    have := (List.getElem?_eq_some_iff.1 hi).1
    exact hall i x (by omega) hi
  | true =>
    have hk := of_decide_eq_true hc
    have hin : inBd l k = true := inB_iff.2 ⟨k0, by omega⟩
    have hz := inB_get hin
    obtain ⟨x, hxe⟩ : ∃ x, x = ixD l k := ⟨_, rfl⟩
    rw [← hxe] at hz
    obtain ⟨ho, ha⟩ := hok x (List.mem_of_getElem? hz)
    obtain ⟨o1, o2⟩ := regsL_ok ho ha
    obtain ⟨r, hr, g1, g2, g3⟩ := gr25 o1 o2 (n := m) (by omega) km2
    obtain ⟨r16, q1, q2⟩ := M.to_bnd.1 (regs_to ho ha)
    refine ⟨.inl (r, IntKind.i64.wrap (k + 1)), M.t_to hc (M.chk_to hin (by rw [← hxe]; exact M.bnd_to q1 (M.bnd_to q2 (M.bnd_to hr (M.ok_to _))))), fun s' e => ?_, fun r e => (by cases e)⟩
    cases e
    rw [show IntKind.i64.wrap (k + 1) = k + 1 from IntWalk.i64_in _ (by omega)]
    refine ⟨⟨by show 0 ≤ k + 1; omega, by show (k + 1).toNat ≤ _; omega, Int.le_trans km g1, g2, fun i y hi hy => ?_⟩, by show l.length - (k + 1).toNat < l.length - k.toNat; omega⟩
    have hi : i < (k + 1).toNat := hi
    by_cases e : i = k.toNat
    · subst e
      rw [hz] at hy
      cases hy
      exact g3
    · exact fun z hz => (hall i y (by omega) hy z hz).le g1
theorem great_to {f : Func} (hok : ∀ b ∈ f.blocks, b.ins.length ≤ 1073741824 ∧ ∀ x ∈ b.ins, okIns x ∧ x.args.length ≤ 2097152) (hl : f.blocks.length ≤ 1073741824) : ∃ r, (shape_greatest f).to r ∧ (0 ≤ r ∧ r ≤ 4097 ∧ ∀ b ∈ f.blocks, ∀ x ∈ b.ins, ∀ z ∈ regsLG x, GE z r) := by
  have key : ∃ r, (M.loop (shape_greatest_L5 f) (0, 0)).to r ∧ (0 ≤ r ∧ r ≤ 4097 ∧ ∀ b ∈ f.blocks, ∀ x ∈ b.ins, ∀ z ∈ regsLG x, GE z r) := by
    refine M.loop_inv (fun s : Int × Int => 0 ≤ s.2 ∧ s.2.toNat ≤ f.blocks.length ∧ 0 ≤ s.1 ∧ s.1 ≤ 4097 ∧ ∀ (i : Nat) (b : Block), i < s.2.toNat → f.blocks[i]? = some b → ∀ x ∈ b.ins, ∀ z ∈ regsLG x, GE z s.1) (fun s => f.blocks.length - s.2.toNat) _ (fun s hs => ?_) (0, 0) ⟨Int.le_refl _, Nat.zero_le _, Int.le_refl _, by decide, fun i z hi => absurd hi (Nat.not_lt_zero _)⟩
    obtain ⟨m, k⟩ := s
    obtain ⟨k0, kl, km, km2, hall⟩ := hs
    have k0 : 0 ≤ k := k0
    have kl : k.toNat ≤ f.blocks.length := kl
    have km : 0 ≤ m := km
    have km2 : m ≤ 4097 := km2
    have hall : ∀ (i : Nat) (b : Block), i < k.toNat → f.blocks[i]? = some b → ∀ x ∈ b.ins, ∀ z ∈ regsLG x, GE z m := hall
    unfold shape_greatest_L5
    cases hc : decide (k < (f.blocks.length : Int)) with
    | false =>
      have := of_decide_eq_false hc
      refine ⟨.inr m, M.f_to hc (M.ok_to _), fun s' e => (by cases e), fun r e => ?_⟩
      cases e
      refine ⟨km, km2, fun b hb => ?_⟩
      obtain ⟨i, hi⟩ := List.getElem?_of_mem hb
      have := (List.getElem?_eq_some_iff.1 hi).1
      exact hall i b (by omega) hi
    | true =>
      have hk := of_decide_eq_true hc
      have hin : inBd f.blocks k = true := inB_iff.2 ⟨k0, by omega⟩
      have hz := inB_get hin
      have hbm := List.mem_of_getElem? hz
      obtain ⟨r, hr, g1, g2, g3⟩ := gr12 (x2 := k) (hok _ hbm).2 (hok _ hbm).1 km km2
      refine ⟨.inl (r, IntKind.i64.wrap (k + 1)), M.t_to hc (M.chk_to hin (M.bnd_to hr (M.ok_to _))), fun s' e => ?_, fun r e => (by cases e)⟩
      cases e
      rw [show IntKind.i64.wrap (k + 1) = k + 1 from IntWalk.i64_in _ (by omega)]
      refine ⟨⟨by show 0 ≤ k + 1; omega, by show (k + 1).toNat ≤ _; omega, Int.le_trans km g1, g2, fun i y hi hy => ?_⟩, by show f.blocks.length - (k + 1).toNat < f.blocks.length - k.toNat; omega⟩
      have hi : i < (k + 1).toNat := hi
      by_cases e : i = k.toNat
      · subst e
        rw [hz] at hy
        cases hy
        exact g3
      · exact fun x hx z hz => (hall i y (by omega) hy x hx z hz).le g1
  obtain ⟨r, h1, h2⟩ := key
  exact ⟨r, M.bnd_to h1 (M.ok_to _), h2⟩
end Mu
end
section
/-
  What is known of a program that may be.
  Conditions: its parts are not too long.
-/
namespace Mu
open Go Go.RowKit Go.Proofs

structure ProgSz (p : Prog) : Prop where
  heap : wfI .i64 p.heap
  thr : p.threads.length ≤ 2097152
  fl : p.funcs.length ≤ 2097152
  ok : ∀ f ∈ p.funcs, okFunc f
  nm : ∀ f ∈ p.funcs, f.name.size ≤ 1073741824 ∧ ∀ b ∈ f.blocks, b.name.size ≤ 1073741824
  bl : ∀ f ∈ p.funcs, f.blocks.length ≤ 2097152
  il : ∀ f ∈ p.funcs, ∀ b ∈ f.blocks, b.ins.length ≤ 2097152
  al : ∀ f ∈ p.funcs, ∀ b ∈ f.blocks, ∀ x ∈ b.ins, x.args.length ≤ 2097152
open Classical in
noncomputable def nbF (s : ByteArray) : Bool := if h : s.size ≤ 1073741824 then Classical.choose (name_fn h) else false
theorem nbF_ok {s : ByteArray} (h : s.size ≤ 1073741824) : Fn Tryz.prog 197 [.lit (.string s)] (.lit (.bool (nbF s))) := by
  unfold nbF
  rw [dif_pos h]
  exact Classical.choose_spec (name_fn h)
open Classical in
noncomputable def grF (f : Func) : Int := if h : ∃ r, (shape_greatest f).to r ∧ (0 ≤ r ∧ r ≤ 4097 ∧ ∀ b ∈ f.blocks, ∀ x ∈ b.ins, ∀ z ∈ regsLG x, GE z r) then Classical.choose h else 0
open Classical in
noncomputable def ivF (p : Prog) (f : Func) (x : Ins) : Bool := if h : ∃ r, (shape_ins p f x).to r ∧ (r = true → InsF p f x) then Classical.choose h else false
section
variable {p : Prog} (hp : ProgSz p)
include hp
theorem insOk {f : Func} (hf : f ∈ p.funcs) {b : Block} (hb : b ∈ f.blocks) {x : Ins} (hx : x ∈ b.ins) : okIns x := ((hp.ok f hf).blocks b hb).ins x hx
theorem grF_ok {f : Func} (hf : f ∈ p.funcs) : (shape_greatest f).to (grF f) ∧ (0 ≤ grF f ∧ grF f ≤ 4097 ∧ ∀ b ∈ f.blocks, ∀ x ∈ b.ins, ∀ z ∈ regsLG x, GE z (grF f)) := by
  have h := great_to (f := f) (fun b hb => ⟨Nat.le_trans (hp.il f hf b hb) (by decide), fun x hx => ⟨insOk hp hf hb hx, hp.al f hf b hb x hx⟩⟩) (Nat.le_trans (hp.bl f hf) (by decide))
  unfold grF
  rw [dif_pos h]
  exact Classical.choose_spec h
theorem ivF_ok {f : Func} (hf : f ∈ p.funcs) {b : Block} (hb : b ∈ f.blocks) {x : Ins} (hx : x ∈ b.ins) : (shape_ins p f x).to (ivF p f x) ∧ (ivF p f x = true → InsF p f x) := by
  have h := ins_to (p := p) (f := f) (x := x) (wfI_u8 (insOk hp hf hb hx).op).1 (Nat.le_trans (hp.al f hf b hb x hx) (by decide))
  unfold ivF
  rw [dif_pos h]
  exact Classical.choose_spec h
/-- what a function's head tells -/
theorem head_told {f : Func} (hf : f ∈ p.funcs) (hh : ∀ n, n < p.funcs.length → hdOk p nbF grF n = true) : 0 ≤ f.args ∧ f.args ≤ f.regs ∧ grF f ≤ f.regs ∧ f.regs ≤ 4096 ∧ f.blocks ≠ [] := by
  have _hp := hp
  obtain ⟨n, hn⟩ := List.getElem?_of_mem hf
  have hnl := (List.getElem?_eq_some_iff.1 hn).1
  have e : ixD p.funcs (n : Int) = f := by
    have := inB_get (inBn hnl)
    rw [Int.toNat_natCast, hn] at this
    exact (Option.some.inj this).symm
  have h := hh n hnl
  unfold hdOk headB at h
  rw [e] at h
  simp only [Bool.and_eq_true, decide_eq_true_eq, beq_iff_eq] at h
  obtain ⟨⟨⟨⟨⟨_, h1⟩, _⟩, h2⟩, h3⟩, h4⟩ := h
  unfold maxI at h2
  refine ⟨h1, ?_, ?_, h3, fun e => ?_⟩
  · rw [h2]; split <;> omega
  · rw [h2]; split <;> omega
  · rw [e] at h4
    exact absurd h4 (by decide)
/-- what its blocks tell -/
theorem block_told {f : Func} (hf : f ∈ p.funcs) (hb : ∀ i, i < f.blocks.length → bkOk nbF (ivF p) f i = true) {b : Block} (hbm : b ∈ f.blocks) : b.ins ≠ [] ∧ (∀ x ∈ b.ins, InsF p f x) ∧ ∀ (i : Nat) (x : Ins), b.ins[i]? = some x → (endsSB x = true ↔ i + 1 = b.ins.length) := by
  obtain ⟨n, hn⟩ := List.getElem?_of_mem hbm
  have hnl := (List.getElem?_eq_some_iff.1 hn).1
  have e : ixD f.blocks (n : Int) = b := by
    have := inB_get (inBn hnl)
    rw [Int.toNat_natCast, hn] at this
    exact (Option.some.inj this).symm
  have h := hb n hnl
  unfold bkOk blockSB at h
  rw [e, Bool.and_eq_true, Bool.not_eq_true', Bool.or_eq_false_iff] at h
  obtain ⟨⟨_, h1⟩, h2⟩ := h
  have hne : b.ins ≠ [] := fun e => by rw [e] at h1; cases h1
  have hpos := List.length_pos_iff.2 hne
  have key : ∀ (i : Nat) (x : Ins), b.ins[i]? = some x → (endsSB x = ((i : Int) == ((b.ins.length - 1 : Nat) : Int))) ∧ ivF p f x = true := fun i x hx => by
    have hil := (List.getElem?_eq_some_iff.1 hx).1
    have h3 := List.all_eq_true.1 h2 i (List.mem_range.2 hil)
    have ex : ixD b.ins (i : Int) = x := by
      have := inB_get (inBn hil)
      rw [Int.toNat_natCast, hx] at this
      exact (Option.some.inj this).symm
    unfold okI at h3
    rw [ex, Bool.not_eq_true', Bool.or_eq_false_iff, Bool.not_eq_false'] at h3
    exact ⟨by simpa using h3.1, h3.2⟩
  refine ⟨hne, fun x hx => ?_, fun i x hx => ?_⟩
  · obtain ⟨i, hi⟩ := List.getElem?_of_mem hx
    exact (ivF_ok hp hf hbm hx).2 (key i x hi).2
  · have hil := (List.getElem?_eq_some_iff.1 hx).1
    rw [(key i x hx).1]
    simp only [beq_iff_eq]
    omega
omit hp in
theorem reads_nn {f : Func} {x : Ins} (h : InsF p f x) {r : Int} (hr : r ∈ readsC x) : 0 ≤ r := by
  obtain ⟨h1, h2, h3, h4⟩ := h.nn
  unfold readsC at hr
  rcases List.mem_append.1 hr with hr | hr
  · rcases List.mem_append.1 hr with hr | hr
    · split at hr
      · rw [List.mem_singleton.1 hr]; exact h2
      · cases hr
    · split at hr
      · rw [List.mem_singleton.1 hr]; exact h3
      · cases hr
  · split at hr
    · exact h4 r hr
    · cases hr
omit hp in
theorem GE.lt {z g n : Int} (h : GE z g) (h1 : g ≤ n) (h2 : n ≤ 4096) : z < n := by
  unfold GE at h
  split at h <;> omega
omit hp in
theorem ixD_fun (p : Prog) (z : Int) : ixD p.funcs z = funA p z.toNat := rfl
omit hp in
theorem hasB_iff {z n : Int} (h : hasB z n = true) : 0 ≤ z ∧ z < n := by
  unfold hasB at h
  rw [Bool.and_eq_true, decide_eq_true_eq, decide_eq_true_eq] at h
  exact h
variable (hS : Stat p nbF grF (ivF p))
include hS
theorem regs_told {f : Func} (hf : f ∈ p.funcs) {b : Block} (hb : b ∈ f.blocks) {x : Ins} (hx : x ∈ b.ins) : (∀ r ∈ readsC x, 0 ≤ r ∧ r < f.regs) ∧ (writesB x = true → 0 ≤ x.d ∧ x.d < f.regs) := by
  obtain ⟨_, _, h3, h4, _⟩ := head_told hp hf hS.heads
  have hI := (block_told hp hf (hS.blocks f hf) hb).2.1 x hx
  have hg := (grF_ok hp hf).2.2.2 b hb x hx
  refine ⟨fun r hr => ⟨reads_nn hI hr, (hg r (List.mem_append.2 (.inl hr))).lt h3 h4⟩, fun hw => ⟨hI.nn.1, (hg x.d (List.mem_append.2 (.inr (by rw [if_pos hw]; simp)))).lt h3 h4⟩⟩
theorem inF_of {f : Func} (hf : f ∈ p.funcs) : ∃ n, InF n f := by
  obtain ⟨h1, h2, h3, h4, h5⟩ := head_told hp hf hS.heads
  refine ⟨f.regs.toNat, by omega, by omega, ⟨h1, h2⟩, h5, Nat.le_trans (hp.bl f hf) (by decide), fun b hb => ?_⟩
  obtain ⟨k1, k2, _⟩ := block_told hp hf (hS.blocks f hf) hb
  refine ⟨k1, Nat.le_trans (hp.il f hf b hb) (by decide), fun x hx => ?_, fun x hx r hr => ?_⟩
  · obtain ⟨q1, q2⟩ := regs_told hp hS hf hb hx
    exact ⟨insOk hp hf hb hx, hp.al f hf b hb x hx, fun r hr => ⟨(q1 r hr).1, by have := q1 r hr; omega⟩, fun hw => ⟨(q2 hw).1, by have := q2 hw; omega⟩⟩
  · have hI := k2 x hx
    unfold goesL at hr
    split at hr
    · rename_i e
      rw [List.mem_singleton.1 hr]
      have := hasB_iff (hI.l (.inl e)).1
      omega
    · split at hr
      · rename_i e
        have k := hI.l (.inr e)
        have k1 := hasB_iff k.1
        have k2 := hasB_iff k.2
        rcases List.mem_cons.1 hr with rfl | hr
        · omega
        · rw [List.mem_singleton.1 hr]
          omega
      · cases hr
theorem progOk : ProgOk p := by
  refine ⟨fun f hf => ?_, ?_⟩
  · obtain ⟨h1, h2, h3, h4, h5⟩ := head_told hp hf hS.heads
    refine ⟨⟨h1, h2⟩, h5, fun b hb => ?_⟩
    obtain ⟨k1, k2, k3⟩ := block_told hp hf (hS.blocks f hf) hb
    refine ⟨k1, fun x hx => ?_, fun i x hx => ?_⟩
    · have hI := k2 x hx
      obtain ⟨q1, q2⟩ := regs_told hp hS hf hb hx
      have h0 := (wfI_u8 (insOk hp hf hb hx).op).1
      refine ⟨⟨h0, hI.op⟩, q1, q2, fun e => ?_, fun e => ?_, fun e => ?_⟩
      · obtain ⟨c1, c2⟩ := hI.call e
        have := hasB_iff c1
        exact ⟨this.1, by omega, by rw [c2, ixD_fun]⟩
      · have := hasB_iff (hI.l e).1
        omega
      · have := hasB_iff (hI.l (.inr e)).2
        omega
    · have hI := k2 x (List.mem_of_getElem? hx)
      rw [← k3 i x hx]
      unfold endsSB
      rw [Bool.and_eq_true, decide_eq_true_eq, decide_eq_true_eq]
      have := hI.op
      omega
  · have ht := hS.top
    unfold topB at ht
    simp only [Bool.and_eq_true, Bool.not_eq_true', Bool.or_eq_false_iff, decide_eq_false_iff_not] at ht
    obtain ⟨⟨⟨⟨⟨⟨_, _⟩, _⟩, _⟩, h1⟩, _⟩, h2⟩ := ht
    refine ⟨fun e => by rw [e] at h1; exact h1 (by decide), fun t ht => ?_⟩
    have h3 := List.any_eq_false.1 h2 t ht
    unfold topT at h3
    simp only [Bool.or_eq_true, Bool.not_eq_true', not_or, Bool.not_eq_false, bne_iff_ne, ne_eq, Decidable.not_not] at h3
    have := hasB_iff h3.1
    exact ⟨this.1, by omega, by rw [← ixD_fun]; exact h3.2⟩
theorem pBig : PBig dwF p := by
  refine ⟨progOk hp hS, fun f hf b hb x hx => ?_, fun f hf b hb => Nat.le_trans (hp.il f hf b hb) (by decide), fun f hf => ?_, fun n a b h0 h1 ha hb => ?_⟩
  · have hI := (block_told hp hf (hS.blocks f hf) hb).2.1 x hx
    have hw := (insOk hp hf hb hx).n
    refine ⟨hw, fun e => ?_⟩
    have := hI.n e
    have := wf_u32 hw
    omega
  · obtain ⟨_, _, _, h4, _⟩ := head_told hp hf hS.heads
    omega
  · obtain ⟨w, is, k1, k2, k3⟩ := dwF_ok n a b h0 h1 ha hb
    exact ⟨w, is, k1, k2, k3⟩
omit hS in
theorem chkIn : ChkIn p nbF grF (ivF p) where
  heap := hp.heap
  thr := Nat.le_trans hp.thr (by decide)
  fl := Nat.le_trans hp.fl (by decide)
  ok := hp.ok
  bl := fun f hf => Nat.le_trans (hp.bl f hf) (by decide)
  il := fun f hf b hb => Nat.le_trans (hp.il f hf b hb) (by decide)
  nameF := fun f hf => nbF_ok (hp.nm f hf).1
  nameB := fun f hf b hb => nbF_ok ((hp.nm f hf).2 b hb)
  great := fun f hf => shape_greatest_l (grF_ok hp hf).1
  ins := fun f hf b hb x hx => shape_ins_l (ivF_ok hp hf hb hx).1
  inF := fun h1 h2 h3 f hf => inF_of hp ⟨h1, h2, h3⟩ hf
end
end Mu
end
section
/-
  A model at its beginning, in plain words.
  Conditions: the program may be.
-/
namespace Mu
open Go Go.RowKit Go.Proofs

theorem progSz {p : Prog} (hb : tProg.bulk p ≤ 2097152) (hh : wfI .i64 p.heap) (ho : ∀ f ∈ p.funcs, okFunc f) : ProgSz p := by
  have hf : ∀ f ∈ p.funcs, tFunc.bulk f ≤ 2097152 := fun f hf => Nat.le_trans (prog_func_le hf) hb
  have hbk : ∀ f ∈ p.funcs, ∀ b ∈ f.blocks, tBlock.bulk b ≤ 2097152 := fun f h b hb => Nat.le_trans (func_block_le hb) (hf f h)
  refine ⟨hh, Nat.le_trans (prog_threads_le p) hb, Nat.le_trans (prog_funcs_le p) hb, ho, fun f h => ⟨?_, fun b hb => ?_⟩, fun f h => Nat.le_trans (func_blocks_le f) (hf f h), fun f h b hb => Nat.le_trans (block_ins_le b) (hbk f h b hb), fun f h b hb x hx => Nat.le_trans (ins_args_le x) (Nat.le_trans (block_in_le hx) (hbk f h b hb))⟩
  · have := hf f h
    rw [bulk_func] at this
    omega
  · have := hbk f h b hb
    rw [bulk_block] at this
    omega
/-- the model at its beginning -/
def startM (p : Prog) (ch : List Int) : Mdl := ⟨List.replicate p.heap.toNat 0, [], ch, p.threads.map fun z => [newFr p z.toNat []], 0, 0, 0⟩
theorem newFr_ok {p : Prog} (hP : ProgOk p) {z : Nat} (hz : z < p.funcs.length) : FrOk p (newFr p z []) := by
  have hF := fun_ok hP hz
  have hb0 := List.length_pos_iff.2 hF.blocks
  have hbm : (funA p z).blocks[0] ∈ (funA p z).blocks := List.getElem_mem hb0
  have hi0 := List.length_pos_iff.2 (hF.ins _ hbm).1
  refine ⟨hz, hb0, ?_, ?_⟩
  · show 0 < (blkA p (newFr p z [])).length
    have e : blkA p (newFr p z []) = (funA p z).blocks[0].ins := by
      unfold blkA
      show ((funA p z).blocks.getD 0 default).ins = _
      rw [List.getD_eq_getElem?_getD, List.getElem?_eq_getElem hb0]
      rfl
    rw [e]
    exact hi0
  · show (newFr p z []).regs.length = _
    unfold newFr
    simp
theorem start_ok {p : Prog} (hP : ProgOk p) (ch : List Int) : MOk p (startM p ch) := by
  obtain ⟨ht, htt⟩ := hP.threads
  have hpos := List.length_pos_iff.2 ht
  have hlen : (startM p ch).ths.length = p.threads.length := List.length_map _
  have h0 : (startM p ch).ths.getD 0 [] ≠ [] := by
    show (p.threads.map fun z => [newFr p z.toNat []]).getD 0 [] ≠ []
    rw [List.getD_eq_getElem?_getD, List.getElem?_map, List.getElem?_eq_getElem hpos]
    exact fun e => by cases e
  refine ⟨hlen, fun t l hl => ?_, fun _ => h0, fun _ => ⟨by rw [hlen]; exact hpos, h0⟩⟩
  have hl : (p.threads.map fun z => [newFr p z.toNat []])[t]? = some l := hl
  rw [List.getElem?_map] at hl
  obtain ⟨z, hz, rfl⟩ := Option.map_eq_some_iff.1 hl
  obtain ⟨k1, k2, _⟩ := htt z (List.mem_of_getElem? hz)
  refine ⟨fun r hr => by rw [List.mem_singleton.1 hr]; exact newFr_ok hP k2, trivial, fun r hr => ?_⟩
  cases hr
  rw [hz]
  show some z = some ((z.toNat : Nat) : Int)
  rw [Int.toNat_of_nonneg k1]
end Mu
end
