/-
  Own texts laid together, part 5: MuBodyJ, MuBodyK, MuBodyL, MuRowQ, MuOpen, MuRowS.
  Conditions: as each part says.
-/
import Derived.Test.YtphbknmjnoeheaaGreatBm4
import Derived.Test.YtphbknmjnoeheaaGreatRows
import Derived.Carry
import Derived.OpenShut
import Derived.ProofKit
section
/-
  muntinlaw23.BodyMoves: what it computes.
  Conditions: none.
-/
namespace Mu
open Go Go.RowKit Go.Proofs
noncomputable section

def law23_BodyMoves_L9 (l : List Pair) : Int → M (Int ⊕ ((Unit) ⊕ (Bool))) := fun i4 => M.cnd (decide (i4 < (l.length : Int))) (M.chk (inBd l i4) (M.chk (!(!(decide (((ixD l i4).a) < 4))) || (inBd l i4)) (M.chk (!(!((decide (((ixD l i4).a) < 4)) || (decide (((ixD l i4).b) < 4)))) || (inBd l i4)) (M.chk (!(!(((decide (((ixD l i4).a) < 4)) || (decide (((ixD l i4).b) < 4))) || (decide (((ixD l i4).a) > 99)))) || (inBd l i4)) (M.cnd ((((decide (((ixD l i4).a) < 4)) || (decide (((ixD l i4).b) < 4))) || (decide (((ixD l i4).a) > 99))) || (decide (((ixD l i4).b) > 99))) (M.bnd law23_head fun r14 => M.ok (.inr (.inr r14))) (M.ok (.inl (IntKind.i64.wrap (i4 + 1))))))))) (M.ok (.inr (.inl ())))
def law23_BodyMoves_L22 : (Int × (List Int) × (List Int)) → M ((Int × (List Int) × (List Int)) ⊕ ((List Int) × (List Int))) := fun (i17, l19, l21) => M.cnd (decide (i17 < 100)) (M.chk (inBd l19 i17) (M.chk (wfB .i64 i17) (M.chk (inBd l21 i17) (M.chk (wfB .i64 i17) (M.ok (.inl (IntKind.i64.wrap (i17 + 1), l19.set (Int.toNat i17) i17, l21.set (Int.toNat i17) i17))))))) (M.ok (.inr (l19, l21)))
def law23_BodyMoves_L32 (l : List Pair) : (Int × (List Int)) → M ((Int × (List Int)) ⊕ ((List Int))) := fun (i34, l37) => M.cnd (decide (i34 ≥ 0)) (M.chk (inBd l i34) (M.chk (inBd l37 ((ixD l i34).a)) (M.chk (wfB .i64 ((ixD l i34).b)) (M.ok (.inl (IntKind.i64.wrap (i34 - 1), l37.set (Int.toNat ((ixD l i34).a)) ((ixD l i34).b))))))) (M.ok (.inr l37))
def law23_BodyMoves_L42 (r48 : List Pair) : (Int × (List Int)) → M ((Int × (List Int)) ⊕ (((List Int)) ⊕ (Bool))) := fun (i49, l51) => M.cnd (decide (i49 < (r48.length : Int))) (M.chk (inBd r48 i49) (M.chk (!(!(decide (((ixD r48 i49).a) < 3))) || (inBd r48 i49)) (M.chk (!(!((decide (((ixD r48 i49).a) < 3)) || (decide (((ixD r48 i49).a) > 99)))) || (inBd r48 i49)) (M.chk (!(!(((decide (((ixD r48 i49).a) < 3)) || (decide (((ixD r48 i49).a) > 99))) || (decide (((ixD r48 i49).b) < 3)))) || (inBd r48 i49)) (M.cnd ((((decide (((ixD r48 i49).a) < 3)) || (decide (((ixD r48 i49).a) > 99))) || (decide (((ixD r48 i49).b) < 3))) || (decide (((ixD r48 i49).b) > 99))) (M.ok (.inr (.inr false))) (M.chk (inBd r48 i49) (M.chk (inBd l51 ((ixD r48 i49).b)) (M.chk (inBd l51 ((ixD r48 i49).a)) (M.chk (wfB .i64 (ixD l51 ((ixD r48 i49).b))) (M.ok (.inl (IntKind.i64.wrap (i49 + 1), l51.set (Int.toNat ((ixD r48 i49).a)) (ixD l51 ((ixD r48 i49).b)))))))))))))) (M.ok (.inr (.inl l51)))
def law23_BodyMoves_L56 (l41 : List Int) (l55 : List Int) : Int → M (Int ⊕ ((Unit) ⊕ (Bool))) := fun i70 => M.cnd (decide (i70 < 100)) (M.chk (inBd l55 i70) (M.chk (inBd l41 i70) (M.cnd ((ixD l55 i70) != (ixD l41 i70)) (M.ok (.inr (.inr false))) (M.ok (.inl (IntKind.i64.wrap (i70 + 1))))))) (M.ok (.inr (.inl ())))
def law23_BodyMoves (l : List Pair) : M Bool := M.cnd (decide ((l.length : Int) > 60)) (M.bnd law23_head fun r3 => M.ok r3) (M.els (M.loop (law23_BodyMoves_L9 l) 0) fun _ => M.chk (makB 100 8) (M.bnd (M.loop (law23_BodyMoves_L22) (0, List.replicate (Int.toNat 100) 0, List.replicate (Int.toNat 100) 0)) fun (l24, l26) => M.bnd (M.loop (law23_BodyMoves_L32 l) (IntKind.i64.wrap ((l.length : Int) - 1), l26)) fun l41 => M.bnd (body_AtOnce l) fun r48 => M.els (M.loop (law23_BodyMoves_L42 r48) (0, l24)) fun l55 => M.els (M.loop (law23_BodyMoves_L56 l41 l55) 4) fun _ => M.bnd (M.whn (decide ((IntKind.i64.wrap (2 * (r48.length : Int))) ≤ (IntKind.i64.wrap (3 * (l.length : Int))))) false law23_head) fun r80 => M.ok ((decide ((IntKind.i64.wrap (2 * (r48.length : Int))) ≤ (IntKind.i64.wrap (3 * (l.length : Int))))) && r80)))
set_option maxRecDepth 100000 in
set_option maxHeartbeats 4000000 in
theorem law23_BodyMoves_l {l : List Pair} {r : Bool} (H : (law23_BodyMoves l).to r) : Fn Tryz.prog 4 [.bs tPair l] (.lit (.bool r)) := by
  delta law23_BodyMoves at H
  try dsimp only at H
  refine Fn.of_awp Tryz.func4 rfl (by kernel_rfl) rfl Tryz.ntmps4 fun C hC => ?_
  simp only [List.length_cons, List.length_nil, Nat.reduceAdd, Nat.reduceSub, List.replicate_succ, List.replicate_zero, List.cons_append, List.nil_append]
  refine wR (hx := by (refine sA (hq := Quiet.assign rfl getC) (ht := set2) (hk := ?_); exact wEnd rfl)) (hk := ?_)
  refine Awp.seq fun Khs1 hs1 => ?_
  refine wR (hx := by (refine sA (hq := Quiet.move rfl get0) (ht := (setS8 set3)) (hk := ?_); refine sA (hq := Quiet.ln rfl (getS8 get3)) (ht := (setS8 set4)) (hk := ?_); refine sA (hq := Quiet.bin rfl (getS8 get4) getC rfl) (ht := (setS8 set5)) (hk := ?_); exact wEnd rfl)) (hk := ?_)
  refine Awp.cond rfl (fun hb2 => ?_) (fun hb2 => ?_)
  · have H := M.to_t hb2 H
    obtain ⟨r3, k3, H⟩ := M.to_bnd.1 H
    have k3 := law23_head_l k3
    refine wR (hx := by (refine sA (hq := Quiet.callA rfl rfl k3 rfl rfl) (ht := (setS8 set6)) (hk := ?_); refine sA (hq := Quiet.assign rfl (getS8 get6)) (ht := set2) (hk := ?_); exact wEnd rfl)) (hk := ?_)
    obtain rfl := M.to_ok.1 H
    exact Awp.ret ⟨.inr rfl, Fin.cl rfl⟩
  · have H := M.to_f hb2 H
    refine Awp.skip ?_
    refine hs1 _ ?_
    refine nT (hk := ?_)
    obtain ⟨z5, HX5, Hl5, Hq5⟩ := M.to_els H
    refine Awp.seqJ (β := (Unit) × (Unit)) (fun q5 => z5 = .inl q5.1) (fun q5 => ⟨.bs tPair l :: .any :: .any :: .any :: .any :: .any :: .any :: .any :: .any :: .any :: .any :: .any :: .any :: .any :: .any :: .any :: .any :: .any :: .any :: .any :: .any :: .any :: .any :: .any :: .any :: .any :: .any :: .any :: .any :: .any :: .any :: .any :: .any :: .any :: .any :: .any :: .any :: .any :: .any :: .any :: .any :: .any :: .any :: .any :: .any :: .any :: .any :: .any :: .any :: .any :: .any :: .any :: .any :: .any :: .any :: .any :: .any :: .any :: .any :: .any :: .any :: .any :: .any :: .any :: .any :: .any :: .any :: .any :: .any :: .any :: .any :: .any :: .any :: .any :: .any :: .any :: .any :: .any :: .any :: .any :: .any :: .any :: .any :: .any :: .any :: .any :: .any :: .any :: .any :: .any :: .any :: .any :: .any :: .any :: .any :: .any :: .any :: .any :: .any :: .any :: .any :: .any :: .any :: .any :: .any :: .any :: .any :: .any :: .any :: .any :: .any :: .any :: .any :: .any :: .any :: .any :: .any :: .any :: .any :: .any :: .any :: .any :: .any :: .any :: .any :: .any :: .any :: .any :: .any :: .any :: .any :: .any :: .any :: .any :: .any :: .any :: .any :: .any :: .any :: .any :: .any :: .any :: .any :: .any :: .any :: .any :: .any :: .any :: .any :: .any :: .any :: .any :: .any :: .any :: .any :: .any :: .any :: .any :: .any :: .any :: .any :: [], []⟩) ?_ ?_
    · refine wR (hx := by (refine sA (hq := Quiet.assign rfl getC) (ht := set3) (hk := ?_); exact wEnd rfl)) (hk := ?_)
      refine Awp.block ?_
      refine Awp.loopM HX5 (fun s5 b5 => ⟨.bs tPair l :: .any :: .any :: .lit (.int .i64 s5) :: .any :: .any :: .any :: .any :: .any :: .any :: .any :: .any :: .any :: .any :: .any :: .any :: .any :: .any :: .any :: .any :: .any :: .any :: .any :: .any :: .any :: .any :: .any :: .any :: .any :: .any :: .any :: .any :: .any :: .any :: .any :: .any :: .any :: .any :: .any :: .any :: .any :: .any :: .any :: .any :: .any :: .any :: .any :: .any :: .any :: .any :: .any :: .any :: .any :: .any :: .any :: .any :: .any :: .any :: .any :: .any :: .any :: .any :: .any :: .any :: .any :: .any :: .any :: .any :: .any :: .any :: .any :: .any :: .any :: .any :: .any :: .any :: .any :: .any :: .any :: .any :: .any :: .any :: .any :: .any :: .any :: .any :: .any :: .any :: .any :: .any :: .any :: .any :: .any :: .any :: .any :: .any :: .any :: .any :: .any :: .any :: .any :: .any :: .any :: .any :: .any :: .any :: .any :: .any :: .any :: .any :: .any :: .any :: .any :: .any :: .any :: .any :: .any :: .any :: .any :: .any :: .any :: .any :: .any :: .any :: .any :: .any :: .any :: .any :: .any :: .any :: .any :: .any :: .any :: .any :: .any :: .any :: .any :: .any :: .any :: .any :: .any :: .any :: .any :: .any :: .any :: .any :: .any :: .any :: .any :: .any :: .any :: .any :: .any :: .any :: .any :: .any :: .any :: .any :: .any :: .any :: .any :: [], []⟩) () (?_) ?_
      · try dsimp only
        exact le_TA
      · rintro i4 _ x5 H Hr5
        try dsimp only
        dsimp only [law23_BodyMoves_L9] at H
        refine Awp.seq fun Khs6 hs6 => ?_
        refine wR (hx := by (refine sA (hq := Quiet.move rfl get3) (ht := (setS8 set7)) (hk := ?_); refine sA (hq := Quiet.move rfl get0) (ht := (setS8 (setS8 set0))) (hk := ?_); refine sA (hq := Quiet.ln rfl (getS8 (getS8 get0))) (ht := (setS8 (setS8 set1))) (hk := ?_); refine sA (hq := Quiet.bin rfl (getS8 get7) (getS8 (getS8 get1)) rfl) (ht := (setS8 (setS8 set2))) (hk := ?_); exact wEnd rfl)) (hk := ?_)
        refine Awp.cond rfl (fun hb7 => ?_) (fun hb7 => ?_)
        · have H := M.to_t hb7 H
          refine Awp.skip ?_
          refine hs6 _ ?_
          refine nT (hk := ?_)
          refine Awp.seq fun Khs8 hs8 => ?_
          refine Awp.block ?_
          obtain ⟨c9, H⟩ := M.to_chk.1 H
          obtain ⟨c10, H⟩ := M.to_chk.1 H
          obtain ⟨c11, H⟩ := M.to_chk.1 H
          obtain ⟨c12, H⟩ := M.to_chk.1 H
          refine wR (hx := by (refine sA (hq := Quiet.move rfl get0) (ht := (setS8 (setS8 set5))) (hk := ?_); refine sA (hq := Quiet.move rfl get3) (ht := (setS8 (setS8 set6))) (hk := ?_); refine sA (hq := Quiet.ixM rfl (getS8 (getS8 get5)) (getS8 (getS8 get6)) rfl c9) (ht := (setS8 (setS8 set7))) (hk := ?_); refine sA (hq := Quiet.fa_bp rfl (getS8 (getS8 get7))) (ht := (setS8 (setS8 (setS8 set0)))) (hk := ?_); refine sA (hq := Quiet.load_bp rfl (getS8 (getS8 (getS8 get0))) rfl) (ht := (setS8 (setS8 (setS8 set1)))) (hk := ?_); refine sA (hq := Quiet.bin rfl (getS8 (getS8 (getS8 get1))) getC rfl) (ht := (setS8 (setS8 (setS8 set2)))) (hk := ?_); refine sA (hq := Quiet.move rfl (getS8 (getS8 (getS8 get2)))) (ht := (setS8 (setS8 (setS8 set3)))) (hk := ?_); refine sG (g := (!(decide (((ixD l i4).a) < 4)))) (hg := gA_f rfl) (hq := fun hg => Quiet.move rfl get0) (ht := (setS8 (setS8 (setS8 set4)))) (hk := ?_); refine sG (g := (!(decide (((ixD l i4).a) < 4)))) (hg := gA_f rfl) (hq := fun hg => Quiet.move rfl get3) (ht := (setS8 (setS8 (setS8 set5)))) (hk := ?_); refine sG (g := (!(decide (((ixD l i4).a) < 4)))) (hg := gA_f rfl) (hq := fun hg => Quiet.ixM rfl ((getS8 (getS8 (getS8 get4))).trans (cndT hg _ _)) ((getS8 (getS8 (getS8 get5))).trans (cndT hg _ _)) rfl (imp_of c10 hg)) (ht := (setS8 (setS8 (setS8 set6)))) (hk := ?_); refine sG (g := (!(decide (((ixD l i4).a) < 4)))) (hg := gA_f rfl) (hq := fun hg => Quiet.fa_bp rfl ((getS8 (getS8 (getS8 get6))).trans (cndT hg _ _))) (ht := (setS8 (setS8 (setS8 set7)))) (hk := ?_); refine sG (g := (!(decide (((ixD l i4).a) < 4)))) (hg := gA_f rfl) (hq := fun hg => Quiet.load_bp rfl ((getS8 (getS8 (getS8 get7))).trans (cndT hg _ _)) rfl) (ht := (setS32 set0)) (hk := ?_); refine sG (g := (!(decide (((ixD l i4).a) < 4)))) (hg := gA_f rfl) (hq := fun hg => Quiet.bin rfl ((getS32 get0).trans (cndT hg _ _)) getC rfl) (ht := (setS32 set1)) (hk := ?_); refine sA (hq := Quiet.pickOrB rfl (getS8 (getS8 (getS8 get3))) getC (getS32 get1)) (ht := (setS32 set2)) (hk := ?_); refine sA (hq := Quiet.move rfl (getS32 get2)) (ht := (setS32 set3)) (hk := ?_); refine sG (g := (!((decide (((ixD l i4).a) < 4)) || (decide (((ixD l i4).b) < 4))))) (hg := gA_f rfl) (hq := fun hg => Quiet.move rfl get0) (ht := (setS32 set4)) (hk := ?_); refine sG (g := (!((decide (((ixD l i4).a) < 4)) || (decide (((ixD l i4).b) < 4))))) (hg := gA_f rfl) (hq := fun hg => Quiet.move rfl get3) (ht := (setS32 set5)) (hk := ?_); refine sG (g := (!((decide (((ixD l i4).a) < 4)) || (decide (((ixD l i4).b) < 4))))) (hg := gA_f rfl) (hq := fun hg => Quiet.ixM rfl ((getS32 get4).trans (cndT hg _ _)) ((getS32 get5).trans (cndT hg _ _)) rfl (imp_of c11 hg)) (ht := (setS32 set6)) (hk := ?_); refine sG (g := (!((decide (((ixD l i4).a) < 4)) || (decide (((ixD l i4).b) < 4))))) (hg := gA_f rfl) (hq := fun hg => Quiet.fa_bp rfl ((getS32 get6).trans (cndT hg _ _))) (ht := (setS32 set7)) (hk := ?_); refine sG (g := (!((decide (((ixD l i4).a) < 4)) || (decide (((ixD l i4).b) < 4))))) (hg := gA_f rfl) (hq := fun hg => Quiet.load_bp rfl ((getS32 get7).trans (cndT hg _ _)) rfl) (ht := (setS32 (setS8 set0))) (hk := ?_); refine sG (g := (!((decide (((ixD l i4).a) < 4)) || (decide (((ixD l i4).b) < 4))))) (hg := gA_f rfl) (hq := fun hg => Quiet.bin rfl ((getS32 (getS8 get0)).trans (cndT hg _ _)) getC rfl) (ht := (setS32 (setS8 set1))) (hk := ?_); refine sA (hq := Quiet.pickOrB rfl (getS32 get3) getC (getS32 (getS8 get1))) (ht := (setS32 (setS8 set2))) (hk := ?_); refine sA (hq := Quiet.move rfl (getS32 (getS8 get2))) (ht := (setS32 (setS8 set3))) (hk := ?_); refine sG (g := (!(((decide (((ixD l i4).a) < 4)) || (decide (((ixD l i4).b) < 4))) || (decide (((ixD l i4).a) > 99))))) (hg := gA_f rfl) (hq := fun hg => Quiet.move rfl get0) (ht := (setS32 (setS8 set4))) (hk := ?_); refine sG (g := (!(((decide (((ixD l i4).a) < 4)) || (decide (((ixD l i4).b) < 4))) || (decide (((ixD l i4).a) > 99))))) (hg := gA_f rfl) (hq := fun hg => Quiet.move rfl get3) (ht := (setS32 (setS8 set5))) (hk := ?_); refine sG (g := (!(((decide (((ixD l i4).a) < 4)) || (decide (((ixD l i4).b) < 4))) || (decide (((ixD l i4).a) > 99))))) (hg := gA_f rfl) (hq := fun hg => Quiet.ixM rfl ((getS32 (getS8 get4)).trans (cndT hg _ _)) ((getS32 (getS8 get5)).trans (cndT hg _ _)) rfl (imp_of c12 hg)) (ht := (setS32 (setS8 set6))) (hk := ?_); refine sG (g := (!(((decide (((ixD l i4).a) < 4)) || (decide (((ixD l i4).b) < 4))) || (decide (((ixD l i4).a) > 99))))) (hg := gA_f rfl) (hq := fun hg => Quiet.fa_bp rfl ((getS32 (getS8 get6)).trans (cndT hg _ _))) (ht := (setS32 (setS8 set7))) (hk := ?_); refine sG (g := (!(((decide (((ixD l i4).a) < 4)) || (decide (((ixD l i4).b) < 4))) || (decide (((ixD l i4).a) > 99))))) (hg := gA_f rfl) (hq := fun hg => Quiet.load_bp rfl ((getS32 (getS8 get7)).trans (cndT hg _ _)) rfl) (ht := (setS32 (setS8 (setS8 set0)))) (hk := ?_); refine sG (g := (!(((decide (((ixD l i4).a) < 4)) || (decide (((ixD l i4).b) < 4))) || (decide (((ixD l i4).a) > 99))))) (hg := gA_f rfl) (hq := fun hg => Quiet.bin rfl ((getS32 (getS8 (getS8 get0))).trans (cndT hg _ _)) getC rfl) (ht := (setS32 (setS8 (setS8 set1)))) (hk := ?_); refine sA (hq := Quiet.pickOrB rfl (getS32 (getS8 get3)) getC (getS32 (getS8 (getS8 get1)))) (ht := (setS32 (setS8 (setS8 set2)))) (hk := ?_); exact wEnd rfl)) (hk := ?_)
          refine Awp.cond rfl (fun hb13 => ?_) (fun hb13 => ?_)
          · have H := M.to_t hb13 H
            obtain ⟨r14, k14, H⟩ := M.to_bnd.1 H
            have k14 := law23_head_l k14
            refine wR (hx := by (refine sA (hq := Quiet.callA rfl rfl k14 rfl rfl) (ht := (setS32 (setS8 (setS8 set3)))) (hk := ?_); refine sA (hq := Quiet.assign rfl (getS32 (getS8 (getS8 get3)))) (ht := set2) (hk := ?_); exact wEnd rfl)) (hk := ?_)
            have H := M.to_ok.2 (Hq5 _ (Hr5 _ (M.to_ok.1 H).symm).symm)
            obtain rfl := M.to_ok.1 H
            exact Awp.ret ⟨.inr rfl, Fin.cl rfl⟩
          · have H := M.to_f hb13 H
            refine Awp.skip ?_
            refine hs8 _ ?_
            refine nT (hk := ?_)
            refine wRE (hx := by (refine sA (hq := Quiet.move rfl get3) (ht := (setS8 (setS8 set3))) (hk := ?_); refine sA (hq := Quiet.bin rfl (getS8 (getS8 get3)) getC rfl) (ht := (setS8 (setS8 set4))) (hk := ?_); refine sA (hq := Quiet.assign rfl (getS8 (getS8 get4))) (ht := set3) (hk := ?_); exact wEnd rfl)) (hk := ?_)
            have e5 := M.to_ok.1 H
            repeat (first | refine abN ?_ | refine asN ?_)
            refine athen_n ⟨_, (), e5.symm, ?_⟩
            try dsimp only
            exact le_TA
        · have H := M.to_f hb7 H
          refine Awp.exit ?_
          repeat (first | refine athen_e ?_ | refine exO (by decide) ?_ | refine asE ?_)
          refine exN ?_
          have e5 := Hr5 _ (M.to_ok.1 H).symm
          repeat (first | refine abN ?_ | refine asN ?_)
          refine athen_n ⟨(_, ()), e5.symm, ?_⟩
          try dsimp only
          exact le_TA
    · rintro ⟨_, _⟩ hz5
      try dsimp only at hz5
      have H := Hl5 _ hz5
      try dsimp only
      obtain ⟨c15, H⟩ := M.to_chk.1 H
      refine Awp.via ⟨.bs tPair l :: .any :: .any :: .any :: .any :: .any :: .any :: .any :: .any :: .any :: .any :: .any :: .any :: .any :: .any :: .any :: .any :: .any :: .any :: .any :: .any :: .any :: .any :: .any :: .any :: .any :: .any :: .any :: .any :: .any :: .any :: .any :: .any :: .any :: .any :: .any :: .any :: .any :: .any :: .any :: .any :: .any :: .any :: .any :: .any :: .any :: .any :: .any :: .any :: .any :: .any :: .any :: .any :: .any :: .any :: .any :: .any :: .any :: .any :: .any :: .any :: .any :: .any :: .any :: .any :: .any :: .any :: .any :: .any :: .any :: .any :: .any :: .any :: .any :: .any :: .any :: .any :: .any :: .any :: .any :: .any :: .any :: .any :: .any :: .any :: .any :: .any :: .any :: .any :: .any :: .any :: .any :: .any :: .any :: .any :: .any :: .any :: .any :: .any :: .any :: .any :: .any :: .any :: .any :: .any :: .any :: .any :: .any :: .any :: .any :: .any :: .any :: .any :: .any :: .any :: .any :: .any :: .any :: .any :: .any :: .any :: .any :: .any :: .any :: .any :: .any :: .any :: .any :: .any :: .any :: .any :: .any :: .any :: .any :: .any :: .any :: .any :: .any :: .any :: .any :: .any :: .any :: .any :: .any :: .any :: .any :: .any :: .any :: .any :: .any :: .any :: .any :: .any :: .any :: .any :: .any :: .any :: .any :: .any :: .any :: .any :: [], [.dead, .dead]⟩ (St.le.trans le_TA (St.le_deads 2 rfl)) ?_
      refine Awp.seq fun Kg16 hg16 => ?_
      refine Awp.drawG (n := 4) (fun b => ⟨.bs tPair l :: .any :: .any :: .any :: (bif b 2 then .own 0 0 else .any) :: (bif b 3 then .own 1 0 else .any) :: .any :: .any :: .any :: .any :: .any :: .any :: .any :: .any :: .any :: .any :: .any :: .any :: .any :: .any :: .any :: .any :: .any :: .any :: .any :: .any :: .any :: .any :: .any :: .any :: .any :: .any :: .any :: .any :: .any :: .any :: .any :: .any :: .any :: .any :: .any :: .any :: .any :: .any :: .any :: .any :: .any :: .any :: .any :: .any :: .any :: .any :: (bif b 0 then .own 0 0 else .any) :: (bif b 1 then .own 1 0 else .any) :: .any :: .any :: .any :: .any :: .any :: .any :: .any :: .any :: .any :: .any :: .any :: .any :: .any :: .any :: .any :: .any :: .any :: .any :: .any :: .any :: .any :: .any :: .any :: .any :: .any :: .any :: .any :: .any :: .any :: .any :: .any :: .any :: .any :: .any :: .any :: .any :: .any :: .any :: .any :: .any :: .any :: .any :: .any :: .any :: .any :: .any :: .any :: .any :: .any :: .any :: .any :: .any :: .any :: .any :: .any :: .any :: .any :: .any :: .any :: .any :: .any :: .any :: .any :: .any :: .any :: .any :: .any :: .any :: .any :: .any :: .any :: .any :: .any :: .any :: .any :: .any :: .any :: .any :: .any :: .any :: .any :: .any :: .any :: .any :: .any :: .any :: .any :: .any :: .any :: .any :: .any :: .any :: .any :: .any :: .any :: .any :: .any :: .any :: .any :: .any :: .any :: .any :: .any :: .any :: .any :: .any :: .any :: [], [(bif b 0 then .row 0 3 tInt (List.replicate (Int.toNat 100) 0) else .dead), (bif b 1 then .row 0 3 tInt (List.replicate (Int.toNat 100) 0) else .dead)]⟩) rfl (by kernel_rfl) (by kernel_rfl) ?_ (hg16 _ ?_)
      · refine gS_cons (fun b hb ha hc => ?_) ?_
        · have h2 : b 2 = false := not_before hc (i := 0) (j := 2) (k := 0) rfl rfl rfl rfl hb
          try dsimp only
          refine AOp.mkAt 0 (T := tInt) (e := 3) (z := .int .i64 0) (bytes := 8) (0 : Int) rfl (by kernel_rfl) rfl (fun _ _ => ⟨rfl, by decide⟩) rfl rfl c15 (congrArg some (cndBF hb _ _)) (by repeat (first | exact nrH_nil | refine nrH_cons rfl ?_ | refine nrH_cons (nrB_c rfl rfl) ?_ | refine nrH_cons (nrB_c rfl (nrB_c rfl rfl)) ?_ | refine nrH_cons (nrB_c rfl (nrB_c rfl (nrB_c rfl rfl))) ?_)) (by repeat (first | exact nrL_nil | refine nrL_cons rfl ?_ | refine nrL_cons (nr_f hb rfl) ?_ | refine nrL_cons (nr_f h2 rfl) ?_ | refine nrL_cons (nr_c rfl rfl) ?_)) ?_
          exact St.le.refl
        refine gS_cons (fun b hb ha hc => ?_) ?_
        · have h3 : b 3 = false := not_before hc (i := 1) (j := 3) (k := 0) rfl rfl rfl rfl hb
          try dsimp only
          refine AOp.mkAt 1 (T := tInt) (e := 3) (z := .int .i64 0) (bytes := 8) (0 : Int) rfl (by kernel_rfl) rfl (fun _ _ => ⟨rfl, by decide⟩) rfl rfl c15 (congrArg some (cndBF hb _ _)) (by repeat (first | exact nrH_nil | refine nrH_cons rfl ?_ | refine nrH_cons (nrB_c rfl rfl) ?_ | refine nrH_cons (nrB_c rfl (nrB_c rfl rfl)) ?_ | refine nrH_cons (nrB_c rfl (nrB_c rfl (nrB_c rfl rfl))) ?_)) (by repeat (first | exact nrL_nil | refine nrL_cons rfl ?_ | refine nrL_cons (nr_f hb rfl) ?_ | refine nrL_cons (nr_f h3 rfl) ?_ | refine nrL_cons (nr_c rfl rfl) ?_)) ?_
          exact St.le.refl
        refine gS_cons (fun b hb ha hc => ?_) ?_
        · have h0 : b 0 = true := ha 0 _ rfl rfl
          try dsimp only
          refine AOp.q (Quiet.assign rfl ((getS32 (getS8 (getS8 get4))).trans (cndT h0 _ _))) ?_
          exact St.le.refl
        refine gS_cons (fun b hb ha hc => ?_) ?_
        · have h1 : b 1 = true := ha 0 _ rfl rfl
          try dsimp only
          refine AOp.q (Quiet.assign rfl ((getS32 (getS8 (getS8 get5))).trans (cndT h1 _ _))) ?_
          exact St.le.refl
        exact gS_nil
      · refine Awp.via ⟨.bs tPair l :: .any :: .any :: .any :: .own 0 0 :: .own 1 0 :: .any :: .any :: .any :: .any :: .any :: .any :: .any :: .any :: .any :: .any :: .any :: .any :: .any :: .any :: .any :: .any :: .any :: .any :: .any :: .any :: .any :: .any :: .any :: .any :: .any :: .any :: .any :: .any :: .any :: .any :: .any :: .any :: .any :: .any :: .any :: .any :: .any :: .any :: .any :: .any :: .any :: .any :: .any :: .any :: .any :: .any :: .own 0 0 :: .own 1 0 :: .any :: .any :: .any :: .any :: .any :: .any :: .any :: .any :: .any :: .any :: .any :: .any :: .any :: .any :: .any :: .any :: .any :: .any :: .any :: .any :: .any :: .any :: .any :: .any :: .any :: .any :: .any :: .any :: .any :: .any :: .any :: .any :: .any :: .any :: .any :: .any :: .any :: .any :: .any :: .any :: .any :: .any :: .any :: .any :: .any :: .any :: .any :: .any :: .any :: .any :: .any :: .any :: .any :: .any :: .any :: .any :: .any :: .any :: .any :: .any :: .any :: .any :: .any :: .any :: .any :: .any :: .any :: .any :: .any :: .any :: .any :: .any :: .any :: .any :: .any :: .any :: .any :: .any :: .any :: .any :: .any :: .any :: .any :: .any :: .any :: .any :: .any :: .any :: .any :: .any :: .any :: .any :: .any :: .any :: .any :: .any :: .any :: .any :: .any :: .any :: .any :: .any :: .any :: .any :: .any :: .any :: .any :: [], [.row 0 3 tInt (List.replicate (Int.toNat 100) 0), .row 0 3 tInt (List.replicate (Int.toNat 100) 0)]⟩ St.le.refl ?_
        obtain ⟨z22, HX22, Hl22⟩ := M.to_bnd.1 H
        refine Awp.seqJ (β := ((List Int) × (List Int)) × (Nat × Nat)) (fun q22 => z22 = q22.1) (fun q22 => ⟨.bs tPair l :: .any :: .any :: .any :: .own 0 q22.2.1 :: .own 1 q22.2.2 :: .any :: .any :: .any :: .any :: .any :: .any :: .any :: .any :: .any :: .any :: .any :: .any :: .any :: .any :: .any :: .any :: .any :: .any :: .any :: .any :: .any :: .any :: .any :: .any :: .any :: .any :: .any :: .any :: .any :: .any :: .any :: .any :: .any :: .any :: .any :: .any :: .any :: .any :: .any :: .any :: .any :: .any :: .any :: .any :: .any :: .any :: .any :: .any :: .any :: .any :: .any :: .any :: .any :: .any :: .any :: .any :: .any :: .any :: .any :: .any :: .any :: .any :: .any :: .any :: .any :: .any :: .any :: .any :: .any :: .any :: .any :: .any :: .any :: .any :: .any :: .any :: .any :: .any :: .any :: .any :: .any :: .any :: .any :: .any :: .any :: .any :: .any :: .any :: .any :: .any :: .any :: .any :: .any :: .any :: .any :: .any :: .any :: .any :: .any :: .any :: .any :: .any :: .any :: .any :: .any :: .any :: .any :: .any :: .any :: .any :: .any :: .any :: .any :: .any :: .any :: .any :: .any :: .any :: .any :: .any :: .any :: .any :: .any :: .any :: .any :: .any :: .any :: .any :: .any :: .any :: .any :: .any :: .any :: .any :: .any :: .any :: .any :: .any :: .any :: .any :: .any :: .any :: .any :: .any :: .any :: .any :: .any :: .any :: .any :: .any :: .any :: .any :: .any :: .any :: .any :: [], [.row q22.2.1 3 tInt q22.1.1, .row q22.2.2 3 tInt q22.1.2]⟩) ?_ ?_
        · refine wR (hx := by (refine sA (hq := Quiet.assign rfl getC) (ht := set6) (hk := ?_); exact wEnd rfl)) (hk := ?_)
          refine Awp.block ?_
          refine Awp.loopM HX22 (fun s22 b22 => ⟨.bs tPair l :: .any :: .any :: .any :: .own 0 b22.1 :: .own 1 b22.2 :: .lit (.int .i64 s22.1) :: .any :: .any :: .any :: .any :: .any :: .any :: .any :: .any :: .any :: .any :: .any :: .any :: .any :: .any :: .any :: .any :: .any :: .any :: .any :: .any :: .any :: .any :: .any :: .any :: .any :: .any :: .any :: .any :: .any :: .any :: .any :: .any :: .any :: .any :: .any :: .any :: .any :: .any :: .any :: .any :: .any :: .any :: .any :: .any :: .any :: .any :: .any :: .any :: .any :: .any :: .any :: .any :: .any :: .any :: .any :: .any :: .any :: .any :: .any :: .any :: .any :: .any :: .any :: .any :: .any :: .any :: .any :: .any :: .any :: .any :: .any :: .any :: .any :: .any :: .any :: .any :: .any :: .any :: .any :: .any :: .any :: .any :: .any :: .any :: .any :: .any :: .any :: .any :: .any :: .any :: .any :: .any :: .any :: .any :: .any :: .any :: .any :: .any :: .any :: .any :: .any :: .any :: .any :: .any :: .any :: .any :: .any :: .any :: .any :: .any :: .any :: .any :: .any :: .any :: .any :: .any :: .any :: .any :: .any :: .any :: .any :: .any :: .any :: .any :: .any :: .any :: .any :: .any :: .any :: .any :: .any :: .any :: .any :: .any :: .any :: .any :: .any :: .any :: .any :: .any :: .any :: .any :: .any :: .any :: .any :: .any :: .any :: .any :: .any :: .any :: .any :: .any :: .any :: .any :: [], [.row b22.1 3 tInt s22.2.1, .row b22.2 3 tInt s22.2.2]⟩) (0, 0) (?_) ?_
          · try dsimp only
            exact le_TA
          · rintro ⟨i17, l19, l21⟩ ⟨v18, v20⟩ x22 H Hr22
            try dsimp only
            dsimp only [law23_BodyMoves_L22] at H
            refine Awp.seq fun Khs27 hs27 => ?_
            refine wR (hx := by (refine sA (hq := Quiet.move rfl get6) (ht := (setS32 (setS8 (setS8 set6)))) (hk := ?_); refine sA (hq := Quiet.bin rfl (getS32 (getS8 (getS8 get6))) getC rfl) (ht := (setS32 (setS8 (setS8 set7)))) (hk := ?_); exact wEnd rfl)) (hk := ?_)
            refine Awp.cond rfl (fun hb28 => ?_) (fun hb28 => ?_)
            · have H := M.to_t hb28 H
              refine Awp.skip ?_
              refine hs27 _ ?_
              refine nT (hk := ?_)
              refine Awp.seq fun Khs29 hs29 => ?_
              refine Awp.block ?_
              obtain ⟨c30, H⟩ := M.to_chk.1 H
              obtain ⟨c31, H⟩ := M.to_chk.1 H
              refine wR (hx := by (refine sA (hq := Quiet.move rfl get4) (ht := (setS32 (setS8 (setS8 (setS8 set2))))) (hk := ?_); refine sA (hq := Quiet.move rfl get6) (ht := (setS32 (setS8 (setS8 (setS8 set3))))) (hk := ?_); refine sA (hq := Quiet.move rfl get6) (ht := (setS32 (setS8 (setS8 (setS8 set4))))) (hk := ?_); refine sA (hq := Quiet.ixoM rfl (getS32 (getS8 (getS8 (getS8 get2)))) rfl (getS32 (getS8 (getS8 (getS8 get3)))) rfl c30) (ht := (setS32 (setS8 (setS8 (setS8 set5))))) (hk := ?_); (refine aSeq_t rfl (AOp.stRow rfl rfl rfl (inB_get c30) (Fit.int c31) rfl ?_); refine sNtM (ht := setN) (hk := ?_)); exact wEnd rfl)) (hk := ?_)
              obtain ⟨c32, H⟩ := M.to_chk.1 H
              obtain ⟨c33, H⟩ := M.to_chk.1 H
              refine wRE (hx := by (refine sA (hq := Quiet.move rfl get5) (ht := (setS32 (setS8 (setS8 (setS8 set6))))) (hk := ?_); refine sA (hq := Quiet.move rfl get6) (ht := (setS32 (setS8 (setS8 (setS8 set7))))) (hk := ?_); refine sA (hq := Quiet.move rfl get6) (ht := (setS32 (setS32 set0))) (hk := ?_); refine sA (hq := Quiet.ixoM rfl (getS32 (getS8 (getS8 (getS8 get6)))) rfl (getS32 (getS8 (getS8 (getS8 get7)))) rfl c32) (ht := (setS32 (setS32 set1))) (hk := ?_); (refine aSeq_t rfl (AOp.stRow rfl rfl rfl (inB_get c32) (Fit.int c33) rfl ?_); refine sNtM (ht := setN) (hk := ?_)); exact wEnd rfl)) (hk := ?_)
              refine hs29 _ ?_
              refine nT (hk := ?_)
              refine wRE (hx := by (refine sA (hq := Quiet.move rfl get6) (ht := (setS32 (setS8 (setS8 (setS8 set0))))) (hk := ?_); refine sA (hq := Quiet.bin rfl (getS32 (getS8 (getS8 (getS8 get0)))) getC rfl) (ht := (setS32 (setS8 (setS8 (setS8 set1))))) (hk := ?_); refine sA (hq := Quiet.assign rfl (getS32 (getS8 (getS8 (getS8 get1))))) (ht := set6) (hk := ?_); exact wEnd rfl)) (hk := ?_)
              have e22 := M.to_ok.1 H
              repeat (first | refine abN ?_ | refine asN ?_)
              refine athen_n ⟨_, (v18, v20), e22.symm, ?_⟩
              try dsimp only
              exact le_TA
            · have H := M.to_f hb28 H
              refine Awp.exit ?_
              repeat (first | refine athen_e ?_ | refine exO (by decide) ?_ | refine asE ?_)
              refine exN ?_
              have e22 := Hr22 _ (M.to_ok.1 H).symm
              repeat (first | refine abN ?_ | refine asN ?_)
              refine athen_n ⟨(_, (v18, v20)), e22.symm, ?_⟩
              try dsimp only
              exact le_TA
        · rintro ⟨⟨l24, l26⟩, ⟨v23, v25⟩⟩ hz22
          try dsimp only at hz22
          have H := Hl22
          rw [hz22] at H
          try dsimp only at H
          try dsimp only
          obtain ⟨z38, HX38, Hl38⟩ := M.to_bnd.1 H
          refine Awp.seqJ (β := ((List Int)) × (Nat × Nat)) (fun q38 => z38 = q38.1) (fun q38 => ⟨.bs tPair l :: .any :: .any :: .any :: .own 0 q38.2.1 :: .own 1 q38.2.2 :: .any :: .any :: .any :: .any :: .any :: .any :: .any :: .any :: .any :: .any :: .any :: .any :: .any :: .any :: .any :: .any :: .any :: .any :: .any :: .any :: .any :: .any :: .any :: .any :: .any :: .any :: .any :: .any :: .any :: .any :: .any :: .any :: .any :: .any :: .any :: .any :: .any :: .any :: .any :: .any :: .any :: .any :: .any :: .any :: .any :: .any :: .any :: .any :: .any :: .any :: .any :: .any :: .any :: .any :: .any :: .any :: .any :: .any :: .any :: .any :: .any :: .any :: .any :: .any :: .any :: .any :: .any :: .any :: .any :: .any :: .any :: .any :: .any :: .any :: .any :: .any :: .any :: .any :: .any :: .any :: .any :: .any :: .any :: .any :: .any :: .any :: .any :: .any :: .any :: .any :: .any :: .any :: .any :: .any :: .any :: .any :: .any :: .any :: .any :: .any :: .any :: .any :: .any :: .any :: .any :: .any :: .any :: .any :: .any :: .any :: .any :: .any :: .any :: .any :: .any :: .any :: .any :: .any :: .any :: .any :: .any :: .any :: .any :: .any :: .any :: .any :: .any :: .any :: .any :: .any :: .any :: .any :: .any :: .any :: .any :: .any :: .any :: .any :: .any :: .any :: .any :: .any :: .any :: .any :: .any :: .any :: .any :: .any :: .any :: .any :: .any :: .any :: .any :: .any :: .any :: [], [.row q38.2.1 3 tInt l24, .row q38.2.2 3 tInt q38.1]⟩) ?_ ?_
          · refine wR (hx := by (refine sA (hq := Quiet.move rfl get0) (ht := (setS32 (setS32 set2))) (hk := ?_); refine sA (hq := Quiet.ln rfl (getS32 (getS32 get2))) (ht := (setS32 (setS32 set3))) (hk := ?_); refine sA (hq := Quiet.bin rfl (getS32 (getS32 get3)) getC rfl) (ht := (setS32 (setS32 set4))) (hk := ?_); refine sA (hq := Quiet.assign rfl (getS32 (getS32 get4))) (ht := set7) (hk := ?_); exact wEnd rfl)) (hk := ?_)
            refine Awp.block ?_
            refine Awp.loopM HX38 (fun s38 b38 => ⟨.bs tPair l :: .any :: .any :: .any :: .own 0 b38.1 :: .own 1 b38.2 :: .any :: .lit (.int .i64 s38.1) :: .any :: .any :: .any :: .any :: .any :: .any :: .any :: .any :: .any :: .any :: .any :: .any :: .any :: .any :: .any :: .any :: .any :: .any :: .any :: .any :: .any :: .any :: .any :: .any :: .any :: .any :: .any :: .any :: .any :: .any :: .any :: .any :: .any :: .any :: .any :: .any :: .any :: .any :: .any :: .any :: .any :: .any :: .any :: .any :: .any :: .any :: .any :: .any :: .any :: .any :: .any :: .any :: .any :: .any :: .any :: .any :: .any :: .any :: .any :: .any :: .any :: .any :: .any :: .any :: .any :: .any :: .any :: .any :: .any :: .any :: .any :: .any :: .any :: .any :: .any :: .any :: .any :: .any :: .any :: .any :: .any :: .any :: .any :: .any :: .any :: .any :: .any :: .any :: .any :: .any :: .any :: .any :: .any :: .any :: .any :: .any :: .any :: .any :: .any :: .any :: .any :: .any :: .any :: .any :: .any :: .any :: .any :: .any :: .any :: .any :: .any :: .any :: .any :: .any :: .any :: .any :: .any :: .any :: .any :: .any :: .any :: .any :: .any :: .any :: .any :: .any :: .any :: .any :: .any :: .any :: .any :: .any :: .any :: .any :: .any :: .any :: .any :: .any :: .any :: .any :: .any :: .any :: .any :: .any :: .any :: .any :: .any :: .any :: .any :: .any :: .any :: .any :: .any :: [], [.row b38.1 3 tInt l24, .row b38.2 3 tInt s38.2]⟩) (v23, v25) (?_) ?_
            · try dsimp only
              exact le_TA
            · rintro ⟨i34, l37⟩ ⟨v35, v36⟩ x38 H Hr38
              try dsimp only
              dsimp only [law23_BodyMoves_L32] at H
              refine Awp.seq fun Khs42 hs42 => ?_
              refine wR (hx := by (refine sA (hq := Quiet.move rfl get7) (ht := (setS32 (setS32 set5))) (hk := ?_); refine sA (hq := Quiet.bin rfl (getS32 (getS32 get5)) getC rfl) (ht := (setS32 (setS32 set6))) (hk := ?_); exact wEnd rfl)) (hk := ?_)
              refine Awp.cond rfl (fun hb43 => ?_) (fun hb43 => ?_)
              · have H := M.to_t hb43 H
                refine Awp.skip ?_
                refine hs42 _ ?_
                refine nT (hk := ?_)
                refine Awp.seq fun Khs44 hs44 => ?_
                refine Awp.block ?_
                obtain ⟨c45, H⟩ := M.to_chk.1 H
                obtain ⟨c46, H⟩ := M.to_chk.1 H
                obtain ⟨c47, H⟩ := M.to_chk.1 H
                refine wDE 12 (hq := by (refine qA (hq := Quiet.move rfl get5) (ht := (setS32 (setS32 (setS8 set1)))) (hk := ?_); refine qA (hq := Quiet.move rfl get0) (ht := (setS32 (setS32 (setS8 set2)))) (hk := ?_); refine qA (hq := Quiet.move rfl get7) (ht := (setS32 (setS32 (setS8 set3)))) (hk := ?_); refine qA (hq := Quiet.ixM rfl (getS32 (getS32 (getS8 get2))) (getS32 (getS32 (getS8 get3))) rfl c45) (ht := (setS32 (setS32 (setS8 set4)))) (hk := ?_); refine qA (hq := Quiet.fa_bp rfl (getS32 (getS32 (getS8 get4)))) (ht := (setS32 (setS32 (setS8 set5)))) (hk := ?_); refine qA (hq := Quiet.load_bp rfl (getS32 (getS32 (getS8 get5))) rfl) (ht := (setS32 (setS32 (setS8 set6)))) (hk := ?_); refine qA (hq := Quiet.move rfl get0) (ht := (setS32 (setS32 (setS8 set7)))) (hk := ?_); refine qA (hq := Quiet.move rfl get7) (ht := (setS32 (setS32 (setS8 (setS8 set0))))) (hk := ?_); refine qA (hq := Quiet.ixM rfl (getS32 (getS32 (getS8 get7))) (getS32 (getS32 (getS8 (getS8 get0)))) rfl c45) (ht := (setS32 (setS32 (setS8 (setS8 set1))))) (hk := ?_); refine qA (hq := Quiet.fa_bp rfl (getS32 (getS32 (getS8 (getS8 get1))))) (ht := (setS32 (setS32 (setS8 (setS8 set2))))) (hk := ?_); refine qA (hq := Quiet.load_bp rfl (getS32 (getS32 (getS8 (getS8 get2)))) rfl) (ht := (setS32 (setS32 (setS8 (setS8 set3))))) (hk := ?_); refine qA (hq := Quiet.ixoM rfl (getS32 (getS32 (getS8 get1))) rfl (getS32 (getS32 (getS8 get6))) rfl c46) (ht := (setS32 (setS32 (setS8 (setS8 set4))))) (hk := ?_); exact qEnd rfl)) (hx := by ((refine aSeq_t rfl (AOp.stRow rfl rfl rfl (inB_get c46) (Fit.int c47) rfl ?_); refine sNtM (ht := setN) (hk := ?_)); exact wEnd rfl)) (hk := ?_)
                refine hs44 _ ?_
                refine nT (hk := ?_)
                refine wRE (hx := by (refine sA (hq := Quiet.move rfl get7) (ht := (setS32 (setS32 set7))) (hk := ?_); refine sA (hq := Quiet.bin rfl (getS32 (getS32 get7)) getC rfl) (ht := (setS32 (setS32 (setS8 set0)))) (hk := ?_); refine sA (hq := Quiet.assign rfl (getS32 (getS32 (getS8 get0)))) (ht := set7) (hk := ?_); exact wEnd rfl)) (hk := ?_)
                have e38 := M.to_ok.1 H
                repeat (first | refine abN ?_ | refine asN ?_)
                refine athen_n ⟨_, (v35, v36), e38.symm, ?_⟩
                try dsimp only
                exact le_TA
              · have H := M.to_f hb43 H
                refine Awp.exit ?_
                repeat (first | refine athen_e ?_ | refine exO (by decide) ?_ | refine asE ?_)
                refine exN ?_
                have e38 := Hr38 _ (M.to_ok.1 H).symm
                repeat (first | refine abN ?_ | refine asN ?_)
                refine athen_n ⟨(_, (v35, v36)), e38.symm, ?_⟩
                try dsimp only
                exact le_TA
          · rintro ⟨l41, ⟨v39, v40⟩⟩ hz38
            try dsimp only at hz38
            have H := Hl38
            rw [hz38] at H
            try dsimp only
            obtain ⟨r48, k48, H⟩ := M.to_bnd.1 H
            have k48 := body_AtOnce_l k48
            refine wR (hx := by (refine sA (hq := Quiet.move rfl get0) (ht := (setS32 (setS32 (setS8 (setS8 set5))))) (hk := ?_); refine sA (hq := Quiet.callA rfl rfl k48 rfl rfl) (ht := (setS32 (setS32 (setS8 (setS8 set6))))) (hk := ?_); refine sA (hq := Quiet.assign rfl (getS32 (getS32 (getS8 (getS8 get6))))) (ht := (setS8 set0)) (hk := ?_); exact wEnd rfl)) (hk := ?_)
            obtain ⟨z53, HX53, Hl53, Hq53⟩ := M.to_els H
            refine Awp.seqJ (β := ((List Int)) × (Nat × Nat)) (fun q53 => z53 = .inl q53.1) (fun q53 => ⟨.bs tPair l :: .any :: .any :: .any :: .own 0 q53.2.1 :: .own 1 q53.2.2 :: .any :: .any :: .bs tPair r48 :: .any :: .any :: .any :: .any :: .any :: .any :: .any :: .any :: .any :: .any :: .any :: .any :: .any :: .any :: .any :: .any :: .any :: .any :: .any :: .any :: .any :: .any :: .any :: .any :: .any :: .any :: .any :: .any :: .any :: .any :: .any :: .any :: .any :: .any :: .any :: .any :: .any :: .any :: .any :: .any :: .any :: .any :: .any :: .any :: .any :: .any :: .any :: .any :: .any :: .any :: .any :: .any :: .any :: .any :: .any :: .any :: .any :: .any :: .any :: .any :: .any :: .any :: .any :: .any :: .any :: .any :: .any :: .any :: .any :: .any :: .any :: .any :: .any :: .any :: .any :: .any :: .any :: .any :: .any :: .any :: .any :: .any :: .any :: .any :: .any :: .any :: .any :: .any :: .any :: .any :: .any :: .any :: .any :: .any :: .any :: .any :: .any :: .any :: .any :: .any :: .any :: .any :: .any :: .any :: .any :: .any :: .any :: .any :: .any :: .any :: .any :: .any :: .any :: .any :: .any :: .any :: .any :: .any :: .any :: .any :: .any :: .any :: .any :: .any :: .any :: .any :: .any :: .any :: .any :: .any :: .any :: .any :: .any :: .any :: .any :: .any :: .any :: .any :: .any :: .any :: .any :: .any :: .any :: .any :: .any :: .any :: .any :: .any :: .any :: .any :: .any :: .any :: [], [.row q53.2.1 3 tInt q53.1, .row q53.2.2 3 tInt l41]⟩) ?_ ?_
            · refine wR (hx := by (refine sA (hq := Quiet.assign rfl getC) (ht := (setS8 set1)) (hk := ?_); exact wEnd rfl)) (hk := ?_)
              refine Awp.block ?_
              refine Awp.loopM HX53 (fun s53 b53 => ⟨.bs tPair l :: .any :: .any :: .any :: .own 0 b53.1 :: .own 1 b53.2 :: .any :: .any :: .bs tPair r48 :: .lit (.int .i64 s53.1) :: .any :: .any :: .any :: .any :: .any :: .any :: .any :: .any :: .any :: .any :: .any :: .any :: .any :: .any :: .any :: .any :: .any :: .any :: .any :: .any :: .any :: .any :: .any :: .any :: .any :: .any :: .any :: .any :: .any :: .any :: .any :: .any :: .any :: .any :: .any :: .any :: .any :: .any :: .any :: .any :: .any :: .any :: .any :: .any :: .any :: .any :: .any :: .any :: .any :: .any :: .any :: .any :: .any :: .any :: .any :: .any :: .any :: .any :: .any :: .any :: .any :: .any :: .any :: .any :: .any :: .any :: .any :: .any :: .any :: .any :: .any :: .any :: .any :: .any :: .any :: .any :: .any :: .any :: .any :: .any :: .any :: .any :: .any :: .any :: .any :: .any :: .any :: .any :: .any :: .any :: .any :: .any :: .any :: .any :: .any :: .any :: .any :: .any :: .any :: .any :: .any :: .any :: .any :: .any :: .any :: .any :: .any :: .any :: .any :: .any :: .any :: .any :: .any :: .any :: .any :: .any :: .any :: .any :: .any :: .any :: .any :: .any :: .any :: .any :: .any :: .any :: .any :: .any :: .any :: .any :: .any :: .any :: .any :: .any :: .any :: .any :: .any :: .any :: .any :: .any :: .any :: .any :: .any :: .any :: .any :: .any :: .any :: .any :: .any :: .any :: .any :: [], [.row b53.1 3 tInt s53.2, .row b53.2 3 tInt l41]⟩) (v39, v40) (?_) ?_
              · try dsimp only
                exact le_TA
              · rintro ⟨i49, l51⟩ ⟨v50, v52⟩ x53 H Hr53
                try dsimp only
                dsimp only [law23_BodyMoves_L42] at H
                refine Awp.seq fun Khs57 hs57 => ?_
                refine wR (hx := by (refine sA (hq := Quiet.move rfl (getS8 get1)) (ht := (setS32 (setS32 (setS8 (setS8 set7))))) (hk := ?_); refine sA (hq := Quiet.move rfl (getS8 get0)) (ht := (setS32 (setS32 (setS8 (setS8 (setS8 set0)))))) (hk := ?_); refine sA (hq := Quiet.ln rfl (getS32 (getS32 (getS8 (getS8 (getS8 get0)))))) (ht := (setS32 (setS32 (setS8 (setS8 (setS8 set1)))))) (hk := ?_); refine sA (hq := Quiet.bin rfl (getS32 (getS32 (getS8 (getS8 get7)))) (getS32 (getS32 (getS8 (getS8 (getS8 get1))))) rfl) (ht := (setS32 (setS32 (setS8 (setS8 (setS8 set2)))))) (hk := ?_); exact wEnd rfl)) (hk := ?_)
                refine Awp.cond rfl (fun hb58 => ?_) (fun hb58 => ?_)
                · have H := M.to_t hb58 H
                  refine Awp.skip ?_
                  refine hs57 _ ?_
                  refine nT (hk := ?_)
                  refine Awp.seq fun Khs59 hs59 => ?_
                  refine Awp.block ?_
                  refine Awp.seq fun Khs60 hs60 => ?_
                  obtain ⟨c61, H⟩ := M.to_chk.1 H
                  obtain ⟨c62, H⟩ := M.to_chk.1 H
                  obtain ⟨c63, H⟩ := M.to_chk.1 H
                  obtain ⟨c64, H⟩ := M.to_chk.1 H
                  refine wR (hx := by (refine sA (hq := Quiet.move rfl (getS8 get0)) (ht := (setS32 (setS32 (setS8 (setS8 (setS8 set5)))))) (hk := ?_); refine sA (hq := Quiet.move rfl (getS8 get1)) (ht := (setS32 (setS32 (setS8 (setS8 (setS8 set6)))))) (hk := ?_); refine sA (hq := Quiet.ixM rfl (getS32 (getS32 (getS8 (getS8 (getS8 get5))))) (getS32 (getS32 (getS8 (getS8 (getS8 get6))))) rfl c61) (ht := (setS32 (setS32 (setS8 (setS8 (setS8 set7)))))) (hk := ?_); refine sA (hq := Quiet.fa_bp rfl (getS32 (getS32 (getS8 (getS8 (getS8 get7)))))) (ht := (setS32 (setS32 (setS32 set0)))) (hk := ?_); refine sA (hq := Quiet.load_bp rfl (getS32 (getS32 (getS32 get0))) rfl) (ht := (setS32 (setS32 (setS32 set1)))) (hk := ?_); refine sA (hq := Quiet.bin rfl (getS32 (getS32 (getS32 get1))) getC rfl) (ht := (setS32 (setS32 (setS32 set2)))) (hk := ?_); refine sA (hq := Quiet.move rfl (getS32 (getS32 (getS32 get2)))) (ht := (setS32 (setS32 (setS32 set3)))) (hk := ?_); refine sG (g := (!(decide (((ixD r48 i49).a) < 3)))) (hg := gA_f rfl) (hq := fun hg => Quiet.move rfl (getS8 get0)) (ht := (setS32 (setS32 (setS32 set4)))) (hk := ?_); refine sG (g := (!(decide (((ixD r48 i49).a) < 3)))) (hg := gA_f rfl) (hq := fun hg => Quiet.move rfl (getS8 get1)) (ht := (setS32 (setS32 (setS32 set5)))) (hk := ?_); refine sG (g := (!(decide (((ixD r48 i49).a) < 3)))) (hg := gA_f rfl) (hq := fun hg => Quiet.ixM rfl ((getS32 (getS32 (getS32 get4))).trans (cndT hg _ _)) ((getS32 (getS32 (getS32 get5))).trans (cndT hg _ _)) rfl (imp_of c62 hg)) (ht := (setS32 (setS32 (setS32 set6)))) (hk := ?_); refine sG (g := (!(decide (((ixD r48 i49).a) < 3)))) (hg := gA_f rfl) (hq := fun hg => Quiet.fa_bp rfl ((getS32 (getS32 (getS32 get6))).trans (cndT hg _ _))) (ht := (setS32 (setS32 (setS32 set7)))) (hk := ?_); refine sG (g := (!(decide (((ixD r48 i49).a) < 3)))) (hg := gA_f rfl) (hq := fun hg => Quiet.load_bp rfl ((getS32 (getS32 (getS32 get7))).trans (cndT hg _ _)) rfl) (ht := (setS32 (setS32 (setS32 (setS8 set0))))) (hk := ?_); refine sG (g := (!(decide (((ixD r48 i49).a) < 3)))) (hg := gA_f rfl) (hq := fun hg => Quiet.bin rfl ((getS32 (getS32 (getS32 (getS8 get0)))).trans (cndT hg _ _)) getC rfl) (ht := (setS32 (setS32 (setS32 (setS8 set1))))) (hk := ?_); refine sA (hq := Quiet.pickOrB rfl (getS32 (getS32 (getS32 get3))) getC (getS32 (getS32 (getS32 (getS8 get1))))) (ht := (setS32 (setS32 (setS32 (setS8 set2))))) (hk := ?_); refine sA (hq := Quiet.move rfl (getS32 (getS32 (getS32 (getS8 get2))))) (ht := (setS32 (setS32 (setS32 (setS8 set3))))) (hk := ?_); refine sG (g := (!((decide (((ixD r48 i49).a) < 3)) || (decide (((ixD r48 i49).a) > 99))))) (hg := gA_f rfl) (hq := fun hg => Quiet.move rfl (getS8 get0)) (ht := (setS32 (setS32 (setS32 (setS8 set4))))) (hk := ?_); refine sG (g := (!((decide (((ixD r48 i49).a) < 3)) || (decide (((ixD r48 i49).a) > 99))))) (hg := gA_f rfl) (hq := fun hg => Quiet.move rfl (getS8 get1)) (ht := (setS32 (setS32 (setS32 (setS8 set5))))) (hk := ?_); refine sG (g := (!((decide (((ixD r48 i49).a) < 3)) || (decide (((ixD r48 i49).a) > 99))))) (hg := gA_f rfl) (hq := fun hg => Quiet.ixM rfl ((getS32 (getS32 (getS32 (getS8 get4)))).trans (cndT hg _ _)) ((getS32 (getS32 (getS32 (getS8 get5)))).trans (cndT hg _ _)) rfl (imp_of c63 hg)) (ht := (setS32 (setS32 (setS32 (setS8 set6))))) (hk := ?_); refine sG (g := (!((decide (((ixD r48 i49).a) < 3)) || (decide (((ixD r48 i49).a) > 99))))) (hg := gA_f rfl) (hq := fun hg => Quiet.fa_bp rfl ((getS32 (getS32 (getS32 (getS8 get6)))).trans (cndT hg _ _))) (ht := (setS32 (setS32 (setS32 (setS8 set7))))) (hk := ?_); refine sG (g := (!((decide (((ixD r48 i49).a) < 3)) || (decide (((ixD r48 i49).a) > 99))))) (hg := gA_f rfl) (hq := fun hg => Quiet.load_bp rfl ((getS32 (getS32 (getS32 (getS8 get7)))).trans (cndT hg _ _)) rfl) (ht := (setS32 (setS32 (setS32 (setS8 (setS8 set0)))))) (hk := ?_); refine sG (g := (!((decide (((ixD r48 i49).a) < 3)) || (decide (((ixD r48 i49).a) > 99))))) (hg := gA_f rfl) (hq := fun hg => Quiet.bin rfl ((getS32 (getS32 (getS32 (getS8 (getS8 get0))))).trans (cndT hg _ _)) getC rfl) (ht := (setS32 (setS32 (setS32 (setS8 (setS8 set1)))))) (hk := ?_); refine sA (hq := Quiet.pickOrB rfl (getS32 (getS32 (getS32 (getS8 get3)))) getC (getS32 (getS32 (getS32 (getS8 (getS8 get1)))))) (ht := (setS32 (setS32 (setS32 (setS8 (setS8 set2)))))) (hk := ?_); refine sA (hq := Quiet.move rfl (getS32 (getS32 (getS32 (getS8 (getS8 get2)))))) (ht := (setS32 (setS32 (setS32 (setS8 (setS8 set3)))))) (hk := ?_); refine sG (g := (!(((decide (((ixD r48 i49).a) < 3)) || (decide (((ixD r48 i49).a) > 99))) || (decide (((ixD r48 i49).b) < 3))))) (hg := gA_f rfl) (hq := fun hg => Quiet.move rfl (getS8 get0)) (ht := (setS32 (setS32 (setS32 (setS8 (setS8 set4)))))) (hk := ?_); refine sG (g := (!(((decide (((ixD r48 i49).a) < 3)) || (decide (((ixD r48 i49).a) > 99))) || (decide (((ixD r48 i49).b) < 3))))) (hg := gA_f rfl) (hq := fun hg => Quiet.move rfl (getS8 get1)) (ht := (setS32 (setS32 (setS32 (setS8 (setS8 set5)))))) (hk := ?_); refine sG (g := (!(((decide (((ixD r48 i49).a) < 3)) || (decide (((ixD r48 i49).a) > 99))) || (decide (((ixD r48 i49).b) < 3))))) (hg := gA_f rfl) (hq := fun hg => Quiet.ixM rfl ((getS32 (getS32 (getS32 (getS8 (getS8 get4))))).trans (cndT hg _ _)) ((getS32 (getS32 (getS32 (getS8 (getS8 get5))))).trans (cndT hg _ _)) rfl (imp_of c64 hg)) (ht := (setS32 (setS32 (setS32 (setS8 (setS8 set6)))))) (hk := ?_); refine sG (g := (!(((decide (((ixD r48 i49).a) < 3)) || (decide (((ixD r48 i49).a) > 99))) || (decide (((ixD r48 i49).b) < 3))))) (hg := gA_f rfl) (hq := fun hg => Quiet.fa_bp rfl ((getS32 (getS32 (getS32 (getS8 (getS8 get6))))).trans (cndT hg _ _))) (ht := (setS32 (setS32 (setS32 (setS8 (setS8 set7)))))) (hk := ?_); refine sG (g := (!(((decide (((ixD r48 i49).a) < 3)) || (decide (((ixD r48 i49).a) > 99))) || (decide (((ixD r48 i49).b) < 3))))) (hg := gA_f rfl) (hq := fun hg => Quiet.load_bp rfl ((getS32 (getS32 (getS32 (getS8 (getS8 get7))))).trans (cndT hg _ _)) rfl) (ht := (setS32 (setS32 (setS32 (setS8 (setS8 (setS8 set0))))))) (hk := ?_); refine sG (g := (!(((decide (((ixD r48 i49).a) < 3)) || (decide (((ixD r48 i49).a) > 99))) || (decide (((ixD r48 i49).b) < 3))))) (hg := gA_f rfl) (hq := fun hg => Quiet.bin rfl ((getS32 (getS32 (getS32 (getS8 (getS8 (getS8 get0)))))).trans (cndT hg _ _)) getC rfl) (ht := (setS32 (setS32 (setS32 (setS8 (setS8 (setS8 set1))))))) (hk := ?_); refine sA (hq := Quiet.pickOrB rfl (getS32 (getS32 (getS32 (getS8 (getS8 get3))))) getC (getS32 (getS32 (getS32 (getS8 (getS8 (getS8 get1))))))) (ht := (setS32 (setS32 (setS32 (setS8 (setS8 (setS8 set2))))))) (hk := ?_); exact wEnd rfl)) (hk := ?_)
                  refine Awp.cond rfl (fun hb65 => ?_) (fun hb65 => ?_)
                  · have H := M.to_t hb65 H
                    refine wR (hx := by (refine sA (hq := Quiet.assign rfl getC) (ht := set2) (hk := ?_); exact wEnd rfl)) (hk := ?_)
                    have H := M.to_ok.2 (Hq53 _ (Hr53 _ (M.to_ok.1 H).symm).symm)
                    obtain rfl := M.to_ok.1 H
                    exact Awp.ret ⟨.inr rfl, Fin.cl rfl⟩
                  · have H := M.to_f hb65 H
                    refine Awp.skip ?_
                    refine hs60 _ ?_
                    refine nT (hk := ?_)
                    obtain ⟨c66, H⟩ := M.to_chk.1 H
                    obtain ⟨c67, H⟩ := M.to_chk.1 H
                    obtain ⟨c68, H⟩ := M.to_chk.1 H
                    obtain ⟨c69, H⟩ := M.to_chk.1 H
                    refine wDE 15 (hq := by (refine qA (hq := Quiet.move rfl get4) (ht := (setS32 (setS32 (setS32 (setS8 (setS8 (setS8 set3))))))) (hk := ?_); refine qA (hq := Quiet.move rfl (getS8 get0)) (ht := (setS32 (setS32 (setS32 (setS8 (setS8 (setS8 set4))))))) (hk := ?_); refine qA (hq := Quiet.move rfl (getS8 get1)) (ht := (setS32 (setS32 (setS32 (setS8 (setS8 (setS8 set5))))))) (hk := ?_); refine qA (hq := Quiet.ixM rfl (getS32 (getS32 (getS32 (getS8 (getS8 (getS8 get4)))))) (getS32 (getS32 (getS32 (getS8 (getS8 (getS8 get5)))))) rfl c66) (ht := (setS32 (setS32 (setS32 (setS8 (setS8 (setS8 set6))))))) (hk := ?_); refine qA (hq := Quiet.fa_bp rfl (getS32 (getS32 (getS32 (getS8 (getS8 (getS8 get6))))))) (ht := (setS32 (setS32 (setS32 (setS8 (setS8 (setS8 set7))))))) (hk := ?_); refine qA (hq := Quiet.load_bp rfl (getS32 (getS32 (getS32 (getS8 (getS8 (getS8 get7)))))) rfl) (ht := (setS32 (setS32 (setS32 (setS32 set0))))) (hk := ?_); refine qA (hq := Quiet.move rfl get4) (ht := (setS32 (setS32 (setS32 (setS32 set1))))) (hk := ?_); refine qA (hq := Quiet.move rfl (getS8 get0)) (ht := (setS32 (setS32 (setS32 (setS32 set2))))) (hk := ?_); refine qA (hq := Quiet.move rfl (getS8 get1)) (ht := (setS32 (setS32 (setS32 (setS32 set3))))) (hk := ?_); refine qA (hq := Quiet.ixM rfl (getS32 (getS32 (getS32 (getS32 get2)))) (getS32 (getS32 (getS32 (getS32 get3)))) rfl c66) (ht := (setS32 (setS32 (setS32 (setS32 set4))))) (hk := ?_); refine qA (hq := Quiet.fa_bp rfl (getS32 (getS32 (getS32 (getS32 get4))))) (ht := (setS32 (setS32 (setS32 (setS32 set5))))) (hk := ?_); refine qA (hq := Quiet.load_bp rfl (getS32 (getS32 (getS32 (getS32 get5)))) rfl) (ht := (setS32 (setS32 (setS32 (setS32 set6))))) (hk := ?_); refine qA (hq := Quiet.ixoM rfl (getS32 (getS32 (getS32 (getS32 get1)))) rfl (getS32 (getS32 (getS32 (getS32 get6)))) rfl c67) (ht := (setS32 (setS32 (setS32 (setS32 set7))))) (hk := ?_); refine qA (hq := Quiet.load_rp rfl (getS32 (getS32 (getS32 (getS32 get7)))) rfl (inB_get c67) rfl) (ht := (setS32 (setS32 (setS32 (setS32 (setS8 set0)))))) (hk := ?_); refine qA (hq := Quiet.ixoM rfl (getS32 (getS32 (getS32 (getS8 (getS8 (getS8 get3)))))) rfl (getS32 (getS32 (getS32 (getS32 get0)))) rfl c68) (ht := (setS32 (setS32 (setS32 (setS32 (setS8 set1)))))) (hk := ?_); exact qEnd rfl)) (hx := by ((refine aSeq_t rfl (AOp.stRow rfl rfl rfl (inB_get c68) (Fit.int c69) rfl ?_); refine sNtM (ht := setN) (hk := ?_)); exact wEnd rfl)) (hk := ?_)
                    refine hs59 _ ?_
                    refine nT (hk := ?_)
                    refine wRE (hx := by (refine sA (hq := Quiet.move rfl (getS8 get1)) (ht := (setS32 (setS32 (setS8 (setS8 (setS8 set3)))))) (hk := ?_); refine sA (hq := Quiet.bin rfl (getS32 (getS32 (getS8 (getS8 (getS8 get3))))) getC rfl) (ht := (setS32 (setS32 (setS8 (setS8 (setS8 set4)))))) (hk := ?_); refine sA (hq := Quiet.assign rfl (getS32 (getS32 (getS8 (getS8 (getS8 get4)))))) (ht := (setS8 set1)) (hk := ?_); exact wEnd rfl)) (hk := ?_)
                    have e53 := M.to_ok.1 H
                    repeat (first | refine abN ?_ | refine asN ?_)
                    refine athen_n ⟨_, (v50, v52), e53.symm, ?_⟩
                    try dsimp only
                    exact le_TA
                · have H := M.to_f hb58 H
                  refine Awp.exit ?_
                  repeat (first | refine athen_e ?_ | refine exO (by decide) ?_ | refine asE ?_)
                  refine exN ?_
                  have e53 := Hr53 _ (M.to_ok.1 H).symm
                  repeat (first | refine abN ?_ | refine asN ?_)
                  refine athen_n ⟨(_, (v50, v52)), e53.symm, ?_⟩
                  try dsimp only
                  exact le_TA
            · rintro ⟨l55, ⟨v54, v56⟩⟩ hz53
              try dsimp only at hz53
              have H := Hl53 _ hz53
              try dsimp only
              obtain ⟨z73, HX73, Hl73, Hq73⟩ := M.to_els H
              refine Awp.seqJ (β := (Unit) × (Unit)) (fun q73 => z73 = .inl q73.1) (fun q73 => ⟨.bs tPair l :: .any :: .any :: .any :: .any :: .any :: .any :: .any :: .bs tPair r48 :: .any :: .any :: .any :: .any :: .any :: .any :: .any :: .any :: .any :: .any :: .any :: .any :: .any :: .any :: .any :: .any :: .any :: .any :: .any :: .any :: .any :: .any :: .any :: .any :: .any :: .any :: .any :: .any :: .any :: .any :: .any :: .any :: .any :: .any :: .any :: .any :: .any :: .any :: .any :: .any :: .any :: .any :: .any :: .any :: .any :: .any :: .any :: .any :: .any :: .any :: .any :: .any :: .any :: .any :: .any :: .any :: .any :: .any :: .any :: .any :: .any :: .any :: .any :: .any :: .any :: .any :: .any :: .any :: .any :: .any :: .any :: .any :: .any :: .any :: .any :: .any :: .any :: .any :: .any :: .any :: .any :: .any :: .any :: .any :: .any :: .any :: .any :: .any :: .any :: .any :: .any :: .any :: .any :: .any :: .any :: .any :: .any :: .any :: .any :: .any :: .any :: .any :: .any :: .any :: .any :: .any :: .any :: .any :: .any :: .any :: .any :: .any :: .any :: .any :: .any :: .any :: .any :: .any :: .any :: .any :: .any :: .any :: .any :: .any :: .any :: .any :: .any :: .any :: .any :: .any :: .any :: .any :: .any :: .any :: .any :: .any :: .any :: .any :: .any :: .any :: .any :: .any :: .any :: .any :: .any :: .any :: .any :: .any :: .any :: .any :: .any :: .any :: [], [.dead, .dead]⟩) ?_ ?_
              · refine wR (hx := by (refine sA (hq := Quiet.assign rfl getC) (ht := (setS8 set2)) (hk := ?_); exact wEnd rfl)) (hk := ?_)
                refine Awp.block ?_
                refine Awp.loopM HX73 (fun s73 b73 => ⟨.bs tPair l :: .any :: .any :: .any :: .own 0 b73.1 :: .own 1 b73.2 :: .any :: .any :: .bs tPair r48 :: .any :: .lit (.int .i64 s73) :: .any :: .any :: .any :: .any :: .any :: .any :: .any :: .any :: .any :: .any :: .any :: .any :: .any :: .any :: .any :: .any :: .any :: .any :: .any :: .any :: .any :: .any :: .any :: .any :: .any :: .any :: .any :: .any :: .any :: .any :: .any :: .any :: .any :: .any :: .any :: .any :: .any :: .any :: .any :: .any :: .any :: .any :: .any :: .any :: .any :: .any :: .any :: .any :: .any :: .any :: .any :: .any :: .any :: .any :: .any :: .any :: .any :: .any :: .any :: .any :: .any :: .any :: .any :: .any :: .any :: .any :: .any :: .any :: .any :: .any :: .any :: .any :: .any :: .any :: .any :: .any :: .any :: .any :: .any :: .any :: .any :: .any :: .any :: .any :: .any :: .any :: .any :: .any :: .any :: .any :: .any :: .any :: .any :: .any :: .any :: .any :: .any :: .any :: .any :: .any :: .any :: .any :: .any :: .any :: .any :: .any :: .any :: .any :: .any :: .any :: .any :: .any :: .any :: .any :: .any :: .any :: .any :: .any :: .any :: .any :: .any :: .any :: .any :: .any :: .any :: .any :: .any :: .any :: .any :: .any :: .any :: .any :: .any :: .any :: .any :: .any :: .any :: .any :: .any :: .any :: .any :: .any :: .any :: .any :: .any :: .any :: .any :: .any :: .any :: .any :: [], [.row b73.1 3 tInt l55, .row b73.2 3 tInt l41]⟩) (v54, v56) (?_) ?_
                · try dsimp only
                  exact le_TA
                · rintro i70 ⟨v71, v72⟩ x73 H Hr73
                  try dsimp only
                  dsimp only [law23_BodyMoves_L56] at H
                  refine Awp.seq fun Khs74 hs74 => ?_
                  refine wR (hx := by (refine sA (hq := Quiet.move rfl (getS8 get2)) (ht := (setS32 (setS32 (setS32 (setS32 (setS8 set2)))))) (hk := ?_); refine sA (hq := Quiet.bin rfl (getS32 (getS32 (getS32 (getS32 (getS8 get2))))) getC rfl) (ht := (setS32 (setS32 (setS32 (setS32 (setS8 set3)))))) (hk := ?_); exact wEnd rfl)) (hk := ?_)
                  refine Awp.cond rfl (fun hb75 => ?_) (fun hb75 => ?_)
                  · have H := M.to_t hb75 H
                    refine Awp.skip ?_
                    refine hs74 _ ?_
                    refine nT (hk := ?_)
                    refine Awp.seq fun Khs76 hs76 => ?_
                    refine Awp.block ?_
                    obtain ⟨c77, H⟩ := M.to_chk.1 H
                    obtain ⟨c78, H⟩ := M.to_chk.1 H
                    refine wD 9 (hq := by (refine qA (hq := Quiet.move rfl get4) (ht := (setS32 (setS32 (setS32 (setS32 (setS8 set6)))))) (hk := ?_); refine qA (hq := Quiet.move rfl (getS8 get2)) (ht := (setS32 (setS32 (setS32 (setS32 (setS8 set7)))))) (hk := ?_); refine qA (hq := Quiet.ixoM rfl (getS32 (getS32 (getS32 (getS32 (getS8 get6))))) rfl (getS32 (getS32 (getS32 (getS32 (getS8 get7))))) rfl c77) (ht := (setS32 (setS32 (setS32 (setS32 (setS8 (setS8 set0))))))) (hk := ?_); refine qA (hq := Quiet.load_rp rfl (getS32 (getS32 (getS32 (getS32 (getS8 (getS8 get0)))))) rfl (inB_get c77) rfl) (ht := (setS32 (setS32 (setS32 (setS32 (setS8 (setS8 set1))))))) (hk := ?_); refine qA (hq := Quiet.move rfl get5) (ht := (setS32 (setS32 (setS32 (setS32 (setS8 (setS8 set2))))))) (hk := ?_); refine qA (hq := Quiet.move rfl (getS8 get2)) (ht := (setS32 (setS32 (setS32 (setS32 (setS8 (setS8 set3))))))) (hk := ?_); refine qA (hq := Quiet.ixoM rfl (getS32 (getS32 (getS32 (getS32 (getS8 (getS8 get2)))))) rfl (getS32 (getS32 (getS32 (getS32 (getS8 (getS8 get3)))))) rfl c78) (ht := (setS32 (setS32 (setS32 (setS32 (setS8 (setS8 set4))))))) (hk := ?_); refine qA (hq := Quiet.load_rp rfl (getS32 (getS32 (getS32 (getS32 (getS8 (getS8 get4)))))) rfl (inB_get c78) rfl) (ht := (setS32 (setS32 (setS32 (setS32 (setS8 (setS8 set5))))))) (hk := ?_); refine qA (hq := Quiet.bin rfl (getS32 (getS32 (getS32 (getS32 (getS8 (getS8 get1)))))) (getS32 (getS32 (getS32 (getS32 (getS8 (getS8 get5)))))) rfl) (ht := (setS32 (setS32 (setS32 (setS32 (setS8 (setS8 set6))))))) (hk := ?_); exact qEnd rfl)) (hx := by (exact wEnd rfl)) (hk := ?_)
                    refine Awp.cond rfl (fun hb79 => ?_) (fun hb79 => ?_)
                    · have H := M.to_t hb79 H
                      refine wR (hx := by (refine sA (hq := Quiet.assign rfl getC) (ht := set2) (hk := ?_); exact wEnd rfl)) (hk := ?_)
                      have H := M.to_ok.2 (Hq73 _ (Hr73 _ (M.to_ok.1 H).symm).symm)
                      obtain rfl := M.to_ok.1 H
                      exact Awp.ret ⟨.inr rfl, Fin.cl rfl⟩
                    · have H := M.to_f hb79 H
                      refine Awp.skip ?_
                      refine hs76 _ ?_
                      refine nT (hk := ?_)
                      refine wRE (hx := by (refine sA (hq := Quiet.move rfl (getS8 get2)) (ht := (setS32 (setS32 (setS32 (setS32 (setS8 set4)))))) (hk := ?_); refine sA (hq := Quiet.bin rfl (getS32 (getS32 (getS32 (getS32 (getS8 get4))))) getC rfl) (ht := (setS32 (setS32 (setS32 (setS32 (setS8 set5)))))) (hk := ?_); refine sA (hq := Quiet.assign rfl (getS32 (getS32 (getS32 (getS32 (getS8 get5)))))) (ht := (setS8 set2)) (hk := ?_); exact wEnd rfl)) (hk := ?_)
                      have e73 := M.to_ok.1 H
                      repeat (first | refine abN ?_ | refine asN ?_)
                      refine athen_n ⟨_, (v71, v72), e73.symm, ?_⟩
                      try dsimp only
                      exact le_TA
                  · have H := M.to_f hb75 H
                    refine Awp.exit ?_
                    repeat (first | refine athen_e ?_ | refine exO (by decide) ?_ | refine asE ?_)
                    refine exN ?_
                    have e73 := Hr73 _ (M.to_ok.1 H).symm
                    repeat (first | refine abN ?_ | refine asN ?_)
                    refine athen_n ⟨(_, ()), e73.symm, ?_⟩
                    try dsimp only
                    exact leC (Cut.dead (Cut.dead (Cut.nil _)))
              · rintro ⟨_, _⟩ hz73
                try dsimp only at hz73
                have H := Hl73 _ hz73
                try dsimp only
                obtain ⟨r80, k80, H⟩ := M.to_bnd.1 H
                refine wR (hx := by (refine sA (hq := Quiet.move rfl (getS8 get0)) (ht := (setS32 (setS32 (setS32 (setS32 (setS8 (setS8 set7))))))) (hk := ?_); refine sA (hq := Quiet.ln rfl (getS32 (getS32 (getS32 (getS32 (getS8 (getS8 get7))))))) (ht := (setS32 (setS32 (setS32 (setS32 (setS8 (setS8 (setS8 set0)))))))) (hk := ?_); refine sA (hq := Quiet.bin rfl getC (getS32 (getS32 (getS32 (getS32 (getS8 (getS8 (getS8 get0))))))) rfl) (ht := (setS32 (setS32 (setS32 (setS32 (setS8 (setS8 (setS8 set1)))))))) (hk := ?_); refine sA (hq := Quiet.move rfl get0) (ht := (setS32 (setS32 (setS32 (setS32 (setS8 (setS8 (setS8 set2)))))))) (hk := ?_); refine sA (hq := Quiet.ln rfl (getS32 (getS32 (getS32 (getS32 (getS8 (getS8 (getS8 get2)))))))) (ht := (setS32 (setS32 (setS32 (setS32 (setS8 (setS8 (setS8 set3)))))))) (hk := ?_); refine sA (hq := Quiet.bin rfl getC (getS32 (getS32 (getS32 (getS32 (getS8 (getS8 (getS8 get3))))))) rfl) (ht := (setS32 (setS32 (setS32 (setS32 (setS8 (setS8 (setS8 set4)))))))) (hk := ?_); refine sA (hq := Quiet.bin rfl (getS32 (getS32 (getS32 (getS32 (getS8 (getS8 (getS8 get1))))))) (getS32 (getS32 (getS32 (getS32 (getS8 (getS8 (getS8 get4))))))) rfl) (ht := (setS32 (setS32 (setS32 (setS32 (setS8 (setS8 (setS8 set5)))))))) (hk := ?_); refine sA (hq := Quiet.move rfl (getS32 (getS32 (getS32 (getS32 (getS8 (getS8 (getS8 get5)))))))) (ht := (setS32 (setS32 (setS32 (setS32 (setS8 (setS8 (setS8 set6)))))))) (hk := ?_); refine sG (g := (decide ((IntKind.i64.wrap (2 * (r48.length : Int))) ≤ (IntKind.i64.wrap (3 * (l.length : Int)))))) (hg := gA_t rfl) (hq := fun hg => by ((try simp only [cndT hg]); (try simp only [cndA hg]); exact Quiet.callA rfl rfl (law23_head_l (M.to_whn k80 hg)) rfl rfl)) (ht := (setS32 (setS32 (setS32 (setS32 (setS8 (setS8 (setS8 set7)))))))) (hk := ?_); refine sA (hq := Quiet.pickAndB rfl (getS32 (getS32 (getS32 (getS32 (getS8 (getS8 (getS8 get6))))))) (getS32 (getS32 (getS32 (getS32 (getS8 (getS8 (getS8 get7))))))) getC) (ht := (setS32 (setS32 (setS32 (setS32 (setS32 set0)))))) (hk := ?_); refine sA (hq := Quiet.assign rfl (getS32 (getS32 (getS32 (getS32 (getS32 get0)))))) (ht := set2) (hk := ?_); exact wEnd rfl)) (hk := ?_)
                obtain rfl := M.to_ok.1 H
                exact Awp.ret ⟨.inr rfl, Fin.cl rfl⟩
end
end Mu
end
section
/-
  What moves that are done one by one leave, and how many they are: plainly.
  Conditions: none; plain Lean.
-/
namespace Mu

theorem pig23 : ∀ (A B : List Int), A.Nodup → (∀ a ∈ A, a ∈ B) → B.length ≤ A.length → ∀ b ∈ B, b ∈ A
  | [], B, _, _, hl, b, hb => by
    have : B = [] := List.eq_nil_of_length_eq_zero (by simpa using hl)
    subst this
    cases hb
  | a :: A, B, hn, hs, hl, b, hb => by
    rw [List.nodup_cons] at hn
    have haB := hs a (by simp)
    have hle := List.length_erase_of_mem haB
    have hpos : 0 < B.length := List.length_pos_of_mem haB
    by_cases hba : b = a
    · simp [hba]
    · have := pig23 A (B.erase a) hn.2 (fun x hx => (List.mem_erase_of_ne (fun e => hn.1 (by rw [← e]; exact hx))).2 (hs x (by simp [hx]))) (by rw [hle]; simp only [List.length_cons] at hl; omega) b ((List.mem_erase_of_ne hba).2 hb)
      simp [this]
/-- where none is free, each goes from a place into which another one goes -/
theorem blocked {left : List Pair} (hI : InvP left) (h : left.findIdx? (fr23 left) = none) : ∀ y ∈ left, ∃ x ∈ left, x.a = y.b := by
  rw [List.findIdx?_eq_none_iff] at h
  have hA : ∀ a ∈ left.map (·.a), a ∈ left.map (·.b) := fun a ha => by
    obtain ⟨x, hx, rfl⟩ := List.mem_map.1 ha
    have := h x hx
    unfold fr23 at this
    rw [Bool.not_eq_false', List.any_eq_true] at this
    obtain ⟨y, hy, hyb⟩ := this
    rw [Bool.and_eq_true, decide_eq_true_eq] at hyb
    exact List.mem_map.2 ⟨y, hy, hyb.2⟩
  intro y hy
  have := pig23 _ _ hI.nd hA (by simp) y.b (List.mem_map_of_mem hy)
  obtain ⟨x, hx, e⟩ := List.mem_map.1 this
  exact ⟨x, hx, e⟩
theorem free_of {left : List Pair} {x : Pair} (h : fr23 left x = true) {y : Pair} (hy : y ∈ left) (hne : y ≠ x) : y.b ≠ x.a := fun e => by
  unfold fr23 at h
  rw [Bool.not_eq_true', List.any_eq_false] at h
  have := h y hy
  rw [Bool.and_eq_true, neP_iff, decide_eq_true_eq] at this
  exact this ⟨hne, e⟩
theorem mem_erase23 {left : List Pair} (hI : InvP left) {k : Nat} {x : Pair} (hx : left[k]? = some x) {y : Pair} : y ∈ left.eraseIdx k ↔ y ∈ left ∧ y ≠ x := by
  have hk := (List.getElem?_eq_some_iff.1 hx).1
  constructor
  · intro hy
    refine ⟨(List.eraseIdx_sublist left k).subset hy, fun e => ?_⟩
    subst e
    obtain ⟨j, hj⟩ := List.mem_iff_getElem?.1 hy
    have hj2 := (List.getElem?_eq_some_iff.1 hj).1
    rw [List.length_eraseIdx_of_lt hk] at hj2
    rw [List.getElem?_eraseIdx] at hj
    have hinj : ∀ i, i < left.length → left[i]? = some y → i = k := fun i hi e => by
      have h1 : (left.map (·.a))[i]? = (left.map (·.a))[k]? := by rw [List.getElem?_map, List.getElem?_map, hx, e]
      exact (List.getElem?_inj (by rw [List.length_map]; exact hi) hI.nd).1 h1
    split at hj
    · have := hinj j (by omega) hj
      omega
    · have := hinj (j + 1) (by omega) hj
      omega
  · rintro ⟨hy, hne⟩
    obtain ⟨j, hj⟩ := List.mem_iff_getElem?.1 hy
    have hj2 := (List.getElem?_eq_some_iff.1 hj).1
    have hjk : j ≠ k := fun e => by
      subst e
      rw [hx] at hj
      exact hne (Option.some.inj hj).symm
    rcases Nat.lt_or_gt_of_ne hjk with h | h
    · exact List.mem_iff_getElem?.2 ⟨j, by rw [List.getElem?_eraseIdx, if_pos h, hj]⟩
    · exact List.mem_iff_getElem?.2 ⟨j - 1, by rw [List.getElem?_eraseIdx, if_neg (by omega), show j - 1 + 1 = j by omega, hj]⟩

/-! ### what is left in places -/
def updF (f : Int → Int) (x : Pair) : Int → Int := fun p => if p = x.a then f x.b else f p
def execF (r : List Pair) (f : Int → Int) : Int → Int := r.foldl updF f
/-- what should be in a place -/
def want23 (left : List Pair) (f : Int → Int) (p : Int) : Int := match left.find? (fun x => decide (x.a = p)) with | some x => f x.b | none => f p
theorem want_some {left : List Pair} (hI : InvP left) {f : Int → Int} {x : Pair} (hx : x ∈ left) : want23 left f x.a = f x.b := by
  unfold want23
  cases h : left.find? (fun y => decide (y.a = x.a)) with
  | none =>
    rw [List.find?_eq_none] at h
    exact absurd (by simp) (h x hx)
  | some y =>
    have h1 := List.find?_some h
    rw [decide_eq_true_eq] at h1
    have h2 := List.mem_of_find?_eq_some h
    have e : y = x := by
      obtain ⟨i, hi⟩ := List.mem_iff_getElem?.1 h2
      obtain ⟨j, hj⟩ := List.mem_iff_getElem?.1 hx
      have hil := (List.getElem?_eq_some_iff.1 hi).1
      have he : (left.map (·.a))[i]? = (left.map (·.a))[j]? := by rw [List.getElem?_map, List.getElem?_map, hi, hj]; simp [h1]
      have := (List.getElem?_inj (by rw [List.length_map]; exact hil) hI.nd).1 he
      subst this
      rw [hi] at hj
      exact Option.some.inj hj
    rw [e]
theorem want_none {left : List Pair} {f : Int → Int} {p : Int} (h : ∀ x ∈ left, x.a ≠ p) : want23 left f p = f p := by
  unfold want23
  rw [List.find?_eq_none.2 fun x hx => by simpa using h x hx]
theorem exec_want : ∀ {n : Nat} {left r : List Pair}, AtO n left r → InvP left → ∀ (f : Int → Int) (p : Int), p ≠ 3 → execF r f p = want23 left f p := by
  intro n left r H
  induction H with
  | nil => intro _ f p _; rfl
  | @out n k left r x h1 h2 h3 ih =>
    intro hI f p hp
    show execF r (updF f x) p = _
    rw [ih (hI.erase k) (updF f x) p hp]
    have hxm := List.mem_of_getElem? h2
    have hfr : fr23 left x = true := by
      obtain ⟨hk, ht, _⟩ := List.findIdx?_eq_some_iff_getElem.1 h1
      rw [List.getElem?_eq_getElem hk] at h2
      rw [← Option.some.inj h2]
      exact ht
    by_cases hpx : ∃ y ∈ left, y.a = p
    · obtain ⟨y, hy, rfl⟩ := hpx
      rw [want_some hI hy]
      by_cases hyx : y = x
      · subst hyx
        rw [want_none fun z hz e => ?_]
        · unfold updF; rw [if_pos rfl]
        · obtain ⟨z1, z2⟩ := (mem_erase23 hI h2).1 hz
          apply z2
          obtain ⟨i, hi⟩ := List.mem_iff_getElem?.1 z1
          have hil := (List.getElem?_eq_some_iff.1 hi).1
          have he : (left.map (·.a))[i]? = (left.map (·.a))[k]? := by rw [List.getElem?_map, List.getElem?_map, hi, h2]; simp [e]
          have := (List.getElem?_inj (by rw [List.length_map]; exact hil) hI.nd).1 he
          subst this
          rw [hi] at h2
          exact Option.some.inj h2
      · rw [want_some (hI.erase k) ((mem_erase23 hI h2).2 ⟨hy, hyx⟩)]
        unfold updF
        rw [if_neg (free_of hfr hy hyx)]
    · have hno : ∀ y ∈ left, y.a ≠ p := fun y hy e => hpx ⟨y, hy, e⟩
      rw [want_none hno, want_none fun z hz => hno z ((List.eraseIdx_sublist left k).subset hz)]
      unfold updF
      rw [if_neg fun e => hno x hxm e.symm]
  | @via n y l r h1 h3 ih =>
    intro hI f p hp
    show execF r (updF f ⟨3, y.a⟩) p = _
    rw [ih (hI.unblock y.a) _ p hp]
    have hb3 : ∀ z ∈ y :: l, z.b ≠ 3 := fun z hz e => by
      obtain ⟨x, hx, hxa⟩ := blocked hI h1 z hz
      exact hI.n3 x hx (by rw [hxa, e])
    by_cases hpx : ∃ z ∈ y :: l, z.a = p
    · obtain ⟨z, hz, rfl⟩ := hpx
      rw [want_some hI hz]
      have hm : (if z.b = y.a then (⟨z.a, 3⟩ : Pair) else z) ∈ unblock (y :: l) y.a := List.mem_map.2 ⟨z, hz, rfl⟩
      have ha : (if z.b = y.a then (⟨z.a, 3⟩ : Pair) else z).a = z.a := by split <;> rfl
      have := want_some (hI.unblock y.a) (f := updF f ⟨3, y.a⟩) hm
      rw [ha] at this
      rw [this]
      by_cases hzb : z.b = y.a
      · rw [if_pos hzb]
        unfold updF
        simp [hzb]
      · rw [if_neg hzb]
        unfold updF
        rw [if_neg (hb3 z hz)]
    · have hno : ∀ z ∈ y :: l, z.a ≠ p := fun z hz e => hpx ⟨z, hz, e⟩
      rw [want_none hno, want_none fun z hz e => ?_]
      · unfold updF
        rw [if_neg hp]
      · unfold unblock at hz
        obtain ⟨q, hq, rfl⟩ := List.mem_map.1 hz
        refine hno q hq ?_
        rw [← e]
        split <;> rfl

/-! ### how many they are -/
def spec23 (left : List Pair) (x : Pair) : Prop := x.b = 3 ∨ fr23 left x = true
theorem len_want : ∀ {n : Nat} {left r : List Pair}, AtO n left r → InvP left → 2 * n ≤ 3 * left.length ∧ ((∃ x ∈ left, spec23 left x) → 2 * n + 1 ≤ 3 * left.length) ∧ ((∃ x ∈ left, ∃ y ∈ left, x ≠ y ∧ spec23 left x ∧ spec23 left y) → 2 * n + 2 ≤ 3 * left.length) := by
  intro n left r H
  induction H with
  | nil => exact fun _ => ⟨by simp, (fun ⟨x, hx, _⟩ => absurd hx (by simp)), (fun ⟨x, hx, _⟩ => absurd hx (by simp))⟩
  | @out n k left r x h1 h2 h3 ih =>
    intro hI
    have hk := (List.getElem?_eq_some_iff.1 h2).1
    obtain ⟨i1, i2, i3⟩ := ih (hI.erase k)
    rw [List.length_eraseIdx_of_lt hk] at i1 i2 i3
    refine ⟨by omega, fun _ => by omega, fun ⟨u, hu, v, hv, huv, su, sv⟩ => ?_⟩
    have key : ∃ w ∈ left, w ≠ x ∧ spec23 left w := by
      by_cases hux : u = x
      · exact ⟨v, hv, fun e => huv (by rw [hux, e]), sv⟩
      · exact ⟨u, hu, hux, su⟩
    obtain ⟨w, hw, hwx, sw⟩ := key
    have := i2 ⟨w, (mem_erase23 hI h2).2 ⟨hw, hwx⟩, ?_⟩
    · omega
    · rcases sw with h | h
      · exact .inl h
      · refine .inr ?_
        unfold fr23
        rw [Bool.not_eq_true', List.any_eq_false]
        intro z hz
        obtain ⟨z1, _⟩ := (mem_erase23 hI h2).1 hz
        rw [Bool.and_eq_true, neP_iff, decide_eq_true_eq]
        rintro ⟨c1, c2⟩
        exact free_of h z1 c1 c2
  | @via n y l r h1 h3 ih =>
    intro hI
    obtain ⟨i1, i2, i3⟩ := ih (hI.unblock y.a)
    rw [len_unblock] at i1 i2 i3
    have hb3 : ∀ z ∈ y :: l, z.b ≠ 3 := fun z hz e => by
      obtain ⟨x, hx, hxa⟩ := blocked hI h1 z hz
      exact hI.n3 x hx (by rw [hxa, e])
    have hno : ¬ ∃ x ∈ y :: l, spec23 (y :: l) x := fun ⟨x, hx, hs⟩ => by
      rcases hs with h | h
      · exact hb3 x hx h
      · rw [List.findIdx?_eq_none_iff] at h1
        rw [h1 x hx] at h
        cases h
    have hy : fr23 (y :: l) y = false := by
      rw [List.findIdx?_eq_none_iff] at h1
      exact h1 y (by simp)
    unfold fr23 at hy
    rw [Bool.not_eq_false', List.any_eq_true] at hy
    obtain ⟨z, hz, hzc⟩ := hy
    rw [Bool.and_eq_true, neP_iff, decide_eq_true_eq] at hzc
    have hza : z.a ≠ y.a := fun e => by
      obtain ⟨i, hi⟩ := List.mem_iff_getElem?.1 hz
      have hil := (List.getElem?_eq_some_iff.1 hi).1
      have he : ((y :: l).map (·.a))[i]? = ((y :: l).map (·.a))[0]? := by rw [List.getElem?_map, hi]; simp [e]
      have := (List.getElem?_inj (by rw [List.length_map]; exact hil) hI.nd).1 he
      subst this
      simp at hi
      exact hzc.1 hi.symm
    have hu := i3 ⟨if y.b = y.a then ⟨y.a, 3⟩ else y, List.mem_map.2 ⟨y, by simp, rfl⟩, ⟨z.a, 3⟩, List.mem_map.2 ⟨z, hz, by rw [if_pos hzc.2]⟩, fun e => hza ?_, .inr ?_, .inl rfl⟩
    · exact ⟨by omega, fun h => absurd h hno, fun ⟨x, hx, _, _, _, hs, _⟩ => absurd ⟨x, hx, hs⟩ hno⟩
    · have ha : (if y.b = y.a then (⟨y.a, 3⟩ : Pair) else y).a = y.a := by split <;> rfl
      rw [← ha, e]
    · have ha : (if y.b = y.a then (⟨y.a, 3⟩ : Pair) else y).a = y.a := by split <;> rfl
      unfold fr23
      rw [Bool.not_eq_true', List.any_eq_false]
      intro q hq
      rw [Bool.and_eq_true, decide_eq_true_eq, ha]
      rintro ⟨_, hqb⟩
      unfold unblock at hq
      obtain ⟨u, hu, rfl⟩ := List.mem_map.1 hq
      split at hqb
      · exact hI.n3 y (by simp) hqb.symm
      · rename_i hub
        exact hub hqb
/-- which places are named -/
theorem range_want {lo : Int} : ∀ {n : Nat} {left r : List Pair}, AtO n left r → (∀ x ∈ left, 4 ≤ x.a ∧ x.a ≤ 99 ∧ 3 ≤ x.b ∧ x.b ≤ 99) → ∀ x ∈ r, 3 ≤ x.a ∧ x.a ≤ 99 ∧ 3 ≤ x.b ∧ x.b ≤ 99 := by
  intro n left r H
  induction H with
  | nil => intro _ x hx; cases hx
  | @out n k left r x h1 h2 h3 ih =>
    intro hl y hy
    rcases List.mem_cons.1 hy with rfl | hy
    · have := hl y (List.mem_of_getElem? h2)
      omega
    · exact ih (fun z hz => hl z ((List.eraseIdx_sublist left k).subset hz)) y hy
  | @via n y l r h1 h3 ih =>
    intro hl x hx
    have hy := hl y (by simp)
    rcases List.mem_cons.1 hx with rfl | hx
    · exact ⟨(by decide : (3 : Int) ≤ 3), (by decide : (3 : Int) ≤ 99), by show 3 ≤ y.a; omega, by show y.a ≤ 99; omega⟩
    · refine ih (fun z hz => ?_) x hx
      unfold unblock at hz
      obtain ⟨u, hu, rfl⟩ := List.mem_map.1 hz
      have := hl u hu
      split
      · exact ⟨this.1, this.2.1, (by decide : (3 : Int) ≤ 3), (by decide : (3 : Int) ≤ 99)⟩
      · exact this
/-- the first one into a place -/
def first23 (l : List Pair) (p : Int) : Int := match l.find? (fun x => decide (x.a = p)) with | some x => x.b | none => p
theorem first_firsts (l : List Pair) (p : Int) : ∀ seen : List Pair, (∀ y ∈ seen, y.a ≠ p) → (firsts seen l).find? (fun x => decide (x.a = p)) = l.find? (fun x => decide (x.a = p)) := by
  induction l with
  | nil => intro _ _; rfl
  | cons z l ih =>
    intro seen hs
    unfold firsts
    by_cases hz : z.a = p
    · rw [if_neg (by
        rw [List.any_eq_true]
        rintro ⟨y, hy, he⟩
        rw [decide_eq_true_eq] at he
        exact hs y hy (by rw [he, hz])), List.find?_cons, List.find?_cons]
      simp [hz]
    · have hrest := ih (seen ++ [z]) fun y hy => by
        rcases List.mem_append.1 hy with hy | hy
        · exact hs y hy
        · rw [List.mem_singleton.1 hy]; exact hz
      have hc : (z :: l).find? (fun x => decide (x.a = p)) = l.find? (fun x => decide (x.a = p)) := by rw [List.find?_cons]; simp only [hz, decide_false]
      rw [hc]
      split
      · exact hrest
      · rw [List.find?_cons]
        simp only [hz, decide_false]
        exact hrest
theorem want_single {l : List Pair} (hr : ∀ x ∈ l, x.a ≠ 3 ∧ x.b ≠ 3) (p : Int) : want23 (singleL l) (fun q => q) p = first23 l p := by
  have h0 := first_firsts l p [] (by simp)
  unfold first23
  rw [← h0]
  cases h : (firsts [] l).find? (fun x => decide (x.a = p)) with
  | none =>
    rw [List.find?_eq_none] at h
    refine want_none fun x hx => ?_
    have := h x (List.mem_filter.1 hx).1
    simpa using this
  | some x =>
    have h1 := List.find?_some h
    rw [decide_eq_true_eq] at h1
    have h2 := List.mem_of_find?_eq_some h
    subst h1
    have hxl := hr x (firsts_mem h2).1
    by_cases hk : keepB x = true
    · exact want_some (single_inv l) (List.mem_filter.2 ⟨h2, hk⟩)
    · have hab : x.a = x.b := by
        unfold keepB at hk
        simp only [Bool.not_eq_true, Bool.not_eq_false', Bool.or_eq_true, decide_eq_true_eq] at hk
        rcases hk with (h | h) | h
        · exact h
        · exact absurd h hxl.1
        · exact absurd h hxl.2
      rw [want_none fun y hy e => ?_]
      · exact hab
      · have hyf := List.mem_filter.1 hy
        have heq : y = x := by
          obtain ⟨i, hi⟩ := List.mem_iff_getElem?.1 hyf.1
          obtain ⟨j, hj⟩ := List.mem_iff_getElem?.1 h2
          have hil := (List.getElem?_eq_some_iff.1 hi).1
          have he : ((firsts [] l).map (·.a))[i]? = ((firsts [] l).map (·.a))[j]? := by rw [List.getElem?_map, List.getElem?_map, hi, hj]; simp [e]
          have := (List.getElem?_inj (by rw [List.length_map]; exact hil) (firsts_nd l [])).1 he
          subst this
          rw [hi] at hj
          exact Option.some.inj hj
        rw [heq] at hyf
        exact hk hyf.2
end Mu
end
section
/-
  muntinlaw23.BodyMoves comes to true: plainly.
  Conditions: none.
-/
namespace Mu
open Go Go.RowKit Go.Proofs

theorem wf23 {v : Int} (h0 : -1000 ≤ v) (h1 : v ≤ 1000) : wfB .i64 v = true := by
  unfold wfB
  simp [Lit.wf, IntKind.min, IntKind.max, IntKind.signed, IntKind.bits]
  omega
theorem ixD_set {s : List Int} {a p v : Int} (ha : 0 ≤ a) (hs : a.toNat < s.length) (hp : 0 ≤ p) : ixD (s.set a.toNat v) p = if p = a then v else ixD s p := by
  unfold ixD
  rw [List.getD, List.getD]
  by_cases h : p = a
  · subst h
    rw [if_pos rfl, List.getElem?_set_self hs]
    rfl
  · rw [if_neg h, List.getElem?_set_ne (by omega)]
theorem inB_int {s : List Int} {a : Int} (ha : 0 ≤ a) (hs : a.toNat < s.length) : inBd s a = true := inB_iff.2 ⟨ha, hs⟩
/-- places, as they are at first -/
def fillL : Nat → List Int
  | 0 => List.replicate 100 0
  | k + 1 => (fillL k).set k (k : Int)
theorem fillL_len : ∀ k, (fillL k).length = 100
  | 0 => by simp [fillL]
  | k + 1 => by unfold fillL; rw [List.length_set, fillL_len k]
theorem fillL_all : (List.range 100).all (fun p => (fillL 100).getD p 0 == (p : Int)) = true := by decide +kernel
theorem fillL_get {p : Int} (h0 : 0 ≤ p) (h1 : p < 100) : ixD (fillL 100) p = p := by
  have := List.all_eq_true.1 fillL_all p.toNat (List.mem_range.2 (by omega))
  have := eq_of_beq this
  unfold ixD
  show (fillL 100).getD p.toNat 0 = p
  rw [this]
  omega
theorem fill_to : (M.loop law23_BodyMoves_L22 (0, List.replicate (Int.toNat 100) 0, List.replicate (Int.toNat 100) 0)).to (fillL 100, fillL 100) := by
  refine M.loop_for (fun k : Nat => ((k : Int), fillL k, fillL k)) 100 (fun k hk => ?_) ?_ (Nat.zero_le _)
  · have hw : wfB .i64 (k : Int) = true := wf23 (by omega) (by omega)
    have hin : inBd (fillL k) (k : Int) = true := inB_int (by omega) (by rw [fillL_len]; omega)
    have hn : IntKind.i64.wrap ((k : Int) + 1) = ((k + 1 : Nat) : Int) := w23 hk (by omega)
    have hf : fillL (k + 1) = (fillL k).set (Int.toNat (k : Int)) (k : Int) := by rw [Int.toNat_natCast]; rfl
    simp only [law23_BodyMoves_L22]
    rw [hn, hf]
    exact M.t_to (decide_eq_true (by omega)) (M.chk_to hin (M.chk_to hw (M.chk_to hin (M.chk_to hw (M.ok_to _)))))
  · simp only [law23_BodyMoves_L22]
    exact M.f_to (by decide) (M.ok_to _)
/-- what should be in places -/
def wantL (l : List Pair) (base : List Int) : List Int := l.foldr (fun x s => s.set (Int.toNat x.a) x.b) base
def In23 (l : List Pair) : Prop := ∀ x ∈ l, 4 ≤ x.a ∧ x.a ≤ 99 ∧ 4 ≤ x.b ∧ x.b ≤ 99
theorem wantL_len (l : List Pair) (base : List Int) : (wantL l base).length = base.length := by
  unfold wantL
  induction l with
  | nil => rfl
  | cons x l ih => rw [List.foldr_cons, List.length_set, ih]
theorem wantL_get {l : List Pair} (hr : In23 l) {p : Int} (h0 : 0 ≤ p) (h1 : p < 100) : ixD (wantL l (fillL 100)) p = first23 l p := by
  induction l with
  | nil => exact fillL_get h0 h1
  | cons x l ih =>
    have hx := hr x (by simp)
    have := ih fun y hy => hr y (by simp [hy])
    show ixD ((wantL l (fillL 100)).set (Int.toNat x.a) x.b) p = _
    rw [ixD_set (by omega) (by rw [wantL_len, fillL_len]; omega) h0, this]
    unfold first23
    rw [List.find?_cons]
    by_cases h : p = x.a
    · rw [if_pos h]; simp [h]
    · rw [if_neg h]
      have : decide (x.a = p) = false := decide_eq_false fun e => h e.symm
      rw [this]
theorem want_to {l : List Pair} (hl : l.length ≤ 60) (hr : In23 l) : (M.loop (law23_BodyMoves_L32 l) (IntKind.i64.wrap ((l.length : Int) - 1), fillL 100)).to (wantL l (fillL 100)) := by
  have h0 : (IntKind.i64.wrap ((l.length : Int) - 1), fillL 100) = (fun k : Nat => ((l.length : Int) - 1 - (k : Int), wantL (l.drop (l.length - k)) (fillL 100))) 0 := by
    simp only [Nat.sub_zero, List.drop_length]
    rw [IntWalk.i64_in _ (by omega)]
    simp [wantL]
  rw [h0]
  refine M.loop_for (fun k : Nat => ((l.length : Int) - 1 - (k : Int), wantL (l.drop (l.length - k)) (fillL 100))) l.length (fun k hk => ?_) ?_ (Nat.zero_le _)
  · have hj : l.length - (k + 1) < l.length := by omega
    obtain ⟨x, hx⟩ : ∃ x, l[l.length - (k + 1)]? = some x := ⟨_, List.getElem?_eq_getElem hj⟩
    have hi : (l.length : Int) - 1 - (k : Int) = ((l.length - (k + 1) : Nat) : Int) := by omega
    have hxr := hr x (List.mem_of_getElem? hx)
    have hd : l.drop (l.length - (k + 1)) = x :: l.drop (l.length - k) := by
      rw [List.drop_eq_getElem_cons hj]
      congr 1
      · rw [List.getElem?_eq_getElem hj] at hx
        exact Option.some.inj hx
      · congr 1
        omega
    simp only [law23_BodyMoves_L32, hi, ixD_of hx]
    rw [hd]
    refine M.t_to (decide_eq_true (by omega)) (M.chk_to (inB23 hj) (M.chk_to (inB_int (by omega) (by rw [wantL_len, fillL_len]; omega)) (M.chk_to (wf23 (by omega) (by omega)) ?_)))
    have hn : IntKind.i64.wrap (((l.length - (k + 1) : Nat) : Int) - 1) = (l.length : Int) - 1 - ((k + 1 : Nat) : Int) := by
      rw [IntWalk.i64_in _ (by omega)]
      omega
    rw [hn]
    exact M.ok_to _
  · simp only [law23_BodyMoves_L32, Nat.sub_self, List.drop_zero]
    exact M.f_to (decide_eq_false (by omega)) (M.ok_to _)
/-- what is in places, move by move -/
def stp23 (s : List Int) (x : Pair) : List Int := s.set (Int.toNat x.a) (ixD s x.b)
def runL (s : List Int) (r : List Pair) : List Int := r.foldl stp23 s
def Pl23 (s : List Int) : Prop := s.length = 100 ∧ ∀ p, 0 ≤ p → p < 100 → 0 ≤ ixD s p ∧ ixD s p ≤ 99
def Rg23 (r : List Pair) : Prop := ∀ x ∈ r, 3 ≤ x.a ∧ x.a ≤ 99 ∧ 3 ≤ x.b ∧ x.b ≤ 99
theorem stp_pl {s : List Int} (hs : Pl23 s) {x : Pair} (hx : 3 ≤ x.a ∧ x.a ≤ 99 ∧ 3 ≤ x.b ∧ x.b ≤ 99) : Pl23 (stp23 s x) := by
  unfold stp23
  refine ⟨by rw [List.length_set]; exact hs.1, fun p h0 h1 => ?_⟩
  rw [ixD_set (by omega) (by rw [hs.1]; omega) h0]
  split
  · exact hs.2 _ (by omega) (by omega)
  · exact hs.2 _ h0 h1
theorem run_pl {r : List Pair} (hr : Rg23 r) : ∀ {s : List Int}, Pl23 s → Pl23 (runL s r) := by
  induction r with
  | nil => exact fun h => h
  | cons x r ih => exact fun hs => ih (fun y hy => hr y (by simp [hy])) (stp_pl hs (hr x (by simp)))
theorem run_exec {r : List Pair} (hr : Rg23 r) : ∀ {s : List Int} {f : Int → Int}, Pl23 s → (∀ p, 0 ≤ p → p < 100 → ixD s p = f p) → ∀ p, 0 ≤ p → p < 100 → ixD (runL s r) p = execF r f p := by
  induction r with
  | nil => exact fun _ h => h
  | cons x r ih =>
    intro s f hs hf p h0 h1
    have hx := hr x (by simp)
    refine ih (fun y hy => hr y (by simp [hy])) (stp_pl hs hx) (fun q q0 q1 => ?_) p h0 h1
    unfold stp23 updF
    rw [ixD_set (by omega) (by rw [hs.1]; omega) q0, hf x.b (by omega) (by omega), hf q q0 q1]
theorem run_to {r : List Pair} (hl : r.length ≤ 1000) (hr : Rg23 r) {s : List Int} (hs : Pl23 s) : (M.loop (law23_BodyMoves_L42 r) (0, s)).to (.inl (runL s r)) := by
  refine M.loop_for (fun k : Nat => ((k : Int), runL s (r.take k))) r.length (fun k hk => ?_) ?_ (Nat.zero_le _)
  · obtain ⟨x, hx⟩ : ∃ x, r[k]? = some x := ⟨_, List.getElem?_eq_getElem hk⟩
    have hxr := hr x (List.mem_of_getElem? hx)
    have hp := run_pl (r := r.take k) (fun y hy => hr y (List.mem_of_mem_take hy)) hs
    have hin := inB23 (l := r) hk
    have hnx : runL s (r.take (k + 1)) = stp23 (runL s (r.take k)) x := by
      unfold runL
      rw [List.take_add_one, hx, List.foldl_append]
      rfl
    have hv := hp.2 x.b (by omega) (by omega)
    simp only [law23_BodyMoves_L42, ixD_of hx]
    rw [w23 hk (by omega), hnx]
    refine M.t_to (decide_eq_true (by omega)) (M.chk_to hin (M.chk_to (by rw [hin, Bool.or_true]) (M.chk_to (by rw [hin, Bool.or_true]) (M.chk_to (by rw [hin, Bool.or_true]) (M.f_to ?_ ?_)))))
    · simp only [Bool.or_eq_false_iff, decide_eq_false_iff_not]
      omega
    · exact M.chk_to hin (M.chk_to (inB_int (by omega) (by rw [hp.1]; omega)) (M.chk_to (inB_int (by omega) (by rw [hp.1]; omega)) (M.chk_to (wf23 (by omega) (by omega)) (M.ok_to _))))
  · simp only [law23_BodyMoves_L42, List.take_length]
    exact M.f_to (decide_eq_false (by omega)) (M.ok_to _)
theorem cmp_to {a b : List Int} (ha : a.length = 100) (hb : b.length = 100) (h : ∀ p : Int, 4 ≤ p → p < 100 → ixD b p = ixD a p) : (M.loop (law23_BodyMoves_L56 a b) 4).to (.inl ()) := by
  refine M.loop_for (fun k : Nat => ((4 + k : Nat) : Int)) 96 (fun k hk => ?_) ?_ (Nat.zero_le _)
  · have hn : IntKind.i64.wrap (((4 + k : Nat) : Int) + 1) = ((4 + (k + 1) : Nat) : Int) := by
      rw [IntWalk.i64_in _ (by omega)]
      omega
    simp only [law23_BodyMoves_L56]
    rw [hn]
    exact M.t_to (decide_eq_true (by omega)) (M.chk_to (inB_int (by omega) (by rw [hb]; omega)) (M.chk_to (inB_int (by omega) (by rw [ha]; omega)) (M.f_to (by rw [h _ (by omega) (by omega)]; simp) (M.ok_to _))))
  · simp only [law23_BodyMoves_L56]
    exact M.f_to (by decide) (M.ok_to _)
def outB23 (x : Pair) : Bool := ((decide (x.a < 4) || decide (x.b < 4)) || decide (x.a > 99)) || decide (x.b > 99)
theorem look_to {l : List Pair} (hl : l.length ≤ 60) : (M.loop (law23_BodyMoves_L9 l) 0).to (if (List.range l.length).any fun k => outB23 (l.getD k default) then .inr true else .inl ()) := by
  refine loop23 (fun k hk => ?_) ?_
  · obtain ⟨x, hx⟩ : ∃ x, l[k]? = some x := ⟨_, List.getElem?_eq_getElem hk⟩
    have hd : l.getD k default = x := by rw [List.getD, hx]; rfl
    have hin := inB23 (l := l) hk
    simp only [law23_BodyMoves_L9, ixD_of hx, hd]
    rw [w23 hk (by omega)]
    refine M.t_to (decide_eq_true (by omega)) (M.chk_to hin (M.chk_to (by rw [hin, Bool.or_true]) (M.chk_to (by rw [hin, Bool.or_true]) (M.chk_to (by rw [hin, Bool.or_true]) ?_))))
    cases hc : outB23 x with
    | true => exact M.t_to hc (M.bnd_to (M.ok_to _) (M.ok_to _))
    | false => exact M.f_to hc (M.ok_to _)
  · simp only [law23_BodyMoves_L9]
    exact M.f_to (decide_eq_false (by omega)) (M.ok_to _)
theorem bodyMoves_to (l : List Pair) (hok : ∀ x ∈ l, okPair x) : (law23_BodyMoves l).to true := by
  unfold law23_BodyMoves
  by_cases h : (l.length : Int) > 60
  · exact M.t_to (decide_eq_true h) (M.bnd_to (M.ok_to _) (M.ok_to _))
  · have hl : l.length ≤ 60 := by omega
    refine M.f_to (decide_eq_false h) ?_
    have hlk := look_to hl
    cases ho : (List.range l.length).any fun k => outB23 (l.getD k default) with
    | true =>
      rw [ho] at hlk
      exact M.els_r hlk
    | false =>
      rw [ho] at hlk
      refine M.els_l hlk ?_
      have hr : In23 l := fun x hx => by
        obtain ⟨k, hk⟩ := List.mem_iff_getElem?.1 hx
        rw [List.any_eq_false] at ho
        have := ho k (List.mem_range.2 (List.getElem?_eq_some_iff.1 hk).1)
        rw [List.getD, hk] at this
        simp only [outB23, Option.getD_some, Bool.not_eq_true, Bool.or_eq_false_iff, decide_eq_false_iff_not] at this
        omega
      obtain ⟨n, hA, hn, hrl⟩ := atR_spec l
      have hI := single_inv l
      have hR : Rg23 (atR l) := range_want (lo := 0) hA fun x hx => by
        have := hr x (firsts_mem (List.mem_filter.1 hx).1).1
        omega
      have h1 : (body_AtOnce l).to (atR l) := M.chk_to (by rw [Bool.and_eq_true]; exact ⟨decide_eq_true (by omega), List.all_eq_true.2 fun x hx => okB23 (hok x hx)⟩) (M.ok_to _)
      have hP : Pl23 (fillL 100) := ⟨fillL_len 100, fun p h0 h1 => by rw [fillL_get h0 h1]; omega⟩
      have hx := run_exec hR hP (f := fun q => q) fun p h0 h1 => fillL_get h0 h1
      have hlen := (len_want hA hI).1
      have hsl := single_len l
      have hd : decide ((IntKind.i64.wrap (2 * ((atR l).length : Int))) ≤ (IntKind.i64.wrap (3 * (l.length : Int)))) = true := by
        rw [IntWalk.i64_in _ (by omega), IntWalk.i64_in _ (by omega)]
        exact decide_eq_true (by omega)
      refine M.chk_to (by decide) (M.bnd_to fill_to (M.bnd_to (want_to hl hr) (M.bnd_to h1 (M.els_l (run_to (by omega) hR hP) (M.els_l (cmp_to (by rw [wantL_len, fillL_len]) (run_pl hR hP).1 fun p h0 h1 => ?_) ?_)))))
      · rw [hx p (by omega) h1, wantL_get hr (by omega) h1, exec_want hA hI _ p (by omega)]
        exact want_single (fun x hx => by have := hr x hx; omega) p
      · rw [hd]
        exact M.bnd_to (M.whn_t rfl (M.ok_to _)) (M.ok_to _)
theorem bodyMoves_fn (l : List Pair) (hok : ∀ x ∈ l, okPair x) : Fn Tryz.prog 4 [.bs tPair l] (.lit (.bool true)) := law23_BodyMoves_l (bodyMoves_to l hok)
end Mu
end
section
/-
  What a row needs of contracts: calls, literals, rows of arguments.
  Conditions: none; generic.
-/
namespace Mu
open Go Go.RowKit Go.Proofs

theorem fn_calls {P : Program} {f : FuncId} {args : List AV} {u : Value} {W : World} {vs : List Value} (h : Fn P f args (.lit u)) (hr : AV.relL W (fun k => k < W.heap.size) [] ψ0 args vs) : Calls P f vs.toArray W fun e W' => e = .returned u ∧ Below W.heap.size W W' :=
  (h.2 W _ vs (fun _ h => h) hr).mono fun e W' ⟨v, he, hb, _, _, _, _, hv⟩ => by
    unfold AV.rel at hv
    exact ⟨by rw [he, hv], hb⟩
theorem relL_one {W : World} {S : Nat → Prop} {h : List ABlk} {ψ : Nat → Value} {x : AV} {v : Value} (hv : AV.rel W S h ψ x v) : AV.relL W S h ψ [x] [v] := by
  unfold AV.relL
  exact ⟨v, [], rfl, hv, by unfold AV.relL; rfl⟩
end Mu
end
section
/-
  The arguments of a row, read; what a call that makes new blocks only leaves of them.
  Conditions: none.
-/
namespace Mu
open Go Go.RowKit Go.ChangeShapes Go.WideShapes Go.Proofs

theorem laid_out : laidOutB Tryz.prog = true := by kernel_rfl
mutual
theorem bulk_le {H : Type} : ∀ d : DataW H, bulkD d ≤ YtphbknmjnoeheaaGreat.Rows.uptoBulk d
  | .lit (.string _) => Nat.le_refl _
  | .lit (.bool _) => Nat.le_refl _
  | .lit (.int _ _) => Nat.le_refl _
  | .lit (.float _ _) => Nat.le_refl _
  | .lit .nil => Nat.le_refl _
  | .nil => Nat.le_refl _
  | .ptr d => by show 1 ≤ YtphbknmjnoeheaaGreat.Rows.uptoBulk d + 1; omega
  | .slice e s => by
    have h1 := bulks_le e
    have h2 := bulks_le s
    show bulkD.go e + bulkD.go s + 1 ≤ YtphbknmjnoeheaaGreat.Rows.uptoBulkAll e + YtphbknmjnoeheaaGreat.Rows.uptoBulkAll s + 1
    omega
  | .agg p => by
    have h1 := bulks_le p
    show bulkD.go p + 1 ≤ YtphbknmjnoeheaaGreat.Rows.uptoBulkAll p + 1
    omega
  | .iface _ d => by show 1 ≤ YtphbknmjnoeheaaGreat.Rows.uptoBulk d + 1; omega
  | .map m => by show 1 ≤ YtphbknmjnoeheaaGreat.Rows.uptoBulkEntries m + 1; omega
  | .held _ => Nat.le_refl _
theorem bulks_le {H : Type} : ∀ l : List (DataW H), bulkD.go l ≤ YtphbknmjnoeheaaGreat.Rows.uptoBulkAll l
  | [] => Nat.le_refl _
  | d :: r => by
    have h1 := bulk_le d
    have h2 := bulks_le r
    show bulkD d + bulkD.go r ≤ YtphbknmjnoeheaaGreat.Rows.uptoBulk d + YtphbknmjnoeheaaGreat.Rows.uptoBulkAll r
    omega
end

/-- an argument of a type that is read: a value of one cell -/
theorem open_one {α : Type} {t : TypeId} {T : Ty α} {H : Type} {enc : TypeId × Value → H} {W : World} {v : Value} {d : DataW H} {p : List MemPlace} (ho : Opens Tryz.prog t T)
    (h : DataW.Trod enc Tryz.prog W 0 (fun _ => true) true t v d p) (hp : ∀ x ∈ p, x.block < W.heap.size) (hv : v.cells = #[v]) :
    ∃ x, T.R W W.heap.size [v] x ∧ T.bulk x ≤ YtphbknmjnoeheaaGreat.Rows.uptoBulk d := by
  obtain ⟨fuel, hf⟩ := h
  obtain ⟨x, hR, hb⟩ := ho.go H enc W 0 _ true fuel _ (d, p) W.heap.size hf hp
  rw [hv] at hR
  exact ⟨x, hR, Nat.le_trans hb (bulk_le d)⟩
/-- what an argument read as, it reads as behind a call that makes new blocks only -/
theorem stays {t : TypeId} {H : Type} {enc : TypeId × Value → H} {W W' : World} {v : Value} {d : DataW H} {p : List MemPlace} (hr : Tryz.prog.readableRec t = true) (ht : t < Tryz.prog.types.size)
    (h : DataW.Trod enc Tryz.prog W 0 (fun _ => true) true t v d p) (hb : Below W.heap.size W W') (hp : ∀ x ∈ p, x.block < W.heap.size) :
    DataW.Trod enc Tryz.prog W' 0 (fun b => decide (b < W.heap.size)) true t v d p := Below.trod laid_out hr ht h hb hp
end Mu
end
section
/-
  What a row needs of an argument that is a slice of pairs.
  Conditions: none.
-/
namespace Mu
open Go Go.RowKit Go.Proofs

theorem cells_sl {P : Program} {W : World} {r : Reach} {base : Nat} {t e : TypeId} {v : Value} (ht : P.underlying t = some (.slice e)) (hv : Value.okWide P W r base t v) : v.cells = #[v] := by
  unfold Value.okWide at hv
  rw [ht] at hv
  cases v <;> first | rfl | (exfalso; simp [Cell.okWide, Cell.ok, ht] at hv)
theorem opens_sPair : Opens Tryz.prog 22 tPair.slice := opens_slice Tryz.underlying22 (by kernel_rfl) (by decide) opens_tPair
theorem rel_sPair {W : World} {S : Nat → Prop} {h : List ABlk} {ψ : Nat → Value} {v : Value} {l : List Pair} (hR : tPair.slice.RS W S [v] l) : AV.rel W S h ψ (.bs tPair l) v := by
  unfold AV.rel
  exact hR
theorem ok_sPair {W : World} {S : Nat → Prop} {v : Value} {l : List Pair} (hR : tPair.slice.RS W S [v] l) : ∀ x ∈ l, okPair x := fun x hx => by
  obtain ⟨j, hj⟩ := List.mem_iff_getElem?.1 hx
  obtain ⟨A, c, _, _, _, hi⟩ := hR
  obtain ⟨b, off, _, hat⟩ := hi j x hj
  obtain ⟨_, cs, hcs, _⟩ := hat
  exact ok_Pair hcs
end Mu
end
