/-
  Own texts laid together, part 6: MuLaw18, MuEdgeM, MuLaw18M, MuLaw18T, MuOpen.
  Conditions: as each part says.
-/
import Derived.Test.YtpippebmbphhfaaIn5
import Derived.Test.YtpippebmbphhfaaRows
import Derived.Carry
import Derived.OpenShut
import Derived.ProofKit
import Derived.Shelf.SlSortCmp.WholeK
import Derived.Shelf.SlSortCmp.NoneTotal
import Derived.Shelf.SlicesG.Cmp
import Derived.Ground.SlsfProg
import Derived.Ground.SlgcProg
import Derived.Test.YtpippebmbphhfaaProg
import Derived.StillTailTactics
import Derived.WalkKit
section
/-
  muntinlaw18: what its functions compute.
  Conditions: none.
-/
namespace Mu
open Go Go.RowKit Go.Proofs

def law18_InterTurned_L10 (f : Func) (r5 : List Pair) : Int → M (Int ⊕ ((Unit) ⊕ (Bool))) := fun i8 => M.cnd (decide (i8 < (r5.length : Int))) (M.chk (inBd r5 i8) (M.chk (!((!(decide (((ixD r5 i8).a) ≥ ((ixD r5 i8).b)))) && (decide (i8 > 0))) || (inBd r5 (IntKind.i64.wrap (i8 - 1)))) (M.chk (!((!(decide (((ixD r5 i8).a) ≥ ((ixD r5 i8).b)))) && (decide (i8 > 0))) || (inBd r5 i8)) (M.chk (!(((!(decide (((ixD r5 i8).a) ≥ ((ixD r5 i8).b)))) && (decide (i8 > 0))) && (!(decide (((ixD r5 (IntKind.i64.wrap (i8 - 1))).a) > ((ixD r5 i8).a))))) || (inBd r5 (IntKind.i64.wrap (i8 - 1)))) (M.chk (!(((!(decide (((ixD r5 i8).a) ≥ ((ixD r5 i8).b)))) && (decide (i8 > 0))) && (!(decide (((ixD r5 (IntKind.i64.wrap (i8 - 1))).a) > ((ixD r5 i8).a))))) || (inBd r5 i8)) (M.chk (!((((!(decide (((ixD r5 i8).a) ≥ ((ixD r5 i8).b)))) && (decide (i8 > 0))) && (!(decide (((ixD r5 (IntKind.i64.wrap (i8 - 1))).a) > ((ixD r5 i8).a))))) && (((ixD r5 (IntKind.i64.wrap (i8 - 1))).a) == ((ixD r5 i8).a))) || (inBd r5 (IntKind.i64.wrap (i8 - 1)))) (M.chk (!((((!(decide (((ixD r5 i8).a) ≥ ((ixD r5 i8).b)))) && (decide (i8 > 0))) && (!(decide (((ixD r5 (IntKind.i64.wrap (i8 - 1))).a) > ((ixD r5 i8).a))))) && (((ixD r5 (IntKind.i64.wrap (i8 - 1))).a) == ((ixD r5 i8).a))) || (inBd r5 i8)) (M.chk (!(!((decide (((ixD r5 i8).a) ≥ ((ixD r5 i8).b))) || ((decide (i8 > 0)) && ((decide (((ixD r5 (IntKind.i64.wrap (i8 - 1))).a) > ((ixD r5 i8).a))) || ((((ixD r5 (IntKind.i64.wrap (i8 - 1))).a) == ((ixD r5 i8).a)) && (decide (((ixD r5 (IntKind.i64.wrap (i8 - 1))).b) ≥ ((ixD r5 i8).b)))))))) || (inBd r5 i8)) (M.bnd (M.whn (!((decide (((ixD r5 i8).a) ≥ ((ixD r5 i8).b))) || ((decide (i8 > 0)) && ((decide (((ixD r5 (IntKind.i64.wrap (i8 - 1))).a) > ((ixD r5 i8).a))) || ((((ixD r5 (IntKind.i64.wrap (i8 - 1))).a) == ((ixD r5 i8).a)) && (decide (((ixD r5 (IntKind.i64.wrap (i8 - 1))).b) ≥ ((ixD r5 i8).b)))))))) [] (inter_Near f ((ixD r5 i8).a))) fun r21 => M.chk (!(!((decide (((ixD r5 i8).a) ≥ ((ixD r5 i8).b))) || ((decide (i8 > 0)) && ((decide (((ixD r5 (IntKind.i64.wrap (i8 - 1))).a) > ((ixD r5 i8).a))) || ((((ixD r5 (IntKind.i64.wrap (i8 - 1))).a) == ((ixD r5 i8).a)) && (decide (((ixD r5 (IntKind.i64.wrap (i8 - 1))).b) ≥ ((ixD r5 i8).b)))))))) || (inBd r5 i8)) (M.bnd (M.whn (!((decide (((ixD r5 i8).a) ≥ ((ixD r5 i8).b))) || ((decide (i8 > 0)) && ((decide (((ixD r5 (IntKind.i64.wrap (i8 - 1))).a) > ((ixD r5 i8).a))) || ((((ixD r5 (IntKind.i64.wrap (i8 - 1))).a) == ((ixD r5 i8).a)) && (decide (((ixD r5 (IntKind.i64.wrap (i8 - 1))).b) ≥ ((ixD r5 i8).b)))))))) false (law18_in r21 ((ixD r5 i8).b))) fun r23 => M.chk (!(!(((decide (((ixD r5 i8).a) ≥ ((ixD r5 i8).b))) || ((decide (i8 > 0)) && ((decide (((ixD r5 (IntKind.i64.wrap (i8 - 1))).a) > ((ixD r5 i8).a))) || ((((ixD r5 (IntKind.i64.wrap (i8 - 1))).a) == ((ixD r5 i8).a)) && (decide (((ixD r5 (IntKind.i64.wrap (i8 - 1))).b) ≥ ((ixD r5 i8).b))))))) || (!r23))) || (inBd r5 i8)) (M.bnd (M.whn (!(((decide (((ixD r5 i8).a) ≥ ((ixD r5 i8).b))) || ((decide (i8 > 0)) && ((decide (((ixD r5 (IntKind.i64.wrap (i8 - 1))).a) > ((ixD r5 i8).a))) || ((((ixD r5 (IntKind.i64.wrap (i8 - 1))).a) == ((ixD r5 i8).a)) && (decide (((ixD r5 (IntKind.i64.wrap (i8 - 1))).b) ≥ ((ixD r5 i8).b))))))) || (!r23))) [] (inter_Near f ((ixD r5 i8).b))) fun r25 => M.chk (!(!(((decide (((ixD r5 i8).a) ≥ ((ixD r5 i8).b))) || ((decide (i8 > 0)) && ((decide (((ixD r5 (IntKind.i64.wrap (i8 - 1))).a) > ((ixD r5 i8).a))) || ((((ixD r5 (IntKind.i64.wrap (i8 - 1))).a) == ((ixD r5 i8).a)) && (decide (((ixD r5 (IntKind.i64.wrap (i8 - 1))).b) ≥ ((ixD r5 i8).b))))))) || (!r23))) || (inBd r5 i8)) (M.bnd (M.whn (!(((decide (((ixD r5 i8).a) ≥ ((ixD r5 i8).b))) || ((decide (i8 > 0)) && ((decide (((ixD r5 (IntKind.i64.wrap (i8 - 1))).a) > ((ixD r5 i8).a))) || ((((ixD r5 (IntKind.i64.wrap (i8 - 1))).a) == ((ixD r5 i8).a)) && (decide (((ixD r5 (IntKind.i64.wrap (i8 - 1))).b) ≥ ((ixD r5 i8).b))))))) || (!r23))) false (law18_in r25 ((ixD r5 i8).a))) fun r27 => M.cnd ((((decide (((ixD r5 i8).a) ≥ ((ixD r5 i8).b))) || ((decide (i8 > 0)) && ((decide (((ixD r5 (IntKind.i64.wrap (i8 - 1))).a) > ((ixD r5 i8).a))) || ((((ixD r5 (IntKind.i64.wrap (i8 - 1))).a) == ((ixD r5 i8).a)) && (decide (((ixD r5 (IntKind.i64.wrap (i8 - 1))).b) ≥ ((ixD r5 i8).b))))))) || (!r23)) || (!r27)) (M.ok (.inr (.inr false))) (M.ok (.inl (IntKind.i64.wrap (i8 + 1)))))))))))))))) (M.ok (.inr (.inl ())))
def law18_InterTurned_L38 (f : Func) (r5 : List Pair) (r6 : List Int) (r7 : List (List (List Int))) (b29 : Int) (i33 : Int) : Int → M (Int ⊕ ((Unit) ⊕ ((Unit) ⊕ ((Int) ⊕ ((Unit) ⊕ ((Int) ⊕ ((Unit) ⊕ (Bool)))))))) := fun k43 => M.chk (inBd r7 b29) (M.chk (inBd (ixD r7 b29) (IntKind.i64.wrap (i33 + 1))) (M.cnd (decide (k43 < ((ixD (ixD r7 b29) (IntKind.i64.wrap (i33 + 1))).length : Int))) (M.chk (inBd r7 b29) (M.chk (inBd (ixD r7 b29) (IntKind.i64.wrap (i33 + 1))) (M.chk (inBd (ixD (ixD r7 b29) (IntKind.i64.wrap (i33 + 1))) k43) (M.bnd (M.whn ((ixD (ixD (ixD r7 b29) (IntKind.i64.wrap (i33 + 1))) k43) != ((ixD ((ixD f.blocks b29).ins) i33).d)) false (law18_has r5 (ixD (ixD (ixD r7 b29) (IntKind.i64.wrap (i33 + 1))) k43) ((ixD ((ixD f.blocks b29).ins) i33).d))) fun r53 => M.bnd (M.whn (((ixD (ixD (ixD r7 b29) (IntKind.i64.wrap (i33 + 1))) k43) != ((ixD ((ixD f.blocks b29).ins) i33).d)) && (!(!r53))) false (law18_in r6 (ixD (ixD (ixD r7 b29) (IntKind.i64.wrap (i33 + 1))) k43))) fun r54 => M.cnd (((ixD (ixD (ixD r7 b29) (IntKind.i64.wrap (i33 + 1))) k43) != ((ixD ((ixD f.blocks b29).ins) i33).d)) && ((!r53) || (!r54))) (M.ok (.inr (.inr (.inr (.inr (.inr (.inr (.inr false)))))))) (M.ok (.inl (IntKind.i64.wrap (k43 + 1)))))))) (M.ok (.inr (.inl ())))))
def law18_InterTurned_L28 (f : Func) (r5 : List Pair) (r6 : List Int) (r7 : List (List (List Int))) (b29 : Int) : Int → M (Int ⊕ ((Unit) ⊕ ((Int) ⊕ ((Unit) ⊕ (Bool))))) := fun i33 => M.chk (inBd f.blocks b29) (M.cnd (decide (i33 < (((ixD f.blocks b29).ins).length : Int))) (M.els (M.chk (inBd f.blocks b29) (M.chk (inBd ((ixD f.blocks b29).ins) i33) (M.cnd (((ixD ((ixD f.blocks b29).ins) i33).op) != 5) (M.ok (.inl ())) (M.els (M.loop (law18_InterTurned_L38 f r5 r6 r7 b29 i33) 0) fun _ => M.ok (.inl ()))))) fun _ => M.ok (.inl (IntKind.i64.wrap (i33 + 1)))) (M.ok (.inr (.inl ()))))
def law18_InterTurned_L22 (f : Func) (r5 : List Pair) (r6 : List Int) (r7 : List (List (List Int))) : Int → M (Int ⊕ ((Unit) ⊕ (Bool))) := fun b29 => M.cnd (decide (b29 < (f.blocks.length : Int))) (M.els (M.loop (law18_InterTurned_L28 f r5 r6 r7 b29) 0) fun _ => M.ok (.inl (IntKind.i64.wrap (b29 + 1)))) (M.ok (.inr (.inl ())))
def law18_InterTurned (f : Func) : M Bool := M.bnd (r18_Great f) fun r2 => M.cnd r2 (M.bnd law18_head fun r4 => M.ok r4) (M.bnd (inter_Edges f) fun r5 => M.bnd (inter_Cross f) fun r6 => M.bnd (r17_All f) fun r7 => M.els (M.loop (law18_InterTurned_L10 f r5) 0) fun _ => M.els (M.loop (law18_InterTurned_L22 f r5 r6 r7) 0) fun _ => M.bnd law18_head fun r56 => M.ok r56)
set_option maxRecDepth 100000 in
set_option maxHeartbeats 4000000 in
theorem law18_InterTurned_l {f : Func} {r : Bool} (H : (law18_InterTurned f).to r) : Fn Try.prog 3 [.agg (encFunc f)] (.lit (.bool r)) := by
  delta law18_InterTurned at H
  try dsimp only at H
  refine Fn.of_awp Try.func3 rfl (by kernel_rfl) rfl Try.ntmps3 fun C hC => ?_
  simp only [List.length_cons, List.length_nil, Nat.reduceAdd, Nat.reduceSub, List.replicate_succ, List.replicate_zero, List.cons_append, List.nil_append]
  refine wR (hx := by ((refine aSeq_t rfl (AOp.boxI 0 rfl rfl Parts0.agg ?_); refine sNtM (ht := set1) (hk := ?_)); refine sA (hq := Quiet.assign rfl getC) (ht := set2) (hk := ?_); exact wEnd rfl)) (hk := ?_)
  refine Awp.seq fun Khs1 hs1 => ?_
  obtain ⟨r2, k2, H⟩ := M.to_bnd.1 H
  have k2 := r18_Great_l k2
  refine wR (hx := by (refine sA (hq := Quiet.loadA_ptr rfl get1 rfl rfl) (ht := (setS8 set4)) (hk := ?_); refine sA (hq := Quiet.callA rfl rfl k2 rfl rfl) (ht := (setS8 set5)) (hk := ?_); exact wEnd rfl)) (hk := ?_)
  refine Awp.cond rfl (fun hb3 => ?_) (fun hb3 => ?_)
  · have H := M.to_t hb3 H
    obtain ⟨r4, k4, H⟩ := M.to_bnd.1 H
    have k4 := law18_head_l k4
    refine wR (hx := by (refine sA (hq := Quiet.callA rfl rfl k4 rfl rfl) (ht := (setS8 set6)) (hk := ?_); refine sA (hq := Quiet.assign rfl (getS8 get6)) (ht := set2) (hk := ?_); exact wEnd rfl)) (hk := ?_)
    obtain rfl := M.to_ok.1 H
    exact Awp.ret ⟨.inr rfl, Fin.cl rfl⟩
  · have H := M.to_f hb3 H
    refine Awp.skip ?_
    refine hs1 _ ?_
    refine nT (hk := ?_)
    obtain ⟨r5, k5, H⟩ := M.to_bnd.1 H
    have k5 := inter_Edges_l k5
    obtain ⟨r6, k6, H⟩ := M.to_bnd.1 H
    have k6 := inter_Cross_l k6
    obtain ⟨r7, k7, H⟩ := M.to_bnd.1 H
    have k7 := r17_All_l k7
    refine wD 9 (hq := by (refine qA (hq := Quiet.loadA_ptr rfl get1 rfl rfl) (ht := (setS8 set7)) (hk := ?_); refine qA (hq := Quiet.callA rfl rfl k5 rfl rfl) (ht := (setS8 (setS8 set0))) (hk := ?_); refine qA (hq := Quiet.loadA_ptr rfl get1 rfl rfl) (ht := (setS8 (setS8 set1))) (hk := ?_); refine qA (hq := Quiet.callA rfl rfl k6 rfl rfl) (ht := (setS8 (setS8 set2))) (hk := ?_); refine qA (hq := Quiet.loadA_ptr rfl get1 rfl rfl) (ht := (setS8 (setS8 set3))) (hk := ?_); refine qA (hq := Quiet.callA rfl rfl k7 rfl rfl) (ht := (setS8 (setS8 set4))) (hk := ?_); refine qA (hq := Quiet.assign rfl (getS8 (getS8 get0))) (ht := set3) (hk := ?_); refine qA (hq := Quiet.assign rfl (getS8 (getS8 get2))) (ht := set4) (hk := ?_); refine qA (hq := Quiet.assign rfl (getS8 (getS8 get4))) (ht := set5) (hk := ?_); exact qEnd rfl)) (hx := by (exact wEnd rfl)) (hk := ?_)
    obtain ⟨z9, HX9, Hl9, Hq9⟩ := M.to_els H
    refine Awp.seqJ (β := (Unit) × (Unit)) (fun q9 => z9 = .inl q9.1) (fun q9 => ⟨.any :: .ptr 0 0 :: .any :: .bs tPair r5 :: .bs tInt r6 :: .bs tInt.slice.slice r7 :: .any :: .any :: .any :: .any :: .any :: .any :: .any :: .any :: .any :: .any :: .any :: .any :: .any :: .any :: .any :: .any :: .any :: .any :: .any :: .any :: .any :: .any :: .any :: .any :: .any :: .any :: .any :: .any :: .any :: .any :: .any :: .any :: .any :: .any :: .any :: .any :: .any :: .any :: .any :: .any :: .any :: .any :: .any :: .any :: .any :: .any :: .any :: .any :: .any :: .any :: .any :: .any :: .any :: .any :: .any :: .any :: .any :: .any :: .any :: .any :: .any :: .any :: .any :: .any :: .any :: .any :: .any :: .any :: .any :: .any :: .any :: .any :: .any :: .any :: .any :: .any :: .any :: .any :: .any :: .any :: .any :: .any :: .any :: .any :: .any :: .any :: .any :: .any :: .any :: .any :: .any :: .any :: .any :: .any :: .any :: .any :: .any :: .any :: .any :: .any :: .any :: .any :: .any :: .any :: .any :: .any :: .any :: .any :: .any :: .any :: .any :: .any :: .any :: .any :: .any :: .any :: .any :: .any :: .any :: .any :: .any :: .any :: .any :: .any :: .any :: .any :: .any :: .any :: .any :: .any :: .any :: .any :: .any :: .any :: .any :: .any :: .any :: .any :: .any :: .any :: .any :: .any :: .any :: .any :: .any :: .any :: .any :: .any :: .any :: .any :: .any :: .any :: .any :: .any :: .any :: .any :: .any :: .any :: .any :: .any :: .any :: .any :: .any :: .any :: .any :: .any :: .any :: .any :: .any :: .any :: .any :: .any :: .any :: .any :: .any :: .any :: .any :: .any :: .any :: .any :: .any :: .any :: .any :: [], [.box (encFunc f)]⟩) ?_ ?_
    · refine wR (hx := by (refine sA (hq := Quiet.assign rfl getC) (ht := set6) (hk := ?_); exact wEnd rfl)) (hk := ?_)
      refine Awp.block ?_
      refine Awp.loopM HX9 (fun s9 b9 => ⟨.any :: .ptr 0 0 :: .any :: .bs tPair r5 :: .bs tInt r6 :: .bs tInt.slice.slice r7 :: .lit (.int .i64 s9) :: .any :: .any :: .any :: .any :: .any :: .any :: .any :: .any :: .any :: .any :: .any :: .any :: .any :: .any :: .any :: .any :: .any :: .any :: .any :: .any :: .any :: .any :: .any :: .any :: .any :: .any :: .any :: .any :: .any :: .any :: .any :: .any :: .any :: .any :: .any :: .any :: .any :: .any :: .any :: .any :: .any :: .any :: .any :: .any :: .any :: .any :: .any :: .any :: .any :: .any :: .any :: .any :: .any :: .any :: .any :: .any :: .any :: .any :: .any :: .any :: .any :: .any :: .any :: .any :: .any :: .any :: .any :: .any :: .any :: .any :: .any :: .any :: .any :: .any :: .any :: .any :: .any :: .any :: .any :: .any :: .any :: .any :: .any :: .any :: .any :: .any :: .any :: .any :: .any :: .any :: .any :: .any :: .any :: .any :: .any :: .any :: .any :: .any :: .any :: .any :: .any :: .any :: .any :: .any :: .any :: .any :: .any :: .any :: .any :: .any :: .any :: .any :: .any :: .any :: .any :: .any :: .any :: .any :: .any :: .any :: .any :: .any :: .any :: .any :: .any :: .any :: .any :: .any :: .any :: .any :: .any :: .any :: .any :: .any :: .any :: .any :: .any :: .any :: .any :: .any :: .any :: .any :: .any :: .any :: .any :: .any :: .any :: .any :: .any :: .any :: .any :: .any :: .any :: .any :: .any :: .any :: .any :: .any :: .any :: .any :: .any :: .any :: .any :: .any :: .any :: .any :: .any :: .any :: .any :: .any :: .any :: .any :: .any :: .any :: .any :: .any :: .any :: .any :: .any :: .any :: .any :: .any :: [], [.box (encFunc f)]⟩) () (?_) ?_
      · try dsimp only
        exact le_TA
      · rintro i8 _ x9 H Hr9
        try dsimp only
        dsimp only [law18_InterTurned_L10] at H
        refine Awp.seq fun Khs10 hs10 => ?_
        refine wR (hx := by (refine sA (hq := Quiet.move rfl get6) (ht := (setS8 (setS8 set5))) (hk := ?_); refine sA (hq := Quiet.move rfl get3) (ht := (setS8 (setS8 set6))) (hk := ?_); refine sA (hq := Quiet.ln rfl (getS8 (getS8 get6))) (ht := (setS8 (setS8 set7))) (hk := ?_); refine sA (hq := Quiet.bin rfl (getS8 (getS8 get5)) (getS8 (getS8 get7)) rfl) (ht := (setS8 (setS8 (setS8 set0)))) (hk := ?_); exact wEnd rfl)) (hk := ?_)
        refine Awp.cond rfl (fun hb11 => ?_) (fun hb11 => ?_)
        · have H := M.to_t hb11 H
          refine Awp.skip ?_
          refine hs10 _ ?_
          refine nT (hk := ?_)
          refine Awp.seq fun Khs12 hs12 => ?_
          refine Awp.block ?_
          obtain ⟨c13, H⟩ := M.to_chk.1 H
          obtain ⟨c14, H⟩ := M.to_chk.1 H
          obtain ⟨c15, H⟩ := M.to_chk.1 H
          obtain ⟨c16, H⟩ := M.to_chk.1 H
          obtain ⟨c17, H⟩ := M.to_chk.1 H
          obtain ⟨c18, H⟩ := M.to_chk.1 H
          obtain ⟨c19, H⟩ := M.to_chk.1 H
          obtain ⟨c20, H⟩ := M.to_chk.1 H
          obtain ⟨r21, k21, H⟩ := M.to_bnd.1 H
          obtain ⟨c22, H⟩ := M.to_chk.1 H
          obtain ⟨r23, k23, H⟩ := M.to_bnd.1 H
          obtain ⟨c24, H⟩ := M.to_chk.1 H
          obtain ⟨r25, k25, H⟩ := M.to_bnd.1 H
          obtain ⟨c26, H⟩ := M.to_chk.1 H
          obtain ⟨r27, k27, H⟩ := M.to_bnd.1 H
          (try simp only [List.append_eq, List.cons_append, List.nil_append])
          refine wD 89 (hq := by (refine qA (hq := Quiet.move rfl get3) (ht := (setS8 (setS8 (setS8 set3)))) (hk := ?_); refine qA (hq := Quiet.move rfl get6) (ht := (setS8 (setS8 (setS8 set4)))) (hk := ?_); refine qA (hq := Quiet.ixM rfl (getS8 (getS8 (getS8 get3))) (getS8 (getS8 (getS8 get4))) rfl c13) (ht := (setS8 (setS8 (setS8 set5)))) (hk := ?_); refine qA (hq := Quiet.fa_bp rfl (getS8 (getS8 (getS8 get5)))) (ht := (setS8 (setS8 (setS8 set6)))) (hk := ?_); refine qA (hq := Quiet.load_bp rfl (getS8 (getS8 (getS8 get6))) rfl) (ht := (setS8 (setS8 (setS8 set7)))) (hk := ?_); refine qA (hq := Quiet.move rfl get3) (ht := (setS32 set0)) (hk := ?_); refine qA (hq := Quiet.move rfl get6) (ht := (setS32 set1)) (hk := ?_); refine qA (hq := Quiet.ixM rfl (getS32 get0) (getS32 get1) rfl c13) (ht := (setS32 set2)) (hk := ?_); refine qA (hq := Quiet.fa_bp rfl (getS32 get2)) (ht := (setS32 set3)) (hk := ?_); refine qA (hq := Quiet.load_bp rfl (getS32 get3) rfl) (ht := (setS32 set4)) (hk := ?_); refine qA (hq := Quiet.bin rfl (getS8 (getS8 (getS8 get7))) (getS32 get4) rfl) (ht := (setS32 set5)) (hk := ?_); refine qA (hq := Quiet.move rfl (getS32 get5)) (ht := (setS32 set6)) (hk := ?_); refine qG (g := (!(decide (((ixD r5 i8).a) ≥ ((ixD r5 i8).b))))) (hg := gA_f rfl) (hq := fun hg => Quiet.move rfl get6) (ht := (setS32 set7)) (hk := ?_); refine qG (g := (!(decide (((ixD r5 i8).a) ≥ ((ixD r5 i8).b))))) (hg := gA_f rfl) (hq := fun hg => Quiet.bin rfl ((getS32 get7).trans (cndT hg _ _)) getC rfl) (ht := (setS32 (setS8 set0))) (hk := ?_); refine qG (g := (!(decide (((ixD r5 i8).a) ≥ ((ixD r5 i8).b))))) (hg := gA_f rfl) (hq := fun hg => Quiet.move rfl ((getS32 (getS8 get0)).trans (cndT hg _ _))) (ht := (setS32 (setS8 set1))) (hk := ?_); refine qG (g := ((!(decide (((ixD r5 i8).a) ≥ ((ixD r5 i8).b)))) && (decide (i8 > 0)))) (hg := gA_tc rfl rfl) (hq := fun hg => by (have hg' := and_l hg; exact Quiet.move rfl get3)) (ht := (setS32 (setS8 set2))) (hk := ?_); refine qG (g := ((!(decide (((ixD r5 i8).a) ≥ ((ixD r5 i8).b)))) && (decide (i8 > 0)))) (hg := gA_tc rfl rfl) (hq := fun hg => by (have hg' := and_l hg; exact Quiet.move rfl get6)) (ht := (setS32 (setS8 set3))) (hk := ?_); refine qG (g := ((!(decide (((ixD r5 i8).a) ≥ ((ixD r5 i8).b)))) && (decide (i8 > 0)))) (hg := gA_tc rfl rfl) (hq := fun hg => by (have hg' := and_l hg; exact Quiet.bin rfl ((getS32 (getS8 get3)).trans (cndT hg _ _)) getC rfl)) (ht := (setS32 (setS8 set4))) (hk := ?_); refine qG (g := ((!(decide (((ixD r5 i8).a) ≥ ((ixD r5 i8).b)))) && (decide (i8 > 0)))) (hg := gA_tc rfl rfl) (hq := fun hg => by (have hg' := and_l hg; exact Quiet.ixM rfl ((getS32 (getS8 get2)).trans (cndT hg _ _)) ((getS32 (getS8 get4)).trans (cndT hg _ _)) rfl (imp_of c14 hg))) (ht := (setS32 (setS8 set5))) (hk := ?_); refine qG (g := ((!(decide (((ixD r5 i8).a) ≥ ((ixD r5 i8).b)))) && (decide (i8 > 0)))) (hg := gA_tc rfl rfl) (hq := fun hg => by (have hg' := and_l hg; exact Quiet.fa_bp rfl ((getS32 (getS8 get5)).trans (cndT hg _ _)))) (ht := (setS32 (setS8 set6))) (hk := ?_); refine qG (g := ((!(decide (((ixD r5 i8).a) ≥ ((ixD r5 i8).b)))) && (decide (i8 > 0)))) (hg := gA_tc rfl rfl) (hq := fun hg => by (have hg' := and_l hg; exact Quiet.load_bp rfl ((getS32 (getS8 get6)).trans (cndT hg _ _)) rfl)) (ht := (setS32 (setS8 set7))) (hk := ?_); refine qG (g := ((!(decide (((ixD r5 i8).a) ≥ ((ixD r5 i8).b)))) && (decide (i8 > 0)))) (hg := gA_tc rfl rfl) (hq := fun hg => by (have hg' := and_l hg; exact Quiet.move rfl get3)) (ht := (setS32 (setS8 (setS8 set0)))) (hk := ?_); refine qG (g := ((!(decide (((ixD r5 i8).a) ≥ ((ixD r5 i8).b)))) && (decide (i8 > 0)))) (hg := gA_tc rfl rfl) (hq := fun hg => by (have hg' := and_l hg; exact Quiet.move rfl get6)) (ht := (setS32 (setS8 (setS8 set1)))) (hk := ?_); refine qG (g := ((!(decide (((ixD r5 i8).a) ≥ ((ixD r5 i8).b)))) && (decide (i8 > 0)))) (hg := gA_tc rfl rfl) (hq := fun hg => by (have hg' := and_l hg; exact Quiet.ixM rfl ((getS32 (getS8 (getS8 get0))).trans (cndT hg _ _)) ((getS32 (getS8 (getS8 get1))).trans (cndT hg _ _)) rfl (imp_of c15 hg))) (ht := (setS32 (setS8 (setS8 set2)))) (hk := ?_); refine qG (g := ((!(decide (((ixD r5 i8).a) ≥ ((ixD r5 i8).b)))) && (decide (i8 > 0)))) (hg := gA_tc rfl rfl) (hq := fun hg => by (have hg' := and_l hg; exact Quiet.fa_bp rfl ((getS32 (getS8 (getS8 get2))).trans (cndT hg _ _)))) (ht := (setS32 (setS8 (setS8 set3)))) (hk := ?_); refine qG (g := ((!(decide (((ixD r5 i8).a) ≥ ((ixD r5 i8).b)))) && (decide (i8 > 0)))) (hg := gA_tc rfl rfl) (hq := fun hg => by (have hg' := and_l hg; exact Quiet.load_bp rfl ((getS32 (getS8 (getS8 get3))).trans (cndT hg _ _)) rfl)) (ht := (setS32 (setS8 (setS8 set4)))) (hk := ?_); refine qG (g := ((!(decide (((ixD r5 i8).a) ≥ ((ixD r5 i8).b)))) && (decide (i8 > 0)))) (hg := gA_tc rfl rfl) (hq := fun hg => by (have hg' := and_l hg; exact Quiet.bin rfl ((getS32 (getS8 get7)).trans (cndT hg _ _)) ((getS32 (getS8 (getS8 get4))).trans (cndT hg _ _)) rfl)) (ht := (setS32 (setS8 (setS8 set5)))) (hk := ?_); refine qG (g := ((!(decide (((ixD r5 i8).a) ≥ ((ixD r5 i8).b)))) && (decide (i8 > 0)))) (hg := gA_tc rfl rfl) (hq := fun hg => by (have hg' := and_l hg; exact Quiet.move rfl ((getS32 (getS8 (getS8 get5))).trans (cndT hg _ _)))) (ht := (setS32 (setS8 (setS8 set6)))) (hk := ?_); refine qG (g := (((!(decide (((ixD r5 i8).a) ≥ ((ixD r5 i8).b)))) && (decide (i8 > 0))) && (!(decide (((ixD r5 (IntKind.i64.wrap (i8 - 1))).a) > ((ixD r5 i8).a)))))) (hg := gA_fc rfl rfl) (hq := fun hg => by (have hg' := and_l hg; have hg'' := and_l hg'; exact Quiet.move rfl get3)) (ht := (setS32 (setS8 (setS8 set7)))) (hk := ?_); refine qG (g := (((!(decide (((ixD r5 i8).a) ≥ ((ixD r5 i8).b)))) && (decide (i8 > 0))) && (!(decide (((ixD r5 (IntKind.i64.wrap (i8 - 1))).a) > ((ixD r5 i8).a)))))) (hg := gA_fc rfl rfl) (hq := fun hg => by (have hg' := and_l hg; have hg'' := and_l hg'; exact Quiet.move rfl get6)) (ht := (setS32 (setS8 (setS8 (setS8 set0))))) (hk := ?_); refine qG (g := (((!(decide (((ixD r5 i8).a) ≥ ((ixD r5 i8).b)))) && (decide (i8 > 0))) && (!(decide (((ixD r5 (IntKind.i64.wrap (i8 - 1))).a) > ((ixD r5 i8).a)))))) (hg := gA_fc rfl rfl) (hq := fun hg => by (have hg' := and_l hg; have hg'' := and_l hg'; exact Quiet.bin rfl ((getS32 (getS8 (getS8 (getS8 get0)))).trans (cndT hg _ _)) getC rfl)) (ht := (setS32 (setS8 (setS8 (setS8 set1))))) (hk := ?_); refine qG (g := (((!(decide (((ixD r5 i8).a) ≥ ((ixD r5 i8).b)))) && (decide (i8 > 0))) && (!(decide (((ixD r5 (IntKind.i64.wrap (i8 - 1))).a) > ((ixD r5 i8).a)))))) (hg := gA_fc rfl rfl) (hq := fun hg => by (have hg' := and_l hg; have hg'' := and_l hg'; exact Quiet.ixM rfl ((getS32 (getS8 (getS8 get7))).trans (cndT hg _ _)) ((getS32 (getS8 (getS8 (getS8 get1)))).trans (cndT hg _ _)) rfl (imp_of c16 hg))) (ht := (setS32 (setS8 (setS8 (setS8 set2))))) (hk := ?_); refine qG (g := (((!(decide (((ixD r5 i8).a) ≥ ((ixD r5 i8).b)))) && (decide (i8 > 0))) && (!(decide (((ixD r5 (IntKind.i64.wrap (i8 - 1))).a) > ((ixD r5 i8).a)))))) (hg := gA_fc rfl rfl) (hq := fun hg => by (have hg' := and_l hg; have hg'' := and_l hg'; exact Quiet.fa_bp rfl ((getS32 (getS8 (getS8 (getS8 get2)))).trans (cndT hg _ _)))) (ht := (setS32 (setS8 (setS8 (setS8 set3))))) (hk := ?_); refine qG (g := (((!(decide (((ixD r5 i8).a) ≥ ((ixD r5 i8).b)))) && (decide (i8 > 0))) && (!(decide (((ixD r5 (IntKind.i64.wrap (i8 - 1))).a) > ((ixD r5 i8).a)))))) (hg := gA_fc rfl rfl) (hq := fun hg => by (have hg' := and_l hg; have hg'' := and_l hg'; exact Quiet.load_bp rfl ((getS32 (getS8 (getS8 (getS8 get3)))).trans (cndT hg _ _)) rfl)) (ht := (setS32 (setS8 (setS8 (setS8 set4))))) (hk := ?_); refine qG (g := (((!(decide (((ixD r5 i8).a) ≥ ((ixD r5 i8).b)))) && (decide (i8 > 0))) && (!(decide (((ixD r5 (IntKind.i64.wrap (i8 - 1))).a) > ((ixD r5 i8).a)))))) (hg := gA_fc rfl rfl) (hq := fun hg => by (have hg' := and_l hg; have hg'' := and_l hg'; exact Quiet.move rfl get3)) (ht := (setS32 (setS8 (setS8 (setS8 set5))))) (hk := ?_); refine qG (g := (((!(decide (((ixD r5 i8).a) ≥ ((ixD r5 i8).b)))) && (decide (i8 > 0))) && (!(decide (((ixD r5 (IntKind.i64.wrap (i8 - 1))).a) > ((ixD r5 i8).a)))))) (hg := gA_fc rfl rfl) (hq := fun hg => by (have hg' := and_l hg; have hg'' := and_l hg'; exact Quiet.move rfl get6)) (ht := (setS32 (setS8 (setS8 (setS8 set6))))) (hk := ?_); refine qG (g := (((!(decide (((ixD r5 i8).a) ≥ ((ixD r5 i8).b)))) && (decide (i8 > 0))) && (!(decide (((ixD r5 (IntKind.i64.wrap (i8 - 1))).a) > ((ixD r5 i8).a)))))) (hg := gA_fc rfl rfl) (hq := fun hg => by (have hg' := and_l hg; have hg'' := and_l hg'; exact Quiet.ixM rfl ((getS32 (getS8 (getS8 (getS8 get5)))).trans (cndT hg _ _)) ((getS32 (getS8 (getS8 (getS8 get6)))).trans (cndT hg _ _)) rfl (imp_of c17 hg))) (ht := (setS32 (setS8 (setS8 (setS8 set7))))) (hk := ?_); refine qG (g := (((!(decide (((ixD r5 i8).a) ≥ ((ixD r5 i8).b)))) && (decide (i8 > 0))) && (!(decide (((ixD r5 (IntKind.i64.wrap (i8 - 1))).a) > ((ixD r5 i8).a)))))) (hg := gA_fc rfl rfl) (hq := fun hg => by (have hg' := and_l hg; have hg'' := and_l hg'; exact Quiet.fa_bp rfl ((getS32 (getS8 (getS8 (getS8 get7)))).trans (cndT hg _ _)))) (ht := (setS32 (setS32 set0))) (hk := ?_); refine qG (g := (((!(decide (((ixD r5 i8).a) ≥ ((ixD r5 i8).b)))) && (decide (i8 > 0))) && (!(decide (((ixD r5 (IntKind.i64.wrap (i8 - 1))).a) > ((ixD r5 i8).a)))))) (hg := gA_fc rfl rfl) (hq := fun hg => by (have hg' := and_l hg; have hg'' := and_l hg'; exact Quiet.load_bp rfl ((getS32 (getS32 get0)).trans (cndT hg _ _)) rfl)) (ht := (setS32 (setS32 set1))) (hk := ?_); refine qG (g := (((!(decide (((ixD r5 i8).a) ≥ ((ixD r5 i8).b)))) && (decide (i8 > 0))) && (!(decide (((ixD r5 (IntKind.i64.wrap (i8 - 1))).a) > ((ixD r5 i8).a)))))) (hg := gA_fc rfl rfl) (hq := fun hg => by (have hg' := and_l hg; have hg'' := and_l hg'; exact Quiet.bin rfl ((getS32 (getS8 (getS8 (getS8 get4)))).trans (cndT hg _ _)) ((getS32 (getS32 get1)).trans (cndT hg _ _)) rfl)) (ht := (setS32 (setS32 set2))) (hk := ?_); refine qG (g := (((!(decide (((ixD r5 i8).a) ≥ ((ixD r5 i8).b)))) && (decide (i8 > 0))) && (!(decide (((ixD r5 (IntKind.i64.wrap (i8 - 1))).a) > ((ixD r5 i8).a)))))) (hg := gA_fc rfl rfl) (hq := fun hg => by (have hg' := and_l hg; have hg'' := and_l hg'; exact Quiet.move rfl ((getS32 (getS32 get2)).trans (cndT hg _ _)))) (ht := (setS32 (setS32 set3))) (hk := ?_); refine qG (g := ((((!(decide (((ixD r5 i8).a) ≥ ((ixD r5 i8).b)))) && (decide (i8 > 0))) && (!(decide (((ixD r5 (IntKind.i64.wrap (i8 - 1))).a) > ((ixD r5 i8).a))))) && (((ixD r5 (IntKind.i64.wrap (i8 - 1))).a) == ((ixD r5 i8).a)))) (hg := gA_tc rfl rfl) (hq := fun hg => by (have hg' := and_l hg; have hg'' := and_l hg'; have hg''' := and_l hg''; exact Quiet.move rfl get3)) (ht := (setS32 (setS32 set4))) (hk := ?_); refine qG (g := ((((!(decide (((ixD r5 i8).a) ≥ ((ixD r5 i8).b)))) && (decide (i8 > 0))) && (!(decide (((ixD r5 (IntKind.i64.wrap (i8 - 1))).a) > ((ixD r5 i8).a))))) && (((ixD r5 (IntKind.i64.wrap (i8 - 1))).a) == ((ixD r5 i8).a)))) (hg := gA_tc rfl rfl) (hq := fun hg => by (have hg' := and_l hg; have hg'' := and_l hg'; have hg''' := and_l hg''; exact Quiet.move rfl get6)) (ht := (setS32 (setS32 set5))) (hk := ?_); refine qG (g := ((((!(decide (((ixD r5 i8).a) ≥ ((ixD r5 i8).b)))) && (decide (i8 > 0))) && (!(decide (((ixD r5 (IntKind.i64.wrap (i8 - 1))).a) > ((ixD r5 i8).a))))) && (((ixD r5 (IntKind.i64.wrap (i8 - 1))).a) == ((ixD r5 i8).a)))) (hg := gA_tc rfl rfl) (hq := fun hg => by (have hg' := and_l hg; have hg'' := and_l hg'; have hg''' := and_l hg''; exact Quiet.bin rfl ((getS32 (getS32 get5)).trans (cndT hg _ _)) getC rfl)) (ht := (setS32 (setS32 set6))) (hk := ?_); refine qG (g := ((((!(decide (((ixD r5 i8).a) ≥ ((ixD r5 i8).b)))) && (decide (i8 > 0))) && (!(decide (((ixD r5 (IntKind.i64.wrap (i8 - 1))).a) > ((ixD r5 i8).a))))) && (((ixD r5 (IntKind.i64.wrap (i8 - 1))).a) == ((ixD r5 i8).a)))) (hg := gA_tc rfl rfl) (hq := fun hg => by (have hg' := and_l hg; have hg'' := and_l hg'; have hg''' := and_l hg''; exact Quiet.ixM rfl ((getS32 (getS32 get4)).trans (cndT hg _ _)) ((getS32 (getS32 get6)).trans (cndT hg _ _)) rfl (imp_of c18 hg))) (ht := (setS32 (setS32 set7))) (hk := ?_); refine qG (g := ((((!(decide (((ixD r5 i8).a) ≥ ((ixD r5 i8).b)))) && (decide (i8 > 0))) && (!(decide (((ixD r5 (IntKind.i64.wrap (i8 - 1))).a) > ((ixD r5 i8).a))))) && (((ixD r5 (IntKind.i64.wrap (i8 - 1))).a) == ((ixD r5 i8).a)))) (hg := gA_tc rfl rfl) (hq := fun hg => by (have hg' := and_l hg; have hg'' := and_l hg'; have hg''' := and_l hg''; exact Quiet.fa_bp rfl ((getS32 (getS32 get7)).trans (cndT hg _ _)))) (ht := (setS32 (setS32 (setS8 set0)))) (hk := ?_); refine qG (g := ((((!(decide (((ixD r5 i8).a) ≥ ((ixD r5 i8).b)))) && (decide (i8 > 0))) && (!(decide (((ixD r5 (IntKind.i64.wrap (i8 - 1))).a) > ((ixD r5 i8).a))))) && (((ixD r5 (IntKind.i64.wrap (i8 - 1))).a) == ((ixD r5 i8).a)))) (hg := gA_tc rfl rfl) (hq := fun hg => by (have hg' := and_l hg; have hg'' := and_l hg'; have hg''' := and_l hg''; exact Quiet.load_bp rfl ((getS32 (getS32 (getS8 get0))).trans (cndT hg _ _)) rfl)) (ht := (setS32 (setS32 (setS8 set1)))) (hk := ?_); refine qG (g := ((((!(decide (((ixD r5 i8).a) ≥ ((ixD r5 i8).b)))) && (decide (i8 > 0))) && (!(decide (((ixD r5 (IntKind.i64.wrap (i8 - 1))).a) > ((ixD r5 i8).a))))) && (((ixD r5 (IntKind.i64.wrap (i8 - 1))).a) == ((ixD r5 i8).a)))) (hg := gA_tc rfl rfl) (hq := fun hg => by (have hg' := and_l hg; have hg'' := and_l hg'; have hg''' := and_l hg''; exact Quiet.move rfl get3)) (ht := (setS32 (setS32 (setS8 set2)))) (hk := ?_); refine qG (g := ((((!(decide (((ixD r5 i8).a) ≥ ((ixD r5 i8).b)))) && (decide (i8 > 0))) && (!(decide (((ixD r5 (IntKind.i64.wrap (i8 - 1))).a) > ((ixD r5 i8).a))))) && (((ixD r5 (IntKind.i64.wrap (i8 - 1))).a) == ((ixD r5 i8).a)))) (hg := gA_tc rfl rfl) (hq := fun hg => by (have hg' := and_l hg; have hg'' := and_l hg'; have hg''' := and_l hg''; exact Quiet.move rfl get6)) (ht := (setS32 (setS32 (setS8 set3)))) (hk := ?_); refine qG (g := ((((!(decide (((ixD r5 i8).a) ≥ ((ixD r5 i8).b)))) && (decide (i8 > 0))) && (!(decide (((ixD r5 (IntKind.i64.wrap (i8 - 1))).a) > ((ixD r5 i8).a))))) && (((ixD r5 (IntKind.i64.wrap (i8 - 1))).a) == ((ixD r5 i8).a)))) (hg := gA_tc rfl rfl) (hq := fun hg => by (have hg' := and_l hg; have hg'' := and_l hg'; have hg''' := and_l hg''; exact Quiet.ixM rfl ((getS32 (getS32 (getS8 get2))).trans (cndT hg _ _)) ((getS32 (getS32 (getS8 get3))).trans (cndT hg _ _)) rfl (imp_of c19 hg))) (ht := (setS32 (setS32 (setS8 set4)))) (hk := ?_); refine qG (g := ((((!(decide (((ixD r5 i8).a) ≥ ((ixD r5 i8).b)))) && (decide (i8 > 0))) && (!(decide (((ixD r5 (IntKind.i64.wrap (i8 - 1))).a) > ((ixD r5 i8).a))))) && (((ixD r5 (IntKind.i64.wrap (i8 - 1))).a) == ((ixD r5 i8).a)))) (hg := gA_tc rfl rfl) (hq := fun hg => by (have hg' := and_l hg; have hg'' := and_l hg'; have hg''' := and_l hg''; exact Quiet.fa_bp rfl ((getS32 (getS32 (getS8 get4))).trans (cndT hg _ _)))) (ht := (setS32 (setS32 (setS8 set5)))) (hk := ?_); refine qG (g := ((((!(decide (((ixD r5 i8).a) ≥ ((ixD r5 i8).b)))) && (decide (i8 > 0))) && (!(decide (((ixD r5 (IntKind.i64.wrap (i8 - 1))).a) > ((ixD r5 i8).a))))) && (((ixD r5 (IntKind.i64.wrap (i8 - 1))).a) == ((ixD r5 i8).a)))) (hg := gA_tc rfl rfl) (hq := fun hg => by (have hg' := and_l hg; have hg'' := and_l hg'; have hg''' := and_l hg''; exact Quiet.load_bp rfl ((getS32 (getS32 (getS8 get5))).trans (cndT hg _ _)) rfl)) (ht := (setS32 (setS32 (setS8 set6)))) (hk := ?_); refine qG (g := ((((!(decide (((ixD r5 i8).a) ≥ ((ixD r5 i8).b)))) && (decide (i8 > 0))) && (!(decide (((ixD r5 (IntKind.i64.wrap (i8 - 1))).a) > ((ixD r5 i8).a))))) && (((ixD r5 (IntKind.i64.wrap (i8 - 1))).a) == ((ixD r5 i8).a)))) (hg := gA_tc rfl rfl) (hq := fun hg => by (have hg' := and_l hg; have hg'' := and_l hg'; have hg''' := and_l hg''; exact Quiet.bin rfl ((getS32 (getS32 (getS8 get1))).trans (cndT hg _ _)) ((getS32 (getS32 (getS8 get6))).trans (cndT hg _ _)) rfl)) (ht := (setS32 (setS32 (setS8 set7)))) (hk := ?_); refine qG (g := (((!(decide (((ixD r5 i8).a) ≥ ((ixD r5 i8).b)))) && (decide (i8 > 0))) && (!(decide (((ixD r5 (IntKind.i64.wrap (i8 - 1))).a) > ((ixD r5 i8).a)))))) (hg := gA_fc rfl rfl) (hq := fun hg => by (have hg' := and_l hg; have hg'' := and_l hg'; exact Quiet.pickAndB rfl ((getS32 (getS32 get3)).trans (cndT hg _ _)) ((getS32 (getS32 (getS8 get7))).trans (cndA hg _ _)) getC)) (ht := (setS32 (setS32 (setS8 (setS8 set0))))) (hk := ?_); refine qG (g := ((!(decide (((ixD r5 i8).a) ≥ ((ixD r5 i8).b)))) && (decide (i8 > 0)))) (hg := gA_tc rfl rfl) (hq := fun hg => by (have hg' := and_l hg; exact Quiet.pickOrB rfl ((getS32 (getS8 (getS8 get6))).trans (cndT hg _ _)) getC ((getS32 (getS32 (getS8 (getS8 get0)))).trans (cndA hg _ _)))) (ht := (setS32 (setS32 (setS8 (setS8 set1))))) (hk := ?_); refine qG (g := (!(decide (((ixD r5 i8).a) ≥ ((ixD r5 i8).b))))) (hg := gA_f rfl) (hq := fun hg => Quiet.pickAndB rfl ((getS32 (getS8 get1)).trans (cndT hg _ _)) ((getS32 (getS32 (getS8 (getS8 get1)))).trans (cndA hg _ _)) getC) (ht := (setS32 (setS32 (setS8 (setS8 set2))))) (hk := ?_); refine qA (hq := Quiet.pickOrB rfl (getS32 get6) getC (getS32 (getS32 (getS8 (getS8 get2))))) (ht := (setS32 (setS32 (setS8 (setS8 set3))))) (hk := ?_); refine qA (hq := Quiet.move rfl (getS32 (getS32 (getS8 (getS8 get3))))) (ht := (setS32 (setS32 (setS8 (setS8 set4))))) (hk := ?_); refine qG (g := (!((decide (((ixD r5 i8).a) ≥ ((ixD r5 i8).b))) || ((decide (i8 > 0)) && ((decide (((ixD r5 (IntKind.i64.wrap (i8 - 1))).a) > ((ixD r5 i8).a))) || ((((ixD r5 (IntKind.i64.wrap (i8 - 1))).a) == ((ixD r5 i8).a)) && (decide (((ixD r5 (IntKind.i64.wrap (i8 - 1))).b) ≥ ((ixD r5 i8).b))))))))) (hg := gA_f rfl) (hq := fun hg => Quiet.loadA_ptr rfl get1 rfl rfl) (ht := (setS32 (setS32 (setS8 (setS8 set5))))) (hk := ?_); refine qG (g := (!((decide (((ixD r5 i8).a) ≥ ((ixD r5 i8).b))) || ((decide (i8 > 0)) && ((decide (((ixD r5 (IntKind.i64.wrap (i8 - 1))).a) > ((ixD r5 i8).a))) || ((((ixD r5 (IntKind.i64.wrap (i8 - 1))).a) == ((ixD r5 i8).a)) && (decide (((ixD r5 (IntKind.i64.wrap (i8 - 1))).b) ≥ ((ixD r5 i8).b))))))))) (hg := gA_f rfl) (hq := fun hg => Quiet.move rfl get3) (ht := (setS32 (setS32 (setS8 (setS8 set6))))) (hk := ?_); refine qG (g := (!((decide (((ixD r5 i8).a) ≥ ((ixD r5 i8).b))) || ((decide (i8 > 0)) && ((decide (((ixD r5 (IntKind.i64.wrap (i8 - 1))).a) > ((ixD r5 i8).a))) || ((((ixD r5 (IntKind.i64.wrap (i8 - 1))).a) == ((ixD r5 i8).a)) && (decide (((ixD r5 (IntKind.i64.wrap (i8 - 1))).b) ≥ ((ixD r5 i8).b))))))))) (hg := gA_f rfl) (hq := fun hg => Quiet.move rfl get6) (ht := (setS32 (setS32 (setS8 (setS8 set7))))) (hk := ?_); refine qG (g := (!((decide (((ixD r5 i8).a) ≥ ((ixD r5 i8).b))) || ((decide (i8 > 0)) && ((decide (((ixD r5 (IntKind.i64.wrap (i8 - 1))).a) > ((ixD r5 i8).a))) || ((((ixD r5 (IntKind.i64.wrap (i8 - 1))).a) == ((ixD r5 i8).a)) && (decide (((ixD r5 (IntKind.i64.wrap (i8 - 1))).b) ≥ ((ixD r5 i8).b))))))))) (hg := gA_f rfl) (hq := fun hg => Quiet.ixM rfl ((getS32 (getS32 (getS8 (getS8 get6)))).trans (cndT hg _ _)) ((getS32 (getS32 (getS8 (getS8 get7)))).trans (cndT hg _ _)) rfl (imp_of c20 hg)) (ht := (setS32 (setS32 (setS8 (setS8 (setS8 set0)))))) (hk := ?_); refine qG (g := (!((decide (((ixD r5 i8).a) ≥ ((ixD r5 i8).b))) || ((decide (i8 > 0)) && ((decide (((ixD r5 (IntKind.i64.wrap (i8 - 1))).a) > ((ixD r5 i8).a))) || ((((ixD r5 (IntKind.i64.wrap (i8 - 1))).a) == ((ixD r5 i8).a)) && (decide (((ixD r5 (IntKind.i64.wrap (i8 - 1))).b) ≥ ((ixD r5 i8).b))))))))) (hg := gA_f rfl) (hq := fun hg => Quiet.fa_bp rfl ((getS32 (getS32 (getS8 (getS8 (getS8 get0))))).trans (cndT hg _ _))) (ht := (setS32 (setS32 (setS8 (setS8 (setS8 set1)))))) (hk := ?_); refine qG (g := (!((decide (((ixD r5 i8).a) ≥ ((ixD r5 i8).b))) || ((decide (i8 > 0)) && ((decide (((ixD r5 (IntKind.i64.wrap (i8 - 1))).a) > ((ixD r5 i8).a))) || ((((ixD r5 (IntKind.i64.wrap (i8 - 1))).a) == ((ixD r5 i8).a)) && (decide (((ixD r5 (IntKind.i64.wrap (i8 - 1))).b) ≥ ((ixD r5 i8).b))))))))) (hg := gA_f rfl) (hq := fun hg => Quiet.load_bp rfl ((getS32 (getS32 (getS8 (getS8 (getS8 get1))))).trans (cndT hg _ _)) rfl) (ht := (setS32 (setS32 (setS8 (setS8 (setS8 set2)))))) (hk := ?_); refine qG (g := (!((decide (((ixD r5 i8).a) ≥ ((ixD r5 i8).b))) || ((decide (i8 > 0)) && ((decide (((ixD r5 (IntKind.i64.wrap (i8 - 1))).a) > ((ixD r5 i8).a))) || ((((ixD r5 (IntKind.i64.wrap (i8 - 1))).a) == ((ixD r5 i8).a)) && (decide (((ixD r5 (IntKind.i64.wrap (i8 - 1))).b) ≥ ((ixD r5 i8).b))))))))) (hg := gA_f rfl) (hq := fun hg => by ((try simp only [cndT hg]); (try simp only [cndA hg]); exact Quiet.callA rfl rfl (inter_Near_l (M.to_whn k21 hg)) rfl rfl)) (ht := (setS32 (setS32 (setS8 (setS8 (setS8 set3)))))) (hk := ?_); refine qG (g := (!((decide (((ixD r5 i8).a) ≥ ((ixD r5 i8).b))) || ((decide (i8 > 0)) && ((decide (((ixD r5 (IntKind.i64.wrap (i8 - 1))).a) > ((ixD r5 i8).a))) || ((((ixD r5 (IntKind.i64.wrap (i8 - 1))).a) == ((ixD r5 i8).a)) && (decide (((ixD r5 (IntKind.i64.wrap (i8 - 1))).b) ≥ ((ixD r5 i8).b))))))))) (hg := gA_f rfl) (hq := fun hg => Quiet.move rfl get3) (ht := (setS32 (setS32 (setS8 (setS8 (setS8 set4)))))) (hk := ?_); refine qG (g := (!((decide (((ixD r5 i8).a) ≥ ((ixD r5 i8).b))) || ((decide (i8 > 0)) && ((decide (((ixD r5 (IntKind.i64.wrap (i8 - 1))).a) > ((ixD r5 i8).a))) || ((((ixD r5 (IntKind.i64.wrap (i8 - 1))).a) == ((ixD r5 i8).a)) && (decide (((ixD r5 (IntKind.i64.wrap (i8 - 1))).b) ≥ ((ixD r5 i8).b))))))))) (hg := gA_f rfl) (hq := fun hg => Quiet.move rfl get6) (ht := (setS32 (setS32 (setS8 (setS8 (setS8 set5)))))) (hk := ?_); refine qG (g := (!((decide (((ixD r5 i8).a) ≥ ((ixD r5 i8).b))) || ((decide (i8 > 0)) && ((decide (((ixD r5 (IntKind.i64.wrap (i8 - 1))).a) > ((ixD r5 i8).a))) || ((((ixD r5 (IntKind.i64.wrap (i8 - 1))).a) == ((ixD r5 i8).a)) && (decide (((ixD r5 (IntKind.i64.wrap (i8 - 1))).b) ≥ ((ixD r5 i8).b))))))))) (hg := gA_f rfl) (hq := fun hg => Quiet.ixM rfl ((getS32 (getS32 (getS8 (getS8 (getS8 get4))))).trans (cndT hg _ _)) ((getS32 (getS32 (getS8 (getS8 (getS8 get5))))).trans (cndT hg _ _)) rfl (imp_of c22 hg)) (ht := (setS32 (setS32 (setS8 (setS8 (setS8 set6)))))) (hk := ?_); refine qG (g := (!((decide (((ixD r5 i8).a) ≥ ((ixD r5 i8).b))) || ((decide (i8 > 0)) && ((decide (((ixD r5 (IntKind.i64.wrap (i8 - 1))).a) > ((ixD r5 i8).a))) || ((((ixD r5 (IntKind.i64.wrap (i8 - 1))).a) == ((ixD r5 i8).a)) && (decide (((ixD r5 (IntKind.i64.wrap (i8 - 1))).b) ≥ ((ixD r5 i8).b))))))))) (hg := gA_f rfl) (hq := fun hg => Quiet.fa_bp rfl ((getS32 (getS32 (getS8 (getS8 (getS8 get6))))).trans (cndT hg _ _))) (ht := (setS32 (setS32 (setS8 (setS8 (setS8 set7)))))) (hk := ?_); refine qG (g := (!((decide (((ixD r5 i8).a) ≥ ((ixD r5 i8).b))) || ((decide (i8 > 0)) && ((decide (((ixD r5 (IntKind.i64.wrap (i8 - 1))).a) > ((ixD r5 i8).a))) || ((((ixD r5 (IntKind.i64.wrap (i8 - 1))).a) == ((ixD r5 i8).a)) && (decide (((ixD r5 (IntKind.i64.wrap (i8 - 1))).b) ≥ ((ixD r5 i8).b))))))))) (hg := gA_f rfl) (hq := fun hg => Quiet.load_bp rfl ((getS32 (getS32 (getS8 (getS8 (getS8 get7))))).trans (cndT hg _ _)) rfl) (ht := (setS32 (setS32 (setS32 set0)))) (hk := ?_); refine qG (g := (!((decide (((ixD r5 i8).a) ≥ ((ixD r5 i8).b))) || ((decide (i8 > 0)) && ((decide (((ixD r5 (IntKind.i64.wrap (i8 - 1))).a) > ((ixD r5 i8).a))) || ((((ixD r5 (IntKind.i64.wrap (i8 - 1))).a) == ((ixD r5 i8).a)) && (decide (((ixD r5 (IntKind.i64.wrap (i8 - 1))).b) ≥ ((ixD r5 i8).b))))))))) (hg := gA_f rfl) (hq := fun hg => by ((try simp only [cndT hg]); (try simp only [cndA hg]); exact Quiet.callA rfl rfl (law18_in_l (M.to_whn k23 hg)) rfl rfl)) (ht := (setS32 (setS32 (setS32 set1)))) (hk := ?_); refine qG (g := (!((decide (((ixD r5 i8).a) ≥ ((ixD r5 i8).b))) || ((decide (i8 > 0)) && ((decide (((ixD r5 (IntKind.i64.wrap (i8 - 1))).a) > ((ixD r5 i8).a))) || ((((ixD r5 (IntKind.i64.wrap (i8 - 1))).a) == ((ixD r5 i8).a)) && (decide (((ixD r5 (IntKind.i64.wrap (i8 - 1))).b) ≥ ((ixD r5 i8).b))))))))) (hg := gA_f rfl) (hq := fun hg => Quiet.bnot rfl ((getS32 (getS32 (getS32 get1))).trans (cndT hg _ _))) (ht := (setS32 (setS32 (setS32 set2)))) (hk := ?_); refine qA (hq := Quiet.pickOrB rfl (getS32 (getS32 (getS8 (getS8 get4)))) getC (getS32 (getS32 (getS32 get2)))) (ht := (setS32 (setS32 (setS32 set3)))) (hk := ?_); refine qA (hq := Quiet.move rfl (getS32 (getS32 (getS32 get3)))) (ht := (setS32 (setS32 (setS32 set4)))) (hk := ?_); refine qG (g := (!(((decide (((ixD r5 i8).a) ≥ ((ixD r5 i8).b))) || ((decide (i8 > 0)) && ((decide (((ixD r5 (IntKind.i64.wrap (i8 - 1))).a) > ((ixD r5 i8).a))) || ((((ixD r5 (IntKind.i64.wrap (i8 - 1))).a) == ((ixD r5 i8).a)) && (decide (((ixD r5 (IntKind.i64.wrap (i8 - 1))).b) ≥ ((ixD r5 i8).b))))))) || (!r23)))) (hg := gA_f rfl) (hq := fun hg => Quiet.loadA_ptr rfl get1 rfl rfl) (ht := (setS32 (setS32 (setS32 set5)))) (hk := ?_); refine qG (g := (!(((decide (((ixD r5 i8).a) ≥ ((ixD r5 i8).b))) || ((decide (i8 > 0)) && ((decide (((ixD r5 (IntKind.i64.wrap (i8 - 1))).a) > ((ixD r5 i8).a))) || ((((ixD r5 (IntKind.i64.wrap (i8 - 1))).a) == ((ixD r5 i8).a)) && (decide (((ixD r5 (IntKind.i64.wrap (i8 - 1))).b) ≥ ((ixD r5 i8).b))))))) || (!r23)))) (hg := gA_f rfl) (hq := fun hg => Quiet.move rfl get3) (ht := (setS32 (setS32 (setS32 set6)))) (hk := ?_); refine qG (g := (!(((decide (((ixD r5 i8).a) ≥ ((ixD r5 i8).b))) || ((decide (i8 > 0)) && ((decide (((ixD r5 (IntKind.i64.wrap (i8 - 1))).a) > ((ixD r5 i8).a))) || ((((ixD r5 (IntKind.i64.wrap (i8 - 1))).a) == ((ixD r5 i8).a)) && (decide (((ixD r5 (IntKind.i64.wrap (i8 - 1))).b) ≥ ((ixD r5 i8).b))))))) || (!r23)))) (hg := gA_f rfl) (hq := fun hg => Quiet.move rfl get6) (ht := (setS32 (setS32 (setS32 set7)))) (hk := ?_); refine qG (g := (!(((decide (((ixD r5 i8).a) ≥ ((ixD r5 i8).b))) || ((decide (i8 > 0)) && ((decide (((ixD r5 (IntKind.i64.wrap (i8 - 1))).a) > ((ixD r5 i8).a))) || ((((ixD r5 (IntKind.i64.wrap (i8 - 1))).a) == ((ixD r5 i8).a)) && (decide (((ixD r5 (IntKind.i64.wrap (i8 - 1))).b) ≥ ((ixD r5 i8).b))))))) || (!r23)))) (hg := gA_f rfl) (hq := fun hg => Quiet.ixM rfl ((getS32 (getS32 (getS32 get6))).trans (cndT hg _ _)) ((getS32 (getS32 (getS32 get7))).trans (cndT hg _ _)) rfl (imp_of c24 hg)) (ht := (setS32 (setS32 (setS32 (setS8 set0))))) (hk := ?_); refine qG (g := (!(((decide (((ixD r5 i8).a) ≥ ((ixD r5 i8).b))) || ((decide (i8 > 0)) && ((decide (((ixD r5 (IntKind.i64.wrap (i8 - 1))).a) > ((ixD r5 i8).a))) || ((((ixD r5 (IntKind.i64.wrap (i8 - 1))).a) == ((ixD r5 i8).a)) && (decide (((ixD r5 (IntKind.i64.wrap (i8 - 1))).b) ≥ ((ixD r5 i8).b))))))) || (!r23)))) (hg := gA_f rfl) (hq := fun hg => Quiet.fa_bp rfl ((getS32 (getS32 (getS32 (getS8 get0)))).trans (cndT hg _ _))) (ht := (setS32 (setS32 (setS32 (setS8 set1))))) (hk := ?_); refine qG (g := (!(((decide (((ixD r5 i8).a) ≥ ((ixD r5 i8).b))) || ((decide (i8 > 0)) && ((decide (((ixD r5 (IntKind.i64.wrap (i8 - 1))).a) > ((ixD r5 i8).a))) || ((((ixD r5 (IntKind.i64.wrap (i8 - 1))).a) == ((ixD r5 i8).a)) && (decide (((ixD r5 (IntKind.i64.wrap (i8 - 1))).b) ≥ ((ixD r5 i8).b))))))) || (!r23)))) (hg := gA_f rfl) (hq := fun hg => Quiet.load_bp rfl ((getS32 (getS32 (getS32 (getS8 get1)))).trans (cndT hg _ _)) rfl) (ht := (setS32 (setS32 (setS32 (setS8 set2))))) (hk := ?_); refine qG (g := (!(((decide (((ixD r5 i8).a) ≥ ((ixD r5 i8).b))) || ((decide (i8 > 0)) && ((decide (((ixD r5 (IntKind.i64.wrap (i8 - 1))).a) > ((ixD r5 i8).a))) || ((((ixD r5 (IntKind.i64.wrap (i8 - 1))).a) == ((ixD r5 i8).a)) && (decide (((ixD r5 (IntKind.i64.wrap (i8 - 1))).b) ≥ ((ixD r5 i8).b))))))) || (!r23)))) (hg := gA_f rfl) (hq := fun hg => by ((try simp only [cndT hg]); (try simp only [cndA hg]); exact Quiet.callA rfl rfl (inter_Near_l (M.to_whn k25 hg)) rfl rfl)) (ht := (setS32 (setS32 (setS32 (setS8 set3))))) (hk := ?_); refine qG (g := (!(((decide (((ixD r5 i8).a) ≥ ((ixD r5 i8).b))) || ((decide (i8 > 0)) && ((decide (((ixD r5 (IntKind.i64.wrap (i8 - 1))).a) > ((ixD r5 i8).a))) || ((((ixD r5 (IntKind.i64.wrap (i8 - 1))).a) == ((ixD r5 i8).a)) && (decide (((ixD r5 (IntKind.i64.wrap (i8 - 1))).b) ≥ ((ixD r5 i8).b))))))) || (!r23)))) (hg := gA_f rfl) (hq := fun hg => Quiet.move rfl get3) (ht := (setS32 (setS32 (setS32 (setS8 set4))))) (hk := ?_); refine qG (g := (!(((decide (((ixD r5 i8).a) ≥ ((ixD r5 i8).b))) || ((decide (i8 > 0)) && ((decide (((ixD r5 (IntKind.i64.wrap (i8 - 1))).a) > ((ixD r5 i8).a))) || ((((ixD r5 (IntKind.i64.wrap (i8 - 1))).a) == ((ixD r5 i8).a)) && (decide (((ixD r5 (IntKind.i64.wrap (i8 - 1))).b) ≥ ((ixD r5 i8).b))))))) || (!r23)))) (hg := gA_f rfl) (hq := fun hg => Quiet.move rfl get6) (ht := (setS32 (setS32 (setS32 (setS8 set5))))) (hk := ?_); refine qG (g := (!(((decide (((ixD r5 i8).a) ≥ ((ixD r5 i8).b))) || ((decide (i8 > 0)) && ((decide (((ixD r5 (IntKind.i64.wrap (i8 - 1))).a) > ((ixD r5 i8).a))) || ((((ixD r5 (IntKind.i64.wrap (i8 - 1))).a) == ((ixD r5 i8).a)) && (decide (((ixD r5 (IntKind.i64.wrap (i8 - 1))).b) ≥ ((ixD r5 i8).b))))))) || (!r23)))) (hg := gA_f rfl) (hq := fun hg => Quiet.ixM rfl ((getS32 (getS32 (getS32 (getS8 get4)))).trans (cndT hg _ _)) ((getS32 (getS32 (getS32 (getS8 get5)))).trans (cndT hg _ _)) rfl (imp_of c26 hg)) (ht := (setS32 (setS32 (setS32 (setS8 set6))))) (hk := ?_); refine qG (g := (!(((decide (((ixD r5 i8).a) ≥ ((ixD r5 i8).b))) || ((decide (i8 > 0)) && ((decide (((ixD r5 (IntKind.i64.wrap (i8 - 1))).a) > ((ixD r5 i8).a))) || ((((ixD r5 (IntKind.i64.wrap (i8 - 1))).a) == ((ixD r5 i8).a)) && (decide (((ixD r5 (IntKind.i64.wrap (i8 - 1))).b) ≥ ((ixD r5 i8).b))))))) || (!r23)))) (hg := gA_f rfl) (hq := fun hg => Quiet.fa_bp rfl ((getS32 (getS32 (getS32 (getS8 get6)))).trans (cndT hg _ _))) (ht := (setS32 (setS32 (setS32 (setS8 set7))))) (hk := ?_); refine qG (g := (!(((decide (((ixD r5 i8).a) ≥ ((ixD r5 i8).b))) || ((decide (i8 > 0)) && ((decide (((ixD r5 (IntKind.i64.wrap (i8 - 1))).a) > ((ixD r5 i8).a))) || ((((ixD r5 (IntKind.i64.wrap (i8 - 1))).a) == ((ixD r5 i8).a)) && (decide (((ixD r5 (IntKind.i64.wrap (i8 - 1))).b) ≥ ((ixD r5 i8).b))))))) || (!r23)))) (hg := gA_f rfl) (hq := fun hg => Quiet.load_bp rfl ((getS32 (getS32 (getS32 (getS8 get7)))).trans (cndT hg _ _)) rfl) (ht := (setS32 (setS32 (setS32 (setS8 (setS8 set0)))))) (hk := ?_); refine qG (g := (!(((decide (((ixD r5 i8).a) ≥ ((ixD r5 i8).b))) || ((decide (i8 > 0)) && ((decide (((ixD r5 (IntKind.i64.wrap (i8 - 1))).a) > ((ixD r5 i8).a))) || ((((ixD r5 (IntKind.i64.wrap (i8 - 1))).a) == ((ixD r5 i8).a)) && (decide (((ixD r5 (IntKind.i64.wrap (i8 - 1))).b) ≥ ((ixD r5 i8).b))))))) || (!r23)))) (hg := gA_f rfl) (hq := fun hg => by ((try simp only [cndT hg]); (try simp only [cndA hg]); exact Quiet.callA rfl rfl (law18_in_l (M.to_whn k27 hg)) rfl rfl)) (ht := (setS32 (setS32 (setS32 (setS8 (setS8 set1)))))) (hk := ?_); refine qG (g := (!(((decide (((ixD r5 i8).a) ≥ ((ixD r5 i8).b))) || ((decide (i8 > 0)) && ((decide (((ixD r5 (IntKind.i64.wrap (i8 - 1))).a) > ((ixD r5 i8).a))) || ((((ixD r5 (IntKind.i64.wrap (i8 - 1))).a) == ((ixD r5 i8).a)) && (decide (((ixD r5 (IntKind.i64.wrap (i8 - 1))).b) ≥ ((ixD r5 i8).b))))))) || (!r23)))) (hg := gA_f rfl) (hq := fun hg => Quiet.bnot rfl ((getS32 (getS32 (getS32 (getS8 (getS8 get1))))).trans (cndT hg _ _))) (ht := (setS32 (setS32 (setS32 (setS8 (setS8 set2)))))) (hk := ?_); refine qA (hq := Quiet.pickOrB rfl (getS32 (getS32 (getS32 get4))) getC (getS32 (getS32 (getS32 (getS8 (getS8 get2)))))) (ht := (setS32 (setS32 (setS32 (setS8 (setS8 set3)))))) (hk := ?_); exact qEnd rfl)) (hx := by (exact wEnd rfl)) (hk := ?_)
          refine Awp.cond rfl (fun hb28 => ?_) (fun hb28 => ?_)
          · have H := M.to_t hb28 H
            refine wR (hx := by (refine sA (hq := Quiet.assign rfl getC) (ht := set2) (hk := ?_); exact wEnd rfl)) (hk := ?_)
            have H := M.to_ok.2 (Hq9 _ (Hr9 _ (M.to_ok.1 H).symm).symm)
            obtain rfl := M.to_ok.1 H
            exact Awp.ret ⟨.inr rfl, Fin.cl rfl⟩
          · have H := M.to_f hb28 H
            refine Awp.skip ?_
            refine hs12 _ ?_
            refine nT (hk := ?_)
            refine wRE (hx := by (refine sA (hq := Quiet.move rfl get6) (ht := (setS8 (setS8 (setS8 set1)))) (hk := ?_); refine sA (hq := Quiet.bin rfl (getS8 (getS8 (getS8 get1))) getC rfl) (ht := (setS8 (setS8 (setS8 set2)))) (hk := ?_); refine sA (hq := Quiet.assign rfl (getS8 (getS8 (getS8 get2)))) (ht := set6) (hk := ?_); exact wEnd rfl)) (hk := ?_)
            have e9 := M.to_ok.1 H
            repeat (first | refine abN ?_ | refine asN ?_)
            refine athen_n ⟨_, (), e9.symm, ?_⟩
            try dsimp only
            exact le_TA
        · have H := M.to_f hb11 H
          refine Awp.exit ?_
          repeat (first | refine athen_e ?_ | refine exO (by decide) ?_ | refine asE ?_)
          refine exN ?_
          have e9 := Hr9 _ (M.to_ok.1 H).symm
          repeat (first | refine abN ?_ | refine asN ?_)
          refine athen_n ⟨(_, ()), e9.symm, ?_⟩
          try dsimp only
          exact le_TA
    · rintro ⟨_, _⟩ hz9
      try dsimp only at hz9
      have H := Hl9 _ hz9
      try dsimp only
      obtain ⟨z30, HX30, Hl30, Hq30⟩ := M.to_els H
      refine Awp.seqJ (β := (Unit) × (Unit)) (fun q30 => z30 = .inl q30.1) (fun q30 => ⟨.any :: .any :: .any :: .any :: .any :: .any :: .any :: .any :: .any :: .any :: .any :: .any :: .any :: .any :: .any :: .any :: .any :: .any :: .any :: .any :: .any :: .any :: .any :: .any :: .any :: .any :: .any :: .any :: .any :: .any :: .any :: .any :: .any :: .any :: .any :: .any :: .any :: .any :: .any :: .any :: .any :: .any :: .any :: .any :: .any :: .any :: .any :: .any :: .any :: .any :: .any :: .any :: .any :: .any :: .any :: .any :: .any :: .any :: .any :: .any :: .any :: .any :: .any :: .any :: .any :: .any :: .any :: .any :: .any :: .any :: .any :: .any :: .any :: .any :: .any :: .any :: .any :: .any :: .any :: .any :: .any :: .any :: .any :: .any :: .any :: .any :: .any :: .any :: .any :: .any :: .any :: .any :: .any :: .any :: .any :: .any :: .any :: .any :: .any :: .any :: .any :: .any :: .any :: .any :: .any :: .any :: .any :: .any :: .any :: .any :: .any :: .any :: .any :: .any :: .any :: .any :: .any :: .any :: .any :: .any :: .any :: .any :: .any :: .any :: .any :: .any :: .any :: .any :: .any :: .any :: .any :: .any :: .any :: .any :: .any :: .any :: .any :: .any :: .any :: .any :: .any :: .any :: .any :: .any :: .any :: .any :: .any :: .any :: .any :: .any :: .any :: .any :: .any :: .any :: .any :: .any :: .any :: .any :: .any :: .any :: .any :: .any :: .any :: .any :: .any :: .any :: .any :: .any :: .any :: .any :: .any :: .any :: .any :: .any :: .any :: .any :: .any :: .any :: .any :: .any :: .any :: .any :: .any :: .any :: .any :: .any :: .any :: .any :: .any :: [], [.dead]⟩) ?_ ?_
      · refine wR (hx := by (refine sA (hq := Quiet.assign rfl getC) (ht := set7) (hk := ?_); exact wEnd rfl)) (hk := ?_)
        refine Awp.block ?_
        refine Awp.loopM HX30 (fun s30 b30 => ⟨.any :: .ptr 0 0 :: .any :: .bs tPair r5 :: .bs tInt r6 :: .bs tInt.slice.slice r7 :: .any :: .lit (.int .i64 s30) :: .any :: .any :: .any :: .any :: .any :: .any :: .any :: .any :: .any :: .any :: .any :: .any :: .any :: .any :: .any :: .any :: .any :: .any :: .any :: .any :: .any :: .any :: .any :: .any :: .any :: .any :: .any :: .any :: .any :: .any :: .any :: .any :: .any :: .any :: .any :: .any :: .any :: .any :: .any :: .any :: .any :: .any :: .any :: .any :: .any :: .any :: .any :: .any :: .any :: .any :: .any :: .any :: .any :: .any :: .any :: .any :: .any :: .any :: .any :: .any :: .any :: .any :: .any :: .any :: .any :: .any :: .any :: .any :: .any :: .any :: .any :: .any :: .any :: .any :: .any :: .any :: .any :: .any :: .any :: .any :: .any :: .any :: .any :: .any :: .any :: .any :: .any :: .any :: .any :: .any :: .any :: .any :: .any :: .any :: .any :: .any :: .any :: .any :: .any :: .any :: .any :: .any :: .any :: .any :: .any :: .any :: .any :: .any :: .any :: .any :: .any :: .any :: .any :: .any :: .any :: .any :: .any :: .any :: .any :: .any :: .any :: .any :: .any :: .any :: .any :: .any :: .any :: .any :: .any :: .any :: .any :: .any :: .any :: .any :: .any :: .any :: .any :: .any :: .any :: .any :: .any :: .any :: .any :: .any :: .any :: .any :: .any :: .any :: .any :: .any :: .any :: .any :: .any :: .any :: .any :: .any :: .any :: .any :: .any :: .any :: .any :: .any :: .any :: .any :: .any :: .any :: .any :: .any :: .any :: .any :: .any :: .any :: .any :: .any :: .any :: .any :: .any :: .any :: .any :: .any :: .any :: [], [.box (encFunc f)]⟩) () (?_) ?_
        · try dsimp only
          exact le_TA
        · rintro b29 _ x30 H Hr30
          try dsimp only
          dsimp only [law18_InterTurned_L22] at H
          refine Awp.seq fun Khs31 hs31 => ?_
          refine wR (hx := by (refine sA (hq := Quiet.move rfl get7) (ht := (setS32 (setS32 (setS32 (setS8 (setS8 set4)))))) (hk := ?_); refine sA (hq := Quiet.fa_ptr rfl get1 rfl) (ht := (setS32 (setS32 (setS32 (setS8 (setS8 set5)))))) (hk := ?_); refine sA (hq := Quiet.load_ptr rfl (getS32 (getS32 (getS32 (getS8 (getS8 get5))))) rfl rfl) (ht := (setS32 (setS32 (setS32 (setS8 (setS8 set6)))))) (hk := ?_); refine sA (hq := Quiet.ln rfl (getS32 (getS32 (getS32 (getS8 (getS8 get6)))))) (ht := (setS32 (setS32 (setS32 (setS8 (setS8 set7)))))) (hk := ?_); refine sA (hq := Quiet.bin rfl (getS32 (getS32 (getS32 (getS8 (getS8 get4))))) (getS32 (getS32 (getS32 (getS8 (getS8 get7))))) rfl) (ht := (setS32 (setS32 (setS32 (setS8 (setS8 (setS8 set0))))))) (hk := ?_); exact wEnd rfl)) (hk := ?_)
          refine Awp.cond rfl (fun hb32 => ?_) (fun hb32 => ?_)
          · have H := M.to_t hb32 H
            refine Awp.skip ?_
            refine hs31 _ ?_
            refine nT (hk := ?_)
            obtain ⟨z34, HX34, Hl34, Hq34⟩ := M.to_els H
            refine Awp.seqJ (β := (Unit) × (Unit)) (fun q34 => z34 = .inl q34.1) (fun q34 => ⟨.any :: .ptr 0 0 :: .any :: .bs tPair r5 :: .bs tInt r6 :: .bs tInt.slice.slice r7 :: .any :: .lit (.int .i64 b29) :: .any :: .any :: .any :: .any :: .any :: .any :: .any :: .any :: .any :: .any :: .any :: .any :: .any :: .any :: .any :: .any :: .any :: .any :: .any :: .any :: .any :: .any :: .any :: .any :: .any :: .any :: .any :: .any :: .any :: .any :: .any :: .any :: .any :: .any :: .any :: .any :: .any :: .any :: .any :: .any :: .any :: .any :: .any :: .any :: .any :: .any :: .any :: .any :: .any :: .any :: .any :: .any :: .any :: .any :: .any :: .any :: .any :: .any :: .any :: .any :: .any :: .any :: .any :: .any :: .any :: .any :: .any :: .any :: .any :: .any :: .any :: .any :: .any :: .any :: .any :: .any :: .any :: .any :: .any :: .any :: .any :: .any :: .any :: .any :: .any :: .any :: .any :: .any :: .any :: .any :: .any :: .any :: .any :: .any :: .any :: .any :: .any :: .any :: .any :: .any :: .any :: .any :: .any :: .any :: .any :: .any :: .any :: .any :: .any :: .any :: .any :: .any :: .any :: .any :: .any :: .any :: .any :: .any :: .any :: .any :: .any :: .any :: .any :: .any :: .any :: .any :: .any :: .any :: .any :: .any :: .any :: .any :: .any :: .any :: .any :: .any :: .any :: .any :: .any :: .any :: .any :: .any :: .any :: .any :: .any :: .any :: .any :: .any :: .any :: .any :: .any :: .any :: .any :: .any :: .any :: .any :: .any :: .any :: .any :: .any :: .any :: .any :: .any :: .any :: .any :: .any :: .any :: .any :: .any :: .any :: .any :: .any :: .any :: .any :: .any :: .any :: .any :: .any :: .any :: .any :: .any :: [], [.box (encFunc f)]⟩) ?_ ?_
            · refine Awp.block ?_
              refine wR (hx := by (refine sA (hq := Quiet.assign rfl getC) (ht := (setS8 set0)) (hk := ?_); exact wEnd rfl)) (hk := ?_)
              refine Awp.block ?_
              refine Awp.loopM HX34 (fun s34 b34 => ⟨.any :: .ptr 0 0 :: .any :: .bs tPair r5 :: .bs tInt r6 :: .bs tInt.slice.slice r7 :: .any :: .lit (.int .i64 b29) :: .lit (.int .i64 s34) :: .any :: .any :: .any :: .any :: .any :: .any :: .any :: .any :: .any :: .any :: .any :: .any :: .any :: .any :: .any :: .any :: .any :: .any :: .any :: .any :: .any :: .any :: .any :: .any :: .any :: .any :: .any :: .any :: .any :: .any :: .any :: .any :: .any :: .any :: .any :: .any :: .any :: .any :: .any :: .any :: .any :: .any :: .any :: .any :: .any :: .any :: .any :: .any :: .any :: .any :: .any :: .any :: .any :: .any :: .any :: .any :: .any :: .any :: .any :: .any :: .any :: .any :: .any :: .any :: .any :: .any :: .any :: .any :: .any :: .any :: .any :: .any :: .any :: .any :: .any :: .any :: .any :: .any :: .any :: .any :: .any :: .any :: .any :: .any :: .any :: .any :: .any :: .any :: .any :: .any :: .any :: .any :: .any :: .any :: .any :: .any :: .any :: .any :: .any :: .any :: .any :: .any :: .any :: .any :: .any :: .any :: .any :: .any :: .any :: .any :: .any :: .any :: .any :: .any :: .any :: .any :: .any :: .any :: .any :: .any :: .any :: .any :: .any :: .any :: .any :: .any :: .any :: .any :: .any :: .any :: .any :: .any :: .any :: .any :: .any :: .any :: .any :: .any :: .any :: .any :: .any :: .any :: .any :: .any :: .any :: .any :: .any :: .any :: .any :: .any :: .any :: .any :: .any :: .any :: .any :: .any :: .any :: .any :: .any :: .any :: .any :: .any :: .any :: .any :: .any :: .any :: .any :: .any :: .any :: .any :: .any :: .any :: .any :: .any :: .any :: .any :: .any :: .any :: .any :: .any :: [], [.box (encFunc f)]⟩) () (?_) ?_
              · try dsimp only
                exact le_TA
              · rintro i33 _ x34 H Hr34
                try dsimp only
                dsimp only [law18_InterTurned_L28] at H
                refine Awp.seq fun Khs35 hs35 => ?_
                obtain ⟨c36, H⟩ := M.to_chk.1 H
                refine wR (hx := by (refine sA (hq := Quiet.move rfl (getS8 get0)) (ht := (setS32 (setS32 (setS32 (setS8 (setS8 (setS8 set3))))))) (hk := ?_); refine sA (hq := Quiet.fa_ptr rfl get1 rfl) (ht := (setS32 (setS32 (setS32 (setS8 (setS8 (setS8 set4))))))) (hk := ?_); refine sA (hq := Quiet.load_ptr rfl (getS32 (getS32 (getS32 (getS8 (getS8 (getS8 get4)))))) rfl rfl) (ht := (setS32 (setS32 (setS32 (setS8 (setS8 (setS8 set5))))))) (hk := ?_); refine sA (hq := Quiet.move rfl get7) (ht := (setS32 (setS32 (setS32 (setS8 (setS8 (setS8 set6))))))) (hk := ?_); refine sA (hq := Quiet.ixM rfl (getS32 (getS32 (getS32 (getS8 (getS8 (getS8 get5)))))) (getS32 (getS32 (getS32 (getS8 (getS8 (getS8 get6)))))) rfl c36) (ht := (setS32 (setS32 (setS32 (setS8 (setS8 (setS8 set7))))))) (hk := ?_); refine sA (hq := Quiet.fa_bp rfl (getS32 (getS32 (getS32 (getS8 (getS8 (getS8 get7))))))) (ht := (setS32 (setS32 (setS32 (setS32 set0))))) (hk := ?_); refine sA (hq := Quiet.load_bp rfl (getS32 (getS32 (getS32 (getS32 get0)))) rfl) (ht := (setS32 (setS32 (setS32 (setS32 set1))))) (hk := ?_); refine sA (hq := Quiet.ln rfl (getS32 (getS32 (getS32 (getS32 get1))))) (ht := (setS32 (setS32 (setS32 (setS32 set2))))) (hk := ?_); refine sA (hq := Quiet.bin rfl (getS32 (getS32 (getS32 (getS8 (getS8 (getS8 get3)))))) (getS32 (getS32 (getS32 (getS32 get2)))) rfl) (ht := (setS32 (setS32 (setS32 (setS32 set3))))) (hk := ?_); exact wEnd rfl)) (hk := ?_)
                refine Awp.cond rfl (fun hb37 => ?_) (fun hb37 => ?_)
                · have H := M.to_t hb37 H
                  refine Awp.skip ?_
                  refine hs35 _ ?_
                  refine nT (hk := ?_)
                  obtain ⟨z38, HX38, Hl38, Hr38⟩ := M.to_els H
                  refine Awp.seqJ (β := (Unit) × (Unit)) (fun q38 => z38 = .inl q38.1) (fun q38 => ⟨.any :: .ptr 0 0 :: .any :: .bs tPair r5 :: .bs tInt r6 :: .bs tInt.slice.slice r7 :: .any :: .lit (.int .i64 b29) :: .lit (.int .i64 i33) :: .any :: .any :: .any :: .any :: .any :: .any :: .any :: .any :: .any :: .any :: .any :: .any :: .any :: .any :: .any :: .any :: .any :: .any :: .any :: .any :: .any :: .any :: .any :: .any :: .any :: .any :: .any :: .any :: .any :: .any :: .any :: .any :: .any :: .any :: .any :: .any :: .any :: .any :: .any :: .any :: .any :: .any :: .any :: .any :: .any :: .any :: .any :: .any :: .any :: .any :: .any :: .any :: .any :: .any :: .any :: .any :: .any :: .any :: .any :: .any :: .any :: .any :: .any :: .any :: .any :: .any :: .any :: .any :: .any :: .any :: .any :: .any :: .any :: .any :: .any :: .any :: .any :: .any :: .any :: .any :: .any :: .any :: .any :: .any :: .any :: .any :: .any :: .any :: .any :: .any :: .any :: .any :: .any :: .any :: .any :: .any :: .any :: .any :: .any :: .any :: .any :: .any :: .any :: .any :: .any :: .any :: .any :: .any :: .any :: .any :: .any :: .any :: .any :: .any :: .any :: .any :: .any :: .any :: .any :: .any :: .any :: .any :: .any :: .any :: .any :: .any :: .any :: .any :: .any :: .any :: .any :: .any :: .any :: .any :: .any :: .any :: .any :: .any :: .any :: .any :: .any :: .any :: .any :: .any :: .any :: .any :: .any :: .any :: .any :: .any :: .any :: .any :: .any :: .any :: .any :: .any :: .any :: .any :: .any :: .any :: .any :: .any :: .any :: .any :: .any :: .any :: .any :: .any :: .any :: .any :: .any :: .any :: .any :: .any :: .any :: .any :: .any :: .any :: .any :: .any :: [], [.box (encFunc f)]⟩) ?_ ?_
                  · have H := HX38
                    refine Awp.block ?_
                    obtain ⟨c39, H⟩ := M.to_chk.1 H
                    obtain ⟨c40, H⟩ := M.to_chk.1 H
                    refine wR (hx := by (refine sA (hq := Quiet.fa_ptr rfl get1 rfl) (ht := (setS32 (setS32 (setS32 (setS32 set6))))) (hk := ?_); refine sA (hq := Quiet.load_ptr rfl (getS32 (getS32 (getS32 (getS32 get6)))) rfl rfl) (ht := (setS32 (setS32 (setS32 (setS32 set7))))) (hk := ?_); refine sA (hq := Quiet.move rfl get7) (ht := (setS32 (setS32 (setS32 (setS32 (setS8 set0)))))) (hk := ?_); refine sA (hq := Quiet.ixM rfl (getS32 (getS32 (getS32 (getS32 get7)))) (getS32 (getS32 (getS32 (getS32 (getS8 get0))))) rfl c39) (ht := (setS32 (setS32 (setS32 (setS32 (setS8 set1)))))) (hk := ?_); refine sA (hq := Quiet.fa_bp rfl (getS32 (getS32 (getS32 (getS32 (getS8 get1)))))) (ht := (setS32 (setS32 (setS32 (setS32 (setS8 set2)))))) (hk := ?_); refine sA (hq := Quiet.load_bp rfl (getS32 (getS32 (getS32 (getS32 (getS8 get2))))) rfl) (ht := (setS32 (setS32 (setS32 (setS32 (setS8 set3)))))) (hk := ?_); refine sA (hq := Quiet.move rfl (getS8 get0)) (ht := (setS32 (setS32 (setS32 (setS32 (setS8 set4)))))) (hk := ?_); refine sA (hq := Quiet.ixM rfl (getS32 (getS32 (getS32 (getS32 (getS8 get3))))) (getS32 (getS32 (getS32 (getS32 (getS8 get4))))) rfl c40) (ht := (setS32 (setS32 (setS32 (setS32 (setS8 set5)))))) (hk := ?_); refine sA (hq := Quiet.loadA_bp rfl (getS32 (getS32 (getS32 (getS32 (getS8 get5))))) rfl) (ht := (setS32 (setS32 (setS32 (setS32 (setS8 set6)))))) (hk := ?_); (refine aSeq_t rfl (AOp.alI 1 rfl rfl ?_); refine sNtM (ht := (setS8 set1)) (hk := ?_)); (refine aSeq_t rfl (AOp.stBox rfl rfl rfl (Parts.aggB rfl) rfl (Nat.le_of_ble_eq_true rfl) ?_); refine sNtM (ht := setN) (hk := ?_)); exact wEnd rfl)) (hk := ?_)
                    refine Awp.seq fun Khs41 hs41 => ?_
                    refine wR (hx := by (refine sA (hq := Quiet.fa_ptr rfl (getS8 get1) rfl) (ht := (setS32 (setS32 (setS32 (setS32 (setS8 set7)))))) (hk := ?_); refine sA (hq := Quiet.load_ptr rfl (getS32 (getS32 (getS32 (getS32 (getS8 get7))))) rfl rfl) (ht := (setS32 (setS32 (setS32 (setS32 (setS8 (setS8 set0))))))) (hk := ?_); refine sA (hq := Quiet.bin rfl (getS32 (getS32 (getS32 (getS32 (getS8 (getS8 get0)))))) getC rfl) (ht := (setS32 (setS32 (setS32 (setS32 (setS8 (setS8 set1))))))) (hk := ?_); exact wEnd rfl)) (hk := ?_)
                    refine Awp.cond rfl (fun hb42 => ?_) (fun hb42 => ?_)
                    · have H := M.to_t hb42 H
                      refine Awp.exit ?_
                      repeat (first | refine athen_e ?_ | refine exO (by decide) ?_ | refine asE ?_)
                      refine exN ?_
                      have e38 := M.to_ok.1 H
                      repeat (first | refine abN ?_ | refine asN ?_)
                      refine athen_n ⟨(_, ()), e38.symm, ?_⟩
                      try dsimp only
                      exact leC (Cut.cons (Cut.nil _))
                    · have H := M.to_f hb42 H
                      refine Awp.skip ?_
                      refine hs41 _ ?_
                      refine nT (hk := ?_)
                      refine wR (hx := by (refine sA (hq := Quiet.assign rfl getC) (ht := (setS8 set2)) (hk := ?_); exact wEnd rfl)) (hk := ?_)
                      obtain ⟨z44, HX44, Hl44, Hq44⟩ := M.to_els H
                      refine Awp.tailJ (β := (Unit) × (Unit)) (fun q44 => z44 = .inl q44.1) (fun q44 => ⟨.any :: .ptr 0 0 :: .any :: .bs tPair r5 :: .bs tInt r6 :: .bs tInt.slice.slice r7 :: .any :: .lit (.int .i64 b29) :: .lit (.int .i64 i33) :: .any :: .any :: .any :: .any :: .any :: .any :: .any :: .any :: .any :: .any :: .any :: .any :: .any :: .any :: .any :: .any :: .any :: .any :: .any :: .any :: .any :: .any :: .any :: .any :: .any :: .any :: .any :: .any :: .any :: .any :: .any :: .any :: .any :: .any :: .any :: .any :: .any :: .any :: .any :: .any :: .any :: .any :: .any :: .any :: .any :: .any :: .any :: .any :: .any :: .any :: .any :: .any :: .any :: .any :: .any :: .any :: .any :: .any :: .any :: .any :: .any :: .any :: .any :: .any :: .any :: .any :: .any :: .any :: .any :: .any :: .any :: .any :: .any :: .any :: .any :: .any :: .any :: .any :: .any :: .any :: .any :: .any :: .any :: .any :: .any :: .any :: .any :: .any :: .any :: .any :: .any :: .any :: .any :: .any :: .any :: .any :: .any :: .any :: .any :: .any :: .any :: .any :: .any :: .any :: .any :: .any :: .any :: .any :: .any :: .any :: .any :: .any :: .any :: .any :: .any :: .any :: .any :: .any :: .any :: .any :: .any :: .any :: .any :: .any :: .any :: .any :: .any :: .any :: .any :: .any :: .any :: .any :: .any :: .any :: .any :: .any :: .any :: .any :: .any :: .any :: .any :: .any :: .any :: .any :: .any :: .any :: .any :: .any :: .any :: .any :: .any :: .any :: .any :: .any :: .any :: .any :: .any :: .any :: .any :: .any :: .any :: .any :: .any :: .any :: .any :: .any :: .any :: .any :: .any :: .any :: .any :: .any :: .any :: .any :: .any :: .any :: .any :: .any :: .any :: .any :: [], [.box (encFunc f), .dead]⟩) ?_ ?_
                      · refine Awp.block ?_
                        refine Awp.loopM HX44 (fun s44 b44 => ⟨.any :: .ptr 0 0 :: .any :: .bs tPair r5 :: .bs tInt r6 :: .bs tInt.slice.slice r7 :: .any :: .lit (.int .i64 b29) :: .lit (.int .i64 i33) :: .ptr 1 0 :: .lit (.int .i64 s44) :: .any :: .any :: .any :: .any :: .any :: .any :: .any :: .any :: .any :: .any :: .any :: .any :: .any :: .any :: .any :: .any :: .any :: .any :: .any :: .any :: .any :: .any :: .any :: .any :: .any :: .any :: .any :: .any :: .any :: .any :: .any :: .any :: .any :: .any :: .any :: .any :: .any :: .any :: .any :: .any :: .any :: .any :: .any :: .any :: .any :: .any :: .any :: .any :: .any :: .any :: .any :: .any :: .any :: .any :: .any :: .any :: .any :: .any :: .any :: .any :: .any :: .any :: .any :: .any :: .any :: .any :: .any :: .any :: .any :: .any :: .any :: .any :: .any :: .any :: .any :: .any :: .any :: .any :: .any :: .any :: .any :: .any :: .any :: .any :: .any :: .any :: .any :: .any :: .any :: .any :: .any :: .any :: .any :: .any :: .any :: .any :: .any :: .any :: .any :: .any :: .any :: .any :: .any :: .any :: .any :: .any :: .any :: .any :: .any :: .any :: .any :: .any :: .any :: .any :: .any :: .any :: .any :: .any :: .any :: .any :: .any :: .any :: .any :: .any :: .any :: .any :: .any :: .any :: .any :: .any :: .any :: .any :: .any :: .any :: .any :: .any :: .any :: .any :: .any :: .any :: .any :: .any :: .any :: .any :: .any :: .any :: .any :: .any :: .any :: .any :: .any :: .any :: .any :: .any :: .any :: .any :: .any :: .any :: .any :: .any :: .any :: .any :: .any :: .any :: .any :: .any :: .any :: .any :: .any :: .any :: .any :: .any :: .any :: .any :: .any :: .any :: .any :: .any :: [], [.box (encFunc f), .box (encIns (ixD ((ixD f.blocks b29).ins) i33))]⟩) () (?_) ?_
                        · try dsimp only
                          exact le_TA
                        · rintro k43 _ x44 H Hr44
                          try dsimp only
                          dsimp only [law18_InterTurned_L38] at H
                          refine Awp.seq fun Khs45 hs45 => ?_
                          obtain ⟨c46, H⟩ := M.to_chk.1 H
                          obtain ⟨c47, H⟩ := M.to_chk.1 H
                          refine wR (hx := by (refine sA (hq := Quiet.move rfl (getS8 get2)) (ht := (setS32 (setS32 (setS32 (setS32 (setS8 (setS8 set2))))))) (hk := ?_); refine sA (hq := Quiet.move rfl get5) (ht := (setS32 (setS32 (setS32 (setS32 (setS8 (setS8 set3))))))) (hk := ?_); refine sA (hq := Quiet.move rfl get7) (ht := (setS32 (setS32 (setS32 (setS32 (setS8 (setS8 set4))))))) (hk := ?_); refine sA (hq := Quiet.ixM rfl (getS32 (getS32 (getS32 (getS32 (getS8 (getS8 get3)))))) (getS32 (getS32 (getS32 (getS32 (getS8 (getS8 get4)))))) rfl c46) (ht := (setS32 (setS32 (setS32 (setS32 (setS8 (setS8 set5))))))) (hk := ?_); refine sA (hq := Quiet.load_bp rfl (getS32 (getS32 (getS32 (getS32 (getS8 (getS8 get5)))))) rfl) (ht := (setS32 (setS32 (setS32 (setS32 (setS8 (setS8 set6))))))) (hk := ?_); refine sA (hq := Quiet.move rfl (getS8 get0)) (ht := (setS32 (setS32 (setS32 (setS32 (setS8 (setS8 set7))))))) (hk := ?_); refine sA (hq := Quiet.bin rfl (getS32 (getS32 (getS32 (getS32 (getS8 (getS8 get7)))))) getC rfl) (ht := (setS32 (setS32 (setS32 (setS32 (setS8 (setS8 (setS8 set0)))))))) (hk := ?_); refine sA (hq := Quiet.ixM rfl (getS32 (getS32 (getS32 (getS32 (getS8 (getS8 get6)))))) (getS32 (getS32 (getS32 (getS32 (getS8 (getS8 (getS8 get0))))))) rfl c47) (ht := (setS32 (setS32 (setS32 (setS32 (setS8 (setS8 (setS8 set1)))))))) (hk := ?_); refine sA (hq := Quiet.load_bp rfl (getS32 (getS32 (getS32 (getS32 (getS8 (getS8 (getS8 get1))))))) rfl) (ht := (setS32 (setS32 (setS32 (setS32 (setS8 (setS8 (setS8 set2)))))))) (hk := ?_); refine sA (hq := Quiet.ln rfl (getS32 (getS32 (getS32 (getS32 (getS8 (getS8 (getS8 get2)))))))) (ht := (setS32 (setS32 (setS32 (setS32 (setS8 (setS8 (setS8 set3)))))))) (hk := ?_); refine sA (hq := Quiet.bin rfl (getS32 (getS32 (getS32 (getS32 (getS8 (getS8 get2)))))) (getS32 (getS32 (getS32 (getS32 (getS8 (getS8 (getS8 get3))))))) rfl) (ht := (setS32 (setS32 (setS32 (setS32 (setS8 (setS8 (setS8 set4)))))))) (hk := ?_); exact wEnd rfl)) (hk := ?_)
                          refine Awp.cond rfl (fun hb48 => ?_) (fun hb48 => ?_)
                          · have H := M.to_t hb48 H
                            refine Awp.skip ?_
                            refine hs45 _ ?_
                            refine nT (hk := ?_)
                            refine Awp.seq fun Khs49 hs49 => ?_
                            refine Awp.block ?_
                            obtain ⟨c50, H⟩ := M.to_chk.1 H
                            obtain ⟨c51, H⟩ := M.to_chk.1 H
                            obtain ⟨c52, H⟩ := M.to_chk.1 H
                            refine wR (hx := by (refine sA (hq := Quiet.move rfl get5) (ht := (setS32 (setS32 (setS32 (setS32 (setS8 (setS8 (setS8 set7)))))))) (hk := ?_); refine sA (hq := Quiet.move rfl get7) (ht := (setS32 (setS32 (setS32 (setS32 (setS32 set0)))))) (hk := ?_); refine sA (hq := Quiet.ixM rfl (getS32 (getS32 (getS32 (getS32 (getS8 (getS8 (getS8 get7))))))) (getS32 (getS32 (getS32 (getS32 (getS32 get0))))) rfl c50) (ht := (setS32 (setS32 (setS32 (setS32 (setS32 set1)))))) (hk := ?_); refine sA (hq := Quiet.load_bp rfl (getS32 (getS32 (getS32 (getS32 (getS32 get1))))) rfl) (ht := (setS32 (setS32 (setS32 (setS32 (setS32 set2)))))) (hk := ?_); refine sA (hq := Quiet.move rfl (getS8 get0)) (ht := (setS32 (setS32 (setS32 (setS32 (setS32 set3)))))) (hk := ?_); refine sA (hq := Quiet.bin rfl (getS32 (getS32 (getS32 (getS32 (getS32 get3))))) getC rfl) (ht := (setS32 (setS32 (setS32 (setS32 (setS32 set4)))))) (hk := ?_); refine sA (hq := Quiet.ixM rfl (getS32 (getS32 (getS32 (getS32 (getS32 get2))))) (getS32 (getS32 (getS32 (getS32 (getS32 get4))))) rfl c51) (ht := (setS32 (setS32 (setS32 (setS32 (setS32 set5)))))) (hk := ?_); refine sA (hq := Quiet.load_bp rfl (getS32 (getS32 (getS32 (getS32 (getS32 get5))))) rfl) (ht := (setS32 (setS32 (setS32 (setS32 (setS32 set6)))))) (hk := ?_); refine sA (hq := Quiet.move rfl (getS8 get2)) (ht := (setS32 (setS32 (setS32 (setS32 (setS32 set7)))))) (hk := ?_); refine sA (hq := Quiet.ixM rfl (getS32 (getS32 (getS32 (getS32 (getS32 get6))))) (getS32 (getS32 (getS32 (getS32 (getS32 get7))))) rfl c52) (ht := (setS32 (setS32 (setS32 (setS32 (setS32 (setS8 set0))))))) (hk := ?_); refine sA (hq := Quiet.load_bp rfl (getS32 (getS32 (getS32 (getS32 (getS32 (getS8 get0)))))) rfl) (ht := (setS32 (setS32 (setS32 (setS32 (setS32 (setS8 set1))))))) (hk := ?_); refine sA (hq := Quiet.assign rfl (getS32 (getS32 (getS32 (getS32 (getS32 (getS8 get1))))))) (ht := (setS8 set3)) (hk := ?_); exact wEnd rfl)) (hk := ?_)
                            obtain ⟨r53, k53, H⟩ := M.to_bnd.1 H
                            obtain ⟨r54, k54, H⟩ := M.to_bnd.1 H
                            refine wR (hx := by (refine sA (hq := Quiet.move rfl (getS8 get3)) (ht := (setS32 (setS32 (setS32 (setS32 (setS32 (setS8 set2))))))) (hk := ?_); refine sA (hq := Quiet.fa_ptr rfl (getS8 get1) rfl) (ht := (setS32 (setS32 (setS32 (setS32 (setS32 (setS8 set3))))))) (hk := ?_); refine sA (hq := Quiet.load_ptr rfl (getS32 (getS32 (getS32 (getS32 (getS32 (getS8 get3)))))) rfl rfl) (ht := (setS32 (setS32 (setS32 (setS32 (setS32 (setS8 set4))))))) (hk := ?_); refine sA (hq := Quiet.bin rfl (getS32 (getS32 (getS32 (getS32 (getS32 (getS8 get2)))))) (getS32 (getS32 (getS32 (getS32 (getS32 (getS8 get4)))))) rfl) (ht := (setS32 (setS32 (setS32 (setS32 (setS32 (setS8 set5))))))) (hk := ?_); refine sA (hq := Quiet.move rfl (getS32 (getS32 (getS32 (getS32 (getS32 (getS8 get5))))))) (ht := (setS32 (setS32 (setS32 (setS32 (setS32 (setS8 set6))))))) (hk := ?_); refine sG (g := ((ixD (ixD (ixD r7 b29) (IntKind.i64.wrap (i33 + 1))) k43) != ((ixD ((ixD f.blocks b29).ins) i33).d))) (hg := gA_t rfl) (hq := fun hg => Quiet.move rfl get3) (ht := (setS32 (setS32 (setS32 (setS32 (setS32 (setS8 set7))))))) (hk := ?_); refine sG (g := ((ixD (ixD (ixD r7 b29) (IntKind.i64.wrap (i33 + 1))) k43) != ((ixD ((ixD f.blocks b29).ins) i33).d))) (hg := gA_t rfl) (hq := fun hg => Quiet.move rfl (getS8 get3)) (ht := (setS32 (setS32 (setS32 (setS32 (setS32 (setS8 (setS8 set0)))))))) (hk := ?_); refine sG (g := ((ixD (ixD (ixD r7 b29) (IntKind.i64.wrap (i33 + 1))) k43) != ((ixD ((ixD f.blocks b29).ins) i33).d))) (hg := gA_t rfl) (hq := fun hg => Quiet.fa_ptr rfl (getS8 get1) rfl) (ht := (setS32 (setS32 (setS32 (setS32 (setS32 (setS8 (setS8 set1)))))))) (hk := ?_); refine sG (g := ((ixD (ixD (ixD r7 b29) (IntKind.i64.wrap (i33 + 1))) k43) != ((ixD ((ixD f.blocks b29).ins) i33).d))) (hg := gA_t rfl) (hq := fun hg => Quiet.load_ptr rfl ((getS32 (getS32 (getS32 (getS32 (getS32 (getS8 (getS8 get1))))))).trans (cndT hg _ _)) rfl rfl) (ht := (setS32 (setS32 (setS32 (setS32 (setS32 (setS8 (setS8 set2)))))))) (hk := ?_); refine sG (g := ((ixD (ixD (ixD r7 b29) (IntKind.i64.wrap (i33 + 1))) k43) != ((ixD ((ixD f.blocks b29).ins) i33).d))) (hg := gA_t rfl) (hq := fun hg => by ((try simp only [cndT hg]); (try simp only [cndA hg]); exact Quiet.callA rfl rfl (law18_has_l (M.to_whn k53 hg)) rfl rfl)) (ht := (setS32 (setS32 (setS32 (setS32 (setS32 (setS8 (setS8 set3)))))))) (hk := ?_); refine sG (g := ((ixD (ixD (ixD r7 b29) (IntKind.i64.wrap (i33 + 1))) k43) != ((ixD ((ixD f.blocks b29).ins) i33).d))) (hg := gA_t rfl) (hq := fun hg => Quiet.bnot rfl ((getS32 (getS32 (getS32 (getS32 (getS32 (getS8 (getS8 get3))))))).trans (cndT hg _ _))) (ht := (setS32 (setS32 (setS32 (setS32 (setS32 (setS8 (setS8 set4)))))))) (hk := ?_); refine sG (g := ((ixD (ixD (ixD r7 b29) (IntKind.i64.wrap (i33 + 1))) k43) != ((ixD ((ixD f.blocks b29).ins) i33).d))) (hg := gA_t rfl) (hq := fun hg => Quiet.move rfl ((getS32 (getS32 (getS32 (getS32 (getS32 (getS8 (getS8 get4))))))).trans (cndT hg _ _))) (ht := (setS32 (setS32 (setS32 (setS32 (setS32 (setS8 (setS8 set5)))))))) (hk := ?_); refine sG (g := (((ixD (ixD (ixD r7 b29) (IntKind.i64.wrap (i33 + 1))) k43) != ((ixD ((ixD f.blocks b29).ins) i33).d)) && (!(!r53)))) (hg := gA_fc rfl rfl) (hq := fun hg => by (have hg' := and_l hg; exact Quiet.move rfl get4)) (ht := (setS32 (setS32 (setS32 (setS32 (setS32 (setS8 (setS8 set6)))))))) (hk := ?_); refine sG (g := (((ixD (ixD (ixD r7 b29) (IntKind.i64.wrap (i33 + 1))) k43) != ((ixD ((ixD f.blocks b29).ins) i33).d)) && (!(!r53)))) (hg := gA_fc rfl rfl) (hq := fun hg => by (have hg' := and_l hg; exact Quiet.move rfl (getS8 get3))) (ht := (setS32 (setS32 (setS32 (setS32 (setS32 (setS8 (setS8 set7)))))))) (hk := ?_); refine sG (g := (((ixD (ixD (ixD r7 b29) (IntKind.i64.wrap (i33 + 1))) k43) != ((ixD ((ixD f.blocks b29).ins) i33).d)) && (!(!r53)))) (hg := gA_fc rfl rfl) (hq := fun hg => by (have hg' := and_l hg; (try simp only [cndT hg, cndT hg']); (try simp only [cndA hg, cndA hg']); exact Quiet.callA rfl rfl (law18_in_l (M.to_whn k54 hg)) rfl rfl)) (ht := (setS32 (setS32 (setS32 (setS32 (setS32 (setS8 (setS8 (setS8 set0))))))))) (hk := ?_); refine sG (g := (((ixD (ixD (ixD r7 b29) (IntKind.i64.wrap (i33 + 1))) k43) != ((ixD ((ixD f.blocks b29).ins) i33).d)) && (!(!r53)))) (hg := gA_fc rfl rfl) (hq := fun hg => by (have hg' := and_l hg; exact Quiet.bnot rfl ((getS32 (getS32 (getS32 (getS32 (getS32 (getS8 (getS8 (getS8 get0)))))))).trans (cndT hg _ _)))) (ht := (setS32 (setS32 (setS32 (setS32 (setS32 (setS8 (setS8 (setS8 set1))))))))) (hk := ?_); refine sG (g := ((ixD (ixD (ixD r7 b29) (IntKind.i64.wrap (i33 + 1))) k43) != ((ixD ((ixD f.blocks b29).ins) i33).d))) (hg := gA_t rfl) (hq := fun hg => Quiet.pickOrB rfl ((getS32 (getS32 (getS32 (getS32 (getS32 (getS8 (getS8 get5))))))).trans (cndT hg _ _)) getC ((getS32 (getS32 (getS32 (getS32 (getS32 (getS8 (getS8 (getS8 get1)))))))).trans (cndA hg _ _))) (ht := (setS32 (setS32 (setS32 (setS32 (setS32 (setS8 (setS8 (setS8 set2))))))))) (hk := ?_); refine sA (hq := Quiet.pickAndB rfl (getS32 (getS32 (getS32 (getS32 (getS32 (getS8 get6)))))) (getS32 (getS32 (getS32 (getS32 (getS32 (getS8 (getS8 (getS8 get2)))))))) getC) (ht := (setS32 (setS32 (setS32 (setS32 (setS32 (setS8 (setS8 (setS8 set3))))))))) (hk := ?_); exact wEnd rfl)) (hk := ?_)
                            refine Awp.cond rfl (fun hb55 => ?_) (fun hb55 => ?_)
                            · have H := M.to_t hb55 H
                              refine wR (hx := by (refine sA (hq := Quiet.assign rfl getC) (ht := set2) (hk := ?_); exact wEnd rfl)) (hk := ?_)
                              have H := M.to_ok.2 (Hq44 _ (Hr44 _ (M.to_ok.1 H).symm).symm)
                              have H := M.to_ok.2 (Hr38 _ (M.to_ok.1 H).symm)
                              have H := M.to_ok.2 (Hq34 _ (Hr34 _ (M.to_ok.1 H).symm).symm)
                              have H := M.to_ok.2 (Hq30 _ (Hr30 _ (M.to_ok.1 H).symm).symm)
                              obtain rfl := M.to_ok.1 H
                              exact Awp.ret ⟨.inr rfl, Fin.cl rfl⟩
                            · have H := M.to_f hb55 H
                              refine Awp.skip ?_
                              refine hs49 _ ?_
                              refine nT (hk := ?_)
                              refine wRE (hx := by (refine sA (hq := Quiet.move rfl (getS8 get2)) (ht := (setS32 (setS32 (setS32 (setS32 (setS8 (setS8 (setS8 set5)))))))) (hk := ?_); refine sA (hq := Quiet.bin rfl (getS32 (getS32 (getS32 (getS32 (getS8 (getS8 (getS8 get5))))))) getC rfl) (ht := (setS32 (setS32 (setS32 (setS32 (setS8 (setS8 (setS8 set6)))))))) (hk := ?_); refine sA (hq := Quiet.assign rfl (getS32 (getS32 (getS32 (getS32 (getS8 (getS8 (getS8 get6)))))))) (ht := (setS8 set2)) (hk := ?_); exact wEnd rfl)) (hk := ?_)
                              have e44 := M.to_ok.1 H
                              repeat (first | refine abN ?_ | refine asN ?_)
                              refine athen_n ⟨_, (), e44.symm, ?_⟩
                              try dsimp only
                              exact le_TA
                          · have H := M.to_f hb48 H
                            refine Awp.exit ?_
                            repeat (first | refine athen_e ?_ | refine exO (by decide) ?_ | refine asE ?_)
                            refine exN ?_
                            have e44 := Hr44 _ (M.to_ok.1 H).symm
                            repeat (first | refine abN ?_ | refine asN ?_)
                            refine athen_n ⟨(_, ()), e44.symm, ?_⟩
                            try dsimp only
                            exact leC (Cut.cons (Cut.dead (Cut.nil _)))
                      · rintro ⟨_, _⟩ s44 hz44 hle44
                        try dsimp only at hz44
                        try dsimp only at hle44
                        have H := Hl44 _ hz44
                        have e38 := M.to_ok.1 H
                        repeat (first | refine abN ?_ | refine asN ?_)
                        refine athen_n ⟨(_, ()), e38.symm, ?_⟩
                        try dsimp only
                        refine St.le.trans hle44 ?_
                        exact leC (Cut.cons (Cut.nil _))
                  · rintro ⟨_, _⟩ hz38
                    try dsimp only at hz38
                    have H := Hl38 _ hz38
                    try dsimp only
                    refine wRE (hx := by (refine sA (hq := Quiet.move rfl (getS8 get0)) (ht := (setS32 (setS32 (setS32 (setS32 set4))))) (hk := ?_); refine sA (hq := Quiet.bin rfl (getS32 (getS32 (getS32 (getS32 get4)))) getC rfl) (ht := (setS32 (setS32 (setS32 (setS32 set5))))) (hk := ?_); refine sA (hq := Quiet.assign rfl (getS32 (getS32 (getS32 (getS32 get5))))) (ht := (setS8 set0)) (hk := ?_); exact wEnd rfl)) (hk := ?_)
                    have e34 := M.to_ok.1 H
                    repeat (first | refine abN ?_ | refine asN ?_)
                    refine athen_n ⟨_, (), e34.symm, ?_⟩
                    try dsimp only
                    exact le_TA
                · have H := M.to_f hb37 H
                  refine Awp.exit ?_
                  repeat (first | refine athen_e ?_ | refine exO (by decide) ?_ | refine asE ?_)
                  refine exN ?_
                  have e34 := Hr34 _ (M.to_ok.1 H).symm
                  repeat (first | refine abN ?_ | refine asN ?_)
                  refine athen_n ⟨(_, ()), e34.symm, ?_⟩
                  try dsimp only
                  exact le_TA
            · rintro ⟨_, _⟩ hz34
              try dsimp only at hz34
              have H := Hl34 _ hz34
              try dsimp only
              refine wRE (hx := by (refine sA (hq := Quiet.move rfl get7) (ht := (setS32 (setS32 (setS32 (setS8 (setS8 (setS8 set1))))))) (hk := ?_); refine sA (hq := Quiet.bin rfl (getS32 (getS32 (getS32 (getS8 (getS8 (getS8 get1)))))) getC rfl) (ht := (setS32 (setS32 (setS32 (setS8 (setS8 (setS8 set2))))))) (hk := ?_); refine sA (hq := Quiet.assign rfl (getS32 (getS32 (getS32 (getS8 (getS8 (getS8 get2))))))) (ht := set7) (hk := ?_); exact wEnd rfl)) (hk := ?_)
              have e30 := M.to_ok.1 H
              repeat (first | refine abN ?_ | refine asN ?_)
              refine athen_n ⟨_, (), e30.symm, ?_⟩
              try dsimp only
              exact le_TA
          · have H := M.to_f hb32 H
            refine Awp.exit ?_
            repeat (first | refine athen_e ?_ | refine exO (by decide) ?_ | refine asE ?_)
            refine exN ?_
            have e30 := Hr30 _ (M.to_ok.1 H).symm
            repeat (first | refine abN ?_ | refine asN ?_)
            refine athen_n ⟨(_, ()), e30.symm, ?_⟩
            try dsimp only
            exact leC (Cut.dead (Cut.nil _))
      · rintro ⟨_, _⟩ hz30
        try dsimp only at hz30
        have H := Hl30 _ hz30
        try dsimp only
        obtain ⟨r56, k56, H⟩ := M.to_bnd.1 H
        have k56 := law18_head_l k56
        refine wR (hx := by (refine sA (hq := Quiet.callA rfl rfl k56 rfl rfl) (ht := (setS32 (setS32 (setS32 (setS32 (setS32 (setS8 (setS8 (setS8 set4))))))))) (hk := ?_); refine sA (hq := Quiet.assign rfl (getS32 (getS32 (getS32 (getS32 (getS32 (getS8 (getS8 (getS8 get4))))))))) (ht := set2) (hk := ?_); exact wEnd rfl)) (hk := ?_)
        obtain rfl := M.to_ok.1 H
        exact Awp.ret ⟨.inr rfl, Fin.cl rfl⟩
end Mu
end
section
/-
  Which pairs part, and which registers cross, of a function with an instruction more, and at each call: plain law.
  Conditions: none.
-/
namespace Mu
open Go Go.RowKit Go.Proofs

theorem mem_place {f : Func} {b i : Nat} {r : Int} : r ∈ placeL f (regsL f) b i ↔ inS ((insOf f b).drop i) (outS f b) r = true := by
  unfold placeL
  rw [List.mem_filter, liveAt_eq f (outS f b) b i (fun r => outS_iff)]
  exact ⟨fun h => h.2, fun h => ⟨inS_subR f b i r h, h⟩⟩
theorem mem_steps {f : Func} {q : Ins × List Int} : q ∈ stepsL f ↔ ∃ b i, b < f.blocks.length ∧ (insOf f b)[i]? = some q.1 ∧ q.2 = placeL f (regsL f) b (i + 1) := by
  constructor
  · intro h
    unfold stepsL at h
    obtain ⟨b, hb, hq⟩ := List.mem_flatMap.1 h
    obtain ⟨i, hi⟩ := List.mem_iff_getElem?.1 hq
    unfold stepsB at hi
    obtain ⟨h1, h2⟩ := List.getElem?_zip_eq_some.1 hi
    rw [List.getElem?_drop, Nat.add_comm] at h2
    unfold blockL at h2
    rw [List.getElem?_map] at h2
    obtain ⟨k, h3, h4⟩ := Option.map_eq_some_iff.1 h2
    have h5 := (List.getElem?_eq_some_iff.1 h3).1
    rw [List.length_range] at h5
    rw [List.getElem?_range h5] at h3
    cases h3
    exact ⟨b, i, List.mem_range.1 hb, h1, h4.symm⟩
  · rintro ⟨b, i, hb, hx, hl⟩
    have hi := (List.getElem?_eq_some_iff.1 hx).1
    refine List.mem_of_getElem? (stepsL_at hb hx (l := q.2) ?_)
    unfold blockL
    rw [List.getElem?_map, List.getElem?_range (by omega), hl]
    rfl
theorem mem_edgeA {q : Ins × List Int} {x : Pair} : x ∈ edgeA q ↔ ∃ r ∈ q.2, edgeR q r = true ∧ x ∈ pairOf q.1.d r := by
  unfold edgeA
  simp only [List.mem_flatMap, List.mem_filter, and_assoc]
theorem pairOf_self (a : Int) : pairOf a a = [] := if_pos rfl
theorem pairOf_comm (a b : Int) : pairOf a b = pairOf b a := by
  unfold pairOf
  rw [Int.min_comm, Int.max_comm]
  by_cases h : a = b
  · rw [if_pos h, if_pos h.symm]
  · rw [if_neg h, if_neg (Ne.symm h)]
theorem mem_edgeF {l : List Int} {x : Pair} : x ∈ edgeF l ↔ ∃ a ∈ l, ∃ b ∈ l, x ∈ pairOf a b := by
  have key : ∀ (i j : Nat) (a b : Int), j < i → l[i]? = some a → l[j]? = some b → x ∈ pairOf a b → x ∈ edgeF l := fun i j a b hji ha hb hx => by
    unfold edgeF
    refine List.mem_flatMap.2 ⟨i, List.mem_range.2 (List.getElem?_eq_some_iff.1 ha).1, List.mem_flatMap.2 ⟨b, ?_, by rw [ha]; exact hx⟩⟩
    exact List.mem_of_getElem? (i := j) (by rw [List.getElem?_take, if_pos hji]; exact hb)
  constructor
  · intro h
    unfold edgeF at h
    obtain ⟨i, hi, h⟩ := List.mem_flatMap.1 h
    obtain ⟨b, hb, h⟩ := List.mem_flatMap.1 h
    have hi := List.mem_range.1 hi
    rw [List.getElem?_eq_getElem hi] at h
    exact ⟨_, List.getElem_mem hi, b, List.mem_of_mem_take hb, h⟩
  · rintro ⟨a, ha, b, hb, hx⟩
    obtain ⟨i, hi⟩ := List.mem_iff_getElem?.1 ha
    obtain ⟨j, hj⟩ := List.mem_iff_getElem?.1 hb
    rcases Nat.lt_trichotomy i j with h | h | h
    · exact key j i b a h hj hi (by rw [pairOf_comm]; exact hx)
    · subst h
      rw [hi] at hj
      cases hj
      rw [pairOf_self] at hx
      cases hx
    · exact key i j a b h hi hj hx
theorem edgesS_iff {f : Func} {x : Pair} : edgesS f x = true ↔ (∃ q ∈ stepsL f, x ∈ edgeA q) ∨ x ∈ edgeF (firstL f) := by
  unfold edgesS edgeK
  rw [addPL_iff, addPL_iff, List.take_length, List.mem_flatMap]
  simp
theorem movesS_iff {f : Func} {x : Pair} : mvK f (stepsL f).length x = true ↔ ∃ q ∈ stepsL f, x ∈ mvA q := by
  unfold mvK
  rw [addPL_iff, List.take_length, List.mem_flatMap]
  simp
theorem mem_edgesL {f : Func} {x : Pair} : x ∈ edgesL f ↔ edgesS f x = true := mem_asPairs (regs18_asc f).1 (edgesS_in f)
theorem mem_movesL {f : Func} {x : Pair} : x ∈ mvL f ↔ mvK f (stepsL f).length x = true := mem_asPairs (regs18_asc f).1 (movesK_in f _)
theorem edgesL_asc (f : Func) : AscP (edgesL f) := asPairs_asc (regs18_asc f).1
theorem mem_crossL {f : Func} {r : Int} : r ∈ crossL f ↔ ∃ q ∈ stepsL f, r ∈ crossA q := by
  unfold crossL
  rw [List.mem_filter]
  have e : crossK f (stepsL f).length r = true ↔ ∃ q ∈ stepsL f, r ∈ crossA q := by
    unfold crossK addL
    rw [List.take_length]
    simp only [Bool.false_or, List.contains_iff_mem, List.mem_flatMap]
  rw [e]
  refine ⟨fun h => h.2, fun h => ⟨?_, h⟩⟩
  obtain ⟨q, hq, hr⟩ := h
  exact crossA_sub (stepsL_mem hq).2.1 r hr
theorem firstL_eq {f : Func} (h : f.blocks.length ≠ 0) : firstL f = inL f 0 := by
  unfold firstL
  rw [if_neg h, blockL_first]
  rfl

/-! ### from both sides -/
theorem edges_lt {f : Func} {x : Pair} (h : x ∈ edgesL f) : x.a < x.b := (edgesS_in f x (mem_edgesL.1 h)).2.2
theorem near_of {f : Func} {x : Pair} (h : x ∈ edgesL f) : x.b ∈ nearL f x.a ∧ x.a ∈ nearL f x.b := by
  obtain ⟨h1, h2, h3⟩ := edgesS_in f x (mem_edgesL.1 h)
  have hs := mem_edgesL.1 h
  unfold nearL
  simp only [List.mem_filter, Bool.and_eq_true, bne_iff_ne, ne_eq]
  refine ⟨⟨h2, by omega, ?_⟩, h1, by omega, ?_⟩
  · rw [Int.min_eq_left (by omega), Int.max_eq_right (by omega)]; exact hs
  · rw [Int.min_eq_right (by omega), Int.max_eq_left (by omega)]; exact hs
theorem call_edge {f : Func} {q : Ins × List Int} (hq : q ∈ stepsL f) (h5 : q.1.op = 5) {r : Int} (hr : r ∈ q.2) (hd : r ≠ q.1.d) : (⟨min r q.1.d, max r q.1.d⟩ : Pair) ∈ edgesL f ∧ r ∈ crossL f := by
  refine ⟨mem_edgesL.2 (edgesS_iff.2 (.inl ⟨q, hq, mem_edgeA.2 ⟨r, hr, ?_, ?_⟩⟩)), mem_crossL.2 ⟨q, hq, ?_⟩⟩
  · unfold edgeR writesB
    rw [h5]
    rfl
  · rw [pairOf_comm]
    unfold pairOf
    rw [if_neg hd]
    simp
  · rw [crossA_eq, List.mem_filter]
    refine ⟨hr, ?_⟩
    unfold crossQ
    simp [h5, hd]

/-! ### an instruction more -/
section
variable {f : Func} {b : Nat} {bl : Block} {x : Ins} (hb : f.blocks[b]? = some bl) (hne : bl.ins ≠ []) (hw : writesB x = false)
include hb hne hw
theorem outS_put {k : Nat} {r : Int} (h : outS f k r = true) : outS (putIns f b bl x) k r = true := outS_iff.2 (lout_put hb hne (by rw [hw]; rfl) (outS_iff.1 h))
theorem steps_put {q : Ins × List Int} (h : q ∈ stepsL f) : ∃ l, (q.1, l) ∈ stepsL (putIns f b bl x) ∧ ∀ r ∈ q.2, r ∈ l := by
  obtain ⟨c, i, hc, hx, hl⟩ := mem_steps.1 h
  have hlen : (putIns f b bl x).blocks.length = f.blocks.length := by simp [putIns]
  by_cases hcb : c = b
  · subst hcb
    have e1 : insOf f c = bl.ins := by unfold insOf; rw [hb]
    have e2 : insOf (putIns f c bl x) c = x :: bl.ins := by rw [insOf_put hb, if_pos rfl]
    refine ⟨placeL (putIns f c bl x) (regsL (putIns f c bl x)) c (i + 2), mem_steps.2 ⟨c, i + 1, by rw [hlen]; exact hc, by rw [e2]; rw [e1] at hx; exact hx, rfl⟩, fun r hr => ?_⟩
    rw [hl] at hr
    have hr := mem_place.1 hr
    refine mem_place.2 ?_
    rw [e2]
    rw [e1] at hr
    exact inS_mono (fun _ h => outS_put hb hne hw h) _ hr
  · have e2 : insOf (putIns f b bl x) c = insOf f c := by rw [insOf_put hb, if_neg hcb]
    refine ⟨placeL (putIns f b bl x) (regsL (putIns f b bl x)) c (i + 1), mem_steps.2 ⟨c, i, by rw [hlen]; exact hc, by rw [e2]; exact hx, rfl⟩, fun r hr => ?_⟩
    rw [hl] at hr
    have hr := mem_place.1 hr
    refine mem_place.2 ?_
    rw [e2]
    exact inS_mono (fun _ h => outS_put hb hne hw h) _ hr
theorem edges_put {y : Pair} (h : y ∈ edgesL f) : y ∈ edgesL (putIns f b bl x) := by
  refine mem_edgesL.2 (edgesS_iff.2 ?_)
  have hlen : (putIns f b bl x).blocks.length = f.blocks.length := by simp [putIns]
  rcases edgesS_iff.1 (mem_edgesL.1 h) with ⟨q, hq, hy⟩ | hy
  · left
    obtain ⟨l, hl, hs⟩ := steps_put hb hne hw hq
    obtain ⟨r, hr, he, hp⟩ := mem_edgeA.1 hy
    exact ⟨_, hl, mem_edgeA.2 ⟨r, hs r hr, he, hp⟩⟩
  · right
    have h0 : f.blocks.length ≠ 0 := fun e => by have := (List.getElem?_eq_some_iff.1 hb).1; omega
    rw [firstL_eq h0] at hy
    rw [firstL_eq (by rw [hlen]; exact h0)]
    obtain ⟨a, ha, c, hc, hp⟩ := mem_edgeF.1 hy
    have up : ∀ r ∈ inL f 0, r ∈ inL (putIns f b bl x) 0 := fun r hr => mem_inL.2 (lin_put hb hne (by rw [hw]; rfl) (mem_inL.1 hr))
    exact mem_edgeF.2 ⟨a, up a ha, c, up c hc, hp⟩
theorem cross_put {r : Int} (h : r ∈ crossL f) : r ∈ crossL (putIns f b bl x) := by
  obtain ⟨q, hq, hr⟩ := mem_crossL.1 h
  obtain ⟨l, hl, hs⟩ := steps_put hb hne hw hq
  refine mem_crossL.2 ⟨_, hl, ?_⟩
  rw [crossA_eq, List.mem_filter] at hr ⊢
  exact ⟨hs r hr.1, hr.2⟩
theorem moves_put (h2 : x.op ≠ 2) : mvL f = mvL (putIns f b bl x) := by
  refine ascP_ext (asPairs_asc (regs18_asc f).1) (asPairs_asc (regs18_asc _).1) fun y => ?_
  show y ∈ mvL f ↔ y ∈ mvL _
  rw [mem_movesL, mem_movesL, movesS_iff, movesS_iff]
  have hlen : (putIns f b bl x).blocks.length = f.blocks.length := by simp [putIns]
  constructor
  · rintro ⟨q, hq, hy⟩
    obtain ⟨l, hl, _⟩ := steps_put hb hne hw hq
    exact ⟨_, hl, hy⟩
  · rintro ⟨q, hq, hy⟩
    have hq2 : q.1.op = 2 := by
      unfold mvA at hy
      split at hy
      · assumption
      · cases hy
    obtain ⟨c, i, hc, hx, hl⟩ := mem_steps.1 hq
    rw [hlen] at hc
    rw [insOf_put hb] at hx
    by_cases hcb : c = b
    · subst hcb
      rw [if_pos rfl] at hx
      cases i with
      | zero => cases hx; exact absurd hq2 h2
      | succ i =>
        have e1 : insOf f c = bl.ins := by unfold insOf; rw [hb]
        exact ⟨(q.1, placeL f (regsL f) c (i + 1)), mem_steps.2 ⟨c, i, hc, by rw [e1]; exact hx, rfl⟩, hy⟩
    · rw [if_neg hcb] at hx
      exact ⟨(q.1, placeL f (regsL f) c (i + 1)), mem_steps.2 ⟨c, i, hc, hx, rfl⟩, hy⟩
end
end Mu
end
section
/-
  muntinlaw17: LiveMore, LiveCuts, walked.
  Conditions: at most 1500000 of everything.
-/
namespace Mu
open Go Go.RowKit Go.Proofs
instance : AG Try.prog 5 false 1 := ⟨by kernel_rfl⟩
instance : SZ Try.prog 5 1 := ⟨by kernel_rfl⟩

section
variable {P : Program} {C : Ctx} {t : List AV} {h : List ABlk} {o : Oper}
theorem Quiet.cvt {src dst : TypeId} {x : Operand} {k q : IntKind} {n m : Int} (hs : (P.underlying src).isSome = true) (hd : P.underlying dst = some (.int k)) (ho : o.op = .convert src dst x) (hx : evA t x = .lit (.int q n)) (hm : k.wrap n = m) : Quiet P C t h o (.lit (.int k m)) :=
  Quiet.of_run fun S ψ w ρ _ hρ => by
    have h1 := hρ x (by simp [ho, Op.operands])
    rw [hx] at h1
    unfold AV.rel at h1
    have hk : P.intKind dst = k := by simp [Program.intKind, hd]
    have hr := run_convert_int w src dst q n hs (by rw [hk]; exact hd)
    rw [hk] at hr
    refine ⟨.int k (k.wrap n), ?_, by rw [hm]; unfold AV.rel; rfl⟩
    simp [execOp, ho, h1, hr]
theorem Quiet.remN {xt yt : TypeId} {x y : Operand} {k : IntKind} {a b c : Nat} (hb : 0 < b) (hc : a % b = c) (ho : o.op = .binOp .rem xt x y yt) (hx : evA t x = .lit (.int k (a : Int))) (hy : evA t y = .lit (.int k (b : Int))) : Quiet P C t h o (.lit (.int k (c : Int))) := by
  refine Quiet.bin ho hx hy ?_
  unfold intBin
  have : ¬ (b : Int) = 0 := by omega
  simp only [if_neg this]
  rw [← hc, Int.tmod_eq_emod_of_nonneg (by omega)]
  rfl
end
/-- another row of instructions is put into a block -/
theorem upd_ins {h : List ABlk} {bl : Block} {l : List Ins} : RowUpd h tBlock bl 1 (.bs tIns l) 1 ⟨bl.name, l⟩ := fun C S ψ w v cs H hv hcs => by
  unfold AV.rel at hv
  obtain ⟨A, c, rfl⟩ := slice_form hv
  obtain ⟨A', c', rfl, h1, h2⟩ := tBlock_R.1 hcs
  refine ⟨rfl, by decide, fun u hu => ?_, tBlock_R.2 ⟨A, c, rfl, h1, hv⟩⟩
  simp [Value.cells] at hu
  subst hu
  rfl
theorem One.own' {h : List ABlk} {i ver : Nat} {e : TypeId} {α : Type} {T : Ty α} {l : List α} (hi : h[i]? = some (.row ver e T l)) : Parts h (.own i ver) [.own i ver] := Parts.one (One.own hi)
def insM (r : Int) : Ins := ⟨6, 0, r, 0, 0, 0, [], 0, 0⟩
theorem ok_insM {r : Int} (h : wfI .i64 r) : okIns (insM r) := ⟨(by decide : (Lit.int .u8 (6 : Int)).wf = true), (by decide : (Lit.int .i64 (0 : Int)).wf = true), h, (by decide : (Lit.int .i64 (0 : Int)).wf = true), (by decide : (Lit.int .u32 (0 : Int)).wf = true), (by decide : (Lit.int .i64 (0 : Int)).wf = true), (by decide : (Lit.int .i64 (0 : Int)).wf = true), (by decide : (Lit.int .i64 (0 : Int)).wf = true), fun x hx => by cases hx⟩
theorem writesM (r : Int) : writesB (insM r) = false := rfl
end Mu
end
section
/-
  bound.Hints, walked.
  Conditions: at most 2^21 of everything.
-/
namespace Mu
open Go Go.RowKit Go.Proofs

end Mu
end
section
/-
  What a bulk of at most 2^21 gives of a program and its functions, for the Bound laws.
  Conditions: none.
-/
namespace Mu
open Go Go.RowKit Go.Proofs
theorem regs_ins (l : List Ins) : (l.flatMap regsX).length ≤ bulkL tIns.bulk l := by
  induction l with
  | nil => simp [bulkL]
  | cons x l ih =>
    have h1 := readsC_len2 x
    have h2 := bulk_ins x
    have h3 := bulkL_length one_int x.args
    have h4 : (regsX x).length ≤ (readsC x).length + 1 := by
      unfold regsX
      rw [List.length_append]
      split <;> simp
    simp only [List.flatMap_cons, List.length_append, bulkL]
    omega
theorem regs_blocks (l : List Block) : (l.flatMap fun b => b.ins.flatMap regsX).length ≤ bulkL tBlock.bulk l := by
  induction l with
  | nil => simp [bulkL]
  | cons b l ih =>
    have h1 := regs_ins b.ins
    have h2 := bulk_block b
    simp only [List.flatMap_cons, List.length_append, bulkL]
    omega
theorem allX_func {f : Func} (h : tFunc.bulk f ≤ 2097152) : (allX f).length ≤ 2097152 := by
  have h1 := regs_blocks f.blocks
  have h2 := bulk_func f
  have e : (allX f).length = (f.blocks.flatMap fun b => b.ins.flatMap regsX).length := rfl
  omega
end Mu
end
section
/-
  muntinlaw18.InterMore, walked: it answers true of any function, place and register.
  Conditions: at most 1500000 of everything in all.
-/
namespace Mu
open Go Go.RowKit Go.Proofs

theorem fine_func {f : Func} (ho : okFunc f) (h : tFunc.bulk f ≤ 2097152) : FineF f := ⟨ho, small_func h, reads_func h, allX_func h, ins1_func h⟩
theorem edges_len {f : Func} (hA : (allX f).length ≤ 2097152) : (edgesL f).length ≤ 4398046511104 := Nat.le_trans (List.length_filter_le _ _) (edges_row hA).lens
theorem moves_len {f : Func} (hA : (allX f).length ≤ 2097152) : (mvL f).length ≤ 4398046511104 := Nat.le_trans (List.length_filter_le _ _) (edges_row hA).lens
theorem cross_len {f : Func} (hT : (allReads f).length ≤ 2097152) : (crossL f).length ≤ 2097152 := Nat.le_trans (List.length_filter_le _ _) (Nat.le_trans (regsOf_le _) hT)
theorem has18_at {l : List Pair} {x : Pair} (hn : l.length ≤ 4398046511104) (hx : x ∈ l) (hlt : x.a < x.b) : Fn Try.prog 15 [.bs tPair l, .lit (.int .i64 x.a), .lit (.int .i64 x.b)] (.lit (.bool true)) := by
  refine law18_has_l (has18_to (by omega) ?_)
  rw [Int.min_eq_left (by omega), Int.max_eq_right (by omega)]
  exact hx
theorem in18_at {l : List Int} {n : Int} (hn : l.length ≤ 2097152) (hx : n ∈ l) : Fn Try.prog 13 [.bs tInt l, .lit (.int .i64 n)] (.lit (.bool true)) := law18_in_l (in18_to (by omega) hx)
set_option maxRecDepth 100000 in
set_option maxHeartbeats 4000000 in
theorem interMore18_fn (f : Func) (a : Nat) (r : Int) (ho : okFunc f) (hbk : tFunc.bulk f ≤ 1500000) (ha : a ≤ 255) (hr : wfI .i64 r) : Fn Try.prog 4 [.agg (encFunc f), .lit (.int .u8 (a : Int)), .lit (.int .i64 r)] (.lit (.bool true)) := by
  have c := fine_func ho (show tFunc.bulk f ≤ 2097152 by omega)
  have hs := c.small
  have hT := c.reads
  have hA := c.all
  have hbl := hs.blocks
  have hgr := great18_fn f ho hs hA
  refine Fn.of_awp Try.func4 rfl (by kernel_rfl) rfl Try.ntmps4 fun C hC => ?_
  simp only [List.length_cons, List.length_nil, Nat.reduceAdd, Nat.reduceSub, List.replicate_succ, List.replicate_zero, List.cons_append, List.nil_append]
  refine Awp.seq fun K1 h1 => ?_
  (refine Awp.region ?_; (repeat (first | refine sQ (hk := ?_) | refine sSkip (hk := ?_) | refine sOwn (hk := ?_))); refine aSeq_nil ?_)
  refine h1 _ ?_
  refine nT (hk := ?_)
  refine Awp.seq fun K2 h2 => ?_
  refine Awp.seq fun K3 h3 => ?_
  rcases hg : great18 f with _ | _
  · rw [hg] at hgr
    rcases hz : ((f.blocks.length : Int) == 0) with _ | _
    · have hn0 : 0 < f.blocks.length := by
        have : ¬ (f.blocks.length : Int) = 0 := by simpa using hz
        omega
      obtain ⟨b, hbe⟩ : ∃ b, a % f.blocks.length = b := ⟨_, rfl⟩
      have hlt : b < f.blocks.length := by rw [← hbe]; exact Nat.mod_lt _ hn0
      obtain ⟨bl, hblk⟩ : ∃ bl, f.blocks[b]? = some bl := ⟨_, List.getElem?_eq_getElem hlt⟩
      have hmem := List.mem_of_getElem? hblk
      have hsb := hs.all bl hmem
      have hcv : IntKind.i64.wrap (a : Int) = (a : Int) := IntWalk.i64_in _ ⟨by omega, by omega⟩
      have hu8 : (Try.prog.underlying 5).isSome = true := by kernel_rfl
      have hi64 : Try.prog.underlying 3 = some (.int .i64) := by kernel_rfl
      (refine Awp.region ?_; (repeat (first | refine sQ (hq := Quiet.call rfl hgr rfl rfl rfl) (hk := ?_) | refine sQ (hk := ?_) | refine sSkip (hk := ?_) | refine sOwn (hk := ?_))); refine aSeq_nil ?_)
      refine h3 _ ?_
      refine nT (hk := ?_)
      refine Awp.cond rfl (fun hb4 => by cases hb4) (fun hb4 => ?_)
      refine Awp.skip ?_
      refine h2 _ ?_
      refine nT (hk := ?_)
      refine Awp.seq fun K6 h6 => ?_
      (refine Awp.region ?_; (repeat (first | refine sQ (hq := Quiet.cvt hu8 hi64 rfl rfl hcv) (hk := ?_) | refine sQ (hq := Quiet.remN hn0 hbe rfl rfl rfl) (hk := ?_) | refine sQ (hk := ?_) | refine sSkip (hk := ?_) | refine sOwn (hk := ?_))); refine aSeq_nil ?_)
      refine h6 _ ?_
      refine nT (hk := ?_)
      refine Awp.seq fun K7 h7 => ?_
      refine Awp.seq fun K8 h8 => ?_
      rcases hz2 : ((bl.ins.length : Int) == 0) with _ | _
      · have hne : bl.ins ≠ [] := fun e => by rw [e] at hz2; cases hz2
        (refine Awp.region ?_; (repeat (first | refine sQ (hk := ?_) | refine sSkip (hk := ?_) | refine sOwn (hk := ?_))); refine aSeq_nil ?_)
        refine h8 _ ?_
        refine nT (hk := ?_)
        refine Awp.cond rfl (fun hb9 => by cases hb9) (fun hb9 => ?_)
        refine Awp.skip ?_
        refine h7 _ ?_
        refine nT (hk := ?_)
        have hn1 : ([] : List Block).length + f.blocks.length ≤ maxLen := by simp [maxLen]; omega
        have hn2 : (([] : List Block).length + f.blocks.length) * 40 ≤ 140737488355328 := by simp; omega
        have hn3 : [insM r].length + bl.ins.length ≤ maxLen := by have := hsb.ins; simp [maxLen]; omega
        have hn4 : ([insM r].length + bl.ins.length) * 88 ≤ 140737488355328 := by have := hsb.ins; simp; omega
        have hszI : sizeT Try.prog 37 = some 1 := by kernel_rfl
        have hk6 : (([] : List Block) ++ f.blocks)[b]? = some bl := hblk
        have hl6 : b < (([] : List Block) ++ f.blocks).length := hlt
        refine Awp.seq fun K11 h11 => ?_
        (refine Awp.region ?_; (repeat (first | refine sQ (hk := ?_) | refine sSkip (hk := ?_) | refine sOwn (hk := ?_))); refine aSeq_nil ?_)
        refine h11 _ ?_
        refine nT (hk := ?_)
        refine Awp.seq fun K12 h12 => ?_
        (refine Awp.region ?_; (repeat (first | refine sQ (hk := ?_) | refine sSkip (hk := ?_) | refine sOwn (hk := ?_))))
        refine aSeq_t rfl (AOp.lit (s := ⟨_, _⟩) (T := tBlock) (xs := []) (ds := []) (e := 39) (bytes := 40) rfl rfl rfl (by kernel_rfl) (by decide) (by decide) .nil ?_)
        refine sNt (hk := ?_)
        (repeat (first | (refine aSeq_t rfl (AOp.stBox (new := [_]) rfl rfl rfl (One.own' rfl) rfl (Nat.le_of_ble_eq_true rfl) ?_); refine sNt (hk := ?_)) | refine sQ (hk := ?_) | refine sSkip (hk := ?_) | refine sOwn (hk := ?_)))
        refine aSeq_nil ?_
        refine h12 _ ?_
        refine nT (hk := ?_)
        refine Awp.seq fun K13 h13 => ?_
        (refine drawD 15 (hh := ?_); (repeat (first | refine qQ (hq := Quiet.bld (rs := encIns0 (insM r)) rfl plIns rfl rfl) (hk := ?_) | refine qQ (hq := Quiet.litF (xs := [.tmp 49]) (T := tIns) (ds := [insM r]) rfl rfl rfl rfl (by decide) (.cons (Fit.agg fun _ _ _ _ h => put_ins0 (ok_insM hr) rfl h) .nil)) (hk := ?_) | refine qQ (hq := Quiet.appF rfl rfl rfl rfl hn3 hn4) (hk := ?_) | refine qQ (hk := ?_) | refine qSkip (hk := ?_))); refine aQ_nil ?_; (repeat (first | refine sQ (hq := Quiet.bld (rs := encIns0 (insM r)) rfl plIns rfl rfl) (hk := ?_) | refine sQ (hq := Quiet.litF (xs := [.tmp 49]) (T := tIns) (ds := [insM r]) rfl rfl rfl rfl (by decide) (.cons (Fit.agg fun _ _ _ _ h => put_ins0 (ok_insM hr) rfl h) .nil)) (hk := ?_) | refine sQ (hq := Quiet.appF rfl rfl rfl rfl hn3 hn4) (hk := ?_) | (refine aSeq_t rfl (AOp.storeRow (i := 2) (k := b) rfl rfl rfl hk6 upd_ins hszI ?_); refine sNt (hk := ?_)) | refine sQ (hk := ?_) | refine sSkip (hk := ?_) | refine sOwn (hk := ?_))); refine aSeq_nil ?_)
        refine h13 _ ?_
        refine nT (hk := ?_)
        obtain ⟨f', hf'⟩ : ∃ f', f' = putIns f b bl (insM r) := ⟨_, rfl⟩
        have hbk' : tFunc.bulk f' ≤ 2000000 := by
          rw [hf', bulk_put hblk]
          have : tIns.bulk (insM r) = 10 := rfl
          omega
        have ho' : okFunc f' := by rw [hf']; exact ok_put ho hblk (ok_insM hr)
        have c' := fine_func ho' (show tFunc.bulk f' ≤ 2097152 by omega)
        have hE := edges_fn f ho hs hT hA c.ins
        have hE' := edges_fn f' ho' c'.small c'.reads c'.all c'.ins
        have hX := cross_fn f ho hs hT c.ins
        have hX' := cross_fn f' ho' c'.small c'.reads c'.ins
        have hM := moves_fn f ho hs hT hA c.ins
        have hM' := moves_fn f' ho' c'.small c'.reads c'.all c'.ins
        have hmv : mvL f' = mvL f := by rw [hf']; exact (moves_put hblk hne (writesM r) (by show (6 : Int) ≠ 2; decide)).symm
        rw [hmv] at hM'
        have hmm := r18_Same_l (same18_self (mvL f) (by have := moves_len hA; omega))
        have hel := edges_len hA
        have hcl := cross_len hT
        have hup : ∀ y ∈ edgesL f, y ∈ edgesL f' := fun y hy => by rw [hf']; exact edges_put hblk hne (writesM r) hy
        have hcu : ∀ y ∈ crossL f, y ∈ crossL f' := fun y hy => by rw [hf']; exact cross_put hblk hne (writesM r) hy
        refine Awp.via _ (St.le_fz hC 2 rfl) ?_
        refine Awp.via ⟨[.any, .any, .lit (.int .i64 r), .ptr 0 0, .any, .any, .any, .lit (.int .i64 (b : Int)), .ptr 1 0, .any, .any, .any, .any, .any, .any, .any, .any, .any, .any, .any, .any, .any, .any, .any, .any, .any, .any, .any, .any, .any, .any, .any, .any, .any, .any, .any, .any, .any, .any, .any, .any, .any, .any, .any, .any, .any, .any, .any, .any, .any, .any, .any, .any, .any, .any, .any, .any, .any, .any, .any, .any, .any, .any, .any, .any, .any, .any, .any, .any, .any, .any, .any, .any, .any, .any, .any, .any, .any, .any, .any, .any, .any, .any, .any, .any, .any, .any, .any, .any, .any, .any, .any, .any, .any, .any, .any, .any, .any, .any, .any, .any, .any, .any, .any, .any, .any, .any, .any], [.box (encFunc f), .box (encFunc (putIns f b bl (insM r))), .dead]⟩ (le_T) ?_
        rw [← hf']
        refine Awp.seq fun K14 h14 => ?_
        (refine drawD 12 (hh := ?_); (repeat (first | refine qQ (hq := Quiet.call rfl hE rfl rfl rfl) (hk := ?_) | refine qQ (hq := Quiet.call rfl hE' rfl rfl rfl) (hk := ?_) | refine qQ (hq := Quiet.call rfl hX rfl rfl rfl) (hk := ?_) | refine qQ (hq := Quiet.call rfl hX' rfl rfl rfl) (hk := ?_) | refine qQ (hk := ?_) | refine qSkip (hk := ?_))); refine aQ_nil ?_; (repeat (first | refine sQ (hq := Quiet.call rfl hE rfl rfl rfl) (hk := ?_) | refine sQ (hq := Quiet.call rfl hE' rfl rfl rfl) (hk := ?_) | refine sQ (hq := Quiet.call rfl hX rfl rfl rfl) (hk := ?_) | refine sQ (hq := Quiet.call rfl hX' rfl rfl rfl) (hk := ?_) | refine sQ (hk := ?_) | refine sSkip (hk := ?_) | refine sOwn (hk := ?_))); refine aSeq_nil ?_)
        refine h14 _ ?_
        refine nT (hk := ?_)
        refine Awp.seq fun K15 h15 => ?_
        refine Awp.seq fun K16 h16 => ?_
        (refine Awp.region ?_; (repeat (first | refine sQ (hk := ?_) | refine sSkip (hk := ?_) | refine sOwn (hk := ?_))); refine aSeq_nil ?_)
        refine h16 _ ?_
        refine nT (hk := ?_)
        refine Awp.block ?_
        refine Awp.loopF (fun k : Nat => ⟨[.any, .any, .any, .ptr 0 0, .any, .any, .any, .any, .ptr 1 0, .bs tPair (edgesL f), .bs tPair (edgesL f'), .bs tInt (crossL f), .bs tInt (crossL f'), .lit (.int .i64 (k : Int)), .any, .any, .any, .any, .any, .any, .any, .any, .any, .any, .any, .any, .any, .any, .any, .any, .any, .any, .any, .any, .any, .any, .any, .any, .any, .any, .any, .any, .any, .any, .any, .any, .any, .any, .any, .any, .any, .any, .any, .any, .any, .any, .any, .any, .any, .any, .any, .any, .any, .any, .any, .any, .any, .any, .any, .any, .any, .any, .any, .any, .any, .any, .any, .any, .any, .any, .any, .any, .any, .any, .any, .any, .any, .any, .any, .any, .any, .any, .any, .any, .any, .any, .any, .any, .any, .any, .any, .any, .any, .any, .any, .any, .any, .any], [.box (encFunc f), .box (encFunc f'), .dead]⟩) (fun k => k ≤ (edgesL f).length) (fun k => (edgesL f).length - k) 0 (Nat.zero_le _) (le_T) ?_
        intro k hk
        dsimp only at hk ⊢
        refine Awp.seq fun K18 h18 => ?_
        refine Awp.seq fun K19 h19 => ?_
        (refine Awp.region ?_; (repeat (first | refine sQ (hk := ?_) | refine sSkip (hk := ?_) | refine sOwn (hk := ?_))); refine aSeq_nil ?_)
        refine h19 _ ?_
        refine nT (hk := ?_)
        refine Awp.cond rfl (fun hb20 => ?_) (fun hb20 => ?_)
        · have hkl : k < (edgesL f).length := by simpa using hb20
          obtain ⟨q, hq⟩ : ∃ q, (edgesL f)[k]? = some q := ⟨_, List.getElem?_eq_getElem hkl⟩
          have hqm := List.mem_of_getElem? hq
          have hh := has18_at (edges_len c'.all) (hup q hqm) (edges_lt hqm)
          refine Awp.skip ?_
          refine h18 _ ?_
          refine nT (hk := ?_)
          refine Awp.seq fun K21 h21 => ?_
          refine Awp.block ?_
          refine Awp.seq fun K22 h22 => ?_
          (refine drawD 13 (hh := ?_); (repeat (first | refine qQ (hq := Quiet.call rfl hh rfl rfl rfl) (hk := ?_) | refine qQ (hk := ?_) | refine qSkip (hk := ?_))); refine aQ_nil ?_; (repeat (first | refine sQ (hq := Quiet.call rfl hh rfl rfl rfl) (hk := ?_) | refine sQ (hk := ?_) | refine sSkip (hk := ?_) | refine sOwn (hk := ?_))); refine aSeq_nil ?_)
          refine h22 _ ?_
          refine nT (hk := ?_)
          refine Awp.cond rfl (fun hb23 => by cases hb23) (fun hb23 => ?_)
          refine Awp.skip ?_
          refine h21 _ ?_
          refine nT (hk := ?_)
          (refine Awp.region ?_; (repeat (first | refine sQ (hk := ?_) | refine sSkip (hk := ?_) | refine sOwn (hk := ?_))); refine aSeq_nil ?_)
          refine athen_n ⟨k + 1, by omega, by omega, ?_⟩
          exact le_T
        · refine Awp.exit ?_
          refine h15 _ ?_
          refine nT (hk := ?_)
          refine Awp.seq fun K25 h25 => ?_
          refine Awp.seq fun K26 h26 => ?_
          (refine Awp.region ?_; (repeat (first | refine sQ (hk := ?_) | refine sSkip (hk := ?_) | refine sOwn (hk := ?_))); refine aSeq_nil ?_)
          refine h26 _ ?_
          refine nT (hk := ?_)
          refine Awp.block ?_
          refine Awp.loopF (fun k : Nat => ⟨[.any, .any, .any, .ptr 0 0, .any, .any, .any, .any, .ptr 1 0, .any, .any, .bs tInt (crossL f), .bs tInt (crossL f'), .any, .lit (.int .i64 (k : Int)), .any, .any, .any, .any, .any, .any, .any, .any, .any, .any, .any, .any, .any, .any, .any, .any, .any, .any, .any, .any, .any, .any, .any, .any, .any, .any, .any, .any, .any, .any, .any, .any, .any, .any, .any, .any, .any, .any, .any, .any, .any, .any, .any, .any, .any, .any, .any, .any, .any, .any, .any, .any, .any, .any, .any, .any, .any, .any, .any, .any, .any, .any, .any, .any, .any, .any, .any, .any, .any, .any, .any, .any, .any, .any, .any, .any, .any, .any, .any, .any, .any, .any, .any, .any, .any, .any, .any, .any, .any, .any, .any, .any, .any], [.box (encFunc f), .box (encFunc f'), .dead]⟩) (fun k => k ≤ (crossL f).length) (fun k => (crossL f).length - k) 0 (Nat.zero_le _) (le_T) ?_
          intro i hi
          dsimp only at hi ⊢
          refine Awp.seq fun K28 h28 => ?_
          refine Awp.seq fun K29 h29 => ?_
          (refine Awp.region ?_; (repeat (first | refine sQ (hk := ?_) | refine sSkip (hk := ?_) | refine sOwn (hk := ?_))); refine aSeq_nil ?_)
          refine h29 _ ?_
          refine nT (hk := ?_)
          refine Awp.cond rfl (fun hb30 => ?_) (fun hb30 => ?_)
          · have hil : i < (crossL f).length := by simpa using hb30
            obtain ⟨q, hq⟩ : ∃ q, (crossL f)[i]? = some q := ⟨_, List.getElem?_eq_getElem hil⟩
            have hh := in18_at (cross_len c'.reads) (hcu q (List.mem_of_getElem? hq))
            refine Awp.skip ?_
            refine h28 _ ?_
            refine nT (hk := ?_)
            refine Awp.seq fun K31 h31 => ?_
            refine Awp.block ?_
            refine Awp.seq fun K32 h32 => ?_
            (refine Awp.region ?_; (repeat (first | refine sQ (hq := Quiet.call rfl hh rfl rfl rfl) (hk := ?_) | refine sQ (hk := ?_) | refine sSkip (hk := ?_) | refine sOwn (hk := ?_))); refine aSeq_nil ?_)
            refine h32 _ ?_
            refine nT (hk := ?_)
            refine Awp.cond rfl (fun hb33 => by cases hb33) (fun hb33 => ?_)
            refine Awp.skip ?_
            refine h31 _ ?_
            refine nT (hk := ?_)
            (refine Awp.region ?_; (repeat (first | refine sQ (hk := ?_) | refine sSkip (hk := ?_) | refine sOwn (hk := ?_))); refine aSeq_nil ?_)
            refine athen_n ⟨i + 1, by omega, by omega, ?_⟩
            exact le_T
          · refine Awp.exit ?_
            refine h25 _ ?_
            refine nT (hk := ?_)
            refine Awp.seq fun K35 h35 => ?_
            (refine drawD 9 (hh := ?_); (repeat (first | refine qQ (hq := Quiet.call rfl hM rfl rfl rfl) (hk := ?_) | refine qQ (hq := Quiet.call rfl hM' rfl rfl rfl) (hk := ?_) | refine qQ (hq := Quiet.call rfl hmm rfl rfl rfl) (hk := ?_) | refine qQ (hq := Quiet.call rfl head18_fn rfl rfl rfl) (hk := ?_) | refine qQ (hk := ?_) | refine qSkip (hk := ?_))); refine aQ_nil ?_; (repeat (first | refine sQ (hq := Quiet.call rfl hM rfl rfl rfl) (hk := ?_) | refine sQ (hq := Quiet.call rfl hM' rfl rfl rfl) (hk := ?_) | refine sQ (hq := Quiet.call rfl hmm rfl rfl rfl) (hk := ?_) | refine sQ (hq := Quiet.call rfl head18_fn rfl rfl rfl) (hk := ?_) | refine sQ (hk := ?_) | refine sSkip (hk := ?_) | refine sOwn (hk := ?_))); refine aSeq_nil ?_)
            refine h35 _ ?_
            refine nT (hk := ?_)
            refine Awp.ret ?_
            exact ⟨.inr rfl, Fin.cl rfl⟩
      · (refine Awp.region ?_; (repeat (first | refine sQ (hk := ?_) | refine sSkip (hk := ?_) | refine sOwn (hk := ?_))); refine aSeq_nil ?_)
        refine h8 _ ?_
        refine nT (hk := ?_)
        refine Awp.cond rfl (fun hb9 => ?_) (fun hb9 => by cases hb9)
        refine Awp.seq fun K10 h10 => ?_
        (refine Awp.region ?_; (repeat (first | refine sQ (hq := Quiet.call rfl head18_fn rfl rfl rfl) (hk := ?_) | refine sQ (hk := ?_) | refine sSkip (hk := ?_) | refine sOwn (hk := ?_))); refine aSeq_nil ?_)
        refine h10 _ ?_
        refine nT (hk := ?_)
        refine Awp.ret ?_
        exact ⟨.inr rfl, Fin.cl rfl⟩
    · (refine Awp.region ?_; (repeat (first | refine sQ (hq := Quiet.call rfl hgr rfl rfl rfl) (hk := ?_) | refine sQ (hk := ?_) | refine sSkip (hk := ?_) | refine sOwn (hk := ?_))); refine aSeq_nil ?_)
      refine h3 _ ?_
      refine nT (hk := ?_)
      refine Awp.cond rfl (fun hb4 => ?_) (fun hb4 => by cases hb4)
      refine Awp.seq fun K5 h5 => ?_
      (refine Awp.region ?_; (repeat (first | refine sQ (hq := Quiet.call rfl head18_fn rfl rfl rfl) (hk := ?_) | refine sQ (hk := ?_) | refine sSkip (hk := ?_) | refine sOwn (hk := ?_))); refine aSeq_nil ?_)
      refine h5 _ ?_
      refine nT (hk := ?_)
      refine Awp.ret ?_
      exact ⟨.inr rfl, Fin.cl rfl⟩
  · rw [hg] at hgr
    (refine Awp.region ?_; (repeat (first | refine sQ (hq := Quiet.call rfl hgr rfl rfl rfl) (hk := ?_) | refine sQ (hk := ?_) | refine sSkip (hk := ?_) | refine sOwn (hk := ?_))); refine aSeq_nil ?_)
    refine h3 _ ?_
    refine nT (hk := ?_)
    refine Awp.cond rfl (fun hb4 => ?_) (fun hb4 => by cases hb4)
    refine Awp.seq fun K5 h5 => ?_
    (refine Awp.region ?_; (repeat (first | refine sQ (hq := Quiet.call rfl head18_fn rfl rfl rfl) (hk := ?_) | refine sQ (hk := ?_) | refine sSkip (hk := ?_) | refine sOwn (hk := ?_))); refine aSeq_nil ?_)
    refine h5 _ ?_
    refine nT (hk := ?_)
    refine Awp.ret ?_
    exact ⟨.inr rfl, Fin.cl rfl⟩
end Mu
end
section
/-
  muntinlaw18.InterTurned answers true of any function: plainly, over what its code computes.
  Conditions: at most 2^21 of everything.
-/
namespace Mu
open Go Go.RowKit Go.Proofs

theorem edges_step {f : Func} {j : Nat} {y x : Pair} (hy : (edgesL f)[j]? = some y) (hx : (edgesL f)[j + 1]? = some x) : ltP y x := by
  have h := List.pairwise_iff_getElem.1 (edgesL_asc f) j (j + 1) (List.getElem?_eq_some_iff.1 hy).1 (List.getElem?_eq_some_iff.1 hx).1 (by omega)
  rwa [(List.getElem?_eq_some_iff.1 hy).2, (List.getElem?_eq_some_iff.1 hx).2] at h
theorem near_to {f : Func} (c : FineF f) (n : Int) : (inter_Near f n).to (nearL f n) := M.chk_to (fineF_iff.2 c) (M.ok_to _)
theorem nearL_len {f : Func} (c : FineF f) (n : Int) : (nearL f n).length ≤ 4611686018427387904 := by
  have h1 := List.length_filter_le (fun y => n != y && edgesS f ⟨min n y, max n y⟩) (regs18L f)
  have h2 := regs18_le c.all
  unfold nearL
  omega
theorem turned_step {f : Func} (c : FineF f) {k : Nat} (hk : k < (edgesL f).length) : (law18_InterTurned_L10 f (edgesL f) (k : Int)).to (.inl ((k + 1 : Nat) : Int)) := by
  have hel := edges_len c.all
  obtain ⟨x, hx⟩ : ∃ x, (edgesL f)[k]? = some x := ⟨_, List.getElem?_eq_getElem hk⟩
  have hxm := List.mem_of_getElem? hx
  have hlt := edges_lt hxm
  obtain ⟨hn1, hn2⟩ := near_of hxm
  have hi1 := in18_to (nearL_len c x.a) hn1
  have hi2 := in18_to (nearL_len c x.b) hn2
  have hix : ixD (edgesL f) (k : Int) = x := ixD_of hx
  have hb : inBd (edgesL f) (k : Int) = true := inBd_nat hk
  have e1 : decide (x.a ≥ x.b) = false := decide_eq_false (by omega)
  have hl : decide ((k : Int) < ((edgesL f).length : Int)) = true := decide_eq_true (by omega)
  unfold law18_InterTurned_L10
  rw [i64n hk (by omega)]
  rcases k with _ | j
  · have e2 : decide (((0 : Nat) : Int) > 0) = false := by decide
    simp only [hix, hb, e1, e2, hl, Bool.not_false, Bool.not_true, Bool.false_and, Bool.and_false, Bool.or_false, Bool.false_or, Bool.or_true, Bool.true_or, Bool.not_not]
    refine M.t_to rfl (M.chk_to rfl (M.chk_to rfl (M.chk_to rfl (M.chk_to rfl (M.chk_to rfl (M.chk_to rfl (M.chk_to rfl (M.chk_to rfl (M.bnd_to (M.whn_t rfl (near_to c _)) (M.chk_to rfl (M.bnd_to (M.whn_t rfl hi1) (M.chk_to rfl (M.bnd_to (M.whn_t rfl (near_to c _)) (M.chk_to rfl (M.bnd_to (M.whn_t rfl hi2) (M.f_to rfl (M.ok_to _)))))))))))))))))
  · obtain ⟨y, hy⟩ : ∃ y, (edgesL f)[j]? = some y := ⟨_, List.getElem?_eq_getElem (by omega)⟩
    have hw : IntKind.i64.wrap (((j + 1 : Nat) : Int) - 1) = (j : Int) := by rw [IntWalk.i64_in _ ⟨by omega, by omega⟩]; omega
    have hiy : ixD (edgesL f) (j : Int) = y := ixD_of hy
    have hby : inBd (edgesL f) (j : Int) = true := inBd_nat (by omega)
    have e2 : decide (((j + 1 : Nat) : Int) > 0) = true := decide_eq_true (by omega)
    have hyx := edges_step hy hx
    unfold ltP at hyx
    have e3 : decide (y.a > x.a) = false := decide_eq_false (by omega)
    have e4 : ((y.a == x.a) && decide (y.b ≥ x.b)) = false := by
      rw [Bool.and_eq_false_iff]
      by_cases h : y.a = x.a
      · exact .inr (decide_eq_false (by omega))
      · exact .inl (by simpa using h)
    simp only [hw, hix, hiy, hb, hby, e1, e2, e3, e4, hl, Bool.not_false, Bool.not_true, Bool.true_and, Bool.and_false, Bool.or_false, Bool.false_or, Bool.or_true, Bool.not_not]
    refine M.t_to rfl (M.chk_to rfl (M.chk_to rfl (M.chk_to rfl (M.chk_to rfl (M.chk_to rfl (M.chk_to rfl (M.chk_to rfl (M.chk_to rfl (M.bnd_to (M.whn_t rfl (near_to c _)) (M.chk_to rfl (M.bnd_to (M.whn_t rfl hi1) (M.chk_to rfl (M.bnd_to (M.whn_t rfl (near_to c _)) (M.chk_to rfl (M.bnd_to (M.whn_t rfl hi2) (M.f_to rfl (M.ok_to _)))))))))))))))))
theorem allL_at {f : Func} {b : Nat} (hb : b < f.blocks.length) : ixD (allL f) (b : Int) = blockL f b := ixD_of (by unfold allL; rw [List.getElem?_map, List.getElem?_range hb]; rfl)
theorem blockL_at {f : Func} {b i : Nat} (hi : i < (insOf f b).length) : (blockL f b)[i + 1]? = some (placeL f (regsL f) b (i + 1)) := by
  unfold blockL
  rw [List.getElem?_map, List.getElem?_range (by omega)]
  rfl
section
variable {f : Func} (c : FineF f) {b i : Nat} {bl : Block} {x : Ins} (hb : f.blocks[b]? = some bl) (hx : bl.ins[i]? = some x) (h5 : x.op = 5)
include c hb hx h5
theorem call_step {k : Nat} (hk : k < (placeL f (regsL f) b (i + 1)).length) : (law18_InterTurned_L38 f (edgesL f) (crossL f) (allL f) (b : Int) (i : Int) (k : Int)).to (.inl ((k + 1 : Nat) : Int)) := by
  have hbl := (List.getElem?_eq_some_iff.1 hb).1
  have hil := (List.getElem?_eq_some_iff.1 hx).1
  have hI : insOf f b = bl.ins := by unfold insOf; rw [hb]
  have hin := c.ins bl (List.mem_of_getElem? hb)
  have hpl : (placeL f (regsL f) b (i + 1)).length ≤ 2097152 := Nat.le_trans (List.length_filter_le _ _) (Nat.le_trans (regsOf_le _) c.reads)
  obtain ⟨r, hr⟩ : ∃ r, (placeL f (regsL f) b (i + 1))[k]? = some r := ⟨_, List.getElem?_eq_getElem hk⟩
  have hstep : (x, placeL f (regsL f) b (i + 1)) ∈ stepsL f := mem_steps.2 ⟨b, i, hbl, by rw [hI]; exact hx, rfl⟩
  have h1 := allL_at hbl
  have h2 : ixD (blockL f b) ((i + 1 : Nat) : Int) = placeL f (regsL f) b (i + 1) := ixD_of (blockL_at (by rw [hI]; exact hil))
  have h3 : ixD f.blocks (b : Int) = bl := ixD_of hb
  have h4 : ixD bl.ins (i : Int) = x := ixD_of hx
  have h6 : ixD (placeL f (regsL f) b (i + 1)) (k : Int) = r := ixD_of hr
  have b1 : inBd (allL f) (b : Int) = true := inBd_nat (by unfold allL; simpa using hbl)
  have b2 : inBd (blockL f b) ((i + 1 : Nat) : Int) = true := inBd_nat (List.getElem?_eq_some_iff.1 (blockL_at (f := f) (b := b) (i := i) (by rw [hI]; exact hil))).1
  have b3 : inBd (placeL f (regsL f) b (i + 1)) (k : Int) = true := inBd_nat hk
  unfold law18_InterTurned_L38
  rw [i64n hil (by omega), i64n hk (by omega), h1, h2, h3, h4, h6]
  by_cases hd : r = x.d
  · have e : (r != x.d) = false := by simpa using hd
    rw [e]
    exact M.chk_to b1 (M.chk_to b2 (M.t_to (decide_eq_true (by omega)) (M.chk_to b1 (M.chk_to b2 (M.chk_to b3 (M.bnd_to (M.whn_f rfl) (M.bnd_to (M.whn_f rfl) (M.f_to rfl (M.ok_to _)))))))))
  · have e : (r != x.d) = true := by simpa using hd
    obtain ⟨q1, q2⟩ := call_edge hstep h5 (List.mem_of_getElem? hr) hd
    have hel := edges_len c.all
    have hcl := cross_len c.reads
    rw [e]
    exact M.chk_to b1 (M.chk_to b2 (M.t_to (decide_eq_true (by omega)) (M.chk_to b1 (M.chk_to b2 (M.chk_to b3 (M.bnd_to (M.whn_t rfl (has18_to (by omega) q1)) (M.bnd_to (M.whn_t rfl (in18_to (by omega) q2)) (M.f_to rfl (M.ok_to _)))))))))
theorem call_loop : (M.loop (law18_InterTurned_L38 f (edgesL f) (crossL f) (allL f) (b : Int) (i : Int)) 0).to (.inl ()) := by
  refine M.loop_for (step := law18_InterTurned_L38 f (edgesL f) (crossL f) (allL f) (b : Int) (i : Int)) (fun k => (k : Int)) (placeL f (regsL f) b (i + 1)).length (fun k hk => call_step c hb hx h5 hk) ?_ (j := 0) (Nat.zero_le _)
  have hbl := (List.getElem?_eq_some_iff.1 hb).1
  have hil := (List.getElem?_eq_some_iff.1 hx).1
  have hI : insOf f b = bl.ins := by unfold insOf; rw [hb]
  have hin := c.ins bl (List.mem_of_getElem? hb)
  have h1 := allL_at hbl
  have h2 : ixD (blockL f b) ((i + 1 : Nat) : Int) = placeL f (regsL f) b (i + 1) := ixD_of (blockL_at (by rw [hI]; exact hil))
  have b1 : inBd (allL f) (b : Int) = true := inBd_nat (by unfold allL; simpa using hbl)
  have b2 : inBd (blockL f b) ((i + 1 : Nat) : Int) = true := inBd_nat (List.getElem?_eq_some_iff.1 (blockL_at (f := f) (b := b) (i := i) (by rw [hI]; exact hil))).1
  unfold law18_InterTurned_L38
  rw [i64n hil (by omega), h1, h2]
  exact M.chk_to b1 (M.chk_to b2 (M.f_to (decide_eq_false (by omega)) (M.ok_to _)))
end
theorem ins_loop {f : Func} (c : FineF f) {b : Nat} {bl : Block} (hb : f.blocks[b]? = some bl) : (M.loop (law18_InterTurned_L28 f (edgesL f) (crossL f) (allL f) (b : Int)) 0).to (.inl ()) := by
  have hbl := (List.getElem?_eq_some_iff.1 hb).1
  have hin := c.ins bl (List.mem_of_getElem? hb)
  have h3 : ixD f.blocks (b : Int) = bl := ixD_of hb
  have b3 : inBd f.blocks (b : Int) = true := inBd_nat hbl
  refine M.loop_for (step := law18_InterTurned_L28 f (edgesL f) (crossL f) (allL f) (b : Int)) (fun k => (k : Int)) bl.ins.length (fun i hi => ?_) ?_ (j := 0) (Nat.zero_le _)
  · obtain ⟨x, hx⟩ : ∃ x, bl.ins[i]? = some x := ⟨_, List.getElem?_eq_getElem hi⟩
    have h4 : ixD bl.ins (i : Int) = x := ixD_of hx
    have b4 : inBd bl.ins (i : Int) = true := inBd_nat hi
    unfold law18_InterTurned_L28
    rw [h3, h4, i64n hi (by omega)]
    refine M.chk_to b3 (M.t_to (decide_eq_true (by omega)) (M.els_l (a := ()) (M.chk_to b3 (M.chk_to b4 ?_)) (M.ok_to _)))
    by_cases h5 : x.op = 5
    · exact M.f_to (by simpa using h5) (M.els_l (a := ()) (call_loop c hb hx h5) (M.ok_to _))
    · exact M.t_to (by simpa using h5) (M.ok_to _)
  · unfold law18_InterTurned_L28
    rw [h3]
    exact M.chk_to b3 (M.f_to (decide_eq_false (by omega)) (M.ok_to _))
theorem turned18_to {f : Func} (c : FineF f) : (law18_InterTurned f).to true := by
  have hbl := c.small.blocks
  have hf := fineF_iff.2 c
  have hel := edges_len c.all
  unfold law18_InterTurned
  refine M.bnd_to (M.chk_to hf (M.ok_to (great18 f))) ?_
  rcases great18 f with _ | _
  · refine M.f_to rfl (M.bnd_to (M.chk_to hf (M.ok_to (edgesL f))) (M.bnd_to (M.chk_to hf (M.ok_to (crossL f))) (M.bnd_to (M.chk_to hf (M.ok_to (allL f))) (M.els_l (a := ()) ?_ (M.els_l (a := ()) ?_ (M.bnd_to (M.ok_to true) (M.ok_to _)))))))
    · refine M.loop_for (step := law18_InterTurned_L10 f (edgesL f)) (fun k => (k : Int)) (edgesL f).length (fun k hk => turned_step c hk) ?_ (j := 0) (Nat.zero_le _)
      unfold law18_InterTurned_L10
      exact M.f_to (decide_eq_false (by omega)) (M.ok_to _)
    · refine M.loop_for (step := law18_InterTurned_L22 f (edgesL f) (crossL f) (allL f)) (fun k => (k : Int)) f.blocks.length (fun b hb => ?_) ?_ (j := 0) (Nat.zero_le _)
      · unfold law18_InterTurned_L22
        rw [i64n hb (by omega)]
        exact M.t_to (decide_eq_true (by omega)) (M.els_l (a := ()) (ins_loop c (List.getElem?_eq_getElem hb)) (M.ok_to _))
      · unfold law18_InterTurned_L22
        exact M.f_to (decide_eq_false (by omega)) (M.ok_to _)
  · exact M.t_to rfl (M.bnd_to (M.ok_to true) (M.ok_to _))
theorem interTurned18_fn (f : Func) (ho : okFunc f) (hbk : tFunc.bulk f ≤ 2097152) : Fn Try.prog 3 [.agg (encFunc f)] (.lit (.bool true)) := law18_InterTurned_l (turned18_to (fine_func ho hbk))
end Mu
end
section
/-
  The arguments of a row, read; what a call that makes new blocks only leaves of them.
  Conditions: none.
-/
namespace Mu
open Go Go.RowKit Go.ChangeShapes Go.WideShapes Go.Proofs

theorem laid_out : laidOutB Try.prog = true := by kernel_rfl
mutual
theorem bulk_le {H : Type} : ∀ d : DataW H, bulkD d ≤ Ytpippebmbphhfaa.Rows.uptoBulk d
  | .lit (.string _) => Nat.le_refl _
  | .lit (.bool _) => Nat.le_refl _
  | .lit (.int _ _) => Nat.le_refl _
  | .lit (.float _ _) => Nat.le_refl _
  | .lit .nil => Nat.le_refl _
  | .nil => Nat.le_refl _
  | .ptr d => by show 1 ≤ Ytpippebmbphhfaa.Rows.uptoBulk d + 1; omega
  | .slice e s => by
    have h1 := bulks_le e
    have h2 := bulks_le s
    show bulkD.go e + bulkD.go s + 1 ≤ Ytpippebmbphhfaa.Rows.uptoBulkAll e + Ytpippebmbphhfaa.Rows.uptoBulkAll s + 1
    omega
  | .agg p => by
    have h1 := bulks_le p
    show bulkD.go p + 1 ≤ Ytpippebmbphhfaa.Rows.uptoBulkAll p + 1
    omega
  | .iface _ d => by show 1 ≤ Ytpippebmbphhfaa.Rows.uptoBulk d + 1; omega
  | .map m => by show 1 ≤ Ytpippebmbphhfaa.Rows.uptoBulkEntries m + 1; omega
  | .held _ => Nat.le_refl _
theorem bulks_le {H : Type} : ∀ l : List (DataW H), bulkD.go l ≤ Ytpippebmbphhfaa.Rows.uptoBulkAll l
  | [] => Nat.le_refl _
  | d :: r => by
    have h1 := bulk_le d
    have h2 := bulks_le r
    show bulkD d + bulkD.go r ≤ Ytpippebmbphhfaa.Rows.uptoBulk d + Ytpippebmbphhfaa.Rows.uptoBulkAll r
    omega
end

/-- an argument of a type that is read: a value of many cells -/
theorem open_many {α : Type} {t : TypeId} {T : Ty α} {H : Type} {enc : TypeId × Value → H} {W : World} {v : Value} {d : DataW H} {p : List MemPlace} (ho : Opens Try.prog t T) (hs : 1 < T.size)
    (h : DataW.Trod enc Try.prog W 0 (fun _ => true) true t v d p) (hp : ∀ x ∈ p, x.block < W.heap.size) :
    ∃ cs x, v = .agg cs.toArray ∧ T.R W W.heap.size cs x ∧ T.bulk x ≤ Ytpippebmbphhfaa.Rows.uptoBulk d := by
  obtain ⟨fuel, hf⟩ := h
  obtain ⟨x, hR, hb⟩ := ho.go H enc W 0 _ true fuel _ (d, p) W.heap.size hf hp
  have hl := T.len hR
  refine ⟨v.cells.toList, x, ?_, hR, Nat.le_trans hb (bulk_le d)⟩
  cases v <;> first
    | (simp [Value.cells] at hl; omega)
    | simp [Value.cells]
/-- what an argument read as, it reads as behind a call that makes new blocks only -/
theorem stays {t : TypeId} {H : Type} {enc : TypeId × Value → H} {W W' : World} {v : Value} {d : DataW H} {p : List MemPlace} (hr : Try.prog.readableRec t = true) (ht : t < Try.prog.types.size)
    (h : DataW.Trod enc Try.prog W 0 (fun _ => true) true t v d p) (hb : Below W.heap.size W W') (hp : ∀ x ∈ p, x.block < W.heap.size) :
    DataW.Trod enc Try.prog W' 0 (fun b => decide (b < W.heap.size)) true t v d p := Below.trod laid_out hr ht h hb hp
end Mu
end
