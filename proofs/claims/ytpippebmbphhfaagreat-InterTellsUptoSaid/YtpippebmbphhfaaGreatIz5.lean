/-
  Own texts laid together, part 5: MuR18, MuPairM, MuPairS, MuPairG, MuEdgeP, MuRangeS, MuSplit, MuTurnW, MuTurnM, MuLiftG, MuPut, MuEdges, ShelfP, MuSortP, MuListP, MuEdgesF, MuWrapE, MuHead18, MuEdgeM, MuLaw17D, MuBound3, MuOfP.
  Conditions: as each part says.
-/
import Derived.Test.YtpippebmbphhfaaGreatIz4
import Derived.DeepKeys4
import Derived.Maps.Range
import Derived.Shelf.SlSortCmp.WholeK
import Derived.Shelf.SlSortCmp.NoneTotal
import Derived.Shelf.SlicesG.Cmp
import Derived.Ground.SlsfProg
import Derived.Ground.SlgcProg
import Derived.Test.YtpippebmbphhfaaGreatProg
import Derived.StillTailTactics
import Derived.WalkKit
section
/-
  muntinref18: what its functions compute.
  Conditions: none.
-/
namespace Mu
open Go Go.RowKit Go.Proofs

def r18_in_L4 (l : List Int) (n : Int) : Int → M (Int ⊕ ((Unit) ⊕ (Bool))) := fun i1 => M.cnd (decide (i1 < (l.length : Int))) (M.chk (inBd l i1) (M.cnd ((ixD l i1) == n) (M.ok (.inr (.inr true))) (M.ok (.inl (IntKind.i64.wrap (i1 + 1)))))) (M.ok (.inr (.inl ())))
def r18_in (l : List Int) (n : Int) : M Bool := M.els (M.loop (r18_in_L4 l n) 0) fun _ => M.ok false
set_option maxRecDepth 100000 in
set_option maxHeartbeats 4000000 in
theorem r18_in_l {l : List Int} {n : Int} {r : Bool} (H : (r18_in l n).to r) : Fn Tryz.prog 41 [.bs tInt l, .lit (.int .i64 n)] (.lit (.bool r)) := by
  delta r18_in at H
  try dsimp only at H
  refine Fn.of_awp Tryz.func41 rfl (by kernel_rfl) rfl Tryz.ntmps41 fun C hC => ?_
  simp only [List.length_cons, List.length_nil, Nat.reduceAdd, Nat.reduceSub, List.replicate_succ, List.replicate_zero, List.cons_append, List.nil_append]
  refine wR (hx := by (refine sA (hq := Quiet.assign rfl getC) (ht := set4) (hk := ?_); exact wEnd rfl)) (hk := ?_)
  obtain ⟨z2, HX2, Hl2, Hq2⟩ := M.to_els H
  refine Awp.seqJ (β := (Unit) × (Unit)) (fun q2 => z2 = .inl q2.1) (fun q2 => ⟨[.any, .any, .any, .any, .any, .any, .any, .any, .any, .any, .any, .any, .any, .any, .any, .any, .any, .any], []⟩) ?_ ?_
  · refine wR (hx := by (refine sA (hq := Quiet.assign rfl getC) (ht := set5) (hk := ?_); exact wEnd rfl)) (hk := ?_)
    refine Awp.block ?_
    refine Awp.loopM HX2 (fun s2 b2 => ⟨[.bs tInt l, .lit (.int .i64 n), .any, .any, .any, .lit (.int .i64 s2), .any, .any, .any, .any, .any, .any, .any, .any, .any, .any, .any, .any], []⟩) () (?_) ?_
    · try dsimp only
      exact le_TA
    · rintro i1 _ x2 H Hr2
      try dsimp only
      dsimp only [r18_in_L4] at H
      refine Awp.seq fun Khs3 hs3 => ?_
      refine wR (hx := by (refine sA (hq := Quiet.move rfl get5) (ht := set6) (hk := ?_); refine sA (hq := Quiet.move rfl get0) (ht := set7) (hk := ?_); refine sA (hq := Quiet.ln rfl get7) (ht := (setS8 set0)) (hk := ?_); refine sA (hq := Quiet.bin rfl get6 (getS8 get0) rfl) (ht := (setS8 set1)) (hk := ?_); exact wEnd rfl)) (hk := ?_)
      refine Awp.cond rfl (fun hb4 => ?_) (fun hb4 => ?_)
      · have H := M.to_t hb4 H
        refine Awp.skip ?_
        refine hs3 _ ?_
        refine nT (hk := ?_)
        refine Awp.seq fun Khs5 hs5 => ?_
        refine Awp.block ?_
        obtain ⟨c6, H⟩ := M.to_chk.1 H
        refine wR (hx := by (refine sA (hq := Quiet.move rfl get0) (ht := (setS8 set4)) (hk := ?_); refine sA (hq := Quiet.move rfl get5) (ht := (setS8 set5)) (hk := ?_); refine sA (hq := Quiet.ixM rfl (getS8 get4) (getS8 get5) rfl c6) (ht := (setS8 set6)) (hk := ?_); refine sA (hq := Quiet.load_bp rfl (getS8 get6) rfl) (ht := (setS8 set7)) (hk := ?_); refine sA (hq := Quiet.move rfl get1) (ht := (setS8 (setS8 set0))) (hk := ?_); refine sA (hq := Quiet.bin rfl (getS8 get7) (getS8 (getS8 get0)) rfl) (ht := (setS8 (setS8 set1))) (hk := ?_); exact wEnd rfl)) (hk := ?_)
        refine Awp.cond rfl (fun hb7 => ?_) (fun hb7 => ?_)
        · have H := M.to_t hb7 H
          refine wR (hx := by (refine sA (hq := Quiet.assign rfl getC) (ht := set4) (hk := ?_); exact wEnd rfl)) (hk := ?_)
          have H := M.to_ok.2 (Hq2 _ (Hr2 _ (M.to_ok.1 H).symm).symm)
          obtain rfl := M.to_ok.1 H
          exact Awp.ret ⟨.inr rfl, Fin.cl rfl⟩
        · have H := M.to_f hb7 H
          refine Awp.skip ?_
          refine hs5 _ ?_
          refine nT (hk := ?_)
          refine wRE (hx := by (refine sA (hq := Quiet.move rfl get5) (ht := (setS8 set2)) (hk := ?_); refine sA (hq := Quiet.bin rfl (getS8 get2) getC rfl) (ht := (setS8 set3)) (hk := ?_); refine sA (hq := Quiet.assign rfl (getS8 get3)) (ht := set5) (hk := ?_); exact wEnd rfl)) (hk := ?_)
          have e2 := M.to_ok.1 H
          repeat (first | refine abN ?_ | refine asN ?_)
          refine athen_n ⟨_, (), e2.symm, ?_⟩
          try dsimp only
          exact le_TA
      · have H := M.to_f hb4 H
        refine Awp.exit ?_
        repeat (first | refine athen_e ?_ | refine exO (by decide) ?_ | refine asE ?_)
        refine exN ?_
        have e2 := Hr2 _ (M.to_ok.1 H).symm
        repeat (first | refine abN ?_ | refine asN ?_)
        refine athen_n ⟨(_, ()), e2.symm, ?_⟩
        try dsimp only
        exact le_TA
  · rintro ⟨_, _⟩ hz2
    try dsimp only at hz2
    have H := Hl2 _ hz2
    try dsimp only
    refine wR (hx := by (refine sA (hq := Quiet.assign rfl getC) (ht := set4) (hk := ?_); exact wEnd rfl)) (hk := ?_)
    obtain rfl := M.to_ok.1 H
    exact Awp.ret ⟨.inr rfl, Fin.cl rfl⟩
def r18_one_L10 (f : Func) (all : List (List (List Int))) (a : Int) (b : Int) (k1 : Int) : Int → M (Int ⊕ ((Unit) ⊕ ((Int) ⊕ ((Unit) ⊕ (Bool))))) := fun i5 => M.chk (inBd f.blocks k1) (M.cnd (decide (i5 < (((ixD f.blocks k1).ins).length : Int))) (M.chk (inBd f.blocks k1) (M.chk (inBd ((ixD f.blocks k1).ins) i5) (M.bnd (r14_Writes (ixD ((ixD f.blocks k1).ins) i5)) fun r13 => M.chk (!(r13.2 && (r13.1 == a)) || (inBd all k1)) (M.chk (!(r13.2 && (r13.1 == a)) || (inBd (ixD all k1) (IntKind.i64.wrap (i5 + 1)))) (M.bnd (M.whn (r13.2 && (r13.1 == a)) false (r18_in (ixD (ixD all k1) (IntKind.i64.wrap (i5 + 1))) b)) fun r16 => M.cnd (((r13.2 && (r13.1 == a)) && r16) && (!((((ixD ((ixD f.blocks k1).ins) i5).op) == 2) && (((ixD ((ixD f.blocks k1).ins) i5).a) == b)))) (M.ok (.inr (.inr (.inr (.inr true))))) (M.ok (.inl (IntKind.i64.wrap (i5 + 1))))))))) (M.ok (.inr (.inl ()))))
def r18_one_L4 (f : Func) (all : List (List (List Int))) (a : Int) (b : Int) : Int → M (Int ⊕ ((Unit) ⊕ (Bool))) := fun k1 => M.cnd (decide (k1 < (f.blocks.length : Int))) (M.els (M.loop (r18_one_L10 f all a b k1) 0) fun _ => M.ok (.inl (IntKind.i64.wrap (k1 + 1)))) (M.ok (.inr (.inl ())))
def r18_one (f : Func) (all : List (List (List Int))) (a : Int) (b : Int) : M Bool := M.els (M.loop (r18_one_L4 f all a b) 0) fun _ => M.ok false
set_option maxRecDepth 100000 in
set_option maxHeartbeats 4000000 in
theorem r18_one_l {f : Func} {all : List (List (List Int))} {a : Int} {b : Int} {r : Bool} (H : (r18_one f all a b).to r) : Fn Tryz.prog 70 [.agg (encFunc f), .bs tInt.slice.slice all, .lit (.int .i64 a), .lit (.int .i64 b)] (.lit (.bool r)) := by
  delta r18_one at H
  try dsimp only at H
  refine Fn.of_awp Tryz.func70 rfl (by kernel_rfl) rfl Tryz.ntmps70 fun C hC => ?_
  simp only [List.length_cons, List.length_nil, Nat.reduceAdd, Nat.reduceSub, List.replicate_succ, List.replicate_zero, List.cons_append, List.nil_append]
  refine wR (hx := by ((refine aSeq_t rfl (AOp.boxI 0 rfl rfl Parts0.agg ?_); refine sNtM (ht := set4) (hk := ?_)); refine sA (hq := Quiet.assign rfl getC) (ht := (setS8 set0)) (hk := ?_); exact wEnd rfl)) (hk := ?_)
  obtain ⟨z2, HX2, Hl2, Hq2⟩ := M.to_els H
  refine Awp.seqJ (β := (Unit) × (Unit)) (fun q2 => z2 = .inl q2.1) (fun q2 => ⟨.any :: .any :: .any :: .any :: .any :: .any :: .any :: .any :: .any :: .any :: .any :: .any :: .any :: .any :: .any :: .any :: .any :: .any :: .any :: .any :: .any :: .any :: .any :: .any :: .any :: .any :: .any :: .any :: .any :: .any :: .any :: .any :: .any :: .any :: .any :: .any :: .any :: .any :: .any :: .any :: .any :: .any :: .any :: .any :: .any :: .any :: .any :: .any :: .any :: .any :: .any :: .any :: .any :: .any :: .any :: .any :: .any :: .any :: .any :: .any :: .any :: .any :: .any :: .any :: .any :: .any :: .any :: .any :: .any :: .any :: .any :: .any :: .any :: .any :: .any :: .any :: [], [.dead]⟩) ?_ ?_
  · refine wR (hx := by (refine sA (hq := Quiet.assign rfl getC) (ht := (setS8 set1)) (hk := ?_); exact wEnd rfl)) (hk := ?_)
    refine Awp.block ?_
    refine Awp.loopM HX2 (fun s2 b2 => ⟨.any :: .bs tInt.slice.slice all :: .lit (.int .i64 a) :: .lit (.int .i64 b) :: .ptr 0 0 :: .any :: .any :: .any :: .any :: .lit (.int .i64 s2) :: .any :: .any :: .any :: .any :: .any :: .any :: .any :: .any :: .any :: .any :: .any :: .any :: .any :: .any :: .any :: .any :: .any :: .any :: .any :: .any :: .any :: .any :: .any :: .any :: .any :: .any :: .any :: .any :: .any :: .any :: .any :: .any :: .any :: .any :: .any :: .any :: .any :: .any :: .any :: .any :: .any :: .any :: .any :: .any :: .any :: .any :: .any :: .any :: .any :: .any :: .any :: .any :: .any :: .any :: .any :: .any :: .any :: .any :: .any :: .any :: .any :: .any :: .any :: .any :: .any :: .any :: [], [.box (encFunc f)]⟩) () (?_) ?_
    · try dsimp only
      exact le_TA
    · rintro k1 _ x2 H Hr2
      try dsimp only
      dsimp only [r18_one_L4] at H
      refine Awp.seq fun Khs3 hs3 => ?_
      refine wR (hx := by (refine sA (hq := Quiet.move rfl (getS8 get1)) (ht := (setS8 set6)) (hk := ?_); refine sA (hq := Quiet.fa_ptr rfl get4 rfl) (ht := (setS8 set7)) (hk := ?_); refine sA (hq := Quiet.load_ptr rfl (getS8 get7) rfl rfl) (ht := (setS8 (setS8 set0))) (hk := ?_); refine sA (hq := Quiet.ln rfl (getS8 (getS8 get0))) (ht := (setS8 (setS8 set1))) (hk := ?_); refine sA (hq := Quiet.bin rfl (getS8 get6) (getS8 (getS8 get1)) rfl) (ht := (setS8 (setS8 set2))) (hk := ?_); exact wEnd rfl)) (hk := ?_)
      refine Awp.cond rfl (fun hb4 => ?_) (fun hb4 => ?_)
      · have H := M.to_t hb4 H
        refine Awp.skip ?_
        refine hs3 _ ?_
        refine nT (hk := ?_)
        obtain ⟨z6, HX6, Hl6, Hq6⟩ := M.to_els H
        refine Awp.seqJ (β := (Unit) × (Unit)) (fun q6 => z6 = .inl q6.1) (fun q6 => ⟨.any :: .bs tInt.slice.slice all :: .lit (.int .i64 a) :: .lit (.int .i64 b) :: .ptr 0 0 :: .any :: .any :: .any :: .any :: .lit (.int .i64 k1) :: .any :: .any :: .any :: .any :: .any :: .any :: .any :: .any :: .any :: .any :: .any :: .any :: .any :: .any :: .any :: .any :: .any :: .any :: .any :: .any :: .any :: .any :: .any :: .any :: .any :: .any :: .any :: .any :: .any :: .any :: .any :: .any :: .any :: .any :: .any :: .any :: .any :: .any :: .any :: .any :: .any :: .any :: .any :: .any :: .any :: .any :: .any :: .any :: .any :: .any :: .any :: .any :: .any :: .any :: .any :: .any :: .any :: .any :: .any :: .any :: .any :: .any :: .any :: .any :: .any :: .any :: [], [.box (encFunc f)]⟩) ?_ ?_
        · refine Awp.block ?_
          refine wR (hx := by (refine sA (hq := Quiet.assign rfl getC) (ht := (setS8 set2)) (hk := ?_); exact wEnd rfl)) (hk := ?_)
          refine Awp.block ?_
          refine Awp.loopM HX6 (fun s6 b6 => ⟨.any :: .bs tInt.slice.slice all :: .lit (.int .i64 a) :: .lit (.int .i64 b) :: .ptr 0 0 :: .any :: .any :: .any :: .any :: .lit (.int .i64 k1) :: .lit (.int .i64 s6) :: .any :: .any :: .any :: .any :: .any :: .any :: .any :: .any :: .any :: .any :: .any :: .any :: .any :: .any :: .any :: .any :: .any :: .any :: .any :: .any :: .any :: .any :: .any :: .any :: .any :: .any :: .any :: .any :: .any :: .any :: .any :: .any :: .any :: .any :: .any :: .any :: .any :: .any :: .any :: .any :: .any :: .any :: .any :: .any :: .any :: .any :: .any :: .any :: .any :: .any :: .any :: .any :: .any :: .any :: .any :: .any :: .any :: .any :: .any :: .any :: .any :: .any :: .any :: .any :: .any :: [], [.box (encFunc f)]⟩) () (?_) ?_
          · try dsimp only
            exact le_TA
          · rintro i5 _ x6 H Hr6
            try dsimp only
            dsimp only [r18_one_L10] at H
            refine Awp.seq fun Khs7 hs7 => ?_
            obtain ⟨c8, H⟩ := M.to_chk.1 H
            refine wR (hx := by (refine sA (hq := Quiet.move rfl (getS8 get2)) (ht := (setS8 (setS8 set5))) (hk := ?_); refine sA (hq := Quiet.fa_ptr rfl get4 rfl) (ht := (setS8 (setS8 set6))) (hk := ?_); refine sA (hq := Quiet.load_ptr rfl (getS8 (getS8 get6)) rfl rfl) (ht := (setS8 (setS8 set7))) (hk := ?_); refine sA (hq := Quiet.move rfl (getS8 get1)) (ht := (setS8 (setS8 (setS8 set0)))) (hk := ?_); refine sA (hq := Quiet.ixM rfl (getS8 (getS8 get7)) (getS8 (getS8 (getS8 get0))) rfl c8) (ht := (setS8 (setS8 (setS8 set1)))) (hk := ?_); refine sA (hq := Quiet.fa_bp rfl (getS8 (getS8 (getS8 get1)))) (ht := (setS8 (setS8 (setS8 set2)))) (hk := ?_); refine sA (hq := Quiet.load_bp rfl (getS8 (getS8 (getS8 get2))) rfl) (ht := (setS8 (setS8 (setS8 set3)))) (hk := ?_); refine sA (hq := Quiet.ln rfl (getS8 (getS8 (getS8 get3)))) (ht := (setS8 (setS8 (setS8 set4)))) (hk := ?_); refine sA (hq := Quiet.bin rfl (getS8 (getS8 get5)) (getS8 (getS8 (getS8 get4))) rfl) (ht := (setS8 (setS8 (setS8 set5)))) (hk := ?_); exact wEnd rfl)) (hk := ?_)
            refine Awp.cond rfl (fun hb9 => ?_) (fun hb9 => ?_)
            · have H := M.to_t hb9 H
              refine Awp.skip ?_
              refine hs7 _ ?_
              refine nT (hk := ?_)
              refine Awp.seq fun Khs10 hs10 => ?_
              refine Awp.block ?_
              obtain ⟨c11, H⟩ := M.to_chk.1 H
              obtain ⟨c12, H⟩ := M.to_chk.1 H
              refine wR (hx := by (refine sA (hq := Quiet.fa_ptr rfl get4 rfl) (ht := (setS32 set0)) (hk := ?_); refine sA (hq := Quiet.load_ptr rfl (getS32 get0) rfl rfl) (ht := (setS32 set1)) (hk := ?_); refine sA (hq := Quiet.move rfl (getS8 get1)) (ht := (setS32 set2)) (hk := ?_); refine sA (hq := Quiet.ixM rfl (getS32 get1) (getS32 get2) rfl c11) (ht := (setS32 set3)) (hk := ?_); refine sA (hq := Quiet.fa_bp rfl (getS32 get3)) (ht := (setS32 set4)) (hk := ?_); refine sA (hq := Quiet.load_bp rfl (getS32 get4) rfl) (ht := (setS32 set5)) (hk := ?_); refine sA (hq := Quiet.move rfl (getS8 get2)) (ht := (setS32 set6)) (hk := ?_); refine sA (hq := Quiet.ixM rfl (getS32 get5) (getS32 get6) rfl c12) (ht := (setS32 set7)) (hk := ?_); refine sA (hq := Quiet.loadA_bp rfl (getS32 get7) rfl) (ht := (setS32 (setS8 set0))) (hk := ?_); (refine aSeq_t rfl (AOp.alI 1 rfl rfl ?_); refine sNtM (ht := (setS8 set3)) (hk := ?_)); (refine aSeq_t rfl (AOp.stBox rfl rfl rfl (Parts.aggB rfl) rfl (Nat.le_of_ble_eq_true rfl) ?_); refine sNtM (ht := setN) (hk := ?_)); exact wEnd rfl)) (hk := ?_)
              obtain ⟨r13, k13, H⟩ := M.to_bnd.1 H
              have k13 := r14_Writes_l k13
              refine wR (hx := by (refine sA (hq := Quiet.loadA_ptr rfl (getS8 get3) rfl rfl) (ht := (setS32 (setS8 set2))) (hk := ?_); refine sA (hq := Quiet.callA rfl rfl k13 rfl rfl) (ht := (setS32 (setS8 set3))) (hk := ?_); refine sA (hq := Quiet.move rfl (getS32 (getS8 get3))) (ht := (setS32 (setS8 set1))) (hk := ?_); refine sA (hq := Quiet.extract rfl (getS32 (getS8 get1)) rfl) (ht := (setS32 (setS8 set4))) (hk := ?_); refine sA (hq := Quiet.extract rfl (getS32 (getS8 get1)) rfl) (ht := (setS32 (setS8 set5))) (hk := ?_); refine sA (hq := Quiet.assign rfl (getS32 (getS8 get4))) (ht := (setS8 set4)) (hk := ?_); refine sA (hq := Quiet.assign rfl (getS32 (getS8 get5))) (ht := (setS8 set5)) (hk := ?_); exact wEnd rfl)) (hk := ?_)
              obtain ⟨c14, H⟩ := M.to_chk.1 H
              obtain ⟨c15, H⟩ := M.to_chk.1 H
              obtain ⟨r16, k16, H⟩ := M.to_bnd.1 H
              refine wR (hx := by (refine sA (hq := Quiet.move rfl (getS8 get5)) (ht := (setS32 (setS8 set6))) (hk := ?_); refine sA (hq := Quiet.move rfl (getS32 (getS8 get6))) (ht := (setS32 (setS8 set7))) (hk := ?_); refine sG (g := r13.2) (hg := gA_t rfl) (hq := fun hg => Quiet.move rfl (getS8 get4)) (ht := (setS32 (setS8 (setS8 set0)))) (hk := ?_); refine sG (g := r13.2) (hg := gA_t rfl) (hq := fun hg => Quiet.move rfl get2) (ht := (setS32 (setS8 (setS8 set1)))) (hk := ?_); refine sG (g := r13.2) (hg := gA_t rfl) (hq := fun hg => Quiet.bin rfl ((getS32 (getS8 (getS8 get0))).trans (cndT hg _ _)) ((getS32 (getS8 (getS8 get1))).trans (cndT hg _ _)) rfl) (ht := (setS32 (setS8 (setS8 set2)))) (hk := ?_); refine sA (hq := Quiet.pickAndB rfl (getS32 (getS8 get7)) (getS32 (getS8 (getS8 get2))) getC) (ht := (setS32 (setS8 (setS8 set3)))) (hk := ?_); refine sA (hq := Quiet.move rfl (getS32 (getS8 (getS8 get3)))) (ht := (setS32 (setS8 (setS8 set4)))) (hk := ?_); refine sG (g := (r13.2 && (r13.1 == a))) (hg := gA_t rfl) (hq := fun hg => Quiet.move rfl get1) (ht := (setS32 (setS8 (setS8 set5)))) (hk := ?_); refine sG (g := (r13.2 && (r13.1 == a))) (hg := gA_t rfl) (hq := fun hg => Quiet.move rfl (getS8 get1)) (ht := (setS32 (setS8 (setS8 set6)))) (hk := ?_); refine sG (g := (r13.2 && (r13.1 == a))) (hg := gA_t rfl) (hq := fun hg => Quiet.ixM rfl ((getS32 (getS8 (getS8 get5))).trans (cndT hg _ _)) ((getS32 (getS8 (getS8 get6))).trans (cndT hg _ _)) rfl (imp_of c14 hg)) (ht := (setS32 (setS8 (setS8 set7)))) (hk := ?_); refine sG (g := (r13.2 && (r13.1 == a))) (hg := gA_t rfl) (hq := fun hg => Quiet.load_bp rfl ((getS32 (getS8 (getS8 get7))).trans (cndT hg _ _)) rfl) (ht := (setS32 (setS8 (setS8 (setS8 set0))))) (hk := ?_); refine sG (g := (r13.2 && (r13.1 == a))) (hg := gA_t rfl) (hq := fun hg => Quiet.move rfl (getS8 get2)) (ht := (setS32 (setS8 (setS8 (setS8 set1))))) (hk := ?_); refine sG (g := (r13.2 && (r13.1 == a))) (hg := gA_t rfl) (hq := fun hg => Quiet.bin rfl ((getS32 (getS8 (getS8 (getS8 get1)))).trans (cndT hg _ _)) getC rfl) (ht := (setS32 (setS8 (setS8 (setS8 set2))))) (hk := ?_); refine sG (g := (r13.2 && (r13.1 == a))) (hg := gA_t rfl) (hq := fun hg => Quiet.ixM rfl ((getS32 (getS8 (getS8 (getS8 get0)))).trans (cndT hg _ _)) ((getS32 (getS8 (getS8 (getS8 get2)))).trans (cndT hg _ _)) rfl (imp_of c15 hg)) (ht := (setS32 (setS8 (setS8 (setS8 set3))))) (hk := ?_); refine sG (g := (r13.2 && (r13.1 == a))) (hg := gA_t rfl) (hq := fun hg => Quiet.load_bp rfl ((getS32 (getS8 (getS8 (getS8 get3)))).trans (cndT hg _ _)) rfl) (ht := (setS32 (setS8 (setS8 (setS8 set4))))) (hk := ?_); refine sG (g := (r13.2 && (r13.1 == a))) (hg := gA_t rfl) (hq := fun hg => Quiet.move rfl get3) (ht := (setS32 (setS8 (setS8 (setS8 set5))))) (hk := ?_); refine sG (g := (r13.2 && (r13.1 == a))) (hg := gA_t rfl) (hq := fun hg => by ((try simp only [cndT hg]); (try simp only [cndA hg]); exact Quiet.callA rfl rfl (r18_in_l (M.to_whn k16 hg)) rfl rfl)) (ht := (setS32 (setS8 (setS8 (setS8 set6))))) (hk := ?_); refine sA (hq := Quiet.pickAndB rfl (getS32 (getS8 (getS8 get4))) (getS32 (getS8 (getS8 (getS8 get6)))) getC) (ht := (setS32 (setS8 (setS8 (setS8 set7))))) (hk := ?_); refine sA (hq := Quiet.move rfl (getS32 (getS8 (getS8 (getS8 get7))))) (ht := (setS32 (setS32 set0))) (hk := ?_); refine sG (g := ((r13.2 && (r13.1 == a)) && r16)) (hg := gA_t rfl) (hq := fun hg => Quiet.fa_ptr rfl (getS8 get3) rfl) (ht := (setS32 (setS32 set1))) (hk := ?_); refine sG (g := ((r13.2 && (r13.1 == a)) && r16)) (hg := gA_t rfl) (hq := fun hg => Quiet.load_ptr rfl ((getS32 (getS32 get1)).trans (cndT hg _ _)) rfl rfl) (ht := (setS32 (setS32 set2))) (hk := ?_); refine sG (g := ((r13.2 && (r13.1 == a)) && r16)) (hg := gA_t rfl) (hq := fun hg => Quiet.bin rfl ((getS32 (getS32 get2)).trans (cndT hg _ _)) getC rfl) (ht := (setS32 (setS32 set3))) (hk := ?_); refine sG (g := ((r13.2 && (r13.1 == a)) && r16)) (hg := gA_t rfl) (hq := fun hg => Quiet.move rfl ((getS32 (getS32 get3)).trans (cndT hg _ _))) (ht := (setS32 (setS32 set4))) (hk := ?_); refine sG (g := (((r13.2 && (r13.1 == a)) && r16) && (((ixD ((ixD f.blocks k1).ins) i5).op) == 2))) (hg := gA_tc rfl rfl) (hq := fun hg => by (have hg' := and_l hg; exact Quiet.fa_ptr rfl (getS8 get3) rfl)) (ht := (setS32 (setS32 set5))) (hk := ?_); refine sG (g := (((r13.2 && (r13.1 == a)) && r16) && (((ixD ((ixD f.blocks k1).ins) i5).op) == 2))) (hg := gA_tc rfl rfl) (hq := fun hg => by (have hg' := and_l hg; exact Quiet.load_ptr rfl ((getS32 (getS32 get5)).trans (cndT hg _ _)) rfl rfl)) (ht := (setS32 (setS32 set6))) (hk := ?_); refine sG (g := (((r13.2 && (r13.1 == a)) && r16) && (((ixD ((ixD f.blocks k1).ins) i5).op) == 2))) (hg := gA_tc rfl rfl) (hq := fun hg => by (have hg' := and_l hg; exact Quiet.move rfl get3)) (ht := (setS32 (setS32 set7))) (hk := ?_); refine sG (g := (((r13.2 && (r13.1 == a)) && r16) && (((ixD ((ixD f.blocks k1).ins) i5).op) == 2))) (hg := gA_tc rfl rfl) (hq := fun hg => by (have hg' := and_l hg; exact Quiet.bin rfl ((getS32 (getS32 get6)).trans (cndT hg _ _)) ((getS32 (getS32 get7)).trans (cndT hg _ _)) rfl)) (ht := (setS32 (setS32 (setS8 set0)))) (hk := ?_); refine sG (g := ((r13.2 && (r13.1 == a)) && r16)) (hg := gA_t rfl) (hq := fun hg => Quiet.pickAndB rfl ((getS32 (getS32 get4)).trans (cndT hg _ _)) ((getS32 (getS32 (getS8 get0))).trans (cndA hg _ _)) getC) (ht := (setS32 (setS32 (setS8 set1)))) (hk := ?_); refine sG (g := ((r13.2 && (r13.1 == a)) && r16)) (hg := gA_t rfl) (hq := fun hg => Quiet.bnot rfl ((getS32 (getS32 (getS8 get1))).trans (cndT hg _ _))) (ht := (setS32 (setS32 (setS8 set2)))) (hk := ?_); refine sA (hq := Quiet.pickAndB rfl (getS32 (getS32 get0)) (getS32 (getS32 (getS8 get2))) getC) (ht := (setS32 (setS32 (setS8 set3)))) (hk := ?_); exact wEnd rfl)) (hk := ?_)
              refine Awp.cond rfl (fun hb17 => ?_) (fun hb17 => ?_)
              · have H := M.to_t hb17 H
                refine wR (hx := by (refine sA (hq := Quiet.assign rfl getC) (ht := (setS8 set0)) (hk := ?_); exact wEnd rfl)) (hk := ?_)
                have H := M.to_ok.2 (Hq6 _ (Hr6 _ (M.to_ok.1 H).symm).symm)
                have H := M.to_ok.2 (Hq2 _ (Hr2 _ (M.to_ok.1 H).symm).symm)
                obtain rfl := M.to_ok.1 H
                exact Awp.ret ⟨.inr rfl, Fin.cl rfl⟩
              · have H := M.to_f hb17 H
                refine Awp.skip ?_
                refine hs10 _ ?_
                refine nT (hk := ?_)
                refine wRE (hx := by (refine sA (hq := Quiet.move rfl (getS8 get2)) (ht := (setS8 (setS8 (setS8 set6)))) (hk := ?_); refine sA (hq := Quiet.bin rfl (getS8 (getS8 (getS8 get6))) getC rfl) (ht := (setS8 (setS8 (setS8 set7)))) (hk := ?_); refine sA (hq := Quiet.assign rfl (getS8 (getS8 (getS8 get7)))) (ht := (setS8 set2)) (hk := ?_); exact wEnd rfl)) (hk := ?_)
                have e6 := M.to_ok.1 H
                repeat (first | refine abN ?_ | refine asN ?_)
                refine athen_n ⟨_, (), e6.symm, ?_⟩
                try dsimp only
                exact leC (Cut.cons (Cut.nil _))
            · have H := M.to_f hb9 H
              refine Awp.exit ?_
              repeat (first | refine athen_e ?_ | refine exO (by decide) ?_ | refine asE ?_)
              refine exN ?_
              have e6 := Hr6 _ (M.to_ok.1 H).symm
              repeat (first | refine abN ?_ | refine asN ?_)
              refine athen_n ⟨(_, ()), e6.symm, ?_⟩
              try dsimp only
              exact le_TA
        · rintro ⟨_, _⟩ hz6
          try dsimp only at hz6
          have H := Hl6 _ hz6
          try dsimp only
          refine wRE (hx := by (refine sA (hq := Quiet.move rfl (getS8 get1)) (ht := (setS8 (setS8 set3))) (hk := ?_); refine sA (hq := Quiet.bin rfl (getS8 (getS8 get3)) getC rfl) (ht := (setS8 (setS8 set4))) (hk := ?_); refine sA (hq := Quiet.assign rfl (getS8 (getS8 get4))) (ht := (setS8 set1)) (hk := ?_); exact wEnd rfl)) (hk := ?_)
          have e2 := M.to_ok.1 H
          repeat (first | refine abN ?_ | refine asN ?_)
          refine athen_n ⟨_, (), e2.symm, ?_⟩
          try dsimp only
          exact le_TA
      · have H := M.to_f hb4 H
        refine Awp.exit ?_
        repeat (first | refine athen_e ?_ | refine exO (by decide) ?_ | refine asE ?_)
        refine exN ?_
        have e2 := Hr2 _ (M.to_ok.1 H).symm
        repeat (first | refine abN ?_ | refine asN ?_)
        refine athen_n ⟨(_, ()), e2.symm, ?_⟩
        try dsimp only
        exact leC (Cut.dead (Cut.nil _))
  · rintro ⟨_, _⟩ hz2
    try dsimp only at hz2
    have H := Hl2 _ hz2
    try dsimp only
    refine wR (hx := by (refine sA (hq := Quiet.assign rfl getC) (ht := (setS8 set0)) (hk := ?_); exact wEnd rfl)) (hk := ?_)
    obtain rfl := M.to_ok.1 H
    exact Awp.ret ⟨.inr rfl, Fin.cl rfl⟩
def r18_Part (f : Func) (all : List (List (List Int))) (a : Int) (b : Int) : M Bool := M.cnd (a == b) (M.ok false) (M.bnd (r18_one f all a b) fun r4 => M.bnd (M.whn (!r4) false (r18_one f all b a)) fun r5 => M.cnd (r4 || r5) (M.ok true) (M.chk (!(decide ((all.length : Int) > 0)) || (inBd all 0)) (M.chk (!(decide ((all.length : Int) > 0)) || (inBd (ixD all 0) 0)) (M.bnd (M.whn (decide ((all.length : Int) > 0)) false (r18_in (ixD (ixD all 0) 0) a)) fun r9 => M.chk (!((decide ((all.length : Int) > 0)) && r9) || (inBd all 0)) (M.chk (!((decide ((all.length : Int) > 0)) && r9) || (inBd (ixD all 0) 0)) (M.bnd (M.whn ((decide ((all.length : Int) > 0)) && r9) false (r18_in (ixD (ixD all 0) 0) b)) fun r12 => M.ok (((decide ((all.length : Int) > 0)) && r9) && r12)))))))
set_option maxRecDepth 100000 in
set_option maxHeartbeats 4000000 in
theorem r18_Part_l {f : Func} {all : List (List (List Int))} {a : Int} {b : Int} {r : Bool} (H : (r18_Part f all a b).to r) : Fn Tryz.prog 33 [.agg (encFunc f), .bs tInt.slice.slice all, .lit (.int .i64 a), .lit (.int .i64 b)] (.lit (.bool r)) := by
  delta r18_Part at H
  try dsimp only at H
  refine Fn.of_awp Tryz.func33 rfl (by kernel_rfl) rfl Tryz.ntmps33 fun C hC => ?_
  simp only [List.length_cons, List.length_nil, Nat.reduceAdd, Nat.reduceSub, List.replicate_succ, List.replicate_zero, List.cons_append, List.nil_append]
  refine wR (hx := by ((refine aSeq_t rfl (AOp.boxI 0 rfl rfl Parts0.agg ?_); refine sNtM (ht := set4) (hk := ?_)); refine sA (hq := Quiet.assign rfl getC) (ht := (setS8 set0)) (hk := ?_); exact wEnd rfl)) (hk := ?_)
  refine Awp.seq fun Khs1 hs1 => ?_
  refine wR (hx := by (refine sA (hq := Quiet.move rfl get2) (ht := (setS8 set1)) (hk := ?_); refine sA (hq := Quiet.move rfl get3) (ht := (setS8 set2)) (hk := ?_); refine sA (hq := Quiet.bin rfl (getS8 get1) (getS8 get2) rfl) (ht := (setS8 set3)) (hk := ?_); exact wEnd rfl)) (hk := ?_)
  refine Awp.cond rfl (fun hb2 => ?_) (fun hb2 => ?_)
  · have H := M.to_t hb2 H
    refine wR (hx := by (refine sA (hq := Quiet.assign rfl getC) (ht := (setS8 set0)) (hk := ?_); exact wEnd rfl)) (hk := ?_)
    obtain rfl := M.to_ok.1 H
    exact Awp.ret ⟨.inr rfl, Fin.cl rfl⟩
  · have H := M.to_f hb2 H
    refine Awp.skip ?_
    refine hs1 _ ?_
    refine nT (hk := ?_)
    refine Awp.seq fun Khs3 hs3 => ?_
    obtain ⟨r4, k4, H⟩ := M.to_bnd.1 H
    have k4 := r18_one_l k4
    obtain ⟨r5, k5, H⟩ := M.to_bnd.1 H
    refine wR (hx := by (refine sA (hq := Quiet.loadA_ptr rfl get4 rfl rfl) (ht := (setS8 set4)) (hk := ?_); refine sA (hq := Quiet.move rfl get1) (ht := (setS8 set5)) (hk := ?_); refine sA (hq := Quiet.move rfl get2) (ht := (setS8 set6)) (hk := ?_); refine sA (hq := Quiet.move rfl get3) (ht := (setS8 set7)) (hk := ?_); refine sA (hq := Quiet.callA rfl rfl k4 rfl rfl) (ht := (setS8 (setS8 set0))) (hk := ?_); refine sA (hq := Quiet.move rfl (getS8 (getS8 get0))) (ht := (setS8 (setS8 set1))) (hk := ?_); refine sG (g := (!r4)) (hg := gA_f rfl) (hq := fun hg => Quiet.loadA_ptr rfl get4 rfl rfl) (ht := (setS8 (setS8 set2))) (hk := ?_); refine sG (g := (!r4)) (hg := gA_f rfl) (hq := fun hg => Quiet.move rfl get1) (ht := (setS8 (setS8 set3))) (hk := ?_); refine sG (g := (!r4)) (hg := gA_f rfl) (hq := fun hg => Quiet.move rfl get3) (ht := (setS8 (setS8 set4))) (hk := ?_); refine sG (g := (!r4)) (hg := gA_f rfl) (hq := fun hg => Quiet.move rfl get2) (ht := (setS8 (setS8 set5))) (hk := ?_); refine sG (g := (!r4)) (hg := gA_f rfl) (hq := fun hg => by ((try simp only [cndT hg]); (try simp only [cndA hg]); exact Quiet.callA rfl rfl (r18_one_l (M.to_whn k5 hg)) rfl rfl)) (ht := (setS8 (setS8 set6))) (hk := ?_); refine sA (hq := Quiet.pickOrB rfl (getS8 (getS8 get1)) getC (getS8 (getS8 get6))) (ht := (setS8 (setS8 set7))) (hk := ?_); exact wEnd rfl)) (hk := ?_)
    refine Awp.cond rfl (fun hb6 => ?_) (fun hb6 => ?_)
    · have H := M.to_t hb6 H
      refine wR (hx := by (refine sA (hq := Quiet.assign rfl getC) (ht := (setS8 set0)) (hk := ?_); exact wEnd rfl)) (hk := ?_)
      obtain rfl := M.to_ok.1 H
      exact Awp.ret ⟨.inr rfl, Fin.cl rfl⟩
    · have H := M.to_f hb6 H
      refine Awp.skip ?_
      refine hs3 _ ?_
      refine nT (hk := ?_)
      obtain ⟨c7, H⟩ := M.to_chk.1 H
      obtain ⟨c8, H⟩ := M.to_chk.1 H
      obtain ⟨r9, k9, H⟩ := M.to_bnd.1 H
      obtain ⟨c10, H⟩ := M.to_chk.1 H
      obtain ⟨c11, H⟩ := M.to_chk.1 H
      obtain ⟨r12, k12, H⟩ := M.to_bnd.1 H
      refine wR (hx := by (refine sA (hq := Quiet.move rfl get1) (ht := (setS8 (setS8 (setS8 set0)))) (hk := ?_); refine sA (hq := Quiet.ln rfl (getS8 (getS8 (getS8 get0)))) (ht := (setS8 (setS8 (setS8 set1)))) (hk := ?_); refine sA (hq := Quiet.bin rfl (getS8 (getS8 (getS8 get1))) getC rfl) (ht := (setS8 (setS8 (setS8 set2)))) (hk := ?_); refine sA (hq := Quiet.move rfl (getS8 (getS8 (getS8 get2)))) (ht := (setS8 (setS8 (setS8 set3)))) (hk := ?_); refine sG (g := (decide ((all.length : Int) > 0))) (hg := gA_t rfl) (hq := fun hg => Quiet.move rfl get1) (ht := (setS8 (setS8 (setS8 set4)))) (hk := ?_); refine sG (g := (decide ((all.length : Int) > 0))) (hg := gA_t rfl) (hq := fun hg => Quiet.ixM rfl ((getS8 (getS8 (getS8 get4))).trans (cndT hg _ _)) getC rfl (imp_of c7 hg)) (ht := (setS8 (setS8 (setS8 set5)))) (hk := ?_); refine sG (g := (decide ((all.length : Int) > 0))) (hg := gA_t rfl) (hq := fun hg => Quiet.load_bp rfl ((getS8 (getS8 (getS8 get5))).trans (cndT hg _ _)) rfl) (ht := (setS8 (setS8 (setS8 set6)))) (hk := ?_); refine sG (g := (decide ((all.length : Int) > 0))) (hg := gA_t rfl) (hq := fun hg => Quiet.ixM rfl ((getS8 (getS8 (getS8 get6))).trans (cndT hg _ _)) getC rfl (imp_of c8 hg)) (ht := (setS8 (setS8 (setS8 set7)))) (hk := ?_); refine sG (g := (decide ((all.length : Int) > 0))) (hg := gA_t rfl) (hq := fun hg => Quiet.load_bp rfl ((getS8 (getS8 (getS8 get7))).trans (cndT hg _ _)) rfl) (ht := (setS32 set0)) (hk := ?_); refine sG (g := (decide ((all.length : Int) > 0))) (hg := gA_t rfl) (hq := fun hg => Quiet.move rfl get2) (ht := (setS32 set1)) (hk := ?_); refine sG (g := (decide ((all.length : Int) > 0))) (hg := gA_t rfl) (hq := fun hg => by ((try simp only [cndT hg]); (try simp only [cndA hg]); exact Quiet.callA rfl rfl (r18_in_l (M.to_whn k9 hg)) rfl rfl)) (ht := (setS32 set2)) (hk := ?_); refine sA (hq := Quiet.pickAndB rfl (getS8 (getS8 (getS8 get3))) (getS32 get2) getC) (ht := (setS32 set3)) (hk := ?_); refine sA (hq := Quiet.move rfl (getS32 get3)) (ht := (setS32 set4)) (hk := ?_); refine sG (g := ((decide ((all.length : Int) > 0)) && r9)) (hg := gA_t rfl) (hq := fun hg => Quiet.move rfl get1) (ht := (setS32 set5)) (hk := ?_); refine sG (g := ((decide ((all.length : Int) > 0)) && r9)) (hg := gA_t rfl) (hq := fun hg => Quiet.ixM rfl ((getS32 get5).trans (cndT hg _ _)) getC rfl (imp_of c10 hg)) (ht := (setS32 set6)) (hk := ?_); refine sG (g := ((decide ((all.length : Int) > 0)) && r9)) (hg := gA_t rfl) (hq := fun hg => Quiet.load_bp rfl ((getS32 get6).trans (cndT hg _ _)) rfl) (ht := (setS32 set7)) (hk := ?_); refine sG (g := ((decide ((all.length : Int) > 0)) && r9)) (hg := gA_t rfl) (hq := fun hg => Quiet.ixM rfl ((getS32 get7).trans (cndT hg _ _)) getC rfl (imp_of c11 hg)) (ht := (setS32 (setS8 set0))) (hk := ?_); refine sG (g := ((decide ((all.length : Int) > 0)) && r9)) (hg := gA_t rfl) (hq := fun hg => Quiet.load_bp rfl ((getS32 (getS8 get0)).trans (cndT hg _ _)) rfl) (ht := (setS32 (setS8 set1))) (hk := ?_); refine sG (g := ((decide ((all.length : Int) > 0)) && r9)) (hg := gA_t rfl) (hq := fun hg => Quiet.move rfl get3) (ht := (setS32 (setS8 set2))) (hk := ?_); refine sG (g := ((decide ((all.length : Int) > 0)) && r9)) (hg := gA_t rfl) (hq := fun hg => by ((try simp only [cndT hg]); (try simp only [cndA hg]); exact Quiet.callA rfl rfl (r18_in_l (M.to_whn k12 hg)) rfl rfl)) (ht := (setS32 (setS8 set3))) (hk := ?_); refine sA (hq := Quiet.pickAndB rfl (getS32 get4) (getS32 (getS8 get3)) getC) (ht := (setS32 (setS8 set4))) (hk := ?_); refine sA (hq := Quiet.assign rfl (getS32 (getS8 get4))) (ht := (setS8 set0)) (hk := ?_); exact wEnd rfl)) (hk := ?_)
      obtain rfl := M.to_ok.1 H
      exact Awp.ret ⟨.inr rfl, Fin.cl rfl⟩
def r18_Edges_L12 (f : Func) (r1 : List Int) (r2 : List (List (List Int))) (i3 : Int) : (Int × (List Pair)) → M ((Int × (List Pair)) ⊕ ((List Pair))) := fun (k11, l13) => M.cnd (decide (k11 < (r1.length : Int))) (M.bnd (M.chk (inBd r1 i3) (M.chk (inBd r1 k11) (M.bnd (r18_Part f r2 (ixD r1 i3) (ixD r1 k11)) fun r24 => M.cnd r24 (M.chk (inBd r1 i3) (M.chk (inBd r1 k11) (M.chk (okPairB ⟨ixD r1 i3, ixD r1 k11⟩) (M.chk (rowB (l13.length + ([⟨ixD r1 i3, ixD r1 k11⟩] : List Pair).length) 16) (M.ok (l13 ++ [⟨ixD r1 i3, ixD r1 k11⟩])))))) (M.ok l13)))) fun l20 => M.ok (.inl (IntKind.i64.wrap (k11 + 1), l20))) (M.ok (.inr l13))
def r18_Edges_L6 (f : Func) (r1 : List Int) (r2 : List (List (List Int))) : (Int × (List Pair)) → M ((Int × (List Pair)) ⊕ ((List Pair))) := fun (i3, l5) => M.cnd (decide (i3 < (r1.length : Int))) (M.bnd (M.loop (r18_Edges_L12 f r1 r2 i3) (IntKind.i64.wrap (i3 + 1), l5)) fun l16 => M.ok (.inl (IntKind.i64.wrap (i3 + 1), l16))) (M.ok (.inr l5))
def r18_Edges (f : Func) : M (List Pair) := M.bnd (r18_Regs f) fun r1 => M.bnd (r17_All f) fun r2 => M.bnd (M.loop (r18_Edges_L6 f r1 r2) (0, [])) fun l8 => M.ok l8
set_option maxRecDepth 100000 in
set_option maxHeartbeats 4000000 in
theorem r18_Edges_l {f : Func} {r : List Pair} (H : (r18_Edges f).to r) : Fn Tryz.prog 10 [.agg (encFunc f)] (.bs tPair r) := by
  delta r18_Edges at H
  try dsimp only at H
  refine Fn.of_awp Tryz.func10 rfl (by kernel_rfl) rfl Tryz.ntmps10 fun C hC => ?_
  simp only [List.length_cons, List.length_nil, Nat.reduceAdd, Nat.reduceSub, List.replicate_succ, List.replicate_zero, List.cons_append, List.nil_append]
  refine wR (hx := by ((refine aSeq_t rfl (AOp.boxI 0 rfl rfl Parts0.agg ?_); refine sNtM (ht := set1) (hk := ?_)); refine sA (hq := Quiet.assign rfl getC) (ht := set2) (hk := ?_); exact wEnd rfl)) (hk := ?_)
  obtain ⟨r1, k1, H⟩ := M.to_bnd.1 H
  have k1 := r18_Regs_l k1
  obtain ⟨r2, k2, H⟩ := M.to_bnd.1 H
  have k2 := r17_All_l k2
  refine wD 6 (hq := by (refine qA (hq := Quiet.loadA_ptr rfl get1 rfl rfl) (ht := (setS8 set0)) (hk := ?_); refine qA (hq := Quiet.callA rfl rfl k1 rfl rfl) (ht := (setS8 set1)) (hk := ?_); refine qA (hq := Quiet.loadA_ptr rfl get1 rfl rfl) (ht := (setS8 set2)) (hk := ?_); refine qA (hq := Quiet.callA rfl rfl k2 rfl rfl) (ht := (setS8 set3)) (hk := ?_); refine qA (hq := Quiet.assign rfl (getS8 get1)) (ht := set3) (hk := ?_); refine qA (hq := Quiet.assign rfl (getS8 get3)) (ht := set4) (hk := ?_); exact qEnd rfl)) (hx := by (exact wEnd rfl)) (hk := ?_)
  refine wR (hx := by (refine sA (hq := Quiet.assign rfl getC) (ht := set5) (hk := ?_); exact wEnd rfl)) (hk := ?_)
  refine Awp.via _ (St.le_own 5 60 tPair rfl (by decide)) ?_
  obtain ⟨z6, HX6, Hl6⟩ := M.to_bnd.1 H
  refine Awp.seqJ (β := ((List Pair)) × (Nat)) (fun q6 => z6 = q6.1) (fun q6 => ⟨[.any, .any, .any, .any, .any, .own 1 q6.2, .any, .any, .any, .any, .any, .any, .any, .any, .any, .any, .any, .any, .any, .any, .any, .any, .any, .any, .any, .any, .any, .any, .any, .any, .any, .any, .any, .any, .any, .any, .any, .any, .any, .any, .any, .any, .any, .any, .any, .any, .any, .any, .any, .any], [.dead, .row q6.2 60 tPair q6.1]⟩) ?_ ?_
  · refine wR (hx := by (refine sA (hq := Quiet.assign rfl getC) (ht := set6) (hk := ?_); exact wEnd rfl)) (hk := ?_)
    refine Awp.block ?_
    refine Awp.loopM HX6 (fun s6 b6 => ⟨[.any, .ptr 0 0, .any, .bs tInt r1, .bs tInt.slice.slice r2, .own 1 b6, .lit (.int .i64 s6.1), .any, .any, .any, .any, .any, .any, .any, .any, .any, .any, .any, .any, .any, .any, .any, .any, .any, .any, .any, .any, .any, .any, .any, .any, .any, .any, .any, .any, .any, .any, .any, .any, .any, .any, .any, .any, .any, .any, .any, .any, .any, .any, .any], [.box (encFunc f), .row b6 60 tPair s6.2]⟩) 0 (?_) ?_
    · try dsimp only
      exact le_TA
    · rintro ⟨i3, l5⟩ v4 x6 H Hr6
      try dsimp only
      dsimp only [r18_Edges_L6] at H
      refine Awp.seq fun Khs9 hs9 => ?_
      refine wR (hx := by (refine sA (hq := Quiet.move rfl get6) (ht := (setS8 set4)) (hk := ?_); refine sA (hq := Quiet.move rfl get3) (ht := (setS8 set5)) (hk := ?_); refine sA (hq := Quiet.ln rfl (getS8 get5)) (ht := (setS8 set6)) (hk := ?_); refine sA (hq := Quiet.bin rfl (getS8 get4) (getS8 get6) rfl) (ht := (setS8 set7)) (hk := ?_); exact wEnd rfl)) (hk := ?_)
      refine Awp.cond rfl (fun hb10 => ?_) (fun hb10 => ?_)
      · have H := M.to_t hb10 H
        refine Awp.skip ?_
        refine hs9 _ ?_
        refine nT (hk := ?_)
        obtain ⟨z14, HX14, Hl14⟩ := M.to_bnd.1 H
        refine Awp.seqJ (β := ((List Pair)) × (Nat)) (fun q14 => z14 = q14.1) (fun q14 => ⟨[.any, .ptr 0 0, .any, .bs tInt r1, .bs tInt.slice.slice r2, .own 1 q14.2, .lit (.int .i64 i3), .any, .any, .any, .any, .any, .any, .any, .any, .any, .any, .any, .any, .any, .any, .any, .any, .any, .any, .any, .any, .any, .any, .any, .any, .any, .any, .any, .any, .any, .any, .any, .any, .any, .any, .any, .any, .any, .any, .any, .any, .any, .any, .any], [.box (encFunc f), .row q14.2 60 tPair q14.1]⟩) ?_ ?_
        · refine Awp.block ?_
          refine wR (hx := by (refine sA (hq := Quiet.move rfl get6) (ht := (setS8 (setS8 set2))) (hk := ?_); refine sA (hq := Quiet.bin rfl (getS8 (getS8 get2)) getC rfl) (ht := (setS8 (setS8 set3))) (hk := ?_); refine sA (hq := Quiet.assign rfl (getS8 (getS8 get3))) (ht := set7) (hk := ?_); exact wEnd rfl)) (hk := ?_)
          refine Awp.block ?_
          refine Awp.loopM HX14 (fun s14 b14 => ⟨[.any, .ptr 0 0, .any, .bs tInt r1, .bs tInt.slice.slice r2, .own 1 b14, .lit (.int .i64 i3), .lit (.int .i64 s14.1), .any, .any, .any, .any, .any, .any, .any, .any, .any, .any, .any, .any, .any, .any, .any, .any, .any, .any, .any, .any, .any, .any, .any, .any, .any, .any, .any, .any, .any, .any, .any, .any, .any, .any, .any, .any, .any, .any, .any, .any, .any, .any], [.box (encFunc f), .row b14 60 tPair s14.2]⟩) v4 (?_) ?_
          · try dsimp only
            exact le_TA
          · rintro ⟨k11, l13⟩ v12 x14 H Hr14
            try dsimp only
            dsimp only [r18_Edges_L12] at H
            refine Awp.seq fun Khs17 hs17 => ?_
            refine wR (hx := by (refine sA (hq := Quiet.move rfl get7) (ht := (setS8 (setS8 set4))) (hk := ?_); refine sA (hq := Quiet.move rfl get3) (ht := (setS8 (setS8 set5))) (hk := ?_); refine sA (hq := Quiet.ln rfl (getS8 (getS8 get5))) (ht := (setS8 (setS8 set6))) (hk := ?_); refine sA (hq := Quiet.bin rfl (getS8 (getS8 get4)) (getS8 (getS8 get6)) rfl) (ht := (setS8 (setS8 set7))) (hk := ?_); exact wEnd rfl)) (hk := ?_)
            refine Awp.cond rfl (fun hb18 => ?_) (fun hb18 => ?_)
            · have H := M.to_t hb18 H
              refine Awp.skip ?_
              refine hs17 _ ?_
              refine nT (hk := ?_)
              obtain ⟨z21, HX21, Hl21⟩ := M.to_bnd.1 H
              refine Awp.seqJ (β := ((List Pair)) × (Nat)) (fun q21 => z21 = q21.1) (fun q21 => ⟨[.any, .ptr 0 0, .any, .bs tInt r1, .bs tInt.slice.slice r2, .own 1 q21.2, .lit (.int .i64 i3), .lit (.int .i64 k11), .any, .any, .any, .any, .any, .any, .any, .any, .any, .any, .any, .any, .any, .any, .any, .any, .any, .any, .any, .any, .any, .any, .any, .any, .any, .any, .any, .any, .any, .any, .any, .any, .any, .any, .any, .any, .any, .any, .any, .any, .any, .any], [.box (encFunc f), .row q21.2 60 tPair q21.1]⟩) ?_ ?_
              · have H := HX21
                refine Awp.block ?_
                obtain ⟨c22, H⟩ := M.to_chk.1 H
                obtain ⟨c23, H⟩ := M.to_chk.1 H
                obtain ⟨r24, k24, H⟩ := M.to_bnd.1 H
                have k24 := r18_Part_l k24
                refine wD 11 (hq := by (refine qA (hq := Quiet.loadA_ptr rfl get1 rfl rfl) (ht := (setS8 (setS8 (setS8 set2)))) (hk := ?_); refine qA (hq := Quiet.move rfl get4) (ht := (setS8 (setS8 (setS8 set3)))) (hk := ?_); refine qA (hq := Quiet.move rfl get3) (ht := (setS8 (setS8 (setS8 set4)))) (hk := ?_); refine qA (hq := Quiet.move rfl get6) (ht := (setS8 (setS8 (setS8 set5)))) (hk := ?_); refine qA (hq := Quiet.ixM rfl (getS8 (getS8 (getS8 get4))) (getS8 (getS8 (getS8 get5))) rfl c22) (ht := (setS8 (setS8 (setS8 set6)))) (hk := ?_); refine qA (hq := Quiet.load_bp rfl (getS8 (getS8 (getS8 get6))) rfl) (ht := (setS8 (setS8 (setS8 set7)))) (hk := ?_); refine qA (hq := Quiet.move rfl get3) (ht := (setS32 set0)) (hk := ?_); refine qA (hq := Quiet.move rfl get7) (ht := (setS32 set1)) (hk := ?_); refine qA (hq := Quiet.ixM rfl (getS32 get0) (getS32 get1) rfl c23) (ht := (setS32 set2)) (hk := ?_); refine qA (hq := Quiet.load_bp rfl (getS32 get2) rfl) (ht := (setS32 set3)) (hk := ?_); refine qA (hq := Quiet.callA rfl rfl k24 rfl rfl) (ht := (setS32 set4)) (hk := ?_); exact qEnd rfl)) (hx := by (exact wEnd rfl)) (hk := ?_)
                refine Awp.cond rfl (fun hb25 => ?_) (fun hb25 => ?_)
                · have H := M.to_t hb25 H
                  obtain ⟨c26, H⟩ := M.to_chk.1 H
                  obtain ⟨c27, H⟩ := M.to_chk.1 H
                  obtain ⟨c28, H⟩ := M.to_chk.1 H
                  obtain ⟨c29, H⟩ := M.to_chk.1 H
                  refine wDE 11 (hq := by (refine qA (hq := Quiet.move rfl get5) (ht := (setS32 set5)) (hk := ?_); refine qA (hq := Quiet.move rfl get3) (ht := (setS32 set6)) (hk := ?_); refine qA (hq := Quiet.move rfl get6) (ht := (setS32 set7)) (hk := ?_); refine qA (hq := Quiet.ixM rfl (getS32 get6) (getS32 get7) rfl c26) (ht := (setS32 (setS8 set0))) (hk := ?_); refine qA (hq := Quiet.load_bp rfl (getS32 (getS8 get0)) rfl) (ht := (setS32 (setS8 set1))) (hk := ?_); refine qA (hq := Quiet.move rfl get3) (ht := (setS32 (setS8 set2))) (hk := ?_); refine qA (hq := Quiet.move rfl get7) (ht := (setS32 (setS8 set3))) (hk := ?_); refine qA (hq := Quiet.ixM rfl (getS32 (getS8 get2)) (getS32 (getS8 get3)) rfl c27) (ht := (setS32 (setS8 set4))) (hk := ?_); refine qA (hq := Quiet.load_bp rfl (getS32 (getS8 get4)) rfl) (ht := (setS32 (setS8 set5))) (hk := ?_); refine qA (hq := Quiet.bldP (rs := [.lit (.int .i64 (ixD r1 i3)), .lit (.int .i64 (ixD r1 k11))]) rfl plPair rfl rfl) (ht := (setS32 (setS8 set6))) (hk := ?_); refine qA (hq := Quiet.lt (xs := [.tmp 46]) (T := tPair) (ds := [⟨ixD r1 i3, ixD r1 k11⟩]) rfl rfl rfl (by rfl) (by decide) (.cons (fit_Pair c28) .nil)) (ht := (setS32 (setS8 set7))) (hk := ?_); exact qEnd rfl)) (hx := by ((refine aSeq_t rfl (AOp.appQ rfl rfl rfl rfl rfl c29 ?_); refine sNtM (ht := (setS32 (setS8 (setS8 set0)))) (hk := ?_)); refine sA (hq := Quiet.assign rfl (getS32 (getS8 (getS8 get0)))) (ht := set5) (hk := ?_); exact wEnd rfl)) (hk := ?_)
                  have e21 := M.to_ok.1 H
                  repeat (first | refine abN ?_ | refine asN ?_)
                  refine athen_n ⟨(_, v12 + 1), e21.symm, ?_⟩
                  try dsimp only
                  exact le_TA
                · have H := M.to_f hb25 H
                  refine Awp.skip ?_
                  have e21 := M.to_ok.1 H
                  repeat (first | refine abN ?_ | refine asN ?_)
                  refine athen_n ⟨(_, v12), e21.symm, ?_⟩
                  try dsimp only
                  exact le_TA
              · rintro ⟨l20, v19⟩ hz21
                try dsimp only at hz21
                have H := Hl21
                rw [hz21] at H
                try dsimp only
                refine wRE (hx := by (refine sA (hq := Quiet.move rfl get7) (ht := (setS8 (setS8 (setS8 set0)))) (hk := ?_); refine sA (hq := Quiet.bin rfl (getS8 (getS8 (getS8 get0))) getC rfl) (ht := (setS8 (setS8 (setS8 set1)))) (hk := ?_); refine sA (hq := Quiet.assign rfl (getS8 (getS8 (getS8 get1)))) (ht := set7) (hk := ?_); exact wEnd rfl)) (hk := ?_)
                have e14 := M.to_ok.1 H
                repeat (first | refine abN ?_ | refine asN ?_)
                refine athen_n ⟨_, v19, e14.symm, ?_⟩
                try dsimp only
                exact le_TA
            · have H := M.to_f hb18 H
              refine Awp.exit ?_
              repeat (first | refine athen_e ?_ | refine exO (by decide) ?_ | refine asE ?_)
              refine exN ?_
              have e14 := Hr14 _ (M.to_ok.1 H).symm
              repeat (first | refine abN ?_ | refine asN ?_)
              refine athen_n ⟨(_, v12), e14.symm, ?_⟩
              try dsimp only
              exact le_TA
        · rintro ⟨l16, v15⟩ hz14
          try dsimp only at hz14
          have H := Hl14
          rw [hz14] at H
          try dsimp only
          refine wRE (hx := by (refine sA (hq := Quiet.move rfl get6) (ht := (setS8 (setS8 set0))) (hk := ?_); refine sA (hq := Quiet.bin rfl (getS8 (getS8 get0)) getC rfl) (ht := (setS8 (setS8 set1))) (hk := ?_); refine sA (hq := Quiet.assign rfl (getS8 (getS8 get1))) (ht := set6) (hk := ?_); exact wEnd rfl)) (hk := ?_)
          have e6 := M.to_ok.1 H
          repeat (first | refine abN ?_ | refine asN ?_)
          refine athen_n ⟨_, v15, e6.symm, ?_⟩
          try dsimp only
          exact le_TA
      · have H := M.to_f hb10 H
        refine Awp.exit ?_
        repeat (first | refine athen_e ?_ | refine exO (by decide) ?_ | refine asE ?_)
        refine exN ?_
        have e6 := Hr6 _ (M.to_ok.1 H).symm
        repeat (first | refine abN ?_ | refine asN ?_)
        refine athen_n ⟨(_, v4), e6.symm, ?_⟩
        try dsimp only
        exact leC (Cut.dead (Cut.cons (Cut.nil _)))
  · rintro ⟨l8, v7⟩ hz6
    try dsimp only at hz6
    have H := Hl6
    rw [hz6] at H
    try dsimp only
    refine wR (hx := by (refine sA (hq := Quiet.move rfl get5) (ht := (setS32 (setS8 (setS8 set1)))) (hk := ?_); refine sA (hq := Quiet.assign rfl (getS32 (getS8 (getS8 get1)))) (ht := set2) (hk := ?_); exact wEnd rfl)) (hk := ?_)
    obtain rfl := M.to_ok.1 H
    exact Awp.ret ⟨.inr rfl, Fin.own rfl⟩
def r18_moves_L10 (f : Func) (d : Int) (a : Int) (b1 : Int) : Int → M (Int ⊕ ((Unit) ⊕ ((Int) ⊕ ((Unit) ⊕ (Bool))))) := fun i5 => M.chk (inBd f.blocks b1) (M.cnd (decide (i5 < (((ixD f.blocks b1).ins).length : Int))) (M.chk (inBd f.blocks b1) (M.chk (inBd ((ixD f.blocks b1).ins) i5) (M.cnd (((((ixD ((ixD f.blocks b1).ins) i5).op) == 2) && (((ixD ((ixD f.blocks b1).ins) i5).d) == d)) && (((ixD ((ixD f.blocks b1).ins) i5).a) == a)) (M.ok (.inr (.inr (.inr (.inr true))))) (M.ok (.inl (IntKind.i64.wrap (i5 + 1))))))) (M.ok (.inr (.inl ()))))
def r18_moves_L4 (f : Func) (d : Int) (a : Int) : Int → M (Int ⊕ ((Unit) ⊕ (Bool))) := fun b1 => M.cnd (decide (b1 < (f.blocks.length : Int))) (M.els (M.loop (r18_moves_L10 f d a b1) 0) fun _ => M.ok (.inl (IntKind.i64.wrap (b1 + 1)))) (M.ok (.inr (.inl ())))
def r18_moves (f : Func) (d : Int) (a : Int) : M Bool := M.els (M.loop (r18_moves_L4 f d a) 0) fun _ => M.ok false
set_option maxRecDepth 100000 in
set_option maxHeartbeats 4000000 in
theorem r18_moves_l {f : Func} {d : Int} {a : Int} {r : Bool} (H : (r18_moves f d a).to r) : Fn Tryz.prog 36 [.agg (encFunc f), .lit (.int .i64 d), .lit (.int .i64 a)] (.lit (.bool r)) := by
  delta r18_moves at H
  try dsimp only at H
  refine Fn.of_awp Tryz.func36 rfl (by kernel_rfl) rfl Tryz.ntmps36 fun C hC => ?_
  simp only [List.length_cons, List.length_nil, Nat.reduceAdd, Nat.reduceSub, List.replicate_succ, List.replicate_zero, List.cons_append, List.nil_append]
  refine wR (hx := by ((refine aSeq_t rfl (AOp.boxI 0 rfl rfl Parts0.agg ?_); refine sNtM (ht := set3) (hk := ?_)); refine sA (hq := Quiet.assign rfl getC) (ht := set6) (hk := ?_); exact wEnd rfl)) (hk := ?_)
  obtain ⟨z2, HX2, Hl2, Hq2⟩ := M.to_els H
  refine Awp.seqJ (β := (Unit) × (Unit)) (fun q2 => z2 = .inl q2.1) (fun q2 => ⟨[.any, .any, .any, .any, .any, .any, .any, .any, .any, .any, .any, .any, .any, .any, .any, .any, .any, .any, .any, .any, .any, .any, .any, .any, .any, .any, .any, .any, .any, .any, .any, .any, .any, .any, .any, .any, .any, .any, .any, .any, .any, .any, .any, .any, .any, .any, .any, .any, .any, .any, .any, .any], [.dead]⟩) ?_ ?_
  · refine wR (hx := by (refine sA (hq := Quiet.assign rfl getC) (ht := set7) (hk := ?_); exact wEnd rfl)) (hk := ?_)
    refine Awp.block ?_
    refine Awp.loopM HX2 (fun s2 b2 => ⟨[.any, .lit (.int .i64 d), .lit (.int .i64 a), .ptr 0 0, .any, .any, .any, .lit (.int .i64 s2), .any, .any, .any, .any, .any, .any, .any, .any, .any, .any, .any, .any, .any, .any, .any, .any, .any, .any, .any, .any, .any, .any, .any, .any, .any, .any, .any, .any, .any, .any, .any, .any, .any, .any, .any, .any, .any, .any, .any, .any, .any, .any, .any, .any], [.box (encFunc f)]⟩) () (?_) ?_
    · try dsimp only
      exact le_TA
    · rintro b1 _ x2 H Hr2
      try dsimp only
      dsimp only [r18_moves_L4] at H
      refine Awp.seq fun Khs3 hs3 => ?_
      refine wR (hx := by (refine sA (hq := Quiet.move rfl get7) (ht := (setS8 set2)) (hk := ?_); refine sA (hq := Quiet.fa_ptr rfl get3 rfl) (ht := (setS8 set3)) (hk := ?_); refine sA (hq := Quiet.load_ptr rfl (getS8 get3) rfl rfl) (ht := (setS8 set4)) (hk := ?_); refine sA (hq := Quiet.ln rfl (getS8 get4)) (ht := (setS8 set5)) (hk := ?_); refine sA (hq := Quiet.bin rfl (getS8 get2) (getS8 get5) rfl) (ht := (setS8 set6)) (hk := ?_); exact wEnd rfl)) (hk := ?_)
      refine Awp.cond rfl (fun hb4 => ?_) (fun hb4 => ?_)
      · have H := M.to_t hb4 H
        refine Awp.skip ?_
        refine hs3 _ ?_
        refine nT (hk := ?_)
        obtain ⟨z6, HX6, Hl6, Hq6⟩ := M.to_els H
        refine Awp.seqJ (β := (Unit) × (Unit)) (fun q6 => z6 = .inl q6.1) (fun q6 => ⟨[.any, .lit (.int .i64 d), .lit (.int .i64 a), .ptr 0 0, .any, .any, .any, .lit (.int .i64 b1), .any, .any, .any, .any, .any, .any, .any, .any, .any, .any, .any, .any, .any, .any, .any, .any, .any, .any, .any, .any, .any, .any, .any, .any, .any, .any, .any, .any, .any, .any, .any, .any, .any, .any, .any, .any, .any, .any, .any, .any, .any, .any, .any, .any], [.box (encFunc f)]⟩) ?_ ?_
        · refine Awp.block ?_
          refine wR (hx := by (refine sA (hq := Quiet.assign rfl getC) (ht := (setS8 set0)) (hk := ?_); exact wEnd rfl)) (hk := ?_)
          refine Awp.block ?_
          refine Awp.loopM HX6 (fun s6 b6 => ⟨[.any, .lit (.int .i64 d), .lit (.int .i64 a), .ptr 0 0, .any, .any, .any, .lit (.int .i64 b1), .lit (.int .i64 s6), .any, .any, .any, .any, .any, .any, .any, .any, .any, .any, .any, .any, .any, .any, .any, .any, .any, .any, .any, .any, .any, .any, .any, .any, .any, .any, .any, .any, .any, .any, .any, .any, .any, .any, .any, .any, .any, .any, .any, .any, .any, .any, .any], [.box (encFunc f)]⟩) () (?_) ?_
          · try dsimp only
            exact le_TA
          · rintro i5 _ x6 H Hr6
            try dsimp only
            dsimp only [r18_moves_L10] at H
            refine Awp.seq fun Khs7 hs7 => ?_
            obtain ⟨c8, H⟩ := M.to_chk.1 H
            refine wR (hx := by (refine sA (hq := Quiet.move rfl (getS8 get0)) (ht := (setS8 (setS8 set1))) (hk := ?_); refine sA (hq := Quiet.fa_ptr rfl get3 rfl) (ht := (setS8 (setS8 set2))) (hk := ?_); refine sA (hq := Quiet.load_ptr rfl (getS8 (getS8 get2)) rfl rfl) (ht := (setS8 (setS8 set3))) (hk := ?_); refine sA (hq := Quiet.move rfl get7) (ht := (setS8 (setS8 set4))) (hk := ?_); refine sA (hq := Quiet.ixM rfl (getS8 (getS8 get3)) (getS8 (getS8 get4)) rfl c8) (ht := (setS8 (setS8 set5))) (hk := ?_); refine sA (hq := Quiet.fa_bp rfl (getS8 (getS8 get5))) (ht := (setS8 (setS8 set6))) (hk := ?_); refine sA (hq := Quiet.load_bp rfl (getS8 (getS8 get6)) rfl) (ht := (setS8 (setS8 set7))) (hk := ?_); refine sA (hq := Quiet.ln rfl (getS8 (getS8 get7))) (ht := (setS8 (setS8 (setS8 set0)))) (hk := ?_); refine sA (hq := Quiet.bin rfl (getS8 (getS8 get1)) (getS8 (getS8 (getS8 get0))) rfl) (ht := (setS8 (setS8 (setS8 set1)))) (hk := ?_); exact wEnd rfl)) (hk := ?_)
            refine Awp.cond rfl (fun hb9 => ?_) (fun hb9 => ?_)
            · have H := M.to_t hb9 H
              refine Awp.skip ?_
              refine hs7 _ ?_
              refine nT (hk := ?_)
              refine Awp.seq fun Khs10 hs10 => ?_
              refine Awp.block ?_
              obtain ⟨c11, H⟩ := M.to_chk.1 H
              obtain ⟨c12, H⟩ := M.to_chk.1 H
              refine wR (hx := by (refine sA (hq := Quiet.fa_ptr rfl get3 rfl) (ht := (setS8 (setS8 (setS8 set4)))) (hk := ?_); refine sA (hq := Quiet.load_ptr rfl (getS8 (getS8 (getS8 get4))) rfl rfl) (ht := (setS8 (setS8 (setS8 set5)))) (hk := ?_); refine sA (hq := Quiet.move rfl get7) (ht := (setS8 (setS8 (setS8 set6)))) (hk := ?_); refine sA (hq := Quiet.ixM rfl (getS8 (getS8 (getS8 get5))) (getS8 (getS8 (getS8 get6))) rfl c11) (ht := (setS8 (setS8 (setS8 set7)))) (hk := ?_); refine sA (hq := Quiet.fa_bp rfl (getS8 (getS8 (getS8 get7)))) (ht := (setS32 set0)) (hk := ?_); refine sA (hq := Quiet.load_bp rfl (getS32 get0) rfl) (ht := (setS32 set1)) (hk := ?_); refine sA (hq := Quiet.move rfl (getS8 get0)) (ht := (setS32 set2)) (hk := ?_); refine sA (hq := Quiet.ixM rfl (getS32 get1) (getS32 get2) rfl c12) (ht := (setS32 set3)) (hk := ?_); refine sA (hq := Quiet.loadA_bp rfl (getS32 get3) rfl) (ht := (setS32 set4)) (hk := ?_); (refine aSeq_t rfl (AOp.alI 1 rfl rfl ?_); refine sNtM (ht := (setS8 set1)) (hk := ?_)); (refine aSeq_t rfl (AOp.stBox rfl rfl rfl (Parts.aggB rfl) rfl (Nat.le_of_ble_eq_true rfl) ?_); refine sNtM (ht := setN) (hk := ?_)); exact wEnd rfl)) (hk := ?_)
              refine wR (hx := by (refine sA (hq := Quiet.fa_ptr rfl (getS8 get1) rfl) (ht := (setS32 set5)) (hk := ?_); refine sA (hq := Quiet.load_ptr rfl (getS32 get5) rfl rfl) (ht := (setS32 set6)) (hk := ?_); refine sA (hq := Quiet.bin rfl (getS32 get6) getC rfl) (ht := (setS32 set7)) (hk := ?_); refine sA (hq := Quiet.move rfl (getS32 get7)) (ht := (setS32 (setS8 set0))) (hk := ?_); refine sG (g := (((ixD ((ixD f.blocks b1).ins) i5).op) == 2)) (hg := gA_t rfl) (hq := fun hg => Quiet.fa_ptr rfl (getS8 get1) rfl) (ht := (setS32 (setS8 set1))) (hk := ?_); refine sG (g := (((ixD ((ixD f.blocks b1).ins) i5).op) == 2)) (hg := gA_t rfl) (hq := fun hg => Quiet.load_ptr rfl ((getS32 (getS8 get1)).trans (cndT hg _ _)) rfl rfl) (ht := (setS32 (setS8 set2))) (hk := ?_); refine sG (g := (((ixD ((ixD f.blocks b1).ins) i5).op) == 2)) (hg := gA_t rfl) (hq := fun hg => Quiet.move rfl get1) (ht := (setS32 (setS8 set3))) (hk := ?_); refine sG (g := (((ixD ((ixD f.blocks b1).ins) i5).op) == 2)) (hg := gA_t rfl) (hq := fun hg => Quiet.bin rfl ((getS32 (getS8 get2)).trans (cndT hg _ _)) ((getS32 (getS8 get3)).trans (cndT hg _ _)) rfl) (ht := (setS32 (setS8 set4))) (hk := ?_); refine sA (hq := Quiet.pickAndB rfl (getS32 (getS8 get0)) (getS32 (getS8 get4)) getC) (ht := (setS32 (setS8 set5))) (hk := ?_); refine sA (hq := Quiet.move rfl (getS32 (getS8 get5))) (ht := (setS32 (setS8 set6))) (hk := ?_); refine sG (g := ((((ixD ((ixD f.blocks b1).ins) i5).op) == 2) && (((ixD ((ixD f.blocks b1).ins) i5).d) == d))) (hg := gA_t rfl) (hq := fun hg => Quiet.fa_ptr rfl (getS8 get1) rfl) (ht := (setS32 (setS8 set7))) (hk := ?_); refine sG (g := ((((ixD ((ixD f.blocks b1).ins) i5).op) == 2) && (((ixD ((ixD f.blocks b1).ins) i5).d) == d))) (hg := gA_t rfl) (hq := fun hg => Quiet.load_ptr rfl ((getS32 (getS8 get7)).trans (cndT hg _ _)) rfl rfl) (ht := (setS32 (setS8 (setS8 set0)))) (hk := ?_); refine sG (g := ((((ixD ((ixD f.blocks b1).ins) i5).op) == 2) && (((ixD ((ixD f.blocks b1).ins) i5).d) == d))) (hg := gA_t rfl) (hq := fun hg => Quiet.move rfl get2) (ht := (setS32 (setS8 (setS8 set1)))) (hk := ?_); refine sG (g := ((((ixD ((ixD f.blocks b1).ins) i5).op) == 2) && (((ixD ((ixD f.blocks b1).ins) i5).d) == d))) (hg := gA_t rfl) (hq := fun hg => Quiet.bin rfl ((getS32 (getS8 (getS8 get0))).trans (cndT hg _ _)) ((getS32 (getS8 (getS8 get1))).trans (cndT hg _ _)) rfl) (ht := (setS32 (setS8 (setS8 set2)))) (hk := ?_); refine sA (hq := Quiet.pickAndB rfl (getS32 (getS8 get6)) (getS32 (getS8 (getS8 get2))) getC) (ht := (setS32 (setS8 (setS8 set3)))) (hk := ?_); exact wEnd rfl)) (hk := ?_)
              refine Awp.cond rfl (fun hb13 => ?_) (fun hb13 => ?_)
              · have H := M.to_t hb13 H
                refine wR (hx := by (refine sA (hq := Quiet.assign rfl getC) (ht := set6) (hk := ?_); exact wEnd rfl)) (hk := ?_)
                have H := M.to_ok.2 (Hq6 _ (Hr6 _ (M.to_ok.1 H).symm).symm)
                have H := M.to_ok.2 (Hq2 _ (Hr2 _ (M.to_ok.1 H).symm).symm)
                obtain rfl := M.to_ok.1 H
                exact Awp.ret ⟨.inr rfl, Fin.cl rfl⟩
              · have H := M.to_f hb13 H
                refine Awp.skip ?_
                refine hs10 _ ?_
                refine nT (hk := ?_)
                refine wRE (hx := by (refine sA (hq := Quiet.move rfl (getS8 get0)) (ht := (setS8 (setS8 (setS8 set2)))) (hk := ?_); refine sA (hq := Quiet.bin rfl (getS8 (getS8 (getS8 get2))) getC rfl) (ht := (setS8 (setS8 (setS8 set3)))) (hk := ?_); refine sA (hq := Quiet.assign rfl (getS8 (getS8 (getS8 get3)))) (ht := (setS8 set0)) (hk := ?_); exact wEnd rfl)) (hk := ?_)
                have e6 := M.to_ok.1 H
                repeat (first | refine abN ?_ | refine asN ?_)
                refine athen_n ⟨_, (), e6.symm, ?_⟩
                try dsimp only
                exact leC (Cut.cons (Cut.nil _))
            · have H := M.to_f hb9 H
              refine Awp.exit ?_
              repeat (first | refine athen_e ?_ | refine exO (by decide) ?_ | refine asE ?_)
              refine exN ?_
              have e6 := Hr6 _ (M.to_ok.1 H).symm
              repeat (first | refine abN ?_ | refine asN ?_)
              refine athen_n ⟨(_, ()), e6.symm, ?_⟩
              try dsimp only
              exact le_TA
        · rintro ⟨_, _⟩ hz6
          try dsimp only at hz6
          have H := Hl6 _ hz6
          try dsimp only
          refine wRE (hx := by (refine sA (hq := Quiet.move rfl get7) (ht := (setS8 set7)) (hk := ?_); refine sA (hq := Quiet.bin rfl (getS8 get7) getC rfl) (ht := (setS8 (setS8 set0))) (hk := ?_); refine sA (hq := Quiet.assign rfl (getS8 (getS8 get0))) (ht := set7) (hk := ?_); exact wEnd rfl)) (hk := ?_)
          have e2 := M.to_ok.1 H
          repeat (first | refine abN ?_ | refine asN ?_)
          refine athen_n ⟨_, (), e2.symm, ?_⟩
          try dsimp only
          exact le_TA
      · have H := M.to_f hb4 H
        refine Awp.exit ?_
        repeat (first | refine athen_e ?_ | refine exO (by decide) ?_ | refine asE ?_)
        refine exN ?_
        have e2 := Hr2 _ (M.to_ok.1 H).symm
        repeat (first | refine abN ?_ | refine asN ?_)
        refine athen_n ⟨(_, ()), e2.symm, ?_⟩
        try dsimp only
        exact leC (Cut.dead (Cut.nil _))
  · rintro ⟨_, _⟩ hz2
    try dsimp only at hz2
    have H := Hl2 _ hz2
    try dsimp only
    refine wR (hx := by (refine sA (hq := Quiet.assign rfl getC) (ht := set6) (hk := ?_); exact wEnd rfl)) (hk := ?_)
    obtain rfl := M.to_ok.1 H
    exact Awp.ret ⟨.inr rfl, Fin.cl rfl⟩
def r18_Moves_L12 (f : Func) (r1 : List Int) (i2 : Int) : (Int × (List Pair)) → M ((Int × (List Pair)) ⊕ ((List Pair))) := fun (k10, l12) => M.cnd (decide (k10 < (r1.length : Int))) (M.bnd (M.chk (inBd r1 i2) (M.chk (inBd r1 k10) (M.bnd (r18_moves f (ixD r1 i2) (ixD r1 k10)) fun r23 => M.chk (!(!r23) || (inBd r1 k10)) (M.chk (!(!r23) || (inBd r1 i2)) (M.bnd (M.whn (!r23) false (r18_moves f (ixD r1 k10) (ixD r1 i2))) fun r26 => M.cnd (r23 || r26) (M.chk (inBd r1 i2) (M.chk (inBd r1 k10) (M.chk (okPairB ⟨ixD r1 i2, ixD r1 k10⟩) (M.chk (rowB (l12.length + ([⟨ixD r1 i2, ixD r1 k10⟩] : List Pair).length) 16) (M.ok (l12 ++ [⟨ixD r1 i2, ixD r1 k10⟩])))))) (M.ok l12)))))) fun l19 => M.ok (.inl (IntKind.i64.wrap (k10 + 1), l19))) (M.ok (.inr l12))
def r18_Moves_L6 (f : Func) (r1 : List Int) : (Int × (List Pair)) → M ((Int × (List Pair)) ⊕ ((List Pair))) := fun (i2, l4) => M.cnd (decide (i2 < (r1.length : Int))) (M.bnd (M.loop (r18_Moves_L12 f r1 i2) (IntKind.i64.wrap (i2 + 1), l4)) fun l15 => M.ok (.inl (IntKind.i64.wrap (i2 + 1), l15))) (M.ok (.inr l4))
def r18_Moves (f : Func) : M (List Pair) := M.bnd (r18_Regs f) fun r1 => M.bnd (M.loop (r18_Moves_L6 f r1) (0, [])) fun l7 => M.ok l7
set_option maxRecDepth 100000 in
set_option maxHeartbeats 4000000 in
theorem r18_Moves_l {f : Func} {r : List Pair} (H : (r18_Moves f).to r) : Fn Tryz.prog 12 [.agg (encFunc f)] (.bs tPair r) := by
  delta r18_Moves at H
  try dsimp only at H
  refine Fn.of_awp Tryz.func12 rfl (by kernel_rfl) rfl Tryz.ntmps12 fun C hC => ?_
  simp only [List.length_cons, List.length_nil, Nat.reduceAdd, Nat.reduceSub, List.replicate_succ, List.replicate_zero, List.cons_append, List.nil_append]
  refine wR (hx := by ((refine aSeq_t rfl (AOp.boxI 0 rfl rfl Parts0.agg ?_); refine sNtM (ht := set1) (hk := ?_)); refine sA (hq := Quiet.assign rfl getC) (ht := set2) (hk := ?_); exact wEnd rfl)) (hk := ?_)
  obtain ⟨r1, k1, H⟩ := M.to_bnd.1 H
  have k1 := r18_Regs_l k1
  refine wR (hx := by (refine sA (hq := Quiet.loadA_ptr rfl get1 rfl rfl) (ht := set7) (hk := ?_); refine sA (hq := Quiet.callA rfl rfl k1 rfl rfl) (ht := (setS8 set0)) (hk := ?_); refine sA (hq := Quiet.assign rfl (getS8 get0)) (ht := set3) (hk := ?_); exact wEnd rfl)) (hk := ?_)
  refine wR (hx := by (refine sA (hq := Quiet.assign rfl getC) (ht := set4) (hk := ?_); exact wEnd rfl)) (hk := ?_)
  refine Awp.via _ (St.le_own 4 60 tPair rfl (by decide)) ?_
  obtain ⟨z5, HX5, Hl5⟩ := M.to_bnd.1 H
  refine Awp.seqJ (β := ((List Pair)) × (Nat)) (fun q5 => z5 = q5.1) (fun q5 => ⟨[.any, .any, .any, .any, .own 1 q5.2, .any, .any, .any, .any, .any, .any, .any, .any, .any, .any, .any, .any, .any, .any, .any, .any, .any, .any, .any, .any, .any, .any, .any, .any, .any, .any, .any, .any, .any, .any, .any, .any, .any, .any, .any, .any, .any, .any, .any, .any, .any, .any, .any, .any, .any, .any, .any, .any, .any, .any, .any, .any, .any], [.dead, .row q5.2 60 tPair q5.1]⟩) ?_ ?_
  · refine wR (hx := by (refine sA (hq := Quiet.assign rfl getC) (ht := set5) (hk := ?_); exact wEnd rfl)) (hk := ?_)
    refine Awp.block ?_
    refine Awp.loopM HX5 (fun s5 b5 => ⟨[.any, .ptr 0 0, .any, .bs tInt r1, .own 1 b5, .lit (.int .i64 s5.1), .any, .any, .any, .any, .any, .any, .any, .any, .any, .any, .any, .any, .any, .any, .any, .any, .any, .any, .any, .any, .any, .any, .any, .any, .any, .any, .any, .any, .any, .any, .any, .any, .any, .any, .any, .any, .any, .any, .any, .any, .any, .any, .any, .any, .any, .any, .any, .any, .any, .any, .any, .any], [.box (encFunc f), .row b5 60 tPair s5.2]⟩) 0 (?_) ?_
    · try dsimp only
      exact le_TA
    · rintro ⟨i2, l4⟩ v3 x5 H Hr5
      try dsimp only
      dsimp only [r18_Moves_L6] at H
      refine Awp.seq fun Khs8 hs8 => ?_
      refine wR (hx := by (refine sA (hq := Quiet.move rfl get5) (ht := (setS8 set1)) (hk := ?_); refine sA (hq := Quiet.move rfl get3) (ht := (setS8 set2)) (hk := ?_); refine sA (hq := Quiet.ln rfl (getS8 get2)) (ht := (setS8 set3)) (hk := ?_); refine sA (hq := Quiet.bin rfl (getS8 get1) (getS8 get3) rfl) (ht := (setS8 set4)) (hk := ?_); exact wEnd rfl)) (hk := ?_)
      refine Awp.cond rfl (fun hb9 => ?_) (fun hb9 => ?_)
      · have H := M.to_t hb9 H
        refine Awp.skip ?_
        refine hs8 _ ?_
        refine nT (hk := ?_)
        obtain ⟨z13, HX13, Hl13⟩ := M.to_bnd.1 H
        refine Awp.seqJ (β := ((List Pair)) × (Nat)) (fun q13 => z13 = q13.1) (fun q13 => ⟨[.any, .ptr 0 0, .any, .bs tInt r1, .own 1 q13.2, .lit (.int .i64 i2), .any, .any, .any, .any, .any, .any, .any, .any, .any, .any, .any, .any, .any, .any, .any, .any, .any, .any, .any, .any, .any, .any, .any, .any, .any, .any, .any, .any, .any, .any, .any, .any, .any, .any, .any, .any, .any, .any, .any, .any, .any, .any, .any, .any, .any, .any, .any, .any, .any, .any, .any, .any], [.box (encFunc f), .row q13.2 60 tPair q13.1]⟩) ?_ ?_
        · refine Awp.block ?_
          refine wR (hx := by (refine sA (hq := Quiet.move rfl get5) (ht := (setS8 set7)) (hk := ?_); refine sA (hq := Quiet.bin rfl (getS8 get7) getC rfl) (ht := (setS8 (setS8 set0))) (hk := ?_); refine sA (hq := Quiet.assign rfl (getS8 (getS8 get0))) (ht := set6) (hk := ?_); exact wEnd rfl)) (hk := ?_)
          refine Awp.block ?_
          refine Awp.loopM HX13 (fun s13 b13 => ⟨[.any, .ptr 0 0, .any, .bs tInt r1, .own 1 b13, .lit (.int .i64 i2), .lit (.int .i64 s13.1), .any, .any, .any, .any, .any, .any, .any, .any, .any, .any, .any, .any, .any, .any, .any, .any, .any, .any, .any, .any, .any, .any, .any, .any, .any, .any, .any, .any, .any, .any, .any, .any, .any, .any, .any, .any, .any, .any, .any, .any, .any, .any, .any, .any, .any, .any, .any, .any, .any, .any, .any], [.box (encFunc f), .row b13 60 tPair s13.2]⟩) v3 (?_) ?_
          · try dsimp only
            exact le_TA
          · rintro ⟨k10, l12⟩ v11 x13 H Hr13
            try dsimp only
            dsimp only [r18_Moves_L12] at H
            refine Awp.seq fun Khs16 hs16 => ?_
            refine wR (hx := by (refine sA (hq := Quiet.move rfl get6) (ht := (setS8 (setS8 set1))) (hk := ?_); refine sA (hq := Quiet.move rfl get3) (ht := (setS8 (setS8 set2))) (hk := ?_); refine sA (hq := Quiet.ln rfl (getS8 (getS8 get2))) (ht := (setS8 (setS8 set3))) (hk := ?_); refine sA (hq := Quiet.bin rfl (getS8 (getS8 get1)) (getS8 (getS8 get3)) rfl) (ht := (setS8 (setS8 set4))) (hk := ?_); exact wEnd rfl)) (hk := ?_)
            refine Awp.cond rfl (fun hb17 => ?_) (fun hb17 => ?_)
            · have H := M.to_t hb17 H
              refine Awp.skip ?_
              refine hs16 _ ?_
              refine nT (hk := ?_)
              obtain ⟨z20, HX20, Hl20⟩ := M.to_bnd.1 H
              refine Awp.seqJ (β := ((List Pair)) × (Nat)) (fun q20 => z20 = q20.1) (fun q20 => ⟨[.any, .ptr 0 0, .any, .bs tInt r1, .own 1 q20.2, .lit (.int .i64 i2), .lit (.int .i64 k10), .any, .any, .any, .any, .any, .any, .any, .any, .any, .any, .any, .any, .any, .any, .any, .any, .any, .any, .any, .any, .any, .any, .any, .any, .any, .any, .any, .any, .any, .any, .any, .any, .any, .any, .any, .any, .any, .any, .any, .any, .any, .any, .any, .any, .any, .any, .any, .any, .any, .any, .any], [.box (encFunc f), .row q20.2 60 tPair q20.1]⟩) ?_ ?_
              · have H := HX20
                refine Awp.block ?_
                obtain ⟨c21, H⟩ := M.to_chk.1 H
                obtain ⟨c22, H⟩ := M.to_chk.1 H
                obtain ⟨r23, k23, H⟩ := M.to_bnd.1 H
                have k23 := r18_moves_l k23
                obtain ⟨c24, H⟩ := M.to_chk.1 H
                obtain ⟨c25, H⟩ := M.to_chk.1 H
                obtain ⟨r26, k26, H⟩ := M.to_bnd.1 H
                refine wD 22 (hq := by (refine qA (hq := Quiet.loadA_ptr rfl get1 rfl rfl) (ht := (setS8 (setS8 set7))) (hk := ?_); refine qA (hq := Quiet.move rfl get3) (ht := (setS8 (setS8 (setS8 set0)))) (hk := ?_); refine qA (hq := Quiet.move rfl get5) (ht := (setS8 (setS8 (setS8 set1)))) (hk := ?_); refine qA (hq := Quiet.ixM rfl (getS8 (getS8 (getS8 get0))) (getS8 (getS8 (getS8 get1))) rfl c21) (ht := (setS8 (setS8 (setS8 set2)))) (hk := ?_); refine qA (hq := Quiet.load_bp rfl (getS8 (getS8 (getS8 get2))) rfl) (ht := (setS8 (setS8 (setS8 set3)))) (hk := ?_); refine qA (hq := Quiet.move rfl get3) (ht := (setS8 (setS8 (setS8 set4)))) (hk := ?_); refine qA (hq := Quiet.move rfl get6) (ht := (setS8 (setS8 (setS8 set5)))) (hk := ?_); refine qA (hq := Quiet.ixM rfl (getS8 (getS8 (getS8 get4))) (getS8 (getS8 (getS8 get5))) rfl c22) (ht := (setS8 (setS8 (setS8 set6)))) (hk := ?_); refine qA (hq := Quiet.load_bp rfl (getS8 (getS8 (getS8 get6))) rfl) (ht := (setS8 (setS8 (setS8 set7)))) (hk := ?_); refine qA (hq := Quiet.callA rfl rfl k23 rfl rfl) (ht := (setS32 set0)) (hk := ?_); refine qA (hq := Quiet.move rfl (getS32 get0)) (ht := (setS32 set1)) (hk := ?_); refine qG (g := (!r23)) (hg := gA_f rfl) (hq := fun hg => Quiet.loadA_ptr rfl get1 rfl rfl) (ht := (setS32 set2)) (hk := ?_); refine qG (g := (!r23)) (hg := gA_f rfl) (hq := fun hg => Quiet.move rfl get3) (ht := (setS32 set3)) (hk := ?_); refine qG (g := (!r23)) (hg := gA_f rfl) (hq := fun hg => Quiet.move rfl get6) (ht := (setS32 set4)) (hk := ?_); refine qG (g := (!r23)) (hg := gA_f rfl) (hq := fun hg => Quiet.ixM rfl ((getS32 get3).trans (cndT hg _ _)) ((getS32 get4).trans (cndT hg _ _)) rfl (imp_of c24 hg)) (ht := (setS32 set5)) (hk := ?_); refine qG (g := (!r23)) (hg := gA_f rfl) (hq := fun hg => Quiet.load_bp rfl ((getS32 get5).trans (cndT hg _ _)) rfl) (ht := (setS32 set6)) (hk := ?_); refine qG (g := (!r23)) (hg := gA_f rfl) (hq := fun hg => Quiet.move rfl get3) (ht := (setS32 set7)) (hk := ?_); refine qG (g := (!r23)) (hg := gA_f rfl) (hq := fun hg => Quiet.move rfl get5) (ht := (setS32 (setS8 set0))) (hk := ?_); refine qG (g := (!r23)) (hg := gA_f rfl) (hq := fun hg => Quiet.ixM rfl ((getS32 get7).trans (cndT hg _ _)) ((getS32 (getS8 get0)).trans (cndT hg _ _)) rfl (imp_of c25 hg)) (ht := (setS32 (setS8 set1))) (hk := ?_); refine qG (g := (!r23)) (hg := gA_f rfl) (hq := fun hg => Quiet.load_bp rfl ((getS32 (getS8 get1)).trans (cndT hg _ _)) rfl) (ht := (setS32 (setS8 set2))) (hk := ?_); refine qG (g := (!r23)) (hg := gA_f rfl) (hq := fun hg => by ((try simp only [cndT hg]); (try simp only [cndA hg]); exact Quiet.callA rfl rfl (r18_moves_l (M.to_whn k26 hg)) rfl rfl)) (ht := (setS32 (setS8 set3))) (hk := ?_); refine qA (hq := Quiet.pickOrB rfl (getS32 get1) getC (getS32 (getS8 get3))) (ht := (setS32 (setS8 set4))) (hk := ?_); exact qEnd rfl)) (hx := by (exact wEnd rfl)) (hk := ?_)
                refine Awp.cond rfl (fun hb27 => ?_) (fun hb27 => ?_)
                · have H := M.to_t hb27 H
                  obtain ⟨c28, H⟩ := M.to_chk.1 H
                  obtain ⟨c29, H⟩ := M.to_chk.1 H
                  obtain ⟨c30, H⟩ := M.to_chk.1 H
                  obtain ⟨c31, H⟩ := M.to_chk.1 H
                  refine wDE 11 (hq := by (refine qA (hq := Quiet.move rfl get4) (ht := (setS32 (setS8 set5))) (hk := ?_); refine qA (hq := Quiet.move rfl get3) (ht := (setS32 (setS8 set6))) (hk := ?_); refine qA (hq := Quiet.move rfl get5) (ht := (setS32 (setS8 set7))) (hk := ?_); refine qA (hq := Quiet.ixM rfl (getS32 (getS8 get6)) (getS32 (getS8 get7)) rfl c28) (ht := (setS32 (setS8 (setS8 set0)))) (hk := ?_); refine qA (hq := Quiet.load_bp rfl (getS32 (getS8 (getS8 get0))) rfl) (ht := (setS32 (setS8 (setS8 set1)))) (hk := ?_); refine qA (hq := Quiet.move rfl get3) (ht := (setS32 (setS8 (setS8 set2)))) (hk := ?_); refine qA (hq := Quiet.move rfl get6) (ht := (setS32 (setS8 (setS8 set3)))) (hk := ?_); refine qA (hq := Quiet.ixM rfl (getS32 (getS8 (getS8 get2))) (getS32 (getS8 (getS8 get3))) rfl c29) (ht := (setS32 (setS8 (setS8 set4)))) (hk := ?_); refine qA (hq := Quiet.load_bp rfl (getS32 (getS8 (getS8 get4))) rfl) (ht := (setS32 (setS8 (setS8 set5)))) (hk := ?_); refine qA (hq := Quiet.bldP (rs := [.lit (.int .i64 (ixD r1 i2)), .lit (.int .i64 (ixD r1 k10))]) rfl plPair rfl rfl) (ht := (setS32 (setS8 (setS8 set6)))) (hk := ?_); refine qA (hq := Quiet.lt (xs := [.tmp 54]) (T := tPair) (ds := [⟨ixD r1 i2, ixD r1 k10⟩]) rfl rfl rfl (by rfl) (by decide) (.cons (fit_Pair c30) .nil)) (ht := (setS32 (setS8 (setS8 set7)))) (hk := ?_); exact qEnd rfl)) (hx := by ((refine aSeq_t rfl (AOp.appQ rfl rfl rfl rfl rfl c31 ?_); refine sNtM (ht := (setS32 (setS8 (setS8 (setS8 set0))))) (hk := ?_)); refine sA (hq := Quiet.assign rfl (getS32 (getS8 (getS8 (getS8 get0))))) (ht := set4) (hk := ?_); exact wEnd rfl)) (hk := ?_)
                  have e20 := M.to_ok.1 H
                  repeat (first | refine abN ?_ | refine asN ?_)
                  refine athen_n ⟨(_, v11 + 1), e20.symm, ?_⟩
                  try dsimp only
                  exact le_TA
                · have H := M.to_f hb27 H
                  refine Awp.skip ?_
                  have e20 := M.to_ok.1 H
                  repeat (first | refine abN ?_ | refine asN ?_)
                  refine athen_n ⟨(_, v11), e20.symm, ?_⟩
                  try dsimp only
                  exact le_TA
              · rintro ⟨l19, v18⟩ hz20
                try dsimp only at hz20
                have H := Hl20
                rw [hz20] at H
                try dsimp only
                refine wRE (hx := by (refine sA (hq := Quiet.move rfl get6) (ht := (setS8 (setS8 set5))) (hk := ?_); refine sA (hq := Quiet.bin rfl (getS8 (getS8 get5)) getC rfl) (ht := (setS8 (setS8 set6))) (hk := ?_); refine sA (hq := Quiet.assign rfl (getS8 (getS8 get6))) (ht := set6) (hk := ?_); exact wEnd rfl)) (hk := ?_)
                have e13 := M.to_ok.1 H
                repeat (first | refine abN ?_ | refine asN ?_)
                refine athen_n ⟨_, v18, e13.symm, ?_⟩
                try dsimp only
                exact le_TA
            · have H := M.to_f hb17 H
              refine Awp.exit ?_
              repeat (first | refine athen_e ?_ | refine exO (by decide) ?_ | refine asE ?_)
              refine exN ?_
              have e13 := Hr13 _ (M.to_ok.1 H).symm
              repeat (first | refine abN ?_ | refine asN ?_)
              refine athen_n ⟨(_, v11), e13.symm, ?_⟩
              try dsimp only
              exact le_TA
        · rintro ⟨l15, v14⟩ hz13
          try dsimp only at hz13
          have H := Hl13
          rw [hz13] at H
          try dsimp only
          refine wRE (hx := by (refine sA (hq := Quiet.move rfl get5) (ht := (setS8 set5)) (hk := ?_); refine sA (hq := Quiet.bin rfl (getS8 get5) getC rfl) (ht := (setS8 set6)) (hk := ?_); refine sA (hq := Quiet.assign rfl (getS8 get6)) (ht := set5) (hk := ?_); exact wEnd rfl)) (hk := ?_)
          have e5 := M.to_ok.1 H
          repeat (first | refine abN ?_ | refine asN ?_)
          refine athen_n ⟨_, v14, e5.symm, ?_⟩
          try dsimp only
          exact le_TA
      · have H := M.to_f hb9 H
        refine Awp.exit ?_
        repeat (first | refine athen_e ?_ | refine exO (by decide) ?_ | refine asE ?_)
        refine exN ?_
        have e5 := Hr5 _ (M.to_ok.1 H).symm
        repeat (first | refine abN ?_ | refine asN ?_)
        refine athen_n ⟨(_, v3), e5.symm, ?_⟩
        try dsimp only
        exact leC (Cut.dead (Cut.cons (Cut.nil _)))
  · rintro ⟨l7, v6⟩ hz5
    try dsimp only at hz5
    have H := Hl5
    rw [hz5] at H
    try dsimp only
    refine wR (hx := by (refine sA (hq := Quiet.move rfl get4) (ht := (setS32 (setS8 (setS8 (setS8 set1))))) (hk := ?_); refine sA (hq := Quiet.assign rfl (getS32 (getS8 (getS8 (getS8 get1))))) (ht := set2) (hk := ?_); exact wEnd rfl)) (hk := ?_)
    obtain rfl := M.to_ok.1 H
    exact Awp.ret ⟨.inr rfl, Fin.own rfl⟩
def r18_Near_L6 (f : Func) (rP1 : Int) (r1 : List Int) (r2 : List (List (List Int))) : (Int × (List Int)) → M ((Int × (List Int)) ⊕ ((List Int))) := fun (i3, l5) => M.cnd (decide (i3 < (r1.length : Int))) (M.bnd (M.bnd (r18_in r1 rP1) fun r14 => M.chk (!r14 || (inBd r1 i3)) (M.bnd (M.whn r14 false (r18_Part f r2 rP1 (ixD r1 i3))) fun r16 => M.cnd (r14 && r16) (M.chk (inBd r1 i3) (M.chk (wfB .i64 (ixD r1 i3)) (M.chk (rowB (l5.length + [ixD r1 i3].length) 8) (M.ok (l5 ++ [ixD r1 i3]))))) (M.ok l5))) fun l12 => M.ok (.inl (IntKind.i64.wrap (i3 + 1), l12))) (M.ok (.inr l5))
def r18_Near (f : Func) (rP1 : Int) : M (List Int) := M.bnd (r18_Regs f) fun r1 => M.bnd (r17_All f) fun r2 => M.bnd (M.loop (r18_Near_L6 f rP1 r1 r2) (0, [])) fun l8 => M.ok l8
set_option maxRecDepth 100000 in
set_option maxHeartbeats 4000000 in
theorem r18_Near_l {f : Func} {rP1 : Int} {r : List Int} (H : (r18_Near f rP1).to r) : Fn Tryz.prog 17 [.agg (encFunc f), .lit (.int .i64 rP1)] (.bs tInt r) := by
  delta r18_Near at H
  try dsimp only at H
  refine Fn.of_awp Tryz.func17 rfl (by kernel_rfl) rfl Tryz.ntmps17 fun C hC => ?_
  simp only [List.length_cons, List.length_nil, Nat.reduceAdd, Nat.reduceSub, List.replicate_succ, List.replicate_zero, List.cons_append, List.nil_append]
  refine wR (hx := by ((refine aSeq_t rfl (AOp.boxI 0 rfl rfl Parts0.agg ?_); refine sNtM (ht := set2) (hk := ?_)); refine sA (hq := Quiet.assign rfl getC) (ht := set4) (hk := ?_); exact wEnd rfl)) (hk := ?_)
  obtain ⟨r1, k1, H⟩ := M.to_bnd.1 H
  have k1 := r18_Regs_l k1
  obtain ⟨r2, k2, H⟩ := M.to_bnd.1 H
  have k2 := r17_All_l k2
  refine wD 6 (hq := by (refine qA (hq := Quiet.loadA_ptr rfl get2 rfl rfl) (ht := (setS8 set1)) (hk := ?_); refine qA (hq := Quiet.callA rfl rfl k1 rfl rfl) (ht := (setS8 set2)) (hk := ?_); refine qA (hq := Quiet.loadA_ptr rfl get2 rfl rfl) (ht := (setS8 set3)) (hk := ?_); refine qA (hq := Quiet.callA rfl rfl k2 rfl rfl) (ht := (setS8 set4)) (hk := ?_); refine qA (hq := Quiet.assign rfl (getS8 get2)) (ht := set5) (hk := ?_); refine qA (hq := Quiet.assign rfl (getS8 get4)) (ht := set6) (hk := ?_); exact qEnd rfl)) (hx := by (exact wEnd rfl)) (hk := ?_)
  refine wR (hx := by (refine sA (hq := Quiet.assign rfl getC) (ht := set7) (hk := ?_); exact wEnd rfl)) (hk := ?_)
  refine Awp.via _ (St.le_own 7 3 tInt rfl (by decide)) ?_
  obtain ⟨z6, HX6, Hl6⟩ := M.to_bnd.1 H
  refine Awp.seqJ (β := ((List Int)) × (Nat)) (fun q6 => z6 = q6.1) (fun q6 => ⟨[.any, .any, .any, .any, .any, .any, .any, .own 1 q6.2, .any, .any, .any, .any, .any, .any, .any, .any, .any, .any, .any, .any, .any, .any, .any, .any, .any, .any, .any, .any, .any, .any, .any, .any, .any, .any, .any, .any, .any, .any, .any, .any], [.dead, .row q6.2 3 tInt q6.1]⟩) ?_ ?_
  · refine wR (hx := by (refine sA (hq := Quiet.assign rfl getC) (ht := (setS8 set0)) (hk := ?_); exact wEnd rfl)) (hk := ?_)
    refine Awp.block ?_
    refine Awp.loopM HX6 (fun s6 b6 => ⟨[.any, .lit (.int .i64 rP1), .ptr 0 0, .any, .any, .bs tInt r1, .bs tInt.slice.slice r2, .own 1 b6, .lit (.int .i64 s6.1), .any, .any, .any, .any, .any, .any, .any, .any, .any, .any, .any, .any, .any, .any, .any, .any, .any, .any, .any, .any, .any, .any, .any, .any, .any, .any, .any, .any, .any, .any, .any], [.box (encFunc f), .row b6 3 tInt s6.2]⟩) 0 (?_) ?_
    · try dsimp only
      exact le_TA
    · rintro ⟨i3, l5⟩ v4 x6 H Hr6
      try dsimp only
      dsimp only [r18_Near_L6] at H
      refine Awp.seq fun Khs9 hs9 => ?_
      refine wR (hx := by (refine sA (hq := Quiet.move rfl (getS8 get0)) (ht := (setS8 set5)) (hk := ?_); refine sA (hq := Quiet.move rfl get5) (ht := (setS8 set6)) (hk := ?_); refine sA (hq := Quiet.ln rfl (getS8 get6)) (ht := (setS8 set7)) (hk := ?_); refine sA (hq := Quiet.bin rfl (getS8 get5) (getS8 get7) rfl) (ht := (setS8 (setS8 set0))) (hk := ?_); exact wEnd rfl)) (hk := ?_)
      refine Awp.cond rfl (fun hb10 => ?_) (fun hb10 => ?_)
      · have H := M.to_t hb10 H
        refine Awp.skip ?_
        refine hs9 _ ?_
        refine nT (hk := ?_)
        obtain ⟨z13, HX13, Hl13⟩ := M.to_bnd.1 H
        refine Awp.seqJ (β := ((List Int)) × (Nat)) (fun q13 => z13 = q13.1) (fun q13 => ⟨[.any, .lit (.int .i64 rP1), .ptr 0 0, .any, .any, .bs tInt r1, .bs tInt.slice.slice r2, .own 1 q13.2, .lit (.int .i64 i3), .any, .any, .any, .any, .any, .any, .any, .any, .any, .any, .any, .any, .any, .any, .any, .any, .any, .any, .any, .any, .any, .any, .any, .any, .any, .any, .any, .any, .any, .any, .any], [.box (encFunc f), .row q13.2 3 tInt q13.1]⟩) ?_ ?_
        · have H := HX13
          refine Awp.block ?_
          obtain ⟨r14, k14, H⟩ := M.to_bnd.1 H
          have k14 := r18_in_l k14
          obtain ⟨c15, H⟩ := M.to_chk.1 H
          obtain ⟨r16, k16, H⟩ := M.to_bnd.1 H
          refine wD 13 (hq := by (refine qA (hq := Quiet.move rfl get5) (ht := (setS8 (setS8 set3))) (hk := ?_); refine qA (hq := Quiet.move rfl get1) (ht := (setS8 (setS8 set4))) (hk := ?_); refine qA (hq := Quiet.callA rfl rfl k14 rfl rfl) (ht := (setS8 (setS8 set5))) (hk := ?_); refine qA (hq := Quiet.move rfl (getS8 (getS8 get5))) (ht := (setS8 (setS8 set6))) (hk := ?_); refine qG (g := r14) (hg := gA_t rfl) (hq := fun hg => Quiet.loadA_ptr rfl get2 rfl rfl) (ht := (setS8 (setS8 set7))) (hk := ?_); refine qG (g := r14) (hg := gA_t rfl) (hq := fun hg => Quiet.move rfl get6) (ht := (setS8 (setS8 (setS8 set0)))) (hk := ?_); refine qG (g := r14) (hg := gA_t rfl) (hq := fun hg => Quiet.move rfl get1) (ht := (setS8 (setS8 (setS8 set1)))) (hk := ?_); refine qG (g := r14) (hg := gA_t rfl) (hq := fun hg => Quiet.move rfl get5) (ht := (setS8 (setS8 (setS8 set2)))) (hk := ?_); refine qG (g := r14) (hg := gA_t rfl) (hq := fun hg => Quiet.move rfl (getS8 get0)) (ht := (setS8 (setS8 (setS8 set3)))) (hk := ?_); refine qG (g := r14) (hg := gA_t rfl) (hq := fun hg => Quiet.ixM rfl ((getS8 (getS8 (getS8 get2))).trans (cndT hg _ _)) ((getS8 (getS8 (getS8 get3))).trans (cndT hg _ _)) rfl (imp_of c15 hg)) (ht := (setS8 (setS8 (setS8 set4)))) (hk := ?_); refine qG (g := r14) (hg := gA_t rfl) (hq := fun hg => Quiet.load_bp rfl ((getS8 (getS8 (getS8 get4))).trans (cndT hg _ _)) rfl) (ht := (setS8 (setS8 (setS8 set5)))) (hk := ?_); refine qG (g := r14) (hg := gA_t rfl) (hq := fun hg => by ((try simp only [cndT hg]); (try simp only [cndA hg]); exact Quiet.callA rfl rfl (r18_Part_l (M.to_whn k16 hg)) rfl rfl)) (ht := (setS8 (setS8 (setS8 set6)))) (hk := ?_); refine qA (hq := Quiet.pickAndB rfl (getS8 (getS8 get6)) (getS8 (getS8 (getS8 get6))) getC) (ht := (setS8 (setS8 (setS8 set7)))) (hk := ?_); exact qEnd rfl)) (hx := by (exact wEnd rfl)) (hk := ?_)
          refine Awp.cond rfl (fun hb17 => ?_) (fun hb17 => ?_)
          · have H := M.to_t hb17 H
            obtain ⟨c18, H⟩ := M.to_chk.1 H
            obtain ⟨c19, H⟩ := M.to_chk.1 H
            obtain ⟨c20, H⟩ := M.to_chk.1 H
            refine wRE (hx := by (refine sA (hq := Quiet.move rfl get7) (ht := (setS32 set0)) (hk := ?_); refine sA (hq := Quiet.move rfl get5) (ht := (setS32 set1)) (hk := ?_); refine sA (hq := Quiet.move rfl (getS8 get0)) (ht := (setS32 set2)) (hk := ?_); refine sA (hq := Quiet.ixM rfl (getS32 get1) (getS32 get2) rfl c18) (ht := (setS32 set3)) (hk := ?_); refine sA (hq := Quiet.load_bp rfl (getS32 get3) rfl) (ht := (setS32 set4)) (hk := ?_); refine sA (hq := Quiet.lt (xs := [.tmp 36]) (T := tInt) (ds := [ixD r1 i3]) rfl rfl rfl (by rfl) (by decide) (.cons (Fit.int c19) .nil)) (ht := (setS32 set5)) (hk := ?_); (refine aSeq_t rfl (AOp.appQ rfl rfl rfl rfl rfl c20 ?_); refine sNtM (ht := (setS32 set6)) (hk := ?_)); refine sA (hq := Quiet.assign rfl (getS32 get6)) (ht := set7) (hk := ?_); exact wEnd rfl)) (hk := ?_)
            have e13 := M.to_ok.1 H
            repeat (first | refine abN ?_ | refine asN ?_)
            refine athen_n ⟨(_, v4 + 1), e13.symm, ?_⟩
            try dsimp only
            exact le_TA
          · have H := M.to_f hb17 H
            refine Awp.skip ?_
            have e13 := M.to_ok.1 H
            repeat (first | refine abN ?_ | refine asN ?_)
            refine athen_n ⟨(_, v4), e13.symm, ?_⟩
            try dsimp only
            exact le_TA
        · rintro ⟨l12, v11⟩ hz13
          try dsimp only at hz13
          have H := Hl13
          rw [hz13] at H
          try dsimp only
          refine wRE (hx := by (refine sA (hq := Quiet.move rfl (getS8 get0)) (ht := (setS8 (setS8 set1))) (hk := ?_); refine sA (hq := Quiet.bin rfl (getS8 (getS8 get1)) getC rfl) (ht := (setS8 (setS8 set2))) (hk := ?_); refine sA (hq := Quiet.assign rfl (getS8 (getS8 get2))) (ht := (setS8 set0)) (hk := ?_); exact wEnd rfl)) (hk := ?_)
          have e6 := M.to_ok.1 H
          repeat (first | refine abN ?_ | refine asN ?_)
          refine athen_n ⟨_, v11, e6.symm, ?_⟩
          try dsimp only
          exact le_TA
      · have H := M.to_f hb10 H
        refine Awp.exit ?_
        repeat (first | refine athen_e ?_ | refine exO (by decide) ?_ | refine asE ?_)
        refine exN ?_
        have e6 := Hr6 _ (M.to_ok.1 H).symm
        repeat (first | refine abN ?_ | refine asN ?_)
        refine athen_n ⟨(_, v4), e6.symm, ?_⟩
        try dsimp only
        exact leC (Cut.dead (Cut.cons (Cut.nil _)))
  · rintro ⟨l8, v7⟩ hz6
    try dsimp only at hz6
    have H := Hl6
    rw [hz6] at H
    try dsimp only
    refine wR (hx := by (refine sA (hq := Quiet.move rfl get7) (ht := (setS32 set7)) (hk := ?_); refine sA (hq := Quiet.assign rfl (getS32 get7)) (ht := set4) (hk := ?_); exact wEnd rfl)) (hk := ?_)
    obtain rfl := M.to_ok.1 H
    exact Awp.ret ⟨.inr rfl, Fin.own rfl⟩
end Mu
end
section
/-
  A set of pairs that the call makes, as a map keyed by pairs.
  Conditions: none; the types' numbers are this translation's.
-/
namespace Mu
open Go Go.RowKit Go.Proofs Go.Maps Go.Shelf

def encP (x : Pair) : Value := .agg #[.int .i64 x.a, .int .i64 x.b]
def litP (x : Pair) : Lit := .string (keyBytes [.int .i64 x.a, .int .i64 x.b])
set_option maxRecDepth 100000 in
theorem keyP : Keyed Tryz.prog 60 := Keyed.of_law (deep_law (m := 2) (Nat.le_of_ble_eq_true rfl) (by kernel_rfl) (by kernel_rfl) (by kernel_rfl))
theorem cellsP : Tryz.prog.cellsOf 60 = 2 := by kernel_rfl
theorem cellsI : Tryz.prog.cellsOf 3 = 1 := by kernel_rfl
theorem keyI_lits {n : Nat} {v : Value} {L : List Lit} : Tryz.prog.keyLits (n + 1) 3 [v] = some L ↔ ∃ a, v = .int .i64 a ∧ (Lit.int .i64 a).wf = true ∧ L = [.int .i64 a] := by
  unfold Program.keyLits
  rw [Tryz.underlying3]
  constructor
  · intro h
    cases v <;> simp only [reduceCtorEq] at h
    rename_i k a
    split at h
    · rename_i hc
      obtain ⟨rfl, hw⟩ := hc
      exact ⟨a, rfl, hw, (Option.some.inj h).symm⟩
    · cases h
  · rintro ⟨a, rfl, hw, rfl⟩
    simp [hw]
set_option maxRecDepth 100000 in
theorem keyP_lits {n : Nat} {vs : List Value} {L : List Lit} (h : Tryz.prog.keyLits (n + 2) 60 vs = some L) : ∃ a b, vs = [.int .i64 a, .int .i64 b] ∧ (Lit.int .i64 a).wf = true ∧ (Lit.int .i64 b).wf = true ∧ L = [.int .i64 a, .int .i64 b] := by
  rw [show n + 2 = (n + 1) + 1 from rfl] at h
  unfold Program.keyLits at h
  rw [Tryz.underlying60] at h
  simp only [cellsP] at h
  split at h
  · rename_i hc
    obtain ⟨hl, _⟩ := hc
    match vs, hl with
    | [u, v], _ =>
      simp [cellsI] at h
      cases h1 : Tryz.prog.keyLits (n + 1) 3 [u] with
      | none => rw [h1] at h; simp at h
      | some l1 =>
        cases h2 : Tryz.prog.keyLits (n + 1) 3 [v] with
        | none => rw [h1, h2] at h; simp at h
        | some l2 =>
          obtain ⟨a, rfl, wa, rfl⟩ := keyI_lits.1 h1
          obtain ⟨b, rfl, wb, rfl⟩ := keyI_lits.1 h2
          rw [h1, h2] at h
          simp at h
          exact ⟨a, b, rfl, wa, wb, h.symm⟩
  · cases h
set_option maxRecDepth 100000 in
theorem keyP_lits_mk {n : Nat} {a b : Int} (ha : (Lit.int .i64 a).wf = true) (hb : (Lit.int .i64 b).wf = true) : Tryz.prog.keyLits (n + 2) 60 [.int .i64 a, .int .i64 b] = some [.int .i64 a, .int .i64 b] := by
  rw [show n + 2 = (n + 1) + 1 from rfl]
  unfold Program.keyLits
  rw [Tryz.underlying60]
  have h1 := (keyI_lits (n := n) (v := .int .i64 a)).2 ⟨a, rfl, ha, rfl⟩
  have h2 := (keyI_lits (n := n) (v := .int .i64 b)).2 ⟨b, rfl, hb, rfl⟩
  simp [cellsP, cellsI, h1, h2]
theorem typesE : Nat.ble 1 Tryz.prog.types.size = true := by kernel_rfl
theorem typesP : ∃ n, Tryz.prog.types.size + 1 = n + 2 := by
  have h := Nat.le_of_ble_eq_true typesE
  generalize Tryz.prog.types.size = m at h
  exact ⟨m - 1, by omega⟩
set_option maxRecDepth 100000 in
theorem keyP_inv {v : Value} {l : Lit} (h : keyOf Tryz.prog 60 v = some l) : ∃ x, okPair x ∧ v = encP x ∧ l = litP x := by
  obtain ⟨xs, L, rfl, h1, rfl⟩ := keyOf_top (by kernel_rfl) h
  obtain ⟨n, hn⟩ := typesP
  rw [hn] at h1
  obtain ⟨a, b, e, wa, wb, rfl⟩ := keyP_lits h1
  refine ⟨⟨a, b⟩, ⟨wa, wb⟩, ?_, rfl⟩
  have e2 : xs = #[Value.int .i64 a, Value.int .i64 b] := Array.toList_inj.1 e
  rw [e2]
  rfl
set_option maxRecDepth 100000 in
theorem keyP_mk {x : Pair} (h : okPair x) : keyOf Tryz.prog 60 (encP x) = some (litP x) := by
  obtain ⟨n, hn⟩ := typesP
  have hk : Tryz.prog.keyType 60 = true := by kernel_rfl
  have hf : (encP x).formed Tryz.prog 60 = true := by
    unfold encP Value.formed
    rw [Tryz.underlying60]
    simp [cellsP]
  unfold keyOf
  rw [Tryz.underlying60]
  simp only [hk, hf, Bool.and_self, if_true]
  rw [hn]
  show (Tryz.prog.keyLits (n + 2) 60 [.int .i64 x.a, .int .i64 x.b]).map _ = _
  rw [keyP_lits_mk h.a h.b]
  rfl
theorem litP_inj {x y : Pair} (hx : okPair x) (hy : okPair y) (h : litP x = litP y) : x = y := by
  have h1 := keyP_mk hx
  rw [h, ← keyP_mk hy] at h1
  have h2 := keyP.inj (h1.trans (keyP_mk hy)) (keyP_mk hy)
  have h3 : x.a = y.a ∧ x.b = y.b := by
    clear h h1
    unfold encP at h2
    simpa using h2
  cases x; cases y
  exact congr (congrArg Pair.mk h3.1) h3.2
end Mu
end
section
/-
  Sets of pairs of registers as maps of the call's own: made, put into, gone over in an order that nobody knows.
  Conditions: the registers lie in a rising row.
-/
namespace Mu
open Go Go.RowKit Go.Proofs Go.Maps Go.Shelf

theorem nodup_leG {α : Type} [DecidableEq α] : ∀ {l m : List α}, l.Nodup → (∀ x ∈ l, x ∈ m) → l.length ≤ m.length
  | [], _, _, _ => Nat.zero_le _
  | x :: l, m, hn, h => by
    have hn := List.nodup_cons.1 hn
    have hx := h x (by simp)
    have := nodup_leG (m := m.erase x) hn.2 fun y hy => (List.mem_erase_of_ne (fun e => hn.1 (by subst e; exact hy))).2 (h y (by simp [hy]))
    rw [List.length_erase_of_mem hx] at this
    have := List.length_pos_of_mem hx
    simp only [List.length_cons]
    omega
instance inMuPairS1 : DecidableEq Pair := fun x y => decidable_of_iff (x.a = y.a ∧ x.b = y.b) ⟨fun ⟨h1, h2⟩ => by cases x; cases y; simp_all, fun h => by subst h; exact ⟨rfl, rfl⟩⟩
/-- all pairs of a row's, rising -/
def pairsOf : List Int → List Pair
  | [] => []
  | a :: R => R.map (fun b => ⟨a, b⟩) ++ pairsOf R
def SetP (w : World) (b : Nat) (S : Pair → Bool) : Prop := ∃ (D : DataW Unit), w.ownsMap Tryz.prog 60 (plainElem Tryz.prog 3) b (Maps.size D) D ∧ ∀ x, okPair x → has D (litP x) = S x
theorem ownP_exact {w : World} {b n : Nat} {D : DataW Unit} (h : w.ownsMap Tryz.prog 60 (plainElem Tryz.prog 3) b n D) : w.ownsMap Tryz.prog 60 (plainElem Tryz.prog 3) b (Maps.size D) D := by
  obtain ⟨es, clock, h1, h2, h3, rfl⟩ := h
  refine ⟨es, clock, h1, h2, ?_, rfl⟩
  rw [size_eq, length_read]
  exact Nat.le_refl _
theorem SetP.lt {w : World} {b : Nat} {S : Pair → Bool} (h : SetP w b S) : b < w.heap.size := by
  obtain ⟨D, h1, _⟩ := h
  exact h1.lt
theorem SetP.keep {w w' : World} {b : Nat} {S : Pair → Bool} (h : SetP w b S) (hk : w'.heap[b]? = w.heap[b]?) : SetP w' b S := by
  obtain ⟨D, ⟨es, clock, h1, h2⟩, h3⟩ := h
  exact ⟨D, ⟨es, clock, hk.trans h1, h2⟩, h3⟩
/-- how many a set has -/
theorem setP_size {w : World} {b n : Nat} {D : DataW Unit} {S : Pair → Bool} {L : List Pair} (h : w.ownsMap Tryz.prog 60 (plainElem Tryz.prog 3) b n D) (hS : ∀ x, okPair x → has D (litP x) = S x) (hL : ∀ x, okPair x → S x = true → x ∈ L) : Maps.size D ≤ L.length := by
  obtain ⟨es, rfl, hpw, _⟩ := h.entries keyP
  obtain ⟨es', hD', hko⟩ := h.keysOf
  obtain rfl : es = es' := by simpa using hD'
  haveI : DecidableEq Lit := fun a b => Classical.propDecidable (a = b)
  suffices hle : (es.map fun p => p.1).length ≤ (L.map litP).length by simpa [size_eq] using hle
  refine nodup_leG (List.pairwise_map.2 hpw) fun l hl => ?_
  obtain ⟨p, hp, rfl⟩ := List.mem_map.1 hl
  obtain ⟨v, hv⟩ := hko p hp
  obtain ⟨x, hx, _, e⟩ := keyP_inv hv
  refine List.mem_map.2 ⟨x, hL x hx ?_, e.symm⟩
  rw [← hS x hx, has_eq]
  exact List.any_eq_true.2 ⟨p, hp, by rw [← e]; exact WideAt.sameKey_self (keyP.key hv)⟩
def addP (S : Pair → Bool) (y : Pair) : Pair → Bool := fun x => S x || decide (x = y)
theorem SetP.put {w w1 : World} {b n : Nat} {S : Pair → Bool} {D : DataW Unit} {d : DataW Unit} {y : Pair} (hy : okPair y) (hown : w.ownsMap Tryz.prog 60 (plainElem Tryz.prog 3) b n D) (hS : ∀ x, okPair x → has D (litP x) = S x)
    (h1 : w1.ownsMap Tryz.prog 60 (plainElem Tryz.prog 3) b (n + 1) (D.put (litP y) d)) : SetP w1 b (addP S y) := by
  refine ⟨_, ownP_exact h1, fun x hx => ?_⟩
  by_cases e : x = y
  · subst e
    rw [has_put_same hown.isMap (keyP.key (keyP_mk hx))]
    simp [addP]
  · rw [has_put_other (fun h => e (litP_inj hx hy h)), hS x hx]
    simp [addP, e]
def pairR (S : Pair → Bool) (m : Nat) : Res := ⟨[], fun g => g = m, fun w _ => SetP w m S, fun h hk _ _ => h.keep (hk m rfl)⟩
section
variable {C : Ctx} {t : List AV} {h : List ABlk} {o : Oper}
theorem AOp.putP {ty : TypeId} {x y z : Operand} (i : Nat) {m : Nat} {S : Pair → Bool} {L : List Pair} {q : Pair} {K : St → Prop} (ho : o.op = .mapUpdate ty x y z) (hty : Tryz.prog.underlying ty = some (.map 60 3)) (hi : h[i]? = some (.res (pairR S m)))
    (hx : evA t x = .lit (.map (some m))) (hy : evA t y = .agg (encPair q)) (hz : evA t z = .lit (.int .i64 1)) (hL : ∀ x, okPair x → S x = true → x ∈ L) (hl : L.length < maxLen) (hq : okPair q) (hK : K ⟨putA t o.dst (.lit undef), h.set i (.res (pairR (addP S q) m))⟩) : AOp Tryz.prog C o ⟨t, h⟩ K := by
  refine AOp.turn (ι := Unit) (Rs := fun _ => pairR (addP S q) m) (val := fun _ => undef) hi (fun _ => rfl) (fun T ψ w ρ H hRw hlt hρ => ?_) (fun _ => hK)
  have h1 := hρ x (by simp [ho, Op.operands])
  have h2 := hρ y (by simp [ho, Op.operands])
  have h3 := hρ z (by simp [ho, Op.operands])
  rw [hx] at h1
  rw [hy] at h2
  rw [hz] at h3
  unfold AV.rel at h1 h2 h3
  obtain ⟨cs, h2, hcs⟩ := h2
  obtain ⟨rfl, _⟩ := tPair_R.1 (put_Pair hq hcs)
  have h2 : ρ y = encP q := h2
  obtain ⟨D, hown, hD⟩ := (show SetP w m S from hRw)
  have hsz := setP_size hown hD hL
  obtain ⟨w', hrun, hown', hg⟩ := hown.update keyP hty (by omega) (keyP_mk hq) (plainElem_int Tryz.underlying3 one_wf)
  have hs' := SetP.put hq hown hD hown'
  have e : (execOp ρ o).run Tryz.prog w = .ok .skip w' ∨ (execOp ρ o).run Tryz.prog w = .ok (.value undef) w' := by
    simp [execOp, ho, h1, h2, h3, hrun, Result.andThen]
  have hT : Turns w T (pairR S m).F (fun _ : Unit => pairR (addP S q) m) (fun _ => undef) undef w' :=
    ⟨Gr.of_grownBy hg |> fun G => ⟨G.os, G.tape, G.output, G.size, fun k hk hn => G.block k hk fun e => hn (by cases e; rfl)⟩, (), rfl, hs', fun k hk => ⟨.inl hk, by
      have hk : k = m := hk
      subst hk
      exact hs'.lt⟩⟩
  rcases e with e | e
  · rw [e]; exact hT
  · rw [e]; exact hT
end
end Mu
end
section
/-
  A set of pairs is gone over: in an order that nobody knows.
  Conditions: none.
-/
namespace Mu
open Go Go.RowKit Go.Proofs Go.Maps Go.Shelf

/-- the pairs ks of a set were given -/
def RngP (w : World) (m r : Nat) (S : Pair → Bool) (ks : List Pair) : Prop := ∃ (D : DataW Unit) (left : Lit → Bool) (cnt : Nat),
  w.ranges Tryz.prog 60 (plainElem Tryz.prog 3) m r (Maps.size D) D left cnt ∧ (∀ x, okPair x → has D (litP x) = S x) ∧ (∀ x, okPair x → left (litP x) = (S x && !ks.contains x)) ∧ (∀ x ∈ ks, okPair x ∧ S x = true) ∧ ks.Nodup
/-- .. and q, with c, is the one that is at hand -/
def AtP (w : World) (r : Nat) (q : Pair) (c : Int) : Prop := (Instr.entry (.pointer (some ⟨r, 0, none⟩))).run Tryz.prog w = .ok (.tuple #[encP q, .int .i64 c]) w
theorem ranges_keep {H : Type} {P : Program} {k : TypeId} {R : Value → Option (DataW H × List MemPlace)} {w w' : World} {b r n : Nat} {D : DataW H} {left : Lit → Bool} {cnt : Nat} (h : w.ranges P k R b r n D left cnt) (hb : w'.heap[b]? = w.heap[b]?) (hr : w'.heap[r]? = w.heap[r]?) : w'.ranges P k R b r n D left cnt := by
  obtain ⟨es, clock, since, seen, c0, h1, F, hs, hD, h2, rest⟩ := h
  exact ⟨es, clock, since, seen, c0, hb.trans h1, F, hs, hD, hr.trans h2, rest⟩
theorem RngP.keep {w w' : World} {m r : Nat} {S : Pair → Bool} {ks : List Pair} (h : RngP w m r S ks) (hb : w'.heap[m]? = w.heap[m]?) (hr : w'.heap[r]? = w.heap[r]?) : RngP w' m r S ks := by
  obtain ⟨D, left, cnt, h1, h2⟩ := h
  exact ⟨D, left, cnt, ranges_keep h1 hb hr, h2⟩
theorem AtP.keep {w w' : World} {m r : Nat} {S : Pair → Bool} {ks : List Pair} {q : Pair} {c : Int} (h : RngP w m r S ks) (ha : AtP w r q c) (hb : w'.heap[m]? = w.heap[m]?) (hr : w'.heap[r]? = w.heap[r]?) : AtP w' r q c := by
  obtain ⟨D, left, cnt, ⟨es, clock, since, seen, c0, h1, _, _, _, h2, _⟩, _⟩ := h
  unfold AtP at ha ⊢
  have e1 : (getObj r).run Tryz.prog w = .ok (.mapIter (some m) since seen c0) w := by simp [getObj, Sem.run, h2]
  have e2 : (getObj m).run Tryz.prog w = .ok (.map es clock) w := by simp [getObj, Sem.run, h1]
  have e3 : (getObj r).run Tryz.prog w' = .ok (.mapIter (some m) since seen c0) w' := by simp [getObj, Sem.run, hr, h2]
  have e4 : (getObj m).run Tryz.prog w' = .ok (.map es clock) w' := by simp [getObj, Sem.run, hb, h1]
  unfold Instr.entry at ha ⊢
  simp only [Sem.run_bind, e1, e3, Result.andThen_ok] at ha ⊢
  cases hs : seen.back? with
  | none => rw [hs] at ha; simp [stuck] at ha
  | some stamp =>
    rw [hs] at ha
    simp only [Sem.run_bind, e2, e4, Result.andThen_ok] at ha ⊢
    by_cases hc : clock != c0
    · simp [hc, unsupported] at ha
    · cases hf : es.find? (fun x => x.born == stamp) with
      | none => simp [hc, hf, unsupported] at ha
      | some e =>
        simp [hc, hf] at ha ⊢
        exact ha
def rngR (S : Pair → Bool) (ks : List Pair) (m r : Nat) : Res := ⟨[], fun g => g = m ∨ g = r, fun w _ => RngP w m r S ks, fun h hk _ _ => h.keep (hk m (.inl rfl)) (hk r (.inr rfl))⟩
def atR (S : Pair → Bool) (ks : List Pair) (q : Pair) (c : Int) (m r : Nat) : Res := ⟨[], fun g => g = m ∨ g = r, fun w _ => RngP w m r S ks ∧ AtP w r q c, fun h hk _ _ => ⟨h.1.keep (hk m (.inl rfl)) (hk r (.inr rfl)), AtP.keep h.1 h.2 (hk m (.inl rfl)) (hk r (.inr rfl))⟩⟩
section
variable {C : Ctx} {t : List AV} {h : List ABlk} {o : Oper}
theorem AOp.rangeP {ty : TypeId} {x : Operand} (i : Nat) {m : Nat} {S : Pair → Bool} {K : St → Prop} (ho : o.op = .range ty x) (hty : Tryz.prog.underlying ty = some (.map 60 3)) (hi : h[i]? = some (.res (pairR S m)))
    (hx : evA t x = .lit (.map (some m))) (hK : ∀ r, K ⟨putA t o.dst (.lit (.pointer (some ⟨r, 0, none⟩))), h.set i (.res (rngR S [] m r))⟩) : AOp Tryz.prog C o ⟨t, h⟩ K := by
  refine AOp.turn (ι := Nat) (Rs := fun r => rngR S [] m r) (val := fun r => .pointer (some ⟨r, 0, none⟩)) hi (fun _ => rfl) (fun T ψ w ρ H hRw hlt hρ => ?_) hK
  have h1 := hρ x (by simp [ho, Op.operands])
  rw [hx] at h1
  unfold AV.rel at h1
  obtain ⟨D, hown, hD⟩ := (show SetP w m S from hRw)
  obtain ⟨w', hrun, hr, hg, hsz⟩ := hown.range keyP hty
  have e : (execOp ρ o).run Tryz.prog w = .ok (.value (.pointer (some ⟨w.heap.size, 0, none⟩))) w' := by
    simp [execOp, ho, h1, hrun, Result.andThen]
  rw [e]
  have hm := hown.lt
  refine ⟨Gr.of_grownBy hg |> fun G => ⟨G.os, G.tape, G.output, G.size, fun k hk hn => G.block k hk fun e => by cases e⟩, w.heap.size, rfl, ⟨D, _, _, hr, hD, fun x hx => by simp [hD x hx], (fun _ hx => by cases hx), List.nodup_nil⟩, fun k hk => ?_⟩
  rcases (show k = m ∨ k = w.heap.size from hk) with rfl | rfl
  · exact ⟨.inl rfl, by omega⟩
  · exact ⟨.inr (Nat.le_refl _), by omega⟩
theorem AOp.nextP {x : Operand} (i : Nat) {m r : Nat} {S : Pair → Bool} {ks : List Pair} {K : St → Prop} (ho : o.op = .next x false) (hi : h[i]? = some (.res (rngR S ks m r)))
    (hx : evA t x = .lit (.pointer (some ⟨r, 0, none⟩))) (hK0 : (∀ x, okPair x → S x = true → x ∈ ks) → K ⟨putA t o.dst (.lit (.tuple #[.bool false])), h.set i (.res (rngR S ks m r))⟩)
    (hK1 : ∀ q c, okPair q → S q = true → q ∉ ks → K ⟨putA t o.dst (.lit (.tuple #[.bool true, encP q, .int .i64 c])), h.set i (.res (atR S (ks ++ [q]) q c m r))⟩) : AOp Tryz.prog C o ⟨t, h⟩ K := by
  refine AOp.turn (ι := {p : Option (Pair × Int) // match p with | none => ∀ x, okPair x → S x = true → x ∈ ks | some (q, _) => okPair q ∧ S q = true ∧ q ∉ ks})
    (Rs := fun p => match p.1 with | none => rngR S ks m r | some (q, c) => atR S (ks ++ [q]) q c m r) (val := fun p => match p.1 with | none => .tuple #[.bool false] | some (q, c) => .tuple #[.bool true, encP q, .int .i64 c]) hi ?_ (fun T ψ w ρ H hRw hlt hρ => ?_) ?_
  · rintro ⟨_ | ⟨q, c⟩, hp⟩ <;> rfl
  · have h1 := hρ x (by simp [ho, Op.operands])
    rw [hx] at h1
    unfold AV.rel at h1
    obtain ⟨D, left, cnt, hr, hD, hl, hks, hnd⟩ := (show RngP w m r S ks from hRw)
    have hm := hr.owns.lt
    have hrl := hr.lt
    rcases hr.next keyP o.type with ⟨_, hno, hrun⟩ | ⟨key, v, kl, y, w', cnt', hkey, hleft, hv, _, hrun, hr', _, hg, hsz, hent⟩
    · have e : (execOp ρ o).run Tryz.prog w = .ok (.value (.tuple #[.bool false])) w := by
        simp [execOp, ho, h1, hrun, Result.andThen]
      rw [e]
      refine ⟨⟨rfl, rfl, rfl, Nat.le_refl _, fun _ _ _ => rfl⟩, ⟨none, fun x hx hs => ?_⟩, rfl, hRw, fun k hk => ⟨.inl hk, ?_⟩⟩
      · have := hl x hx
        rw [hno, hs] at this
        simpa using this
      · rcases (show k = m ∨ k = r from hk) with rfl | rfl
        · exact hm
        · exact hrl
    · obtain ⟨q, hq, rfl, rfl⟩ := keyP_inv hkey
      obtain ⟨c, rfl, _⟩ := plainElem_int_inv Tryz.underlying3 hv
      have hlq := hl q hq
      rw [hleft] at hlq
      have hlq : S q = true ∧ q ∉ ks := by simpa using hlq.symm
      have e : (execOp ρ o).run Tryz.prog w = .ok (.value (.tuple #[.bool true, encP q, .int .i64 c])) w' := by
        simp [execOp, ho, h1, hrun, Result.andThen]
      rw [e]
      refine ⟨Gr.of_grownBy hg |> fun G => ⟨G.os, G.tape, G.output, G.size, fun k hk hn => G.block k hk fun e => hn (by cases e; exact .inr rfl)⟩, ⟨some (q, c), hq, hlq.1, hlq.2⟩, rfl, ⟨⟨D, _, _, hr', hD, fun x hx => ?_, fun x hx => ?_, ?_⟩, hent⟩, fun k hk => ⟨.inl hk, ?_⟩⟩
      · rw [hl x hx]
        by_cases hxq : x = q
        · subst hxq
          rw [WideAt.sameKey_self (keyP.key hkey)]
          simp
        · have hs : (litP x).sameKey (litP q) = false := Maps.sameKey_ne fun e => hxq (litP_inj hx hq e)
          rw [hs]
          simp [hxq]
      · rcases List.mem_append.1 hx with hx | hx
        · exact hks x hx
        · simp only [List.mem_cons, List.not_mem_nil, or_false] at hx
          subst hx
          exact ⟨hq, hlq.1⟩
      · rw [List.nodup_append]
        exact ⟨hnd, by simp, fun a ha b hb => by
          simp only [List.mem_cons, List.not_mem_nil, or_false] at hb
          subst hb
          intro e
          subst e
          exact hlq.2 ha⟩
      · rcases (show k = m ∨ k = r from hk) with rfl | rfl <;> omega
  · rintro ⟨_ | ⟨q, c⟩, hp⟩
    · exact hK0 hp
    · exact hK1 q c hp.1 hp.2.1 hp.2.2
theorem Quiet.entryP {x : Operand} (i : Nat) {m r : Nat} {S : Pair → Bool} {ks : List Pair} {q : Pair} {c : Int} (ho : o.op = .entry x) (hi : h[i]? = some (.res (atR S ks q c m r))) (hx : evA t x = .lit (.pointer (some ⟨r, 0, none⟩))) :
    Quiet Tryz.prog C t h o (.tup [.agg (encPair q), .lit (.int .i64 c)]) :=
  Quiet.of_run fun S' ψ w ρ H hρ => by
    have h1 := hρ x (by simp [ho, Op.operands])
    rw [hx] at h1
    unfold AV.rel at h1
    obtain ⟨_, ha⟩ := (show RngP w m r S ks ∧ AtP w r q c from (H.blk i _ hi).2)
    refine ⟨.tuple #[encP q, .int .i64 c], by simp [execOp, ho, h1, (show _ = _ from ha), Result.andThen], ?_⟩
    simp only [AV.rel, AV.relL, encPair]
    exact ⟨[encP q, .int .i64 c], rfl, _, _, rfl, ⟨[.int .i64 q.a, .int .i64 q.b], rfl, _, _, rfl, rfl, _, _, rfl, rfl, rfl⟩, _, _, rfl, rfl, rfl⟩
end
end Mu
end
section
/-
  Which pairs of registers part, and which would like to share a place, in plain words.
  Conditions: none.
-/
namespace Mu
open Go Go.RowKit Go.Proofs

/-! ### rising pairs -/
def ltP (x y : Pair) : Prop := x.a < y.a ∨ (x.a = y.a ∧ x.b < y.b)
theorem ltP_irr (x : Pair) : ¬ ltP x x := fun h => by rcases h with h | h <;> omega
theorem ltP_tr {x y z : Pair} (h1 : ltP x y) (h2 : ltP y z) : ltP x z := by unfold ltP at *; omega
theorem ltP_asymm {x y : Pair} (h1 : ltP x y) : ¬ ltP y x := fun h2 => ltP_irr x (ltP_tr h1 h2)
abbrev AscP (l : List Pair) : Prop := l.Pairwise ltP
theorem ascP_ext : ∀ {l m : List Pair}, AscP l → AscP m → (∀ x, x ∈ l ↔ x ∈ m) → l = m
  | [], [], _, _, _ => rfl
  | [], y :: m, _, _, h => by have := (h y).2 (by simp); cases this
  | x :: l, [], _, _, h => by have := (h x).1 (by simp); cases this
  | x :: l, y :: m, hl, hm, h => by
    have hl := List.pairwise_cons.1 hl
    have hm := List.pairwise_cons.1 hm
    have e : x = y := by
      rcases List.mem_cons.1 ((h x).1 (by simp)) with e | e
      · exact e
      · rcases List.mem_cons.1 ((h y).2 (by simp)) with e2 | e2
        · exact e2.symm
        · exact absurd (hl.1 y e2) (ltP_asymm (hm.1 x e))
    subst e
    refine congrArg _ (ascP_ext hl.2 hm.2 fun z => ⟨fun hz => ?_, fun hz => ?_⟩)
    · rcases List.mem_cons.1 ((h z).1 (by simp [hz])) with e | e
      · subst e; exact absurd (hl.1 _ hz) (ltP_irr _)
      · exact e
    · rcases List.mem_cons.1 ((h z).2 (by simp [hz])) with e | e
      · subst e; exact absurd (hm.1 _ hz) (ltP_irr _)
      · exact e
theorem mem_pairsOf : ∀ {R : List Int} {x : Pair}, Asc R → (x ∈ pairsOf R ↔ x.a ∈ R ∧ x.b ∈ R ∧ x.a < x.b)
  | [], x, _ => by simp [pairsOf]
  | a :: R, x, h => by
    have h := List.pairwise_cons.1 h
    unfold pairsOf
    rw [List.mem_append, mem_pairsOf h.2, List.mem_map]
    constructor
    · rintro (⟨b, hb, rfl⟩ | ⟨h1, h2, h3⟩)
      · exact ⟨by simp, by simp [hb], h.1 b hb⟩
      · exact ⟨by simp [h1], by simp [h2], h3⟩
    · rintro ⟨h1, h2, h3⟩
      rcases List.mem_cons.1 h1 with e | e
      · rcases List.mem_cons.1 h2 with e2 | e2
        · omega
        · exact .inl ⟨x.b, e2, by rw [← e]⟩
      · rcases List.mem_cons.1 h2 with e2 | e2
        · have := h.1 x.a e; omega
        · exact .inr ⟨e, e2, h3⟩
theorem pairsOf_asc : ∀ {R : List Int}, Asc R → AscP (pairsOf R)
  | [], _ => List.Pairwise.nil
  | a :: R, h => by
    have h := List.pairwise_cons.1 h
    unfold pairsOf
    refine List.pairwise_append.2 ⟨List.pairwise_map.2 (h.2.imp fun h => .inr ⟨rfl, h⟩), pairsOf_asc h.2, fun x hx y hy => ?_⟩
    obtain ⟨b, hb, rfl⟩ := List.mem_map.1 hx
    exact .inl (h.1 _ ((mem_pairsOf h.2).1 hy).1)
theorem pairsOf_len : ∀ (R : List Int), (pairsOf R).length ≤ R.length * R.length
  | [] => Nat.le_refl _
  | a :: R => by
    unfold pairsOf
    rw [List.length_append, List.length_map, List.length_cons]
    have := pairsOf_len R
    have e : (R.length + 1) * (R.length + 1) = R.length * R.length + 2 * R.length + 1 := by rw [Nat.add_mul, Nat.mul_add]; omega
    omega

/-! ### sets of pairs -/
def addPL (S : Pair → Bool) (l : List Pair) : Pair → Bool := fun x => S x || l.contains x
theorem addPL_nil (S : Pair → Bool) : addPL S [] = S := by funext x; simp [addPL]
theorem addPL_append (S : Pair → Bool) (l m : List Pair) : addPL S (l ++ m) = addPL (addPL S l) m := by
  funext x
  simp only [addPL, List.contains_eq_mem, List.mem_append, Bool.decide_or, Bool.or_assoc]
theorem addPL_one (S : Pair → Bool) (q : Pair) : addPL S [q] = addP S q := by
  funext x
  simp only [addPL, addP, List.contains_eq_mem, List.mem_cons, List.not_mem_nil, or_false]
theorem addPL_iff {S : Pair → Bool} {l : List Pair} {x : Pair} : addPL S l x = true ↔ S x = true ∨ x ∈ l := by
  simp only [addPL, Bool.or_eq_true, List.contains_iff_mem]
/-- the pair of two registers, if they are not the same -/
def pairOf (a b : Int) : List Pair := if a = b then [] else [⟨min a b, max a b⟩]
/-- a set lies in the pairs of a row -/
def InP (R : List Int) (S : Pair → Bool) : Prop := ∀ x, S x = true → x.a ∈ R ∧ x.b ∈ R ∧ x.a < x.b
theorem InP.none (R : List Int) : InP R fun _ => false := fun _ h => by cases h
theorem pairOf_in {R : List Int} {a b : Int} (ha : a ∈ R) (hb : b ∈ R) : ∀ x ∈ pairOf a b, x.a ∈ R ∧ x.b ∈ R ∧ x.a < x.b := fun x hx => by
  unfold pairOf at hx
  split at hx
  · cases hx
  · simp only [List.mem_cons, List.not_mem_nil, or_false] at hx
    subst hx
    dsimp only
    rcases Int.lt_or_lt_of_ne (by assumption) with h | h
    · rw [Int.min_eq_left (by omega), Int.max_eq_right (by omega)]; exact ⟨ha, hb, h⟩
    · rw [Int.min_eq_right (by omega), Int.max_eq_left (by omega)]; exact ⟨hb, ha, h⟩
theorem InP.addL {R : List Int} {S : Pair → Bool} {l : List Pair} (h : InP R S) (hl : ∀ x ∈ l, x.a ∈ R ∧ x.b ∈ R ∧ x.a < x.b) : InP R (addPL S l) := fun x hx => by
  rcases addPL_iff.1 hx with hx | hx
  · exact h x hx
  · exact hl x hx
def asPairs (R : List Int) (S : Pair → Bool) : List Pair := (pairsOf R).filter S
theorem mem_asPairs {R : List Int} {S : Pair → Bool} {x : Pair} (hR : Asc R) (h : InP R S) : x ∈ asPairs R S ↔ S x = true := by
  unfold asPairs
  rw [List.mem_filter, mem_pairsOf hR]
  exact ⟨fun h => h.2, fun hx => ⟨h x hx, hx⟩⟩
theorem asPairs_asc {R : List Int} {S : Pair → Bool} (hR : Asc R) : AscP (asPairs R S) := (pairsOf_asc hR).filter S

/-! ### who parts -/
/-- the pairs that an instruction parts, with what is live behind it -/
def edgeR (q : Ins × List Int) (r : Int) : Bool := writesB q.1 && (q.1.op != 2 || r != q.1.a)
def edgeA (q : Ins × List Int) : List Pair := (q.2.filter (edgeR q)).flatMap (pairOf q.1.d)
def edgeK (f : Func) (k : Nat) : Pair → Bool := addPL (fun _ => false) (((stepsL f).take k).flatMap edgeA)
/-- the pairs of a row that is live at the beginning -/
def edgeF (l : List Int) : List Pair := (List.range l.length).flatMap fun i => (l.take i).flatMap (pairOf (l[i]?.getD 0))
def firstL (f : Func) : List Int := if f.blocks.length = 0 then [] else ((blockL f 0)[0]?).getD []
def edgesS (f : Func) : Pair → Bool := addPL (edgeK f (stepsL f).length) (edgeF (firstL f))
def edgesL (f : Func) : List Pair := asPairs (regs18L f) (edgesS f)
def mvA (q : Ins × List Int) : List Pair := if q.1.op = 2 then pairOf q.1.d q.1.a else []
def mvK (f : Func) (k : Nat) : Pair → Bool := addPL (fun _ => false) (((stepsL f).take k).flatMap mvA)
def mvL (f : Func) : List Pair := asPairs (regs18L f) (mvK f (stepsL f).length)
/-- who parts from one -/
def nearX (r : Int) (x : Pair) : List Int := if r = x.a then [x.b] else if r = x.b then [x.a] else []
def nearL (f : Func) (r : Int) : List Int := (regs18L f).filter fun y => r != y && edgesS f ⟨min r y, max r y⟩
theorem edgeK_succ {f : Func} {k : Nat} {q : Ins × List Int} (h : (stepsL f)[k]? = some q) : edgeK f (k + 1) = addPL (edgeK f k) (edgeA q) := by
  unfold edgeK
  rw [List.take_add_one, h, Option.toList_some, List.flatMap_append, addPL_append]
  simp
theorem edgeK_zero (f : Func) : edgeK f 0 = fun _ => false := by
  unfold edgeK
  rw [List.take_zero, List.flatMap_nil, addPL_nil]
theorem movesK_succ {f : Func} {k : Nat} {q : Ins × List Int} (h : (stepsL f)[k]? = some q) : mvK f (k + 1) = addPL (mvK f k) (mvA q) := by
  unfold mvK
  rw [List.take_add_one, h, Option.toList_some, List.flatMap_append, addPL_append]
  simp
theorem movesK_zero (f : Func) : mvK f 0 = fun _ => false := by
  unfold mvK
  rw [List.take_zero, List.flatMap_nil, addPL_nil]
/-- so many of a row have been looked at -/
def edgeI (S : Pair → Bool) (q : Ins × List Int) (i : Nat) : Pair → Bool := addPL S (((q.2.take i).filter (edgeR q)).flatMap (pairOf q.1.d))
theorem edgeI_zero (S : Pair → Bool) (q : Ins × List Int) : edgeI S q 0 = S := by
  unfold edgeI
  rw [List.take_zero, List.filter_nil, List.flatMap_nil, addPL_nil]
theorem edgeI_yes {S : Pair → Bool} {q : Ins × List Int} {i : Nat} {r : Int} (h : q.2[i]? = some r) (hq : edgeR q r = true) : edgeI S q (i + 1) = addPL (edgeI S q i) (pairOf q.1.d r) := by
  unfold edgeI
  rw [List.take_add_one, h, Option.toList_some, List.filter_append, List.filter_cons, hq, List.filter_nil, List.flatMap_append, addPL_append]
  simp
theorem edgeI_no {S : Pair → Bool} {q : Ins × List Int} {i : Nat} {r : Int} (h : q.2[i]? = some r) (hq : edgeR q r = false) : edgeI S q (i + 1) = edgeI S q i := by
  unfold edgeI
  rw [List.take_add_one, h, Option.toList_some, List.filter_append, List.filter_cons, hq, List.filter_nil]
  simp
theorem edgeI_all (S : Pair → Bool) (q : Ins × List Int) : edgeI S q q.2.length = addPL S (edgeA q) := by
  unfold edgeI edgeA
  rw [List.take_length]
/-- so many rounds over the row at the beginning, and so many within the last one -/
def edgeG (S : Pair → Bool) (l : List Int) (i k : Nat) : Pair → Bool := addPL (addPL S ((List.range i).flatMap fun j => (l.take j).flatMap (pairOf (l[j]?.getD 0)))) ((l.take k).flatMap (pairOf (l[i]?.getD 0)))
theorem edgeG_zero (S : Pair → Bool) (l : List Int) : edgeG S l 0 0 = S := by
  unfold edgeG
  rw [List.range_zero, List.flatMap_nil, List.take_zero, List.flatMap_nil, addPL_nil, addPL_nil]
theorem edgeG_succ {S : Pair → Bool} {l : List Int} {i k : Nat} {a b : Int} (ha : l[i]? = some a) (hb : l[k]? = some b) : edgeG S l i (k + 1) = addPL (edgeG S l i k) (pairOf a b) := by
  unfold edgeG
  rw [List.take_add_one, hb, ha, Option.toList_some, List.flatMap_append, addPL_append]
  simp
theorem edgeG_next (S : Pair → Bool) (l : List Int) (i : Nat) : edgeG S l i i = edgeG S l (i + 1) 0 := by
  unfold edgeG
  rw [List.range_succ, List.flatMap_append, List.take_zero, List.flatMap_nil, addPL_nil, addPL_append]
  simp
theorem edgeG_all (S : Pair → Bool) (l : List Int) : edgeG S l l.length 0 = addPL S (edgeF l) := by
  unfold edgeG edgeF
  rw [List.take_zero, List.flatMap_nil, addPL_nil]

/-! ### all of them are a function's registers -/
theorem mem_regs18 {f : Func} {r : Int} : r ∈ regs18L f ↔ ∃ b ∈ f.blocks, ∃ x ∈ b.ins, r ∈ regsX x := by
  rw [(regs18_asc f).2]
  unfold allX blkX
  simp only [List.mem_flatMap]
theorem regs18_read {f : Func} {r : Int} (h : r ∈ regsL f) : r ∈ regs18L f := by
  obtain ⟨b, hb, x, hx, hr⟩ := regsL_mem.1 h
  exact mem_regs18.2 ⟨b, hb, x, hx, List.mem_append.2 (.inl hr)⟩
theorem steps_ins {f : Func} {q : Ins × List Int} (h : q ∈ stepsL f) : (∃ b ∈ f.blocks, q.1 ∈ b.ins) ∧ ∀ r ∈ q.2, r ∈ regs18L f :=
  ⟨(stepsL_mem h).1, fun r hr => regs18_read ((stepsL_mem h).2.1 r hr)⟩
theorem regs18_d {f : Func} {q : Ins × List Int} (h : q ∈ stepsL f) (hw : writesB q.1 = true) : q.1.d ∈ regs18L f := by
  obtain ⟨b, hb, hx⟩ := (steps_ins h).1
  exact mem_regs18.2 ⟨b, hb, q.1, hx, List.mem_append.2 (.inr (by rw [hw]; simp))⟩
theorem mov_writes {x : Ins} (h : x.op = 2) : writesB x = true ∧ x.a ∈ readsC x := by
  unfold writesB readsC
  rw [h]
  exact ⟨by rfl, List.mem_append.2 (.inl (List.mem_append.2 (.inl (by rw [if_pos (by rfl)]; simp))))⟩
theorem regs18_a {f : Func} {q : Ins × List Int} (h : q ∈ stepsL f) (hw : q.1.op = 2) : q.1.a ∈ regs18L f := by
  obtain ⟨b, hb, hx⟩ := (steps_ins h).1
  exact mem_regs18.2 ⟨b, hb, q.1, hx, List.mem_append.2 (.inl (mov_writes hw).2)⟩
theorem flat_pairs_in {R : List Int} {a : Int} {l : List Int} (ha : a ∈ R) (hl : ∀ r ∈ l, r ∈ R) : ∀ x ∈ l.flatMap (pairOf a), x.a ∈ R ∧ x.b ∈ R ∧ x.a < x.b := fun x hx => by
  obtain ⟨r, hr, hx⟩ := List.mem_flatMap.1 hx
  exact pairOf_in ha (hl r hr) x hx
theorem edgeI_in {f : Func} {S : Pair → Bool} {q : Ins × List Int} (hS : InP (regs18L f) S) (h : q ∈ stepsL f) (i : Nat) : InP (regs18L f) (edgeI S q i) := by
  unfold edgeI
  by_cases hw : writesB q.1 = true
  · exact hS.addL (flat_pairs_in (regs18_d h hw) fun r hr => (steps_ins h).2 r (List.mem_of_mem_take (List.mem_filter.1 hr).1))
  · rw [show (q.2.take i).filter (edgeR q) = [] from List.filter_eq_nil_iff.2 fun r _ => by unfold edgeR; simp [hw], List.flatMap_nil, addPL_nil]
    exact hS
theorem edgeK_in (f : Func) : ∀ k, InP (regs18L f) (edgeK f k)
  | 0 => by rw [edgeK_zero]; exact InP.none _
  | k + 1 => by
    by_cases hk : k < (stepsL f).length
    · have hq := List.getElem?_eq_getElem hk
      rw [edgeK_succ hq, ← edgeI_all]
      exact edgeI_in (edgeK_in f k) (List.mem_of_getElem? hq) _
    · have : edgeK f (k + 1) = edgeK f k := by
        unfold edgeK
        rw [List.take_of_length_le (by omega), List.take_of_length_le (by omega)]
      rw [this]
      exact edgeK_in f k
theorem firstL_in (f : Func) : ∀ r ∈ firstL f, r ∈ regs18L f := fun r hr => by
  unfold firstL at hr
  split at hr
  · cases hr
  · unfold blockL at hr
    cases h : ((List.range ((insOf f 0).length + 1)).map (placeL f (regsL f) 0))[0]? with
    | none => rw [h] at hr; cases hr
    | some l =>
      rw [h] at hr
      obtain ⟨i, _, e⟩ := List.mem_map.1 (List.mem_of_getElem? h)
      rw [← e] at hr
      exact regs18_read (List.mem_filter.1 hr).1
theorem edgeG_in {R : List Int} {S : Pair → Bool} {l : List Int} (hS : InP R S) (hl : ∀ r ∈ l, r ∈ R) {i k : Nat} (hi : i ≤ l.length) (hik : k = 0 ∨ i < l.length) : InP R (edgeG S l i k) := by
  have hg : ∀ j, j < l.length → (l[j]?.getD 0) ∈ R := fun j hj => by
    rw [List.getElem?_eq_getElem hj]
    exact hl _ (List.getElem_mem hj)
  unfold edgeG
  refine InP.addL (InP.addL hS fun x hx => ?_) ?_
  · obtain ⟨j, hj, hx⟩ := List.mem_flatMap.1 hx
    exact flat_pairs_in (hg j (by have := List.mem_range.1 hj; omega)) (fun r hr => hl r (List.mem_of_mem_take hr)) x hx
  · rcases hik with rfl | hik
    · intro x hx; simp at hx
    · exact flat_pairs_in (hg i hik) fun r hr => hl r (List.mem_of_mem_take hr)
theorem edgesS_in (f : Func) : InP (regs18L f) (edgesS f) := by
  unfold edgesS
  rw [← edgeG_all]
  exact edgeG_in (edgeK_in f _) (firstL_in f) (Nat.le_refl _) (.inl rfl)
theorem movesK_in (f : Func) : ∀ k, InP (regs18L f) (mvK f k)
  | 0 => by rw [movesK_zero]; exact InP.none _
  | k + 1 => by
    by_cases hk : k < (stepsL f).length
    · have hq := List.getElem?_eq_getElem hk
      have hm := List.mem_of_getElem? hq
      rw [movesK_succ hq]
      refine (movesK_in f k).addL fun x hx => ?_
      unfold mvA at hx
      split at hx
      · rename_i h2
        exact pairOf_in (regs18_d hm (mov_writes h2).1) (regs18_a hm h2) x hx
      · cases hx
    · have : mvK f (k + 1) = mvK f k := by
        unfold mvK
        rw [List.take_of_length_le (by omega), List.take_of_length_le (by omega)]
      rw [this]
      exact movesK_in f k
end Mu
end
section
/-
  Iterators that give what nobody knows ahead, in an order that is told only while they run; a range over one.
  Conditions: outermost; the rounds end normally; what the slots name lies at known places.
-/
namespace Mu
open Go Go.RowKit

/-- an iterator's contract: from what was given to what was given, by a step; in the end all of it -/
def IterS {κ : Type} (P : Program) (gf : FuncId) (lb : List Value) (RB : Res) (st : κ → List AV → κ → Prop) (k0 : κ) (fin : κ → Prop) : Prop :=
  Enters P gf = true ∧ ∀ (w : World) (S : Nat → Prop) (ι : Type) (l : Nat) (Jr : κ → ι → Res), (∀ k p, (Jr k p).mrk = []) → (∀ k es k', st k es k' → ∀ p, YTurn P l S w.heap.size (Jr k p) es (Jr k')) →
    ∀ p, (∀ k, S k → k < w.heap.size ∧ ¬ (Jr k0 p).F k ∧ ¬ RB.F k) → (∀ g, (Jr k0 p).F g → g < w.heap.size ∧ ¬ RB.F g) → (∀ g, RB.F g → g < w.heap.size) → (Jr k0 p).R w S → RB.R w S →
      CallsIn Fence.wide 3 P gf (#[Value.func (.yield l) #[] #[]] ++ lb.toArray) w fun e w' => (∃ v, e = .returned v) ∧ Gr (fun g => (Jr k0 p).F g ∨ RB.F g) w w' ∧ ∃ kN q S', fin kN ∧ (∀ k, S k → S' k) ∧ (Jr kN q).R w' S' ∧ (∀ k, S' k → k < w'.heap.size ∧ ¬ (Jr kN q).F k) ∧ (∀ k, S' k → S k ∨ w.heap.size ≤ k) ∧ ∀ g, (Jr kN q).F g → ((Jr k0 p).F g ∨ RB.F g ∨ w.heap.size ≤ g) ∧ g < w'.heap.size
def RetsS {κ ι : Type} (fin : κ → Prop) (Jr : κ → ι → Res) : Exit → St → Prop := fun e s => (e = .normal ∨ e = .ret) ∧ ∃ kN, fin kN ∧ ∃ q, s.h[0]? = some (.res (Jr kN q)) ∧ mkD s.h = []
theorem IterS.of_awp {P : Program} {gf : FuncId} {fn : Go.Func} {c : Code} {lb : List Value} {RB : Res} {κ : Type} {st : κ → List AV → κ → Prop} {k0 : κ} {fin : κ → Prop} {n : Nat} (hf : P.funcs[gf]? = some fn) (hb : fn.body = some c) (hE : Enters P gf = true) (hres : fn.results = #[]) (hn : fn.ntmps = n) (hmB : RB.mrk = [])
    (h : ∀ (C : Ctx), C.rd = none → ∀ (ι : Type) (l : Nat) (Jr : κ → ι → Res), (∀ k p, (Jr k p).mrk = []) → (∀ k es k', st k es k' → ∀ p, YTurn P l C.S0 C.w0.heap.size (Jr k p) es (Jr k')) → ∀ p,
      Awp P C c (RetsS fin Jr) ⟨(.lit (.func (.yield l) #[] #[]) :: lb.map .lit) ++ List.replicate (n - (lb.length + 1)) (.lit undef), [.res (Jr k0 p), .res RB]⟩) : IterS P gf lb RB st k0 fin := by
  refine ⟨hE, fun w S ι l Jr hm hY p hS hF hB hR hRB => callsIn_of_wp hf hb trivial ?_⟩
  rw [hn]
  let N0 : Nat → Prop := fun k => k < w.heap.size ∧ ¬ (Jr k0 p).F k ∧ ¬ RB.F k
  have hH : HRel ⟨w, S, N0, none⟩ [.res (Jr k0 p), .res RB] S ψ0 w := by
    refine ⟨Kp.refl _ _, fun k hk => hk.1, fun k hk => (hS k hk).1, fun _ h => h, fun _ h => .inl h, fun i b hi => ?_, fun i j hij hi hj g h1 h2 => ?_⟩
    · rcases i with _ | _ | i
      · have : b = .res (Jr k0 p) := by simpa using hi.symm
        subst this
        exact ⟨fun g hg => ⟨fun hn => hn.2.1 hg, fun hs => (hS g hs).2.1 hg, (hF g hg).1⟩, hR⟩
      · have : b = .res RB := by simpa using hi.symm
        subst this
        exact ⟨fun g hg => ⟨fun hn => hn.2.2 hg, fun hs => (hS g hs).2.2 hg, hB g hg⟩, hRB⟩
      · simp at hi
    · rcases i with _ | _ | i
      · rcases j with _ | _ | j
        · exact hij rfl
        · exact (hF g h1).2 h2
        · simp [ABlk.live] at hj
      · rcases j with _ | _ | j
        · exact (hF g h2).2 h1
        · exact hij rfl
        · simp [ABlk.live] at hj
      · simp [ABlk.live] at hi
  have hst : St.rel ⟨w, S, N0, none⟩ ⟨(.lit (.func (.yield l) #[] #[]) :: lb.map .lit) ++ List.replicate (n - (lb.length + 1)) (.lit undef), [.res (Jr k0 p), .res RB]⟩ { tmps := (#[Value.func (.yield l) #[] #[]] ++ lb.toArray) ++ Array.replicate (n - (#[Value.func (.yield l) #[] #[]] ++ lb.toArray).size) undef, defers := [] } w := by
    refine ⟨?_, S, ψ0, hH, ?_⟩
    · show [] = mkD _
      simp [mkD, ABlk.mrk, hm k0 p, hmB]
    · have e : ((#[Value.func (.yield l) #[] #[]] ++ lb.toArray) ++ Array.replicate (n - (#[Value.func (.yield l) #[] #[]] ++ lb.toArray).size) undef).toList = (Value.func (.yield l) #[] #[] :: lb) ++ List.replicate (n - (lb.length + 1)) undef := by
        simp []
      rw [e, show (AV.lit (.func (.yield l) #[] #[]) :: lb.map .lit) = ((Value.func (.yield l) #[] #[] :: lb).map AV.lit) from rfl, show List.replicate (n - (lb.length + 1)) (AV.lit undef) = (List.replicate (n - (lb.length + 1)) undef).map AV.lit by simp]
      exact relL_append (relL_litL _) (relL_litL _)
  have hw := h ⟨w, S, N0, none⟩ rfl ι l Jr hm hY p _ w hst
  refine wpIn_mono (fnc_n (m := 3) hw) ?_
  rintro e a' w' ⟨s, ⟨he, kN, hfN, q, h0, hmk⟩, hd, S1, ψ, H, hl⟩
  rw [hmk] at hd
  have hq := H.blk 0 _ h0
  have hfin : (∃ v, Ending.returned (.tuple #[]) = .returned v) ∧ Gr (fun g => (Jr k0 p).F g ∨ RB.F g) w w' ∧ ∃ kN q S', fin kN ∧ (∀ k, S k → S' k) ∧ (Jr kN q).R w' S' ∧ (∀ k, S' k → k < w'.heap.size ∧ ¬ (Jr kN q).F k) ∧ (∀ k, S' k → S k ∨ w.heap.size ≤ k) ∧ ∀ g, (Jr kN q).F g → ((Jr k0 p).F g ∨ RB.F g ∨ w.heap.size ≤ g) ∧ g < w'.heap.size := by
    refine ⟨⟨_, rfl⟩, ⟨H.bel.os, H.bel.tape, H.bel.output, H.bel.size, fun k hk hno => H.bel.block k ⟨hk, fun h => hno (.inl h), fun h => hno (.inr h)⟩⟩, kN, q, S1, hfN, H.sub, hq.2, fun k hk => ⟨H.lt k hk, fun hf => (hq.1 k hf).2.1 hk⟩, H.new, fun g hg => ⟨?_, (hq.1 g hg).2.2⟩⟩
    have h1 := (hq.1 g hg).1
    by_cases hlt : g < w.heap.size
    · by_cases h2 : (Jr k0 p).F g
      · exact .inl h2
      · by_cases h3 : RB.F g
        · exact .inr (.inl h3)
        · exact absurd ⟨hlt, h2, h3⟩ h1
    · exact .inr (.inr (by show w.heap.size ≤ g; omega))
  rcases he with rfl | rfl
  · exact ⟨hd, _, results_none hres _ _ _, hfin⟩
  · exact ⟨hd, _, results_none hres _ _ _, hfin⟩

/-- what a round must come to: one of several states -/
def roundEndJ {J : Type} (h' : J → List ABlk) : Exit → St → Prop := fun e s => e = .normal ∧ ∃ j, Drops s.h (h' j)
def roundBodyJ (P : Program) {J : Type} (body : Code) (h' : J → List ABlk) (s1 : St) : Prop := ∀ C' : Ctx, C'.rd.isSome = true → Awp P C' body (roundEndJ h') s1
theorem round_okJ {P : Program} {J : Type} {own0 S SI : Nat → Prop} {w W : World} {t es : List AV} {hk : List ABlk} {hk1 : J → List ABlk} {ps : Array Tmp} {vs : List Value} {tmps : Array Value} {assign body : Code} {fn : FuncId} {rec_ : LoopState → Loop} {p : BetP}
    (hst : ∀ x y, ({ rec_ x with state := y } : Loop) = rec_ y) (hrst : (rec_ .ready).state = .ready) (hpe : ∀ x, (rec_ x).pending = none)
    (ho0 : ∀ g, own0 g → g < w.heap.size) (hS0 : ∀ g, S g → g < w.heap.size)
    (ht : AV.clL t = true) (hes : AV.clL es = true) (htr : AV.relL w S [] ψ0 t tmps.toList) (hev : AV.relL W SI [] ψ0 es vs) (hm : mkD hk = [])
    (_hI1 : ∀ g, S g → SI g) (hI2 : ∀ g, SI g → S g ∨ w.heap.size + 2 ≤ g) (hI3 : ∀ g, SI g → g < W.heap.size ∧ ¬ betF w hk p g)
    (hB : BetY S own0 w (rec_ .ready) hk p.1 p.2.1 p.2.2 W SI)
    (hA : ∀ C' : Ctx, C'.rd.isSome = true → Awp P C' assign (athen (roundBodyJ P body hk1) (fun _ _ => False)) ⟨putAll t ps.toList es, hk⟩) :
    RoundIn Fence.wide 2 P (w.heap.size + 1) fn ((ps.toList.zip vs).foldl (fun t p => t.setIfInBounds p.1 p.2) tmps) assign body W fun e W' => e = .returned (.bool true) ∧ Turns W SI (betF w hk p) (fun q : J × BetP => betR S own0 w (rec_ .ready) (hk1 q.1) q.2) (fun _ => .bool true) (.bool true) W' := by
  obtain ⟨Sk, ψk, X⟩ := p
  obtain ⟨hl, hD, hsz, hsame, H, hs1, hs2, hs3, hcov⟩ := hB
  dsimp only at H hs1 hs2 hs3 hcov
  have hF : ∀ g, betF w hk (Sk, ψk, X) g ↔ (g = w.heap.size ∨ g = w.heap.size + 1 ∨ owns hk ψk g ∨ X g) := fun g => Iff.rfl
  let S1 : Nat → Prop := fun g => Sk g ∨ SI g
  have hS1o : ∀ g, S1 g → g < W.heap.size ∧ ¬ owns hk ψk g := fun g hg => by
    rcases hg with hg | hg
    · exact ⟨H.lt g hg, fun ho => (H.own_lt ho).2.2 hg⟩
    · exact ⟨(hI3 g hg).1, fun ho => (hI3 g hg).2 (.inr (.inr (.inl ho)))⟩
  have hS1n : ∀ g, S1 g → S g ∨ w.heap.size + 2 ≤ g := fun g hg => by
    rcases hg with hg | hg
    · exact hs2 g hg
    · exact hI2 g hg
  let N1 : Nat → Prop := fun g => g < W.heap.size ∧ ¬ owns hk ψk g
  have hlD : ∀ g, (g = w.heap.size ∨ g = w.heap.size + 1) → N1 g := fun g hg => ⟨by omega, fun ho => by
    rcases hs3 g ho with h1 | h1
    · have := ho0 g h1; omega
    · omega⟩
  have H1 := H.widen (S' := S1) (fun k hk => .inl hk) hS1o N1 (fun _ h => h) (some (w.heap.size + 1))
  refine roundIn_of_wpIn trivial ?_
  have r1 : St.rel ⟨W, S1, N1, some (w.heap.size + 1)⟩ ⟨putAll t ps.toList es, hk⟩ { tmps := (ps.toList.zip vs).foldl (fun t p => t.setIfInBounds p.1 p.2) tmps, defers := [] } W := by
    refine ⟨hm.symm, S1, ψk, H1, putAll_rel _ _ _ _ _ ?_ ?_⟩
    · exact AV.relL_cl _ _ hes (AV.relL_ext (Ext.grow [] ψ0 (fun _ _ => rfl) fun k hk => .inr hk) _ _ hev)
    · exact AV.relL_cl _ _ ht (AV.relL_ext (Ext.grow [] ψ0 hsame fun k hk => .inl (hs1 k hk)) _ _ htr)
  refine wpIn_mono (fnc_n (hA ⟨W, S1, N1, some (w.heap.size + 1)⟩ rfl _ _ r1)) ?_
  rintro e a1 Wa ⟨s1, q1, hd1, Sa, ψa, Ha, hla⟩
  cases e with
  | normal =>
    have hka := Ha.bel
    have hla1 : Wa.heap[w.heap.size + 1]? = some (.loop (rec_ .ready)) := (hka.block _ (hlD _ (.inr rfl))).trans hl
    have hDa : Wa.heap[w.heap.size]? = some (.deferred (some [])) := (hka.block _ (hlD _ (.inl rfl))).trans hD
    have hSa2 : ∀ g, Sa g → S1 g ∨ W.heap.size ≤ g := Ha.new
    have hoa : ∀ g, owns s1.h ψa g → owns hk ψk g ∨ W.heap.size ≤ g := fun g hg => by
      by_cases hgW : g < W.heap.size
      · have h1 := (Ha.own_lt hg).1
        exact .inl (Classical.not_not.1 fun h2 => h1 ⟨hgW, h2⟩)
      · right; omega
    have hneS : ∀ g, Sa g → g ≠ w.heap.size + 1 := fun g hg => by
      rcases hSa2 g hg with h1 | h1
      · rcases hS1n g h1 with h2 | h2
        · have := hS0 g h2; omega
        · omega
      · omega
    have hneO : ∀ g, owns s1.h ψa g → g ≠ w.heap.size + 1 := fun g hg => by
      rcases hoa g hg with h1 | h1
      · rcases hs3 g h1 with h2 | h2
        · have := ho0 g h2; omega
        · omega
      · omega
    refine ⟨_, run_beginRound hla1 hrst, ?_⟩
    rw [hst]
    obtain ⟨W2, hW2⟩ : ∃ W2, W2 = Wa.putObj (w.heap.size + 1) (.loop (rec_ .busy)) := ⟨_, rfl⟩
    rw [← hW2]
    have hot : ∀ g, g ≠ w.heap.size + 1 → W2.heap[g]? = Wa.heap[g]? := fun g hg => by rw [hW2]; exact World.putObj_heap_other hg
    have hsz2 : W2.heap.size = Wa.heap.size := by rw [hW2]; simp
    let N2 : Nat → Prop := fun g => g < W2.heap.size ∧ ¬ owns s1.h ψa g
    have H2 := Ha.re (W' := W2) (fun k hk => hot k (hneS k hk)) (fun k hk => hot k (hneO k hk)) N2 (fun _ h => h) (some (w.heap.size + 1))
    have hla2 : W2.heap[w.heap.size + 1]? = some (.loop (rec_ .busy)) := by rw [hW2]; exact World.putObj_heap_same (Array.getElem?_eq_some_iff.1 hla1).1
    have hWa : W.heap.size ≤ Wa.heap.size := hka.size
    have hN12 : ∀ g, N1 g → N2 g := fun g hg => ⟨by have := hg.1; omega, fun ho => by
      rcases hoa g ho with h1 | h1
      · exact hg.2 h1
      · have := hg.1; omega⟩
    have r2 : St.rel ⟨W2, Sa, N2, some (w.heap.size + 1)⟩ s1 a1 W2 := ⟨hd1, Sa, ψa, H2, AV.relL_ext (Ext.grow s1.h ψa (fun k hk => hot k (hneS k hk)) fun _ h => h) _ _ hla⟩
    refine wpIn_mono (fnc_n (q1 ⟨W2, Sa, N2, some (w.heap.size + 1)⟩ rfl _ _ r2)) ?_
    rintro e a3 W3 ⟨s2, ⟨rfl, jj, hdr⟩, hd2, S3, ψ3, H3, hl3⟩
    have hk3 := H3.bel
    have hl31 : W3.heap[w.heap.size + 1]? = some (.loop (rec_ .busy)) := (hk3.block _ (hN12 _ (hlD _ (.inr rfl)))).trans hla2
    have hD3 : W3.heap[w.heap.size]? = some (.deferred (some [])) := (hk3.block _ (hN12 _ (hlD _ (.inl rfl)))).trans ((hot _ (by omega)).trans hDa)
    have H4 := H3.cut hdr.cut hdr.bd
    have hk3s : W2.heap.size ≤ W3.heap.size := hk3.size
    have hS3 : ∀ g, S3 g → S1 g ∨ W.heap.size ≤ g := fun g hg => by
      rcases H3.new g hg with h1 | h1
      · exact hSa2 g h1
      · right; have : W2.heap.size ≤ g := h1; omega
    have ho3 : ∀ g, owns (hk1 jj) ψ3 g → owns hk ψk g ∨ W.heap.size ≤ g := fun g hg => by
      by_cases hgW : g < W2.heap.size
      · have h1 := (H3.own_lt (owns_cut hdr.cut hg)).1
        have : owns s1.h ψa g := Classical.not_not.1 fun h2 => h1 ⟨hgW, h2⟩
        exact hoa g this
      · right; omega
    have hS3n : ∀ g, S3 g → S g ∨ w.heap.size + 2 ≤ g := fun g hg => by
      rcases hS3 g hg with h1 | h1
      · exact hS1n g h1
      · right; omega
    have ho3n : ∀ g, owns (hk1 jj) ψ3 g → own0 g ∨ w.heap.size + 2 ≤ g := fun g hg => by
      rcases ho3 g hg with h1 | h1
      · exact hs3 g h1
      · right; omega
    have hneS3 : ∀ g, S3 g → g ≠ w.heap.size + 1 := fun g hg => by
      rcases hS3n g hg with h2 | h2
      · have := hS0 g h2; omega
      · omega
    have hneO3 : ∀ g, owns (hk1 jj) ψ3 g → g ≠ w.heap.size + 1 := fun g hg => by
      rcases ho3n g hg with h2 | h2
      · have := ho0 g h2; omega
      · omega
    have hr := run_endRound (P := P) none hl31
    have hrec : ({ rec_ .busy with state := .ready, pending := none } : Loop) = rec_ .ready := by rw [← hst .busy .ready, ← hpe .busy]
    rw [show (if (none : Option Code).isNone = true then LoopState.ready else LoopState.done) = .ready from rfl, hrec] at hr
    obtain ⟨W4, hW4⟩ : ∃ W4, W4 = W3.putObj (w.heap.size + 1) (.loop (rec_ .ready)) := ⟨_, rfl⟩
    rw [← hW4] at hr
    have hot4 : ∀ g, g ≠ w.heap.size + 1 → W4.heap[g]? = W3.heap[g]? := fun g hg => by rw [hW4]; exact World.putObj_heap_other hg
    have hsz4 : W4.heap.size = W3.heap.size := by rw [hW4]; simp
    have hN1 : ∀ g, N1 g → g ≠ w.heap.size + 1 → W4.heap[g]? = W.heap[g]? := fun g hg hne => by
      rw [hot4 g hne, hk3.block g (hN12 g hg)]
      show W2.heap[g]? = W.heap[g]?
      rw [hot g hne]
      exact hka.block g hg
    refine ⟨_, _, hr, rfl, ⟨?_, ?_, ?_, by omega, fun g hg hno => ?_⟩, (jj, S3, ψ3, fun g => S3 g ∧ ¬ SI g), rfl, ?_, fun g hg => ?_⟩
    · rw [hW4]
      show W3.os = W.os
      rw [hk3.os]; show W2.os = W.os; rw [hW2]; exact hka.os
    · rw [hW4]
      show W3.tape = W.tape
      rw [hk3.tape]; show W2.tape = W.tape; rw [hW2]; exact hka.tape
    · rw [hW4]
      show W3.output = W.output
      rw [hk3.output]; show W2.output = W.output; rw [hW2]; exact hka.output
    · exact hN1 g ⟨hg, fun ho => hno (.inr (.inr (.inl ho)))⟩ fun e => hno (.inr (.inl e))
    · refine ⟨by rw [hW4]; exact World.putObj_heap_same (Array.getElem?_eq_some_iff.1 hl31).1, (hot4 _ (by omega)).trans hD3, by omega, fun g hg => ?_, ?_, fun g hg => H3.sub g (Ha.sub g (.inl (hs1 g hg))), hS3n, ho3n, fun g hg => ?_⟩
      · have hlt := hS0 g hg
        exact (hN1 g ⟨by omega, fun ho => (H.own_lt ho).2.2 (hs1 g hg)⟩ (by omega)).trans (hsame g hg)
      · exact H4.re (fun k hk => hot4 k (hneS3 k hk)) (fun k hk => hot4 k (hneO3 k hk)) _ (fun _ h => h.elim) none
      · show (S3 g ∧ ¬ SI g) ∨ SI g
        by_cases h1 : SI g
        · exact .inr h1
        · exact .inl ⟨hg, h1⟩
    · have hg : g = w.heap.size ∨ g = w.heap.size + 1 ∨ owns (hk1 jj) ψ3 g ∨ (S3 g ∧ ¬ SI g) := hg
      rcases hg with hg | hg | hg | hg
      · exact ⟨.inl (.inl hg), by omega⟩
      · exact ⟨.inl (.inr (.inl hg)), by omega⟩
      · refine ⟨?_, by rw [hsz4]; exact (H4.own_lt hg).2.1⟩
        rcases ho3 g hg with h1 | h1
        · exact .inl (.inr (.inr (.inl h1)))
        · exact .inr h1
      · refine ⟨?_, by rw [hsz4]; exact H4.lt g hg.1⟩
        rcases hS3 g hg.1 with h1 | h1
        · rcases h1 with h1 | h1
          · rcases hcov g h1 with h2 | h2
            · exact .inl (.inr (.inr (.inr h2)))
            · exact absurd h2 hg.2
          · exact absurd h1 hg.2
        · exact .inr h1
  | _ => exact q1.elim
section
variable {P : Program}
theorem Awp.rangeS {C : Ctx} {g : Operand} {ps : Array Tmp} {assign body : Code} {Q : Exit → St → Prop} {t : List AV} {h : List ABlk} {gf : FuncId} {lb : List Value} {RB : Res} {ds : List Nat} {κ : Type} {st : κ → List AV → κ → Prop} {k0 : κ} {fin : κ → Prop} {J : Type} (i im : Nat) (σ : κ → J → List ABlk) (j0 : J)
    (hrd : C.rd = none) (hg : evA t g = .lit (.func (.func gf) #[] lb.toArray)) (hne : i ≠ im) (hi : h[i]? = some (.res RB)) (hmi : h[im]? = some (.res (marksR ds))) (hmk : mkD h = ds.map mark)
    (h0 : Drops h (σ k0 j0)) (h0i : (σ k0 j0)[i]? = some .dead) (hσm : ∀ k j, (σ k j)[im]? = some .dead) (hmσ : ∀ k j, mkD (σ k j) = []) (ht : AV.clL t = true) (hes : ∀ k es k', st k es k' → AV.clL es = true ∧ es.length = ps.size)
    (hit : IterS P gf lb RB st k0 fin)
    (hround : ∀ k j es k', st k es k' → ∀ C' : Ctx, C'.rd.isSome = true → Awp P C' assign (athen (roundBodyJ P body (σ k')) (fun _ _ => False)) ⟨putAll t ps.toList es, σ k j⟩)
    (hdone : ∀ kN, fin kN → ∀ j D, Q .normal ⟨t, (σ kN j).set im (.res (marksR (D :: ds)))⟩) : Awp P C (.rangeFunc g ps assign body) Q ⟨t, h⟩ := fun a w ⟨hd, S, ψ, H, hl⟩ => by
  rw [hrd]
  show (Code.rangeFunc g ps assign body).wpIn Fence.wide 4 P _ a w
  have H0 := H.cut h0.cut h0.bd
  have hBi := H.blk i _ hi
  have hBm := H.blk im _ hmi
  have hgv := ev_rel hl g
  rw [hg] at hgv
  unfold AV.rel at hgv
  have hlit : AV.relL w S [] ψ0 t a.tmps.toList := AV.relL_cl _ _ ht hl
  obtain ⟨own0, hown0⟩ : ∃ o, o = owns (σ k0 j0) ψ := ⟨_, rfl⟩
  have ho0 : ∀ g, own0 g → g < w.heap.size := fun g hg => by rw [hown0] at hg; exact (H0.own_lt hg).2.1
  have hdead : ∀ (j : Nat) (R' : Res), h[j]? = some (.res R') → (σ k0 j0)[j]? = some .dead → ∀ g, R'.F g → ¬ own0 g := fun j R' hj hjd g hF ho => by
    rw [hown0] at ho
    obtain ⟨j', h1, h2⟩ := ho
    have hne : j' ≠ j := fun e => by subst e; rw [hjd] at h1; cases h1
    rw [h0.cut.same h1] at h2
    exact H.dis j' j hne (h0.cut.live h1) (by rw [hj]; rfl) g h2 (by rw [hj]; exact hF)
  have hSo : ∀ g, S g → ¬ own0 g := fun g hg ho => by rw [hown0] at ho; exact (H0.own_lt ho).2.2 hg
  have hRlt : ∀ g, RB.F g → g < w.heap.size := fun g hg => (hBi.1 g hg).2.2
  refine wpIn_rangeFunc fun fn _ => ?_
  obtain ⟨rec_, hrec⟩ : ∃ rec_ : LoopState → Loop, rec_ = fun st => { state := st, pending := none, fn, tmps := a.tmps, params := ps, assign, body, defers := w.heap.size } := ⟨_, rfl⟩
  have hst : ∀ x y, ({ rec_ x with state := y } : Loop) = rec_ y := fun x y => by rw [hrec]
  have hrst : (rec_ .ready).state = .ready := by rw [hrec]
  have hpe : ∀ x, (rec_ x).pending = none := fun x => by rw [hrec]
  obtain ⟨W1, hW1⟩ : ∃ W1, W1 = (w.alloc (.deferred (some []))).alloc (.loop (rec_ .ready)) := ⟨_, rfl⟩
  have hW1s : W1.heap.size = w.heap.size + 2 := by rw [hW1]; simp
  have hL1 : W1.heap[w.heap.size + 1]? = some (.loop (rec_ .ready)) := by
    rw [hW1]; have := heap_alloc_new (w.alloc (.deferred (some []))) (.loop (rec_ .ready)); rwa [World.size_alloc] at this
  have hD1 : W1.heap[w.heap.size]? = some (.deferred (some [])) := by
    rw [hW1]; exact (Below.heap_alloc _ _ _ (by simp)).trans (heap_alloc_new w _)
  have hb1 : Below w.heap.size w W1 := by rw [hW1]; exact ((Below.refl _ w).alloc (Nat.le_refl _) _).alloc (by simp) _
  have hJ0 : BetY S own0 w (rec_ .ready) (σ k0 j0) S ψ (fun _ => False) W1 S := by
    refine ⟨hL1, hD1, by omega, fun g hg => hb1.block g (H.lt g hg), ?_, fun _ h => h, fun _ h => .inl h, fun g hg => .inl (by rw [hown0]; exact hg), fun _ h => .inr h⟩
    exact H0.re (fun k hk => hb1.block k (H.lt k hk)) (fun k hk => hb1.block k (H0.own_lt hk).2.1) _ (fun _ h => h.elim) none
  refine ⟨w.heap.size + 1, [mark w.heap.size], W1, { target := .fn (.func gf) lb.toArray, args := #[.func (.yield (w.heap.size + 1)) #[] #[]] }, W1, gf, #[.func (.yield (w.heap.size + 1)) #[] #[]] ++ lb.toArray, W1, ?_, ?_, fun _ _ => trivial, ?_, fun _ => by omega, ?_⟩
  · rw [hW1, hrec]; exact run_enterLoop_outer _ _ _ _ _
  · simp only [resolve, hgv]
    simp [go_sem]
  · simp [invoke, go_sem, enters_call hit.1]
  · have key := hit.2 W1 S (J × BetP) (w.heap.size + 1) (fun k p => betR S own0 w (rec_ .ready) (σ k p.1) p.2) (fun _ _ => rfl) ?_ (j0, S, ψ, fun _ => False) (fun k hk => ⟨by have := H.lt k hk; omega, ?_, fun hf => (hBi.1 k hf).2.1 hk⟩) (fun g hg => ?_) (fun g hg => by have := hRlt g hg; omega) hJ0 (RB.keep hBi.2 (fun k hk => hb1.block k (hRlt k hk)) (fun k hk => hb1.block k (H.lt k hk)) fun _ h => h)
    · refine key.mono ?_
      rintro e W' ⟨⟨v, rfl⟩, hgr, kN, q, S', hfN, hSS, hJ, hS'lt, hS'new, hFq⟩
      have hJ : BetY S own0 w (rec_ .ready) (σ kN q.1) q.2.1 q.2.2.1 q.2.2.2 W' S' := hJ
      have hend := run_endLoop (P := P) hJ.loop (by rw [hrst]; simp)
      rw [hpe] at hend
      refine ⟨none, _, hend, ⟨t, (σ kN q.1).set im (.res (marksR (w.heap.size :: ds)))⟩, hdone kN hfN q.1 _, ?_⟩
      obtain ⟨hlp, hdf, hsz, hsame, Hk, hs1, hs2, hs3, _⟩ := hJ
      suffices key : ∀ (W5 : World) (ob : Obj), W5 = W'.putObj (w.heap.size + 1) ob → St.rel C ⟨t, (σ kN q.1).set im (.res (marksR (w.heap.size :: ds)))⟩ { a with defers := [mark w.heap.size] ++ a.defers } W5 from key _ _ rfl
      intro W5 ob hW5
      have hot : ∀ g, g ≠ w.heap.size + 1 → W5.heap[g]? = W'.heap[g]? := fun g hg => by rw [hW5]; exact World.putObj_heap_other hg
      have hsz5 : W5.heap.size = W'.heap.size := by rw [hW5]; simp
      have hSne : ∀ g, q.2.1 g → g ≠ w.heap.size + 1 := fun g hg => by
        rcases hs2 g hg with h1 | h1
        · have := H.lt g h1; omega
        · omega
      have hOne : ∀ g, owns (σ kN q.1) q.2.2.1 g → g ≠ w.heap.size + 1 := fun g hg => by
        rcases hs3 g hg with h1 | h1
        · have := ho0 g h1; omega
        · omega
      have hkeep : ∀ g, g < w.heap.size → ¬ own0 g → ¬ RB.F g → W5.heap[g]? = w.heap[g]? := fun g h1 h2 h3 => by
        rw [hot g (by omega), hgr.block g (by omega) ?_, hb1.block g h1]
        rintro (h4 | h4)
        · have h4 : g = w.heap.size ∨ g = w.heap.size + 1 ∨ owns (σ k0 j0) ψ g ∨ False := h4
          rcases h4 with h4 | h4 | h4 | h4
          · omega
          · omega
          · exact h2 (by rw [hown0]; exact h4)
          · exact h4
        · exact h3 h4
      have hH5 := Hk.re (W' := W5) (fun k hk => hot k (hSne k hk)) (fun k hk => hot k (hOne k hk)) (fun _ => False) (fun _ h => h.elim) none
      have hkp5 : Kp C.N w W5 := ⟨by rw [hW5]; exact hgr.os.trans hb1.os, by rw [hW5]; exact hgr.tape.trans hb1.tape, by rw [hW5]; exact hgr.output.trans hb1.output, by omega, fun k hk => hkeep k (Nat.lt_of_lt_of_le (H.nlt k hk) H.bel.size) (fun ho => by rw [hown0] at ho; exact (H0.own_lt ho).1 hk) fun hf => (hBi.1 k hf).1 hk⟩
      have hH6 : HRel C (σ kN q.1) q.2.1 q.2.2.1 W5 := hH5.to (H.bel.trans hkp5) H.nlt (fun k hk => hs1 k (H.sub k hk)) (fun k hk => by
        rcases hs2 k hk with h1 | h1
        · exact H.new k h1
        · right; have := H.bel.size; omega) fun g hg hn => by
          rcases hs3 g hg with h1 | h1
          · rw [hown0] at h1; exact (H0.own_lt h1).1 hn
          · have := H.nlt g hn; have := H.bel.size; omega
      have hdP : ∀ g, g ∈ ds → ¬ own0 g := fun g hg => hdead im _ hmi (hσm k0 j0) g hg
      have hdB : ∀ g, g ∈ ds → ¬ RB.F g := fun g hg hf => H.dis i im hne (by rw [hi]; rfl) (by rw [hmi]; rfl) g (by rw [hi]; exact hf) (by rw [hmi]; exact hg)
      refine ⟨?_, q.2.1, q.2.2.1, hH6.rise (hσm kN q.1) ⟨List.nodup_cons.2 ⟨fun hm => by have := (hBm.1 _ hm).2.2; omega, hBm.2.1⟩, fun d hd => ?_⟩ fun g hg => ?_, ?_⟩
      · show [mark w.heap.size] ++ a.defers = mkD ((σ kN q.1).set im _)
        rw [mkD_rise (hσm kN q.1) (hmσ kN q.1), hd, hmk]
        rfl
      · rcases List.mem_cons.1 hd with rfl | hd
        · exact (hot _ (by omega)).trans hdf
        · exact (hkeep d (hBm.1 d hd).2.2 (hdP d hd) (hdB d hd)).trans (hBm.2.2 d hd)
      · rcases List.mem_cons.1 hg with rfl | hg
        · refine ⟨fun hn => by have := H.nlt _ hn; have := H.bel.size; omega, fun hs => ?_, by omega, fun ho => ?_⟩
          · rcases hs2 _ hs with h1 | h1
            · have := H.lt _ h1; omega
            · omega
          · rcases hs3 _ ho with h1 | h1
            · have := ho0 _ h1; omega
            · omega
        · have hlt := (hBm.1 g hg).2.2
          refine ⟨(hBm.1 g hg).1, fun hs => ?_, by omega, fun ho => ?_⟩
          · rcases hs2 _ hs with h1 | h1
            · exact (hBm.1 g hg).2.1 h1
            · omega
          · rcases hs3 _ ho with h1 | h1
            · exact hdP g hg h1
            · omega
      · exact AV.relL_cl _ _ ht (AV.relL_ext (Ext.grow [] ψ0 (fun k hk => (hot k (by have := H.lt k hk; omega)).trans (hsame k hk)) hs1) _ _ hlit)
    · intro k es k' hkN p W SI vs hI1 hI2 hI3 hFlt hB hev
      have hB : BetY S own0 w (rec_ .ready) (σ k p.1) p.2.1 p.2.2.1 p.2.2.2 W SI := hB
      have hvl : vs.length = ps.size := by rw [relL_len hev, (hes k es k' hkN).2]
      have hy := run_yield (P := P) (args := vs.toArray) hB.loop (by rw [hrec]; simpa using hvl)
      have hR := round_okJ (P := P) (fn := fn) (ps := ps) (tmps := a.tmps) (body := body) (p := p.2) hst hrst hpe ho0 H.lt ht (hes k es k' hkN).1 hlit hev (hmσ k p.1) hI1 (fun g hg => by have := hI2 g hg; rw [hW1s] at this; exact this) hI3 hB (hround k p.1 es k' hkN)
      have e1 : ((rec_ .ready).params.zip vs.toArray).foldl (fun tmps (t, a) => tmps.setIfInBounds t a) (rec_ .ready).tmps = (ps.toList.zip vs).foldl (fun t p => t.setIfInBounds p.1 p.2) a.tmps := by
        rw [hrec, ← Array.foldl_toList, Array.toList_zip]
      rw [e1] at hy
      rw [show (rec_ .ready).fn = fn by rw [hrec], show (rec_ .ready).assign = assign by rw [hrec], show (rec_ .ready).body = body by rw [hrec]] at hy
      exact ⟨fn, _, assign, body, hy, hR⟩
    · intro hf
      have hf : k = w.heap.size ∨ k = w.heap.size + 1 ∨ owns (σ k0 j0) ψ k ∨ False := hf
      have := H.lt k hk
      rcases hf with hf | hf | hf | hf
      · omega
      · omega
      · exact hSo k hk (by rw [hown0]; exact hf)
      · exact hf
    · have hg : g = w.heap.size ∨ g = w.heap.size + 1 ∨ owns (σ k0 j0) ψ g ∨ False := hg
      rcases hg with hg | hg | hg | hg
      · exact ⟨by omega, fun hf => by have := hRlt g hf; omega⟩
      · exact ⟨by omega, fun hf => by have := hRlt g hf; omega⟩
      · exact ⟨by have := (H0.own_lt hg).2.1; omega, fun hf => hdead i _ hi h0i g hf (by rw [hown0]; exact hg)⟩
      · exact hg.elim
end
end Mu
end
section
/-
  Own memory of any form that is taken as two; a row of the call's own as a known value, made of nil and grown.
  Conditions: none; generic.
-/
namespace Mu
open Go Go.RowKit

section
variable {C : Ctx} {t : List AV} {h : List ABlk}
/-- one such memory is taken as two -/
theorem St.le_split {i : Nat} {R R1 R2 : Res} (hi : h[i]? = some (.res R)) (h0 : R.mrk = []) (h1 : R1.mrk = []) (h2 : R2.mrk = []) (hF : ∀ g, R1.F g ∨ R2.F g → R.F g)
    (hR : ∀ w S, R.R w S → R1.R w S ∧ R2.R w S ∧ ∀ g, R1.F g → ¬ R2.F g) : St.le C ⟨t, h⟩ ⟨t, h.set i (.res R1) ++ [.res R2]⟩ := fun a w ⟨hd, S, ψ, H, hl⟩ => by
  have hB := H.blk i _ hi
  have hil := (List.getElem?_eq_some_iff.1 hi).1
  obtain ⟨r1, r2, hdis⟩ := hR w S hB.2
  have hget : ∀ k b, (h.set i (.res R1) ++ [.res R2])[k]? = some b → (k = i ∧ b = .res R1) ∨ (k = h.length ∧ b = .res R2) ∨ (k ≠ i ∧ k ≠ h.length ∧ h[k]? = some b) := fun k b hb => by
    by_cases hkl : k < h.length
    · rw [List.getElem?_append_left (by simpa using hkl)] at hb
      by_cases hki : k = i
      · subst hki
        rw [List.getElem?_set_self hil] at hb
        cases hb
        exact .inl ⟨rfl, rfl⟩
      · rw [List.getElem?_set_ne (Ne.symm hki)] at hb
        exact .inr (.inr ⟨hki, by omega, hb⟩)
    · rw [List.getElem?_append_right (by simpa using hkl)] at hb
      have : k - (h.set i (ABlk.res R1)).length = 0 := by
        rcases Nat.eq_zero_or_pos (k - (h.set i (ABlk.res R1)).length) with e | e
        · exact e
        · rw [List.getElem?_eq_none (show 1 ≤ _ from e)] at hb; cases hb
      rw [this] at hb
      cases hb
      simp only [List.length_set] at this
      exact .inr (.inl ⟨by omega, rfl⟩)
  have X : Ext w S h ψ w S (h.set i (.res R1) ++ [.res R2]) ψ := by
    refine ⟨fun _ _ => rfl, fun _ h => h, by simp, fun k c' hk hv => ?_, fun k hk hv => ?_⟩
    · rw [List.getElem?_append_left (by simpa using hk)] at hv ⊢
      by_cases hki : k = i
      · subst hki
        rw [List.getElem?_set_self hil] at hv
        simp [ABlk.ver] at hv
      · rw [List.getElem?_set_ne (Ne.symm hki)] at hv ⊢
        exact ⟨c', hv, Nat.le_refl _, fun _ => ⟨rfl, rfl⟩⟩
    · rw [List.getElem?_append_left (by simpa using hk)] at hv
      by_cases hki : k = i
      · subst hki
        rw [List.getElem?_set_self hil] at hv
        simp [ABlk.isBox] at hv
      · rw [List.getElem?_set_ne (Ne.symm hki)] at hv
        exact ⟨hv, rfl⟩
  refine ⟨?_, S, ψ, ⟨H.bel, H.nlt, H.lt, H.sub, H.new, fun k b hb => ?_, fun k q hkq hk hq g g1 g2 => ?_⟩, AV.relL_ext X _ _ hl⟩
  · rw [hd]
    show mkD h = _
    rw [mkD_push, mkD_set hi (by show R1.mrk.map mark = R.mrk.map mark; rw [h0, h1])]
    show _ = R2.mrk.map mark ++ _
    rw [h2]
    rfl
  · rcases hget k b hb with ⟨rfl, rfl⟩ | ⟨rfl, rfl⟩ | ⟨_, _, hb⟩
    · exact ⟨fun g hg => hB.1 g (hF g (.inl hg)), r1⟩
    · exact ⟨fun g hg => hB.1 g (hF g (.inr hg)), r2⟩
    · exact (H.blk k b hb).keep X fun g _ => ⟨rfl, fun h => h⟩
  · have key : ∀ k, ABlk.live (h.set i (.res R1) ++ [.res R2])[k]? = true → ftp (h.set i (.res R1) ++ [.res R2])[k]? (ψ k) g → (k = i ∧ R1.F g) ∨ (k = h.length ∧ R2.F g) ∨ (k ≠ i ∧ k ≠ h.length ∧ ABlk.live h[k]? = true ∧ ftp h[k]? (ψ k) g) := fun k k1 k2 => by
      obtain ⟨b, hb⟩ := live_some k1
      rw [hb] at k1 k2
      rcases hget k b hb with ⟨rfl, rfl⟩ | ⟨rfl, rfl⟩ | ⟨q1, q2, hb'⟩
      · exact .inl ⟨rfl, k2⟩
      · exact .inr (.inl ⟨rfl, k2⟩)
      · exact .inr (.inr ⟨q1, q2, by rw [hb']; exact k1, by rw [hb']; exact k2⟩)
    have no : ∀ k, k ≠ i → ABlk.live h[k]? = true → ftp h[k]? (ψ k) g → (R1.F g ∨ R2.F g) → False := fun k q1 q3 q4 q5 =>
      H.dis k i q1 q3 (by rw [hi]; rfl) g q4 (by rw [hi]; exact hF g q5)
    rcases key k hk g1 with ⟨e1, f1⟩ | ⟨e1, f1⟩ | ⟨a1, a2, a3, a4⟩ <;> rcases key q hq g2 with ⟨e2, f2⟩ | ⟨e2, f2⟩ | ⟨b1, b2, b3, b4⟩
    · exact hkq (e1.trans e2.symm)
    · exact hdis g f1 f2
    · exact no q b1 b3 b4 (.inl f1)
    · exact hdis g f2 f1
    · exact hkq (e1.trans e2.symm)
    · exact no q b1 b3 b4 (.inr f1)
    · exact no k a1 a3 a4 (.inl f2)
    · exact no k a1 a3 a4 (.inr f2)
    · exact H.dis k q hkq a3 b3 g a4 b4
end

section
variable {P : Program} {C : Ctx} {t : List AV} {h : List ABlk} {o : Oper} {K : St → Prop}
/-- append to a row of the call's own whose value is known -/
theorem AOp.appendL {ty : TypeId} {x y : Operand} {i : Nat} {v : Value} {e : TypeId} {bytes : Nat} {α : Type} {T : Ty α} {l l2 : List α} (ho : o.op = .call { callee := .builtin .append, args := #[x, y], argTypes := #[ty, ty] }) (hT : rowTy P ty = some (e, T.size, bytes))
    (hx : evA t x = .lit v) (hi : h[i]? = some (.res (rowR v e T l))) (hy : evA t y = .bs T l2) (h1T : One1 T) (hlen : l.length + l2.length ≤ maxLen) (hbytes : (l.length + l2.length) * bytes ≤ 140737488355328)
    (hK : ∀ v', K ⟨putA t o.dst (.lit v'), h.set i (.res (rowR v' e T (l ++ l2)))⟩) : AOp P C o ⟨t, h⟩ K := by
  refine AOp.turn (ι := Value) (Rs := fun v' => rowR v' e T (l ++ l2)) (val := fun v' => v') hi (fun _ => rfl) (fun S ψ w ρ H hRw hlt hρ => ?_) hK
  have hx' := hρ x (by rw [ho]; exact Array.mem_append.2 (.inr (by simp)))
  have hy' := hρ y (by rw [ho]; exact Array.mem_append.2 (.inr (by simp)))
  rw [hx] at hx'
  rw [hy] at hy'
  unfold AV.rel at hx' hy'
  have hdisS : ∀ k, S k → ¬ (rowR v e T l).F k := fun k hk hf => ((H.blk i _ hi).1 k hf).2.1 hk
  obtain ⟨cells, hown, h0, hR⟩ := hRw
  obtain ⟨h1, ti, z, h2, h3, h4, h5, h6⟩ := rowTy_spec hT
  obtain ⟨A, c, hyv⟩ := slice_form hy'
  rw [hyv] at hy'
  obtain ⟨news, hnl, hsrc, hnR, hn1⟩ := slice_src hy' fun cs d hcs => h1T _ _ _ _ hcs
  obtain ⟨v', w', hrun, hown', hgr, hb'⟩ := run_more (P := P) (ty := o.type) (t := ty) (c := c) h1 h2 h3 h4 h5 h6 h0 hown (hsrc w fun _ _ => rfl) hn1 hlen hbytes (Nat.zero_le _)
  have he : (execOp ρ o).run P w = .ok (.value v') w' := by
    unfold execOp
    simp only [ho, resolve, invoke, builtin, Sem.run_bind, Sem.run_pure, Result.andThen_ok, List.map_toArray, List.map_cons, List.map_nil, hx', hyv, hrun]
  rw [he]
  have hbv : ∀ g, blkOf v' = some g → v'.ownBlock = some g := fun g hg => by
    rcases hown'.2 with ⟨e1, _⟩ | ⟨g', cap, cur, e1, _⟩
    · rw [e1] at hg; simp [blkOf] at hg
    · rw [e1] at hg ⊢; simpa [blkOf, Value.ownBlock] using hg
  have hbψ : v.ownBlock = blkOf v := by
    rcases hown.2 with ⟨e1, _⟩ | ⟨g', cap, cur, e1, _⟩ <;> rw [e1] <;> rfl
  rw [hbψ] at hgr hb'
  have hblk : ∀ k, S k → w'.heap[k]? = w.heap[k]? := fun k hk => hgr.block k (H.lt k hk) fun e => hdisS k hk e.symm
  refine ⟨Gr.of_grownBy hgr, v', rfl, ⟨cells ++ news, by rw [List.length_append]; exact hown', h0, fun j d hj => ?_⟩, fun g hg => ⟨?_, (World.ownsRow.lt hown' g (hbv g hg)).2⟩⟩
  · by_cases hjl : j < l.length
    · rw [List.getElem?_append_left hjl] at hj
      rw [join_left hown.1 hjl]
      exact T.keepS (hR j d hj) hblk fun _ h => h
    · rw [List.getElem?_append_right (by omega)] at hj
      obtain ⟨m, rfl⟩ : ∃ m, j = l.length + m := ⟨j - l.length, by omega⟩
      rw [join_right hown.1]
      exact T.keepS (hnR m d (by simpa using hj)) hblk fun _ h => h
  · have hg' := hbv g hg
    rcases hb' with e1 | e1
    · left; rw [e1] at hg'; exact hg'
    · right
      rw [e1] at hg'
      cases hg'
      exact Nat.le_refl _
/-- a row of the call's own whose value is nil -/
theorem St.le_nilL (e : TypeId) {α : Type} (T : Ty α) (h0 : 0 < T.size) : St.le C ⟨t, h⟩ ⟨t, h ++ [.res (rowR (.slice none 0 0) e T [])]⟩ := fun a w ⟨hd, S, ψ, H, hl⟩ => by
  have X : Ext w S h ψ w S (h ++ [.res (rowR (.slice none 0 0) e T [])]) (ψset ψ h.length undef) := Ext.push _ _ fun _ _ => rfl
  have hB : BRel C.N w S (h ++ [.res (rowR (.slice none 0 0) e T [])]) (ψset ψ h.length undef) undef (.res (rowR (.slice none 0 0) e T [])) :=
    ⟨fun g hg => by have hg : blkOf (.slice none 0 0) = some g := hg; simp [blkOf] at hg, [], World.ownsRow_nil _ _ _ _, h0, fun i d hi => by simp at hi⟩
  exact ⟨by rw [hd]; show mkD h = mkD (h ++ [_]); rw [mkD_push]; rfl, S, _, H.push (Below.refl _ _) hB (fun g hg => by have hg : blkOf (.slice none 0 0) = some g := hg; simp [blkOf] at hg), AV.relL_ext X _ _ hl⟩
end
end Mu
end
section
/-
  Functions that turn memory at known places: a contract from its walk; such a function value is called.
  Conditions: none; generic.
-/
namespace Mu
open Go Go.RowKit Go.Proofs

section
variable {P : Program} {C : Ctx} {o : Oper} {t : List AV} {h : List ABlk} {ι : Type} {Rs : ι → Res} {val : ι → Value}
end
end Mu
end
section
/-
  Functions that turn memory at known places: with ranges over functions, and without a result; steps within weaker states.
  Conditions: none; generic.
-/
namespace Mu
open Go Go.RowKit Go.Proofs

section
variable {P : Program} {f : FuncId} {fn : Go.Func} {c : Code} {args : List AV} {ι : Type} {R : Res} {Rs : ι → Res} {val : ι → Value} {t : Tmp} {n : Nat}
theorem turn_start {w : World} {S : Nat → Prop} {vs : List Value} (hm : R.mrk = []) (hSl : ∀ k, S k → k < w.heap.size ∧ ¬ R.F k) (hF : ∀ g, R.F g → g < w.heap.size) (hR : R.R w S) (hr : AV.relL w S [] ψ0 args vs) :
    St.rel ⟨w, S, fun k => k < w.heap.size ∧ ¬ R.F k, none⟩ ⟨args ++ List.replicate (n - args.length) (.lit undef), [.res R]⟩ { tmps := vs.toArray ++ Array.replicate (n - vs.toArray.size) undef, defers := [] } w := by
  obtain ⟨_, S1, ψ, _, hl⟩ := start_rel (n := n) (fun k hk => (hSl k hk).1) hr
  refine ⟨by show [] = mkD [.res R]; simp [mkD, ABlk.mrk, hm], S, ψ0, ⟨Kp.refl _ _, fun k hk => hk.1, fun k hk => (hSl k hk).1, fun _ h => h, fun _ h => .inl h, fun i b hi => ?_, fun i j hij hi hj => ?_⟩, ?_⟩
  · cases i with
    | zero =>
      simp only [List.getElem?_cons_zero, Option.some.injEq] at hi
      subst hi
      exact ⟨fun g hg => ⟨fun hc => hc.2 hg, fun hs => (hSl g hs).2 hg, hF g hg⟩, hR⟩
    | succ i => simp at hi
  · cases i with
    | zero => cases j with
      | zero => exact absurd rfl hij
      | succ j => simp [ABlk.live] at hj
    | succ i => simp [ABlk.live] at hi
  · simp only [Array.toList_append, Array.toList_replicate, List.size_toArray]
    have X : Ext w S [] ψ0 w S [.res R] ψ0 := ⟨fun _ _ => rfl, fun _ h => h, by simp, fun i c' hi => by simp at hi, fun i hi => by simp at hi⟩
    refine relL_append (AV.relL_ext X _ _ hr) (relL_of (by simp [relL_len hr]) fun i x v hx hv => ?_)
    rw [List.getElem?_replicate] at hx hv
    split at hx <;> cases hx
    split at hv <;> cases hv
    unfold AV.rel
    rfl
theorem turn_end {w : World} {S : Nat → Prop} {p : ι} {h' : List ABlk} {i : Nat} {S1 : Nat → Prop} {ψ : Nat → Value} {w' : World} (hS : ∀ p w S S', (Rs p).R w S → (Rs p).R w S') (H : HRel ⟨w, S, fun k => k < w.heap.size ∧ ¬ R.F k, none⟩ h' S1 ψ w') (hi : h'[i]? = some (.res (Rs p))) : Turns w S R.F Rs val (val p) w' := by
  have hB := H.blk i _ hi
  refine ⟨⟨H.bel.os, H.bel.tape, H.bel.output, H.bel.size, fun k hk hn => H.bel.block k ⟨hk, hn⟩⟩, p, rfl, hS p _ _ _ hB.2, fun k hk => ?_⟩
  obtain ⟨k1, _, k3⟩ := hB.1 k hk
  refine ⟨?_, k3⟩
  by_cases hc : R.F k
  · exact .inl hc
  · exact .inr (Nat.le_of_not_lt fun hlt => k1 ⟨hlt, hc⟩)
/-- without a result -/
def RetsT0 (R : Res) (Rs : ι → Res) : Exit → St → Prop := fun e s => (e = .normal ∨ e = .ret) ∧ ∃ p, mkD s.h = R.mrk.map mark ∧ s.h[0]? = some (.res (Rs p))
theorem FnTurn.of_awp0 (hf : P.funcs[f]? = some fn) (hb : fn.body = some c) (hE : Enters P f = true) (hres : fn.results = #[]) (hn : fn.ntmps = n)
    (hm : R.mrk = []) (hS : ∀ p w S S', (Rs p).R w S → (Rs p).R w S')
    (h : ∀ C : Ctx, Awp P C c (RetsT0 R Rs) ⟨args ++ List.replicate (n - args.length) (.lit undef), [.res R]⟩) : FnTurn P f R args Rs (fun _ => .tuple #[]) := by
  refine ⟨hE, fun w S vs hSl hF hR hr => calls_of_wp hf hb ?_⟩
  rw [hn]
  refine wp_mono ((h ⟨w, S, fun k => k < w.heap.size ∧ ¬ R.F k, none⟩).wp rfl (turn_start hm hSl hF hR hr)) ?_
  rintro x a' w' ⟨s, ⟨hx, p, hmk, hi⟩, hd, S1, ψ, H, hl⟩
  rw [hmk, hm] at hd
  have hfin : ∃ v, Ending.returned (.tuple #[]) = .returned v ∧ Turns w S R.F Rs (fun _ => .tuple #[]) v w' := ⟨_, rfl, turn_end (val := fun _ => .tuple #[]) hS H hi⟩
  rcases hx with rfl | rfl
  · exact ⟨hd, _, results_none hres _ _ _, hfin⟩
  · exact ⟨hd, _, results_none hres _ _ _, hfin⟩
/-- with ranges over functions -/
def RetsTM (t : Tmp) (Rs : ι → Res) (val : ι → Value) : Exit → St → Prop := fun e s => (e = .normal ∨ e = .ret) ∧ ∃ ds j p, s.h[0]? = some (.res (marksR ds)) ∧ mkD s.h = ds.map mark ∧ j ≠ 0 ∧ s.h[j]? = some (.res (Rs p)) ∧ evA s.t (.tmp t) = .lit (val p)
theorem FnTurn.of_awpM (hf : P.funcs[f]? = some fn) (hb : fn.body = some c) (hE : Enters P f = true) (hres : fn.results = #[.tmp t]) (hn : fn.ntmps = n)
    (hm : R.mrk = []) (hS : ∀ p w S S', (Rs p).R w S → (Rs p).R w S')
    (h : ∀ C : Ctx, C.rd = none → Awp P C c (RetsTM t Rs val) ⟨args ++ List.replicate (n - args.length) (.lit undef), [.res (marksR []), .res R]⟩) : FnTurn P f R args Rs val := by
  refine ⟨hE, fun w S vs hSl hF hR hr => (callsIn_wide (n := 4)).1 (callsIn_of_wp_marks hf hb trivial ?_)⟩
  rw [hn]
  have hst : St.rel ⟨w, S, fun k => k < w.heap.size ∧ ¬ R.F k, none⟩ ⟨args ++ List.replicate (n - args.length) (.lit undef), [.res (marksR []), .res R]⟩ { tmps := vs.toArray ++ Array.replicate (n - vs.toArray.size) undef, defers := [] } w := by
    obtain ⟨_, S1, ψ, _, hl⟩ := start_rel (n := n) (fun k hk => (hSl k hk).1) hr
    refine ⟨by show [] = mkD [.res (marksR []), .res R]; simp [mkD, ABlk.mrk, hm, marksR], S, ψ0, ⟨Kp.refl _ _, fun k hk => hk.1, fun k hk => (hSl k hk).1, fun _ h => h, fun _ h => .inl h, fun i b hi => ?_, fun i j hij hi hj => ?_⟩, ?_⟩
    · rcases i with _ | _ | i
      · simp only [List.getElem?_cons_zero, Option.some.injEq] at hi
        subst hi
        exact ⟨fun g hg => (List.not_mem_nil hg).elim, show ([] : List Nat).Nodup ∧ ∀ d ∈ ([] : List Nat), w.heap[d]? = some (.deferred (some [])) from ⟨List.nodup_nil, fun d hd => (List.not_mem_nil hd).elim⟩⟩
      · simp only [List.getElem?_cons_succ, List.getElem?_cons_zero, Option.some.injEq] at hi
        subst hi
        exact ⟨fun g hg => ⟨fun hc => hc.2 hg, fun hs => (hSl g hs).2 hg, hF g hg⟩, hR⟩
      · simp at hi
    · rcases i with _ | _ | i
      · exact fun g h1 => (List.not_mem_nil h1).elim
      · rcases j with _ | _ | j
        · exact fun g _ h2 => (List.not_mem_nil h2).elim
        · exact absurd rfl hij
        · simp [ABlk.live] at hj
      · simp [ABlk.live] at hi
    · simp only [Array.toList_append, Array.toList_replicate, List.size_toArray]
      have X : Ext w S [] ψ0 w S [.res (marksR []), .res R] ψ0 := ⟨fun _ _ => rfl, fun _ h => h, by simp, fun i c' hi => by simp at hi, fun i hi => by simp at hi⟩
      refine relL_append (AV.relL_ext X _ _ hr) (relL_of (by simp [relL_len hr]) fun i x v hx hv => ?_)
      rw [List.getElem?_replicate] at hx hv
      split at hx <;> cases hx
      split at hv <;> cases hv
      unfold AV.rel
      rfl
  have hw := h ⟨w, S, fun k => k < w.heap.size ∧ ¬ R.F k, none⟩ rfl _ w hst
  refine wpIn_mono hw ?_
  rintro e a' w' ⟨s, ⟨he, ds, j, p, h0, hmk, hj0, hj, hx⟩, hd, S1, ψ, H, hl⟩
  have hv := ev_rel hl (.tmp t)
  rw [hmk] at hd
  have key := leaves_h (P := P) (C := ⟨w, S, fun k => k < w.heap.size ∧ ¬ R.F k, none⟩) (fn := fn) (tmps := a'.tmps) (R := fun e w' => ∃ v, e = .returned v ∧ Turns w S R.F Rs val v w') (n := 4) (x := evA s.t (.tmp t)) (v := a'.eval (.tmp t)) (fun W => results_tmp hres _ _ _) ds w' s.h S1 ψ (fun W S2 ψ2 h1 h2 => by
    rw [hx] at h2
    unfold AV.rel at h2
    refine ⟨_, rfl, ?_⟩
    rw [h2]
    exact turn_end (i := j) hS h1 (by rw [List.getElem?_set_ne (Ne.symm hj0)]; exact hj)) h0 H hv
  rcases he with rfl | rfl
  · show LeavesInM Fence.wide 4 P fn a'.tmps _ a'.defers .returning w'
    rw [hd]
    exact key
  · show LeavesInM Fence.wide 4 P fn a'.tmps _ a'.defers .returning w'
    rw [hd]
    exact key
end
end Mu
end
section
/-
  Walks that show M: loops that are gone through round by round, pointers in arrays, variables at places that closures know.
  Conditions: none; generic.
-/
namespace Mu
open Go Go.RowKit Go.Proofs

/-! ### a loop, round by round -/
section
variable {P : Program} {C : Ctx}
/-! ### pointers -/
variable {t : List AV} {h : List ABlk} {o : Oper}
end
section
variable {P : Program} {C : Ctx} {t : List AV} {h : List ABlk} {o : Oper}
end

/-! ### function values that turn memory, where something of the world is presupposed -/
section
variable {G : World → Prop} {P : Program} {f : FuncId} {fn : Go.Func} {c : Code} {args : List AV} {ι : Type} {R : Res} {Rs : ι → Res} {val : ι → Value} {t : Tmp} {n : Nat}
end
section
variable {G : World → Prop} {P : Program} {C : Ctx} {o : Oper} {t : List AV} {h : List ABlk} {ι : Type} {Rs : ι → Res} {val : ι → Value}
end
end Mu
end
section
/-
  Pairs are put into a set; how they are compared: inter's functions on sets of pairs.
  Conditions: as each says.
-/
namespace Mu
open Go Go.RowKit Go.Proofs Go.Maps

def pairs_put (p : Pair → Bool) (a : Int) (b : Int) : M (Pair → Bool) := M.cnd (!(((if b < a then b else a) == (if b > a then b else a)) && (((if b > a then b else a) == (if b < a then b else a)) && true))) (M.chk (okPairB ⟨(if b < a then b else a), (if b > a then b else a)⟩) (M.ok (addP p ⟨(if b < a then b else a), (if b > a then b else a)⟩))) (M.ok p)
set_option maxRecDepth 100000 in
set_option maxHeartbeats 4000000 in
theorem pairs_put_l {p : Pair → Bool} {a : Int} {b : Int} {m : Nat} {r : Pair → Bool} {L : List Pair} (hL : ∀ x, okPair x → p x = true → x ∈ L) (hl : L.length < maxLen) (H : (pairs_put p a b).to r) : FnTurn Tryz.prog 35 (pairR p m) [.lit (.map (some m)), .lit (.int .i64 a), .lit (.int .i64 b)] (fun _ : Unit => pairR r m) (fun _ => .tuple #[]) := by
  delta pairs_put at H
  try dsimp only at H
  refine FnTurn.of_awp0 Tryz.func35 rfl (by kernel_rfl) rfl Tryz.ntmps35 rfl (fun _ _ _ _ h => h) fun C => ?_
  simp only [List.length_cons, List.length_nil, Nat.reduceAdd, Nat.reduceSub, List.replicate_succ, List.replicate_zero, List.cons_append, List.nil_append]
  refine wR (hx := by (refine sA (hq := Quiet.move rfl get1) (ht := set7) (hk := ?_); refine sA (hq := Quiet.move rfl get2) (ht := (setS8 set0)) (hk := ?_); refine sA (hq := Quiet.min2 rfl get7 (getS8 get0)) (ht := (setS8 set1)) (hk := ?_); refine sA (hq := Quiet.move rfl get1) (ht := (setS8 set2)) (hk := ?_); refine sA (hq := Quiet.move rfl get2) (ht := (setS8 set3)) (hk := ?_); refine sA (hq := Quiet.max2 rfl (getS8 get2) (getS8 get3)) (ht := (setS8 set4)) (hk := ?_); refine sA (hq := Quiet.bldP (rs := [.lit (.int .i64 (if b < a then b else a)), .lit (.int .i64 (if b > a then b else a))]) rfl plPair rfl rfl) (ht := (setS8 set5)) (hk := ?_); (refine aSeq_t rfl (AOp.alI 1 rfl rfl ?_); refine sNtM (ht := set6) (hk := ?_)); (refine aSeq_t rfl (AOp.stBox rfl rfl rfl (Parts.aggB rfl) rfl (Nat.le_of_ble_eq_true rfl) ?_); refine sNtM (ht := setN) (hk := ?_)); exact wEnd rfl)) (hk := ?_)
  refine wR (hx := by (refine sA (hq := Quiet.loadA_ptr rfl get6 rfl rfl) (ht := (setS8 set6)) (hk := ?_); refine sA (hq := Quiet.fa_ptr rfl get6 rfl) (ht := (setS8 set7)) (hk := ?_); refine sA (hq := Quiet.load_ptr rfl (getS8 get7) rfl rfl) (ht := (setS8 (setS8 set0))) (hk := ?_); refine sA (hq := Quiet.fa_ptr rfl get6 rfl) (ht := (setS8 (setS8 set1))) (hk := ?_); refine sA (hq := Quiet.load_ptr rfl (getS8 (getS8 get1)) rfl rfl) (ht := (setS8 (setS8 set2))) (hk := ?_); refine sA (hq := Quiet.bldP (rs := [.lit (.int .i64 (if b > a then b else a)), .lit (.int .i64 (if b < a then b else a))]) rfl plPair rfl rfl) (ht := (setS8 (setS8 set3))) (hk := ?_); refine sA (hq := Quiet.neRec (bs := [true, true]) (vs := [(.int .i64 (if b < a then b else a)), (.int .i64 (if b > a then b else a))]) (ws := [(.int .i64 (if b > a then b else a)), (.int .i64 (if b < a then b else a))]) (by kernel_rfl) rfl (getS8 get6) (getS8 (getS8 get3)) rfl) (ht := (setS8 (setS8 set4))) (hk := ?_); exact wEnd rfl)) (hk := ?_)
  refine Awp.cond rfl (fun hb1 => ?_) (fun hb1 => ?_)
  · have H := M.to_t hb1 H
    obtain ⟨c2, H⟩ := M.to_chk.1 H
    refine wRE (hx := by (refine sA (hq := Quiet.move rfl get0) (ht := (setS8 (setS8 set5))) (hk := ?_); refine sA (hq := Quiet.loadA_ptr rfl get6 rfl rfl) (ht := (setS8 (setS8 set6))) (hk := ?_); (refine aSeq_t rfl (AOp.putP (q := ⟨(if b < a then b else a), (if b > a then b else a)⟩) 0 rfl Tryz.underlying62 rfl rfl rfl rfl hL hl (okPairB_ok c2) ?_); refine sNtM (ht := setN) (hk := ?_)); exact wEnd rfl)) (hk := ?_)
    repeat (first | refine abN ?_ | refine asN ?_)
    obtain rfl := M.to_ok.1 H
    exact ⟨.inl rfl, (), rfl, rfl⟩
  · have H := M.to_f hb1 H
    refine Awp.skip ?_
    repeat (first | refine abN ?_ | refine asN ?_)
    obtain rfl := M.to_ok.1 H
    exact ⟨.inl rfl, (), rfl, rfl⟩
end Mu
end
section
/-
  inter.edges and inter.Moves' pairs, walked: which pairs part, as a set that is made.
  Conditions: at most 2^21 of everything.
-/
namespace Mu
open Go Go.RowKit Go.Proofs Go.Maps
instance inMuEdges1 : AG Tryz.prog 62 false 1 := ⟨by kernel_rfl⟩
instance inMuEdges2 : SZ Tryz.prog 62 1 := ⟨by kernel_rfl⟩
instance inMuEdges3 : ZC Tryz.prog 62 [.map none] := ⟨by kernel_rfl⟩

section
variable {C : Ctx} {t : List AV} {h : List ABlk} {o : Oper} {K : St → Prop}
theorem AOp.mkPairs {ty : TypeId} (ho : o.op = .makeMap ty none) (hK : ∀ m, K ⟨putA t o.dst (.lit (.map (some m))), h ++ [.res (pairR (fun _ => false) m)]⟩) : AOp Tryz.prog C o ⟨t, h⟩ K := by
  refine AOp.make_res (ι := Nat) (Rs := pairR fun _ => false) (val := fun m => .map (some m)) (fun _ => rfl) (fun S ψ w ρ H hρ => ?_) hK
  have he : (execOp ρ o).run Tryz.prog w = .ok (.value (.map (some w.heap.size))) (w.alloc (.map #[] 0)) := by simp [execOp, ho, run_makeMap]
  rw [he]
  have hbl := (Below.refl w.heap.size w).alloc (Nat.le_refl _) (.map #[] 0)
  refine ⟨⟨hbl.os, hbl.tape, hbl.output, hbl.size, fun k hk _ => hbl.block k hk⟩, w.heap.size, rfl, ⟨.map [], ownP_exact (World.ownsMap_made w Tryz.prog 60 (plainElem Tryz.prog 3)), fun x _ => by simp [has_eq]⟩, fun k hk => ?_⟩
  have hk : k = w.heap.size := hk
  subst hk
  exact ⟨.inr (Nat.le_refl _), by simp⟩
end
theorem regs18_le {f : Func} (hX : (allX f).length ≤ 2097152) : (regs18L f).length ≤ 2097152 := Nat.le_trans (foldWL_len _).1 hX
theorem regs18_wf {f : Func} (ho : okFunc f) : ∀ r ∈ regs18L f, wf64 r := fun r hr => by
  refine (foldWL_len (allX f)).2 (fun q hq => ?_) r hr
  unfold allX blkX at hq
  obtain ⟨b, hb, hq⟩ := List.mem_flatMap.1 hq
  obtain ⟨x, hx, hq⟩ := List.mem_flatMap.1 hq
  exact regsX_ok ((ho.blocks b hb).ins x hx) q hq
/-- a pair is put -/
theorem put_turn {R : List Int} {S : Pair → Bool} {m : Nat} {a b : Int} (hR : R.length ≤ 2097152) (hin : InP R S) (ha : wf64 a) (hb : wf64 b) :
    FnTurn Tryz.prog 35 (pairR S m) [.lit (.map (some m)), .lit (.int .i64 a), .lit (.int .i64 b)] (fun _ : Unit => pairR (addPL S (pairOf a b)) m) (fun _ => .tuple #[]) := by
  have hL : ∀ x, okPair x → S x = true → x ∈ R.flatMap fun a => R.map fun b => (⟨a, b⟩ : Pair) := fun x _ hx => by
    obtain ⟨h1, h2, _⟩ := hin x hx
    exact List.mem_flatMap.2 ⟨x.a, h1, List.mem_map.2 ⟨x.b, h2, rfl⟩⟩
  have hlen : ∀ l : List Int, (l.flatMap fun a => R.map fun b => (⟨a, b⟩ : Pair)).length = l.length * R.length := fun l => by
    induction l with
    | nil => simp
    | cons a l ih => rw [List.flatMap_cons, List.length_append, ih, List.length_map, List.length_cons, Nat.add_mul, Nat.one_mul, Nat.add_comm]
  have hl : (R.flatMap fun a => R.map fun b => (⟨a, b⟩ : Pair)).length < maxLen := by
    rw [hlen]
    have : R.length * R.length ≤ 2097152 * 2097152 := Nat.mul_le_mul hR hR
    unfold maxLen
    omega
  refine pairs_put_l hL hl ?_
  unfold pairs_put pairOf
  by_cases h : a = b
  · subst h
    rw [if_pos rfl, addPL_nil]
    refine M.f_to ?_ (M.ok_to _)
    simp
  · rw [if_neg h, addPL_one]
    have e1 : (if b < a then b else a) = min a b := by rw [Int.min_def]; split <;> split <;> omega
    have e2 : (if b > a then b else a) = max a b := by rw [Int.max_def]; split <;> split <;> omega
    rw [e1, e2]
    refine M.t_to ?_ (M.chk_to ?_ (M.ok_to _))
    · have : min a b ≠ max a b := by rw [Int.min_def, Int.max_def]; split <;> omega
      simp [this]
    · unfold okPairB
      rw [Bool.and_eq_true]
      constructor
      · show wfB .i64 (min a b) = true
        rw [Int.min_def]; split
        · exact ha
        · exact hb
      · show wfB .i64 (max a b) = true
        rw [Int.max_def]; split
        · exact hb
        · exact ha
set_option maxRecDepth 100000 in
set_option maxHeartbeats 4000000 in
theorem edges_new (f : Func) (ho : okFunc f) (hs : smallF f) (hT : (allReads f).length ≤ 2097152) (hA : (allX f).length ≤ 2097152) (hi1 : ∀ b ∈ f.blocks, b.ins.length + 1 ≤ 2097152) : FnNew Tryz.prog 31 [.agg (encFunc f)] (fun m => pairR (edgesS f) m) (fun m => .map (some m)) := by
  have hbl := hs.blocks
  have hRl : (regs18L f).length ≤ 2097152 := regs18_le hA
  have hLl : (regsL f).length ≤ 2097152 := Nat.le_trans (regsOf_le _) hT
  have hRw : ∀ r ∈ regs18L f, wf64 r := regs18_wf ho
  refine FnNew.of_awpM Tryz.func31 rfl (by kernel_rfl) rfl Tryz.ntmps31 (fun _ _ _ _ h => h) fun C hC hrd => ?_
  simp only [List.length_cons, List.length_nil, Nat.reduceAdd, Nat.reduceSub, List.replicate_succ, List.replicate_zero, List.cons_append, List.nil_append]
  refine Awp.seq fun K1 h1 => ?_
  (refine Awp.region ?_; (repeat (first | refine sQ (hq := Quiet.pickOr rfl rfl rfl rfl) (hk := ?_) | refine sQ (hq := Quiet.pickAnd rfl rfl rfl rfl) (hk := ?_) | refine sQ (hk := ?_) | refine sSkip (hk := ?_) | refine sG (hk := ?_) | refine sOwn (hk := ?_))); refine aSeq_nil ?_)
  refine h1 _ ?_
  refine nT (hk := ?_)
  refine Awp.seq fun K2 h2 => ?_
  (refine Awp.region ?_; (repeat (first | refine sQ (hq := Quiet.pickOr rfl rfl rfl rfl) (hk := ?_) | refine sQ (hq := Quiet.pickAnd rfl rfl rfl rfl) (hk := ?_) | refine sQ (hk := ?_) | refine sSkip (hk := ?_) | refine sG (hk := ?_) | refine sOwn (hk := ?_))))
  refine aSeq_t rfl (AOp.mkPairs rfl fun m => ?_)
  refine sNt (hk := ?_)
  (repeat (first | refine sQ (hq := Quiet.pickOr rfl rfl rfl rfl) (hk := ?_) | refine sQ (hq := Quiet.pickAnd rfl rfl rfl rfl) (hk := ?_) | refine sQ (hk := ?_) | refine sSkip (hk := ?_) | refine sG (hk := ?_) | refine sOwn (hk := ?_)))
  refine aSeq_nil ?_
  refine h2 _ ?_
  refine nT (hk := ?_)
  refine Awp.open_box 1 rfl rfl rfl (fun g => [.any, .lit (.pointer (some ⟨g, 0, none⟩)), .lit (.map none), .ptr 3 0, .any, .any, .any, .any, .any, .any, .any, .any, .any, .any, .any, .any, .any, .any, .any, .any, .any, .any, .any, .any, .any, .any, .any, .any, .any, .any, .any, .any, .any, .any, .any, .any, .any, .any, .any, .any, .any, .any, .any, .any, .any, .any, .any, .any, .any, .any, .any, .any, .any, .any, .any, .any, .any, .any, .any, .any, .any, .any, .any, .any, .any, .any, .any, .any, .any, .any, .any, .any, .any, .any, .any, .any, .any, .any]) (fun g => (by (repeat (first | exact OpnB.nil | refine OpnB.ptr ?_ | refine OpnB.any ?_ | refine OpnB.keep rfl ?_)))) fun g1 => ?_
  refine Awp.open_box 3 rfl rfl rfl (fun g => [.any, .lit (.pointer (some ⟨g1, 0, none⟩)), .any, .lit (.pointer (some ⟨g, 0, none⟩)), .any, .any, .any, .any, .any, .any, .any, .any, .any, .any, .any, .any, .any, .any, .any, .any, .any, .any, .any, .any, .any, .any, .any, .any, .any, .any, .any, .any, .any, .any, .any, .any, .any, .any, .any, .any, .any, .any, .any, .any, .any, .any, .any, .any, .any, .any, .any, .any, .any, .any, .any, .any, .any, .any, .any, .any, .any, .any, .any, .any, .any, .any, .any, .any, .any, .any, .any, .any, .any, .any, .any, .any, .any, .any]) (fun g => (by (repeat (first | exact OpnB.nil | refine OpnB.ptr ?_ | refine OpnB.any ?_ | refine OpnB.keep rfl ?_)))) fun g3 => ?_
  refine Awp.seq fun K3 h3 => ?_
  refine Awp.seq fun K4 h4 => ?_
  (refine Awp.region ?_; (repeat (first | refine sQ (hq := Quiet.pickOr rfl rfl rfl rfl) (hk := ?_) | refine sQ (hq := Quiet.pickAnd rfl rfl rfl rfl) (hk := ?_) | refine sQ (hk := ?_) | refine sSkip (hk := ?_) | refine sG (hk := ?_) | refine sOwn (hk := ?_))))
  (repeat (first | refine sQ (hq := Quiet.pickOr rfl rfl rfl rfl) (hk := ?_) | refine sQ (hq := Quiet.pickAnd rfl rfl rfl rfl) (hk := ?_) | refine sQ (hk := ?_) | refine sSkip (hk := ?_) | refine sG (hk := ?_) | refine sOwn (hk := ?_)))
  refine aSeq_t rfl (AOp.callNew rfl (steps_new f) (fun _ => rfl) rfl rfl fun p => ?_)
  refine sNt (hk := ?_)
  refine aSeq_nil ?_
  refine h4 _ ?_
  refine nT (hk := ?_)
  refine Awp.block ?_
  refine Awp.via ⟨[.any, .lit (.pointer (some ⟨g1, 0, none⟩)), .any, .lit (.pointer (some ⟨g3, 0, none⟩)), .any, .any, .any, .any, .any, .any, .any, .any, .any, .any, .any, .any, .any, .lit (stF p), .any, .any, .any, .any, .any, .any, .any, .any, .any, .any, .any, .any, .any, .any, .any, .any, .any, .any, .any, .any, .any, .any, .any, .any, .any, .any, .any, .any, .any, .any, .any, .any, .any, .any, .any, .any, .any, .any, .any, .any, .any, .any, .any, .any, .any, .any, .any, .any, .any, .any, .any, .any, .any, .any, .any, .any, .any, .any, .any, .any], [.res (marksR []), .res (boxR g1 (encFunc f)), .res (pairR (edgeK f 0) m), .res (boxR g3 [.lit (.map (some m))]), .res (boxR p (encFunc f))]⟩ (le_C (.cons (.cons (.cons (.cons (.cons (Cut.nil _))))))) ?_
  refine Awp.rangeY 4 0 (fun k => [.dead, .res (boxR g1 (encFunc f)), .res (pairR (edgeK f k) m), .res (boxR g3 [.lit (.map (some m))]), .dead]) hrd (by kernel_rfl) (by decide) rfl rfl rfl ?hdrop rfl (fun _ => rfl) (fun _ => rfl) rfl (stE_cl f) (stE_len f) (steps_iter f ho hs hT hi1 p) ?hround ?hdone
  case hdrop =>
    exact ⟨Cut.dead (Cut.cons (Cut.cons (Cut.cons (Cut.dead (Cut.nil _))))), fun b hb => List.all_eq_true.1 (show bdH [.dead, .res (boxR g1 (encFunc f)), .res (pairR (edgeK f 0) m), .res (boxR g3 [.lit (.map (some m))]), .dead] = true from rfl) b hb⟩
  case hround =>
    intro k hk C' hr'
    obtain ⟨q, hq⟩ : ∃ q, (stepsL f)[k]? = some q := ⟨_, List.getElem?_eq_getElem hk⟩
    have hqm := List.mem_of_getElem? hq
    obtain ⟨⟨bl, hbm, hxb⟩, hqr⟩ := steps_ins hqm
    have hql := (stepsL_mem hqm).2.2
    have hox := (ho.blocks bl hbm).ins q.1 hxb
    have hcs := edgeK_succ hq
    have hin := edgeK_in f k
    dsimp only
    rw [stE_eq hq]
    generalize hS0 : edgeK f k = S0 at hcs hin ⊢
    refine Awp.nt2 (t' := [.any, .lit (.pointer (some ⟨g1, 0, none⟩)), .any, .lit (.pointer (some ⟨g3, 0, none⟩)), .any, .any, .any, .any, .any, .any, .any, .any, .any, .any, .any, .any, .any, .lit (stF p), .agg (encIns q.1), .bs tInt q.2, .any, .any, .any, .any, .any, .any, .any, .any, .any, .any, .any, .any, .any, .any, .any, .any, .any, .any, .any, .any, .any, .any, .any, .any, .any, .any, .any, .any, .any, .any, .any, .any, .any, .any, .any, .any, .any, .any, .any, .any, .any, .any, .any, .any, .any, .any, .any, .any, .any, .any, .any, .any, .any, .any, .any, .any, .any, .any]) rfl rfl ?_
    refine Awp.seq fun K6 h6 => ?_
    (refine Awp.region ?_; (repeat (first | refine sQ (hq := Quiet.pickOr rfl rfl rfl rfl) (hk := ?_) | refine sQ (hq := Quiet.pickAnd rfl rfl rfl rfl) (hk := ?_) | refine sQ (hk := ?_) | refine sSkip (hk := ?_) | refine sG (hk := ?_) | refine sOwn (hk := ?_))); refine aSeq_nil ?_)
    refine h6 _ ?_
    refine nT (hk := ?_)
    (refine Awp.region ?_; (repeat (first | refine sQ (hq := Quiet.pickOr rfl rfl rfl rfl) (hk := ?_) | refine sQ (hq := Quiet.pickAnd rfl rfl rfl rfl) (hk := ?_) | refine sQ (hk := ?_) | refine sSkip (hk := ?_) | refine sG (hk := ?_) | refine sOwn (hk := ?_))); refine aSeq_nil ?_)
    refine athen_n fun C'' hr'' => ?_
    refine nT (hk := ?_)
    refine Awp.block ?_
    refine Awp.seq fun K8 h8 => ?_
    (refine Awp.region ?_; (repeat (first | refine sQ (hq := Quiet.call rfl (shape_writes_fn q.1 hox) rfl rfl rfl) (hk := ?_) | refine sQ (hq := Quiet.pickOr rfl rfl rfl rfl) (hk := ?_) | refine sQ (hq := Quiet.pickAnd rfl rfl rfl rfl) (hk := ?_) | refine sQ (hk := ?_) | refine sSkip (hk := ?_) | refine sG (hg := by first | rfl | exact gA_c rfl rfl) (hq := by (intro hg; (try simp only [Bool.and_eq_true, beq_iff_eq] at hg); (try simp only [hg, cond_true, Bool.true_and, beq_self_eq_true]); exact Quiet.call rfl (shape_writes_fn q.1 hox) rfl rfl rfl)) (hk := ?_) | refine sG (hk := ?_) | refine sOwn (hk := ?_))); refine aSeq_nil ?_)
    refine h8 _ ?_
    refine nT (hk := ?_)
    refine Awp.seq fun K9 h9 => ?_
    (refine Awp.region ?_; (repeat (first | refine sQ (hq := Quiet.pickOr rfl rfl rfl rfl) (hk := ?_) | refine sQ (hq := Quiet.pickAnd rfl rfl rfl rfl) (hk := ?_) | refine sQ (hk := ?_) | refine sSkip (hk := ?_) | refine sG (hk := ?_) | refine sOwn (hk := ?_))); refine aSeq_nil ?_)
    refine h9 _ ?_
    refine nT (hk := ?_)
    refine Awp.block ?_
    have hqi := fun i => edgeI_in hin hqm i
    refine Awp.loopF (fun i : Nat => ⟨[.any, .lit (.pointer (some ⟨g1, 0, none⟩)), .any, .lit (.pointer (some ⟨g3, 0, none⟩)), .ptr 5 0, .any, .lit (.int .i64 (if writesB q.1 then q.1.d else 0)), .lit (.bool (writesB q.1)), .any, .any, .any, .any, .any, .any, .any, .any, .any, .any, .any, .any, .any, .any, .any, .any, .any, .bs tInt q.2, .lit (.int .i64 (q.2.length : Int)), .lit (.int .i64 (i : Int)), .any, .any, .any, .any, .any, .any, .any, .any, .any, .any, .any, .any, .any, .any, .any, .any, .any, .any, .any, .any, .any, .any, .any, .any, .any, .any, .any, .any, .any, .any, .any, .any, .any, .any, .any, .any, .any, .any, .any, .any, .any, .any, .any, .any, .any, .any, .any, .any, .any, .any], [.dead, .res (boxR g1 (encFunc f)), .res (pairR (edgeI S0 q i) m), .res (boxR g3 [.lit (.map (some m))]), .dead, .box (encIns q.1)]⟩) (fun i => i ≤ q.2.length) (fun i => q.2.length - i) 0 (Nat.zero_le _) (by rw [edgeI_zero]; exact le_T) ?_
    intro i hi
    dsimp only at hi ⊢
    refine Awp.seq fun K13 h13 => ?_
    (refine Awp.region ?_; (repeat (first | refine sQ (hq := Quiet.pickOr rfl rfl rfl rfl) (hk := ?_) | refine sQ (hq := Quiet.pickAnd rfl rfl rfl rfl) (hk := ?_) | refine sQ (hk := ?_) | refine sSkip (hk := ?_) | refine sG (hk := ?_) | refine sOwn (hk := ?_))); refine aSeq_nil ?_)
    refine h13 _ ?_
    refine nT (hk := ?_)
    refine Awp.seq fun K14 h14 => ?_
    refine Awp.cond rfl (fun hb15 => ?_) (fun hb15 => ?_)
    · have hlt : i < q.2.length := by simpa using hb15
      obtain ⟨r, hr⟩ : ∃ r, q.2[i]? = some r := ⟨_, List.getElem?_eq_getElem hlt⟩
      have hrw := hRw r (hqr r (List.mem_of_getElem? hr))
      refine Awp.skip ?_
      refine h14 _ ?_
      refine nT (hk := ?_)
      refine Awp.seq fun K16 h16 => ?_
      refine Awp.block ?_
      refine Awp.seq fun K17 h17 => ?_
      (refine Awp.region ?_; (repeat (first | refine sQ (hq := Quiet.pickOr rfl rfl rfl rfl) (hk := ?_) | refine sQ (hq := Quiet.pickAnd rfl rfl rfl rfl) (hk := ?_) | refine sQ (hk := ?_) | refine sSkip (hk := ?_) | refine sG (hk := ?_) | refine sOwn (hk := ?_))); refine aSeq_nil ?_)
      refine h17 _ ?_
      refine nT (hk := ?_)
      refine Awp.seq fun K18 h18 => ?_
      (refine Awp.region ?_; (repeat (first | refine sQ (hq := Quiet.pickOr rfl rfl rfl rfl) (hk := ?_) | refine sQ (hq := Quiet.pickAnd rfl rfl rfl rfl) (hk := ?_) | refine sQ (hk := ?_) | refine sSkip (hk := ?_) | refine sG (hk := ?_) | refine sOwn (hk := ?_))); refine aSeq_nil ?_)
      refine h18 _ ?_
      refine nT (hk := ?_)
      refine Awp.cond rfl (fun hb19 => ?_) (fun hb19 => ?_)
      · have hbe : edgeR q r = true := hb19
        have hw : writesB q.1 = true := by unfold edgeR at hbe; rw [Bool.and_eq_true] at hbe; exact hbe.1
        have hd : (if writesB q.1 then q.1.d else 0) = q.1.d := if_pos hw
        have e2 : edgeI S0 q (i + 1) = addPL (edgeI S0 q i) (pairOf (if writesB q.1 then q.1.d else 0) r) := by rw [hd]; exact edgeI_yes hr hbe
        have hdw : wf64 (if writesB q.1 then q.1.d else 0) := by rw [hd]; exact hRw _ (regs18_d hqm hw)
        (refine Awp.region ?_; (repeat (first | refine sQ (hq := Quiet.pickOr rfl rfl rfl rfl) (hk := ?_) | refine sQ (hq := Quiet.pickAnd rfl rfl rfl rfl) (hk := ?_) | refine sQ (hk := ?_) | refine sSkip (hk := ?_) | refine sG (hk := ?_) | refine sOwn (hk := ?_))))
        (repeat (first | refine sQ (hq := Quiet.pickOr rfl rfl rfl rfl) (hk := ?_) | refine sQ (hq := Quiet.pickAnd rfl rfl rfl rfl) (hk := ?_) | refine sQ (hk := ?_) | refine sSkip (hk := ?_) | refine sG (hk := ?_) | refine sOwn (hk := ?_)))
        refine aSeq_t rfl (AOp.callTurn (i := 2) rfl rfl (put_turn hRl (hqi i) hdw hrw) (fun _ => rfl) rfl rfl fun _ => ?_)
        refine sNt (hk := ?_)
        refine aSeq_nil ?_
        refine h16 _ ?_
        refine nT (hk := ?_)
        (refine Awp.region ?_; (repeat (first | refine sQ (hq := Quiet.pickOr rfl rfl rfl rfl) (hk := ?_) | refine sQ (hq := Quiet.pickAnd rfl rfl rfl rfl) (hk := ?_) | refine sQ (hk := ?_) | refine sSkip (hk := ?_) | refine sG (hk := ?_) | refine sOwn (hk := ?_))); refine aSeq_nil ?_)
        refine athen_n ⟨i + 1, by omega, by omega, ?_⟩
        rw [e2]
        exact le_T
      · have e2 : edgeI S0 q (i + 1) = edgeI S0 q i := edgeI_no hr hb19
        refine Awp.skip ?_
        refine h16 _ ?_
        refine nT (hk := ?_)
        (refine Awp.region ?_; (repeat (first | refine sQ (hq := Quiet.pickOr rfl rfl rfl rfl) (hk := ?_) | refine sQ (hq := Quiet.pickAnd rfl rfl rfl rfl) (hk := ?_) | refine sQ (hk := ?_) | refine sSkip (hk := ?_) | refine sG (hk := ?_) | refine sOwn (hk := ?_))); refine aSeq_nil ?_)
        refine athen_n ⟨i + 1, by omega, by omega, ?_⟩
        rw [e2]
        exact le_T
    · have hie : i = q.2.length := by have : ¬ i < q.2.length := by simpa using hb15
                                      omega
      subst hie
      have e3 : edgeI S0 q q.2.length = edgeK f (k + 1) := by rw [hcs, edgeI_all]
      rw [e3]
      refine Awp.exit ?_
      exact ⟨rfl, ⟨.cons (.cons (.cons (.cons (.cons (Cut.nil _))))), fun b hb => List.all_eq_true.1 (show bdH [.dead, .res (boxR g1 (encFunc f)), .res (pairR (edgeK f (k + 1)) m), .res (boxR g3 [.lit (.map (some m))]), .dead] = true from rfl) b hb⟩⟩
  case hdone =>
    intro D
    refine h3 _ ?_
    refine Awp.nt2 (t' := [.any, .lit (.pointer (some ⟨g1, 0, none⟩)), .any, .lit (.pointer (some ⟨g3, 0, none⟩)), .any, .any, .any, .any, .any, .any, .any, .any, .any, .any, .any, .any, .any, .lit (stF p), .any, .any, .any, .any, .any, .any, .any, .any, .any, .any, .any, .any, .any, .any, .any, .any, .any, .any, .any, .any, .any, .any, .any, .any, .any, .any, .any, .any, .any, .any, .any, .any, .any, .any, .any, .any, .any, .any, .any, .any, .any, .any, .any, .any, .any, .any, .any, .any, .any, .any, .any, .any, .any, .any, .any, .any, .any, .any, .any, .any]) (h' := [.res (marksR [D]), .res (boxR g1 (encFunc f)), .res (pairR (edgeK f (stepsL f).length) m), .res (boxR g3 [.lit (.map (some m))]), .dead]) rfl rfl ?_
    have hin := edgeK_in f (stepsL f).length
    have hes : edgesS f = addPL (edgeK f (stepsL f).length) (edgeF (firstL f)) := rfl
    generalize hS1 : edgeK f (stepsL f).length = S1 at hin hes ⊢
    refine Awp.seq fun K20 h20 => ?_
    refine Awp.seq fun K21 h21 => ?_
    (refine Awp.region ?_; (repeat (first | refine sQ (hq := Quiet.pickOr rfl rfl rfl rfl) (hk := ?_) | refine sQ (hq := Quiet.pickAnd rfl rfl rfl rfl) (hk := ?_) | refine sQ (hk := ?_) | refine sSkip (hk := ?_) | refine sG (hk := ?_) | refine sOwn (hk := ?_))); refine aSeq_nil ?_)
    refine h21 _ ?_
    refine nT (hk := ?_)
    refine Awp.cond rfl (fun hb22 => ?_) (fun hb22 => ?_)
    · have hne : 0 < f.blocks.length := by simpa using hb22
      have hat : (atF f 0)[0]? = some (firstL f) := by
        unfold atF firstL
        rw [if_pos ⟨by decide, by omega⟩, if_neg (by omega), show (0 : Int).toNat = 0 from rfl, blockL_first]
        rfl
      have hlin := firstL_in f
      have hfl : (firstL f).length ≤ 2097152 := by
        unfold firstL
        rw [if_neg (by omega), blockL_first]
        exact Nat.le_trans (List.length_filter_le _ _) hLl
      generalize hl0 : firstL f = l at hat hes hlin hfl
      refine Awp.seq fun K23 h23 => ?_
      (refine Awp.region ?_; (repeat (first | refine sQ (hq := Quiet.call rfl (at_fn f 0 ho hs hT) rfl rfl rfl) (hk := ?_) | refine sQ (hq := Quiet.pickOr rfl rfl rfl rfl) (hk := ?_) | refine sQ (hq := Quiet.pickAnd rfl rfl rfl rfl) (hk := ?_) | refine sQ (hk := ?_) | refine sSkip (hk := ?_) | refine sG (hg := by first | rfl | exact gA_c rfl rfl) (hq := by (intro hg; (try simp only [Bool.and_eq_true, beq_iff_eq] at hg); (try simp only [hg, cond_true, Bool.true_and, beq_self_eq_true]); exact Quiet.call rfl (at_fn f 0 ho hs hT) rfl rfl rfl)) (hk := ?_) | refine sG (hk := ?_) | refine sOwn (hk := ?_))); refine aSeq_nil ?_)
      refine h23 _ ?_
      refine nT (hk := ?_)
      refine Awp.seq fun K24 h24 => ?_
      (refine Awp.region ?_; (repeat (first | refine sQ (hq := Quiet.pickOr rfl rfl rfl rfl) (hk := ?_) | refine sQ (hq := Quiet.pickAnd rfl rfl rfl rfl) (hk := ?_) | refine sQ (hk := ?_) | refine sSkip (hk := ?_) | refine sG (hk := ?_) | refine sOwn (hk := ?_))); refine aSeq_nil ?_)
      refine h24 _ ?_
      refine nT (hk := ?_)
      refine Awp.block ?_
      refine Awp.loopF (fun i : Nat => ⟨[.any, .any, .any, .lit (.pointer (some ⟨g3, 0, none⟩)), .any, .any, .any, .any, .any, .any, .bs tInt l, .any, .any, .any, .any, .any, .any, .any, .any, .any, .any, .any, .any, .any, .any, .any, .any, .any, .any, .any, .any, .any, .any, .any, .any, .any, .any, .any, .any, .any, .any, .any, .any, .any, .any, .any, .any, .any, .any, .any, .any, .any, .any, .any, .any, .any, .bs tInt l, .lit (.int .i64 (l.length : Int)), .lit (.int .i64 (i : Int)), .any, .any, .any, .any, .any, .any, .any, .any, .any, .any, .any, .any, .any, .any, .any, .any, .any, .any, .any], [.res (marksR [D]), .res (boxR g1 (encFunc f)), .res (pairR (edgeG S1 l i 0) m), .res (boxR g3 [.lit (.map (some m))]), .dead]⟩) (fun i => i ≤ l.length) (fun i => l.length - i) 0 (Nat.zero_le _) (by rw [edgeG_zero]; exact le_T) ?_
      intro i hi
      dsimp only at hi ⊢
      refine Awp.seq fun K26 h26 => ?_
      (refine Awp.region ?_; (repeat (first | refine sQ (hq := Quiet.pickOr rfl rfl rfl rfl) (hk := ?_) | refine sQ (hq := Quiet.pickAnd rfl rfl rfl rfl) (hk := ?_) | refine sQ (hk := ?_) | refine sSkip (hk := ?_) | refine sG (hk := ?_) | refine sOwn (hk := ?_))); refine aSeq_nil ?_)
      refine h26 _ ?_
      refine nT (hk := ?_)
      refine Awp.seq fun K27 h27 => ?_
      refine Awp.cond rfl (fun hb28 => ?_) (fun hb28 => ?_)
      · have hlt : i < l.length := by simpa using hb28
        obtain ⟨a, ha⟩ : ∃ a, l[i]? = some a := ⟨_, List.getElem?_eq_getElem hlt⟩
        have haw := hRw a (hlin a (List.mem_of_getElem? ha))
        have htk : (l.take i).length = i := by rw [List.length_take]; omega
        refine Awp.skip ?_
        refine h27 _ ?_
        refine nT (hk := ?_)
        refine Awp.seq fun K29 h29 => ?_
        refine Awp.block ?_
        refine Awp.seq fun K30 h30 => ?_
        (refine Awp.region ?_; (repeat (first | refine sQ (hq := Quiet.pickOr rfl rfl rfl rfl) (hk := ?_) | refine sQ (hq := Quiet.pickAnd rfl rfl rfl rfl) (hk := ?_) | refine sQ (hk := ?_) | refine sSkip (hk := ?_) | refine sG (hk := ?_) | refine sOwn (hk := ?_))); refine aSeq_nil ?_)
        refine h30 _ ?_
        refine nT (hk := ?_)
        refine Awp.seq fun K31 h31 => ?_
        (refine Awp.region ?_; (repeat (first | refine sQ (hq := Quiet.slc (l := 0) (m := i) rfl rfl rfl rfl ⟨_, rfl⟩ (Nat.zero_le _) (by omega)) (hk := ?_) | refine sQ (hq := Quiet.pickOr rfl rfl rfl rfl) (hk := ?_) | refine sQ (hq := Quiet.pickAnd rfl rfl rfl rfl) (hk := ?_) | refine sQ (hk := ?_) | refine sSkip (hk := ?_) | refine sG (hg := by first | rfl | exact gA_c rfl rfl) (hq := by (intro hg; (try simp only [Bool.and_eq_true, beq_iff_eq] at hg); (try simp only [hg, cond_true, Bool.true_and, beq_self_eq_true]); exact Quiet.slc (l := 0) (m := i) rfl rfl rfl rfl ⟨_, rfl⟩ (Nat.zero_le _) (by omega))) (hk := ?_) | refine sG (hk := ?_) | refine sOwn (hk := ?_))); refine aSeq_nil ?_)
        refine h31 _ ?_
        refine nT (hk := ?_)
        refine Awp.block ?_
        refine Awp.loopF (fun k : Nat => ⟨[.any, .any, .any, .lit (.pointer (some ⟨g3, 0, none⟩)), .any, .any, .any, .any, .any, .any, .bs tInt l, .any, .lit (.int .i64 a), .any, .any, .any, .any, .any, .any, .any, .any, .any, .any, .any, .any, .any, .any, .any, .any, .any, .any, .any, .any, .any, .any, .any, .any, .any, .any, .any, .any, .any, .any, .any, .any, .any, .any, .any, .any, .any, .any, .any, .any, .any, .any, .any, .bs tInt l, .lit (.int .i64 (l.length : Int)), .lit (.int .i64 (i : Int)), .any, .any, .any, .any, .any, .any, .bs tInt (l.take i), .lit (.int .i64 ((l.take i).length : Int)), .lit (.int .i64 (k : Int)), .any, .any, .any, .any, .any, .any, .any, .any, .any, .any], [.res (marksR [D]), .res (boxR g1 (encFunc f)), .res (pairR (edgeG S1 l i k) m), .res (boxR g3 [.lit (.map (some m))]), .dead]⟩) (fun k => k ≤ i) (fun k => i - k) 0 (Nat.zero_le _) (le_T) ?_
        intro k hk
        dsimp only at hk ⊢
        refine Awp.seq fun K33 h33 => ?_
        (refine Awp.region ?_; (repeat (first | refine sQ (hq := Quiet.pickOr rfl rfl rfl rfl) (hk := ?_) | refine sQ (hq := Quiet.pickAnd rfl rfl rfl rfl) (hk := ?_) | refine sQ (hk := ?_) | refine sSkip (hk := ?_) | refine sG (hk := ?_) | refine sOwn (hk := ?_))); refine aSeq_nil ?_)
        refine h33 _ ?_
        refine nT (hk := ?_)
        refine Awp.seq fun K34 h34 => ?_
        refine Awp.cond rfl (fun hb35 => ?_) (fun hb35 => ?_)
        · have hlk : k < i := by have : (k : Int) < ((l.take i).length : Int) := of_decide_eq_true hb35
                                 omega
          obtain ⟨b, hbk⟩ : ∃ b, l[k]? = some b := ⟨_, List.getElem?_eq_getElem (by omega)⟩
          have hbt : (l.take i)[k]? = some b := by rw [List.getElem?_take, if_pos hlk]; exact hbk
          have hbw := hRw b (hlin b (List.mem_of_getElem? hbk))
          have e2 := edgeG_succ (S := S1) ha hbk
          refine Awp.skip ?_
          refine h34 _ ?_
          refine nT (hk := ?_)
          refine Awp.seq fun K36 h36 => ?_
          refine Awp.block ?_
          refine Awp.seq fun K37 h37 => ?_
          (refine Awp.region ?_; (repeat (first | refine sQ (hq := Quiet.pickOr rfl rfl rfl rfl) (hk := ?_) | refine sQ (hq := Quiet.pickAnd rfl rfl rfl rfl) (hk := ?_) | refine sQ (hk := ?_) | refine sSkip (hk := ?_) | refine sG (hk := ?_) | refine sOwn (hk := ?_))); refine aSeq_nil ?_)
          refine h37 _ ?_
          refine nT (hk := ?_)
          (refine Awp.region ?_; (repeat (first | refine sQ (hq := Quiet.pickOr rfl rfl rfl rfl) (hk := ?_) | refine sQ (hq := Quiet.pickAnd rfl rfl rfl rfl) (hk := ?_) | refine sQ (hk := ?_) | refine sSkip (hk := ?_) | refine sG (hk := ?_) | refine sOwn (hk := ?_))))
          (repeat (first | refine sQ (hq := Quiet.pickOr rfl rfl rfl rfl) (hk := ?_) | refine sQ (hq := Quiet.pickAnd rfl rfl rfl rfl) (hk := ?_) | refine sQ (hk := ?_) | refine sSkip (hk := ?_) | refine sG (hk := ?_) | refine sOwn (hk := ?_)))
          refine aSeq_t rfl (AOp.callTurn (i := 2) rfl rfl (put_turn hRl (edgeG_in hin hlin hi (.inr hlt)) haw hbw) (fun _ => rfl) rfl rfl fun _ => ?_)
          refine sNt (hk := ?_)
          refine aSeq_nil ?_
          refine h36 _ ?_
          refine nT (hk := ?_)
          (refine Awp.region ?_; (repeat (first | refine sQ (hq := Quiet.pickOr rfl rfl rfl rfl) (hk := ?_) | refine sQ (hq := Quiet.pickAnd rfl rfl rfl rfl) (hk := ?_) | refine sQ (hk := ?_) | refine sSkip (hk := ?_) | refine sG (hk := ?_) | refine sOwn (hk := ?_))); refine aSeq_nil ?_)
          refine athen_n ⟨k + 1, by omega, by omega, ?_⟩
          rw [e2]
          exact le_T
        · have hke : k = i := by have : ¬ (k : Int) < ((l.take i).length : Int) := of_decide_eq_false hb35
                                 omega
          subst hke
          rw [edgeG_next]
          refine Awp.exit (athen_e (athen_e (exN (abN (athen_n (h29 _ ?_))))))
          refine nT (hk := ?_)
          (refine Awp.region ?_; (repeat (first | refine sQ (hq := Quiet.pickOr rfl rfl rfl rfl) (hk := ?_) | refine sQ (hq := Quiet.pickAnd rfl rfl rfl rfl) (hk := ?_) | refine sQ (hk := ?_) | refine sSkip (hk := ?_) | refine sG (hk := ?_) | refine sOwn (hk := ?_))); refine aSeq_nil ?_)
          refine athen_n ⟨k + 1, by omega, by omega, ?_⟩
          exact le_T
      · have hie : i = l.length := by have : ¬ i < l.length := by simpa using hb28
                                      omega
        subst hie
        rw [edgeG_all, ← hes]
        refine Awp.exit (athen_e (athen_e (exN (athen_n (h20 _ ?_)))))
        refine nT (hk := ?_)
        refine Awp.seq fun K41 h41 => ?_
        (refine Awp.region ?_; (repeat (first | refine sQ (hq := Quiet.pickOr rfl rfl rfl rfl) (hk := ?_) | refine sQ (hq := Quiet.pickAnd rfl rfl rfl rfl) (hk := ?_) | refine sQ (hk := ?_) | refine sSkip (hk := ?_) | refine sG (hk := ?_) | refine sOwn (hk := ?_))); refine aSeq_nil ?_)
        refine h41 _ ?_
        refine nT (hk := ?_)
        exact Awp.ret ⟨.inr rfl, [D], 2, m, rfl, rfl, by decide, rfl, rfl⟩
    · have hne : f.blocks.length = 0 := by have : ¬ 0 < f.blocks.length := by simpa using hb22
                                           omega
      have hfl : firstL f = [] := by unfold firstL; rw [if_pos hne]
      have he0 : edgesS f = S1 := by rw [hes, hfl]; exact addPL_nil _
      rw [← he0]
      refine Awp.skip ?_
      refine h20 _ ?_
      refine nT (hk := ?_)
      refine Awp.seq fun K41 h41 => ?_
      (refine Awp.region ?_; (repeat (first | refine sQ (hq := Quiet.pickOr rfl rfl rfl rfl) (hk := ?_) | refine sQ (hq := Quiet.pickAnd rfl rfl rfl rfl) (hk := ?_) | refine sQ (hk := ?_) | refine sSkip (hk := ?_) | refine sG (hk := ?_) | refine sOwn (hk := ?_))); refine aSeq_nil ?_)
      refine h41 _ ?_
      refine nT (hk := ?_)
      exact Awp.ret ⟨.inr rfl, [D], 2, m, rfl, rfl, by decide, rfl, rfl⟩
end Mu
end
section
/-
  The shelf's contracts at this dump, in plain words: slices.SortFunc at pairs, cmp.Compare.
-/
namespace Go.Proofs
open Go.Shelf
def Tryz.sortP_ren : Go.Shelf.Ren := ⟨fun | 6 => 114 | 15 => 75 | 14 => 156 | 28 => 127 | 29 => 128 | 20 => 171 | 21 => 172 | 22 => 173 | 23 => 174 | 24 => 175 | 25 => 176 | 26 => 177 | 27 => 178 | 46 => 202 | 47 => 158 | 48 => 159 | 49 => 203 | 50 => 204 | 57 => 206 | n => n, fun | 22 => 28 | 24 => 60 | 25 => 130 | 3 => 3 | 39 => 135 | 0 => 0 | 53 => 53 | 55 => 184 | 4 => 4 | 46 => 176 | 45 => 175 | 50 => 121 | 5 => 5 | 9 => 9 | 66 => 212 | 70 => 216 | 76 => 235 | 77 => 236 | n => n, fun | n => n⟩
theorem Tryz.sortP : Go.Proofs.SlLaysF0.n6 Tryz.prog Tryz.sortP_ren := {
  mixed := by kernel_rfl
  f6 := ⟨Tryz.f114.name, by decide, Tryz.func114.trans (congrArg some (by kernel_rfl))⟩
  f14 := ⟨Tryz.f156.name, by decide, Tryz.func156.trans (congrArg some (by kernel_rfl))⟩
  f15 := Tryz.func75.trans (congrArg some (by kernel_rfl))
  f20 := ⟨Tryz.f171.name, by decide, Tryz.func171.trans (congrArg some (by kernel_rfl))⟩
  f21 := ⟨Tryz.f172.name, by decide, Tryz.func172.trans (congrArg some (by kernel_rfl))⟩
  f22 := ⟨Tryz.f173.name, by decide, Tryz.func173.trans (congrArg some (by kernel_rfl))⟩
  f23 := ⟨Tryz.f174.name, by decide, Tryz.func174.trans (congrArg some (by kernel_rfl))⟩
  f24 := ⟨Tryz.f175.name, by decide, Tryz.func175.trans (congrArg some (by kernel_rfl))⟩
  f25 := ⟨Tryz.f176.name, by decide, Tryz.func176.trans (congrArg some (by kernel_rfl))⟩
  f26 := ⟨Tryz.f177.name, by decide, Tryz.func177.trans (congrArg some (by kernel_rfl))⟩
  f27 := ⟨Tryz.f178.name, by decide, Tryz.func178.trans (congrArg some (by kernel_rfl))⟩
  f28 := Tryz.func127.trans (congrArg some (by kernel_rfl))
  f29 := Tryz.func128.trans (congrArg some (by kernel_rfl))
  f46 := ⟨Tryz.f202.name, by decide, Tryz.func202.trans (congrArg some (by kernel_rfl))⟩
  f47 := Tryz.func158.trans (congrArg some (by kernel_rfl))
  f48 := Tryz.func159.trans (congrArg some (by kernel_rfl))
  f49 := ⟨Tryz.f203.name, by decide, Tryz.func203.trans (congrArg some (by kernel_rfl))⟩
  f50 := ⟨Tryz.f204.name, by decide, Tryz.func204.trans (congrArg some (by kernel_rfl))⟩
  f57 := ⟨Tryz.f206.name, by decide, Tryz.func206.trans (congrArg some (by kernel_rfl))⟩
  t0 := Tryz.underlying0
  a0 := Tryz.isAgg0
  z0 := Tryz.sizeOf0
  v0 := Tryz.zeroValue0
  t3 := Tryz.underlying3
  a3 := Tryz.isAgg3
  z3 := Tryz.sizeOf3
  v3 := Tryz.zeroValue3
  t4 := Tryz.underlying4
  a4 := Tryz.isAgg4
  z4 := Tryz.sizeOf4
  v4 := Tryz.zeroValue4
  t5 := Tryz.underlying5
  a5 := Tryz.isAgg5
  z5 := Tryz.sizeOf5
  v5 := Tryz.zeroValue5
  t9 := Tryz.underlying9
  a9 := Tryz.isAgg9
  z9 := Tryz.sizeOf9
  v9 := Tryz.zeroValue9
  t22 := Tryz.underlying28
  a22 := Tryz.isAgg28
  z22 := Tryz.sizeOf28
  v22 := Tryz.zeroValue28
  t25 := Tryz.underlying130
  a25 := Tryz.isAgg130
  z25 := Tryz.sizeOf130
  v25 := Tryz.zeroValue130
  t39 := Tryz.underlying135
  a39 := Tryz.isAgg135
  z39 := Tryz.sizeOf135
  v39 := Tryz.zeroValue135
  t45 := Tryz.underlying175
  a45 := Tryz.isAgg175
  z45 := Tryz.sizeOf175
  v45 := Tryz.zeroValue175
  t46 := Tryz.underlying176
  a46 := Tryz.isAgg176
  z46 := Tryz.sizeOf176
  v46 := Tryz.zeroValue176
  t50 := Tryz.underlying121
  a50 := Tryz.isAgg121
  z50 := Tryz.sizeOf121
  v50 := Tryz.zeroValue121
  t53 := Tryz.underlying53
  a53 := Tryz.isAgg53
  z53 := Tryz.sizeOf53
  v53 := Tryz.zeroValue53
  t55 := Tryz.underlying184
  a55 := Tryz.isAgg184
  z55 := Tryz.sizeOf184
  v55 := Tryz.zeroValue184
  t66 := Tryz.underlying212
  a66 := Tryz.isAgg212
  z66 := Tryz.sizeOf212
  v66 := Tryz.zeroValue212
  t70 := Tryz.underlying216
  a70 := Tryz.isAgg216
  z70 := Tryz.sizeOf216
  v70 := Tryz.zeroValue216
  t76 := Tryz.underlying235
  a76 := Tryz.isAgg235
  z76 := Tryz.sizeOf235
  v76 := Tryz.zeroValue235
  t77 := Tryz.underlying236
  a77 := Tryz.isAgg236
  z77 := Tryz.sizeOf236
  v77 := Tryz.zeroValue236 }
def Tryz.cmpIntP_ren : Go.Shelf.Ren := ⟨fun | 5 => 69 | 7 => 116 | n => n, fun | 22 => 3 | 3 => 3 | 4 => 4 | n => n, fun | n => n⟩
theorem Tryz.cmpIntP : Go.Proofs.SlLaysC2.n5 Tryz.prog Tryz.cmpIntP_ren := {
  mixed := by kernel_rfl
  f5 := ⟨Tryz.f69.name, by decide, Tryz.func69.trans (congrArg some (by kernel_rfl))⟩
  f7 := ⟨Tryz.f116.name, by decide, Tryz.func116.trans (congrArg some (by kernel_rfl))⟩
  t3 := Tryz.underlying3
  a3 := Tryz.isAgg3
  z3 := Tryz.sizeOf3
  v3 := Tryz.zeroValue3
  t4 := Tryz.underlying4
  a4 := Tryz.isAgg4
  z4 := Tryz.sizeOf4
  v4 := Tryz.zeroValue4
  t22 := Tryz.underlying3
  a22 := Tryz.isAgg3
  z22 := Tryz.sizeOf3
  v22 := Tryz.zeroValue3 }
end Go.Proofs
end
section
/-
  How pairs are sorted: inter's comparison of two pairs, in whatever world; slices.SortFunc on a row of the call's own.
  Conditions: the row's length fits.
-/
namespace Mu
open Go Go.RowKit Go.Proofs Go.Shelf Go.Lib Go.Sort
set_option maxHeartbeats 2000000 in
set_option maxRecDepth 100000 in
theorem or_two (a b : Int) (g : Nat) (ty : TypeId) (W : World) (h : W.heap[g]? = some (.cells #[.int .i64 a, .int .i64 b] ty)) :
    Calls Tryz.prog 68 #[.slice (some ⟨g, 0, none⟩) 2 2] W fun e w' => e = .returned (.int .i64 (if a ≠ 0 then a else b)) ∧ w' = W := by
  have c0 : W.cell? ⟨g, 0, none⟩ = some (.int .i64 a) := by simp [World.cell?, h]
  have c1 : W.cell? ⟨g, 1, none⟩ = some (.int .i64 b) := by simp [World.cell?, h]
  go_enter Tryz.func68, Tryz.ntmps68
  go_wp2
  refine wp_loop_rounds 3 ?_
  rw [rounds_succ]
  by_cases ha : a = 0
  · subst ha
    go_wp2
    rw [rounds_succ]
    by_cases hb : b = 0
    · subst hb
      go_wp2
      rw [rounds_succ]
      go_wp2
      go_ret
      exact ⟨rfl, rfl⟩
    · go_wp2
      go_ret
      exact ⟨rfl, rfl⟩
  · go_wp2
    go_ret
    exact ⟨by simp, rfl⟩
theorem two_boxes (W : World) (o1 o2 : Obj) : ∃ W2, W2 = ((W.alloc o1).alloc o2).drew ∧ W2.heap[W.heap.size]? = some o1 ∧ W2.heap[W.heap.size + 1]? = some o2 ∧ ∃ n os, W2 = grow (W.drewN n) os := by
  refine ⟨_, rfl, ?_, ?_, 1, #[o1, o2], ?_⟩
  · show ((W.heap.push o1).push o2)[W.heap.size]? = _
    simp [Array.getElem?_push]
  · show ((W.heap.push o1).push o2)[W.heap.size + 1]? = _
    have : W.heap.size + 1 = (W.heap.push o1).size := by simp
    rw [this]
    exact Array.getElem?_push_size
  · rw [alloc_eq_grow, alloc_eq_grow, grow_grow]
    rfl
def cfP (x y : Pair) : Int := if compareInt x.a y.a ≠ 0 then compareInt x.a y.a else compareInt x.b y.b
def encPL (x : Pair) : List Value := [.int .i64 x.a, .int .i64 x.b]
set_option maxHeartbeats 4000000 in
set_option maxRecDepth 100000 in
theorem closureP (x y : Pair) (W : World) : Calls Tryz.prog 67 #[.agg (encPL x).toArray, .agg (encPL y).toArray] W fun e w' => e = .returned (.int .i64 (cfP x y)) ∧ ∃ q os, w' = grow (W.drewN q) os := by
  have hA := fun W => AnyG.cmp_Compare_int Tryz.cmpIntP x.a y.a W
  have hB := fun W => AnyG.cmp_Compare_int Tryz.cmpIntP x.b y.b W
  change ∀ W, Calls Tryz.prog 69 _ _ _ at hA
  change ∀ W, Calls Tryz.prog 69 _ _ _ at hB
  obtain ⟨r, hr⟩ : ∃ r, compareInt x.a y.a = r := ⟨_, rfl⟩
  obtain ⟨s, hs⟩ : ∃ s, compareInt x.b y.b = s := ⟨_, rfl⟩
  have hu : cfP x y = if r ≠ 0 then r else s := by unfold cfP; rw [hr, hs]
  rw [hr] at hA
  rw [hs] at hB
  clear hr hs
  have hO := fun W => or_two r s W.heap.size 3 (W.alloc (.cells #[.int .i64 r, .int .i64 s] 3)) (heap_alloc_new W _)
  rw [← hu] at hO
  generalize cfP x y = u at hO ⊢
  clear hu
  unfold encPL
  go_enter Tryz.func67, Tryz.ntmps67
  go_wp2
  refine wp_region_still_tail 10 (by kernel_rfl) (by kernel_rfl) ?_
  simp only [List.take_succ_cons, List.take_zero, List.drop_succ_cons, List.drop_zero]
  change wpStill _ _ (World.drew ((W.alloc (Obj.cells #[Value.int IntKind.i64 x.a, Value.int IntKind.i64 x.b] 60)).alloc (Obj.cells #[Value.int IntKind.i64 y.a, Value.int IntKind.i64 y.b] 60))) (fun a' => wpList _ _ _ _ a' (World.drew ((W.alloc (Obj.cells #[Value.int IntKind.i64 x.a, Value.int IntKind.i64 x.b] 60)).alloc (Obj.cells #[Value.int IntKind.i64 y.a, Value.int IntKind.i64 y.b] 60)))) _ _
  obtain ⟨W2, hW2, g1, g2, hg⟩ := two_boxes W (Obj.cells #[Value.int IntKind.i64 x.a, Value.int IntKind.i64 x.b] 60) (Obj.cells #[Value.int IntKind.i64 y.a, Value.int IntKind.i64 y.b] 60)
  rw [← hW2]
  have c1 : W2.cell? ⟨W.heap.size, 0, none⟩ = some (.int .i64 x.a) := by simp [World.cell?, g1]
  have c2 : W2.cell? ⟨W.heap.size, 1, none⟩ = some (.int .i64 x.b) := by simp [World.cell?, g1]
  have c3 : W2.cell? ⟨W.heap.size + 1, 0, none⟩ = some (.int .i64 y.a) := by simp [World.cell?, g2]
  have c4 : W2.cell? ⟨W.heap.size + 1, 1, none⟩ = some (.int .i64 y.b) := by simp [World.cell?, g2]
  clear hW2 g1 g2
  iterate 4 still_step
  still_call (hA _)
  iterate 4 still_step
  still_call (hB _)
  refine wpStill_nil ?_
  go_wp2_with (go_at_call 68; refine (hO W2).mono ?_; rintro e w' ⟨rfl, rfl⟩)
  go_ret
  obtain ⟨n, os, rfl⟩ := hg
  exact ⟨rfl, n, _, by rw [alloc_eq_grow, grow_grow]⟩

/-! ### the order -/
theorem ltP_iff {x y : Pair} : ltOf cfP x y = true ↔ ltP x y := by
  unfold ltOf cfP compareInt ltP
  by_cases h1 : x.a < y.a
  · simp [h1]
  · by_cases h2 : y.a < x.a
    · have : x.a ≠ y.a := by omega
      simp [h1, h2, this]
    · have e : x.a = y.a := by omega
      by_cases h3 : x.b < y.b
      · simp [e, h3]
      · by_cases h4 : y.b < x.b <;> simp [e, h3, h4]
theorem ltP_no {x y : Pair} : ltOf cfP x y = false ↔ ¬ ltP x y := by
  rw [← ltP_iff, Bool.not_eq_true]
theorem swoP : SWO (ltOf cfP) where
  irrefl x := ltP_no.2 (ltP_irr x)
  trans x y z h1 h2 := ltP_iff.2 (ltP_tr (ltP_iff.1 h1) (ltP_iff.1 h2))
  ntrans x y z h1 h2 := by
    have h1 := ltP_no.1 h1
    have h2 := ltP_no.1 h2
    refine ltP_no.2 ?_
    unfold ltP at *
    omega
theorem totP (x y : Pair) (h1 : ltOf cfP x y = false) (h2 : ltOf cfP y x = false) : x = y := by
  have h1 := ltP_no.1 h1
  have h2 := ltP_no.1 h2
  unfold ltP at h1 h2
  obtain ⟨a, b⟩ := x
  obtain ⟨c, d⟩ := y
  dsimp only at h1 h2
  have e1 : a = c := by omega
  have e2 : b = d := by omega
  rw [e1, e2]
def sortPL (l : List Pair) : List Pair := l.mergeSort fun x y => !(ltOf cfP) y x
theorem geP_iff {x y : Pair} : (!(ltOf cfP) y x) = true ↔ ¬ ltP y x := by
  rw [Bool.not_eq_true', ltP_no]
theorem sortPL_perm (l : List Pair) : (sortPL l).Perm l := List.mergeSort_perm _ _
theorem sortPL_asc {l : List Pair} (hn : l.Nodup) : AscP (sortPL l) := by
  have h := List.pairwise_mergeSort (le := fun x y : Pair => !(ltOf cfP) y x) (fun a b c h1 h2 => by
    have h1 := geP_iff.1 h1
    have h2 := geP_iff.1 h2
    refine geP_iff.2 ?_
    unfold ltP at *
    omega) (fun a b => by
    rw [Bool.or_eq_true, geP_iff, geP_iff]
    unfold ltP
    omega) l
  have hd : (sortPL l).Nodup := (sortPL_perm l).nodup_iff.2 hn
  refine (h.and hd).imp fun {x y} hxy => ?_
  obtain ⟨h1, h2⟩ := hxy
  have h1 := geP_iff.1 h1
  unfold ltP at h1
  obtain ⟨a, b⟩ := x
  obtain ⟨c, d⟩ := y
  unfold ltP
  dsimp only at h1 ⊢
  rcases Int.lt_trichotomy a c with h | h | h
  · exact .inl h
  · rcases Int.lt_trichotomy b d with k | k | k
    · exact .inr ⟨h, k⟩
    · exact absurd (by rw [h, k]) h2
    · omega
  · omega
theorem sortPL_of {R : List Int} {S : Pair → Bool} {l : List Pair} (hR : Asc R) (hin : InP R S) (hn : l.Nodup) (h1 : ∀ x ∈ l, S x = true) (h2 : ∀ x, S x = true → x ∈ l) : sortPL l = asPairs R S :=
  ascP_ext (sortPL_asc hn) (asPairs_asc hR) fun x => by
    rw [(sortPL_perm l).mem_iff, mem_asPairs hR hin]
    exact ⟨h1 x, h2 x⟩

/-! ### slices.SortFunc on a row of the call's own -/
theorem flatP_get {l : List Pair} {i : Nat} {d : Pair} (hd : l[i]? = some d) : ((flatK encPL 2 l.toArray).toList.drop (i * 2)).take 2 = encPL d := by
  have hil := (List.getElem?_eq_some_iff.1 hd).1
  have hdd : l.toArray[i]! = d := by simp [getElem!_def, hd]
  refine List.ext_getElem? fun j => ?_
  by_cases hj : j < 2
  · rw [List.getElem?_take_of_lt hj, List.getElem?_drop, Array.getElem?_toList]
    have hlt : i * 2 + j < (flatK encPL 2 l.toArray).size := by simp; omega
    have e := get_flatK encPL 2 l.toArray (i * 2 + j) (by simpa using hlt)
    rw [getElem!_pos (flatK encPL 2 l.toArray) _ hlt] at e
    rw [Array.getElem?_eq_getElem hlt, e, show (i * 2 + j) / 2 = i by omega, show (i * 2 + j) % 2 = j by omega, hdd]
    have hj2 : j < (encPL d).length := hj
    rw [getElem!_pos (encPL d) _ hj2, List.getElem?_eq_getElem hj2]
  · rw [List.getElem?_take_eq_none (by omega), List.getElem?_eq_none (by show 2 ≤ j; omega)]
theorem take_putCellsV (cur F : Array Value) (h : F.size ≤ cur.size) : (Go.Sort.putCells id 0 F cur).toList.take F.size = F.toList := by
  apply List.ext_getElem?
  intro j
  by_cases hj : j < F.size
  · rw [List.getElem?_take_of_lt hj, Array.getElem?_toList]
    simp [Go.Sort.putCells, hj, show j < cur.size by omega]
  · rw [List.getElem?_take_eq_none (by omega), List.getElem?_eq_none (by simp; omega)]
theorem grownBy_sortedV {w : World} {g n : Nat} {os : Array Obj} (d : Array Value) : w.grownBy (grow (putRow id (Sort.ahead w n) g 0 d) os) (some g) := by
  refine ⟨rfl, rfl, rfl, by simp, fun k hk hne => ?_⟩
  rw [heap_grow_old _ _ (by simpa using hk)]
  have : g ≠ k := fun e => hne (by rw [e])
  simp [putRow, mapBlock, Sort.ahead, Array.getElem?_modify, this]
theorem heap_sortedV {w : World} {g n : Nat} {os : Array Obj} {cur : Array Value} {e : TypeId} {fr : Nat × Nat} (d : Array Value) (hb : w.heap[g]? = some (.cells cur e fr)) :
    (grow (putRow id (Sort.ahead w n) g 0 d) os).heap[g]? = some (.cells (Go.Sort.putCells id 0 d cur) e fr) := by
  have hg : g < w.heap.size := (Array.getElem?_eq_some_iff.1 hb).1
  rw [heap_grow_old _ _ (by simpa using hg)]
  simp [putRow, mapBlock, Sort.ahead, Array.getElem?_modify, hb, onCells]
theorem relL_litS2 {w : World} {S : Nat → Prop} {h : List ABlk} {ψ : Nat → Value} {u v : Value} {vs : List Value} (H : AV.relL w S h ψ [.lit u, .lit v] vs) : vs = [u, v] := by
  obtain ⟨a, b, rfl, h1, h2⟩ := arg2 H
  unfold AV.rel at h1 h2
  rw [h1, h2]
theorem sortP_turn {v : Value} {l : List Pair} (hl : l.length < 4611686018427387904) : FnTurn Tryz.prog 114 (rowR v 60 tPair l) [.lit v, .lit (.func (.func 67) #[] #[])] (fun _ : Unit => rowR v 60 tPair (sortPL l)) (fun _ => .tuple #[]) := by
  refine ⟨by kernel_rfl, fun w S vs hS hF hR hr => ?_⟩
  obtain ⟨cells, hown, h0, hc⟩ := hR
  rw [relL_litS2 hr]
  rcases hown.2 with ⟨rfl, hn⟩ | ⟨g, cap, cur, rfl, _, hb, h1, h2, h3, h4⟩
  · have hz : l = [] := List.eq_nil_of_length_eq_zero hn
    subst hz
    rw [show sortPL [] = [] by simp [sortPL]]
    refine (AnyF.slices_SortFunc_none Tryz.sortP none 0 _ w).mono fun e w' ⟨he, hw⟩ => ?_
    subst hw
    exact ⟨_, he, ⟨⟨rfl, rfl, rfl, Nat.le_refl _, fun _ _ _ => rfl⟩, (), rfl, ⟨cells, hown, h0, hc⟩, fun k hk => ⟨.inl hk, hF k hk⟩⟩⟩
  · have hgl : g < w.heap.size := (Array.getElem?_eq_some_iff.1 hb).1
    have hcl : cells.length = l.length * 2 := hown.1
    have h4' : cur.toList.take (l.length * 2) = cells := h4
    have h3' : cur.size = cap * 2 := h3
    have hcell : ∀ i d, l[i]? = some d → (cells.drop (i * 2)).take 2 = encPL d ∧ wfI .i64 d.a ∧ wfI .i64 d.b := fun i d hd => tPair_R.1 (hc i d hd)
    have hH : HoldsK encPL 2 w g 0 l.toArray := fun j hj => by
      have hj' : j < l.length * 2 := by simpa using hj
      obtain ⟨d, hd⟩ : ∃ d, l[j / 2]? = some d := ⟨_, List.getElem?_eq_getElem (by omega)⟩
      have hdd : l.toArray[j / 2]! = d := by simp [getElem!_def, hd]
      have e1 := congrArg (fun (l : List Value) => l[j % 2]?) (hcell _ d hd).1
      rw [List.getElem?_take_of_lt (by omega), List.getElem?_drop, ← h4', List.getElem?_take_of_lt (by omega), Array.getElem?_toList, show j / 2 * 2 + j % 2 = j by omega] at e1
      refine ⟨?_, by simp [World.frozen?, hb]⟩
      rw [get_flatK _ _ _ _ (by simpa using hj'), hdd]
      have hj2 : j % 2 < (encPL d).length := by show j % 2 < 2; omega
      rw [getElem!_pos (encPL d) _ hj2]
      rw [List.getElem?_eq_getElem hj2] at e1
      simp [World.cell?, hb, e1]
    have eg : ∀ args w, (callFunc 67 args).run Tryz.prog w = .ok (.enter 67 args) w := enters_of Tryz.func67 (by kernel_rfl) rfl
    have hS' := AnyQ.slices_SortFunc_total Tryz.sortP 2 (fun w => by kernel_rfl) (fun w => by kernel_rfl) encPL (fun _ => rfl) (fun x v hv => by
      simp only [encPL, List.mem_cons, List.not_mem_nil, or_false] at hv
      rcases hv with rfl | rfl <;> rfl) cfP swoP 67 #[] g 0 cap l.toArray w eg (fun m os dk _ x y => closureP x y _) hH hgl (by simpa using hl) totP
    refine hS'.mono ?_
    rintro e w' ⟨he, n, os, rfl⟩
    have hts : (l.toArray.toList.mergeSort fun x y => !(ltOf cfP) y x) = sortPL l := rfl
    rw [hts]
    have hlen : (sortPL l).length = l.length := (sortPL_perm l).length_eq
    have hsz : (flatK encPL 2 (sortPL l).toArray).size = l.length * 2 := by simp [hlen]
    refine ⟨_, he, ⟨Gr.of_grownBy (grownBy_sortedV _) |> fun G => ⟨G.os, G.tape, G.output, G.size, fun k hk hn => G.block k hk fun e => hn e⟩, (), rfl, ⟨(flatK encPL 2 (sortPL l).toArray).toList, ?_, h0, fun i d hd => ?_⟩, fun k hk => ⟨.inl hk, ?_⟩⟩⟩
    · rw [hlen]
      refine ⟨by rw [Array.length_toList, hsz]; rfl, .inr ⟨g, cap, _, rfl, Nat.zero_le _, heap_sortedV _ hb, h1, h2, by simp [Go.Sort.putCells, h3], ?_⟩⟩
      have e2 := take_putCellsV cur (flatK encPL 2 (sortPL l).toArray) (by rw [hsz, h3']; omega)
      rw [hsz] at e2
      exact e2
    · have hdl : d ∈ l := (sortPL_perm l).mem_iff.1 (List.mem_of_getElem? hd)
      obtain ⟨i', hi'⟩ := List.mem_iff_getElem?.1 hdl
      exact tPair_R.2 ⟨flatP_get hd, (hcell _ _ hi').2⟩
    · have hk : blkOf (.slice (some ⟨g, 0, none⟩) l.length cap) = some k := hk
      have hk : g = k := by simpa [blkOf] using hk
      subst hk
      exact (Array.getElem?_eq_some_iff.1 (heap_sortedV _ hb)).1
end Mu
end
section
/-
  A set of pairs as a row: the iterator over its keys, in an order that nobody knows; collected, sorted.
  Conditions: the registers lie in a rising row of at most 2^21.
-/
namespace Mu
open Go Go.RowKit Go.Proofs Go.Maps Go.Shelf
instance inMuListP1 : AG Tryz.prog 62 false 1 := ⟨by kernel_rfl⟩
attribute [local go_sem] Oper.semAt_some

theorem Quiet.extractL {P : Program} {C : Ctx} {t : List AV} {h : List ABlk} {o : Oper} {x : Operand} {j : Nat} {xs : Array Value} {v : Value} (ho : o.op = .extract x j) (hx : evA t x = .lit (.tuple xs)) (hr : xs[j]? = some v) : Quiet P C t h o (.lit v) :=
  Quiet.of_run fun S ψ w ρ _ hρ => by
    have h1 := hρ x (by simp [ho, Op.operands])
    rw [hx] at h1
    unfold AV.rel at h1
    exact ⟨v, by simp [execOp, ho, h1, Instr.extract, hr], by unfold AV.rel; rfl⟩
theorem Parts0.litV {h : List ABlk} {v : Value} {cells : List Value} (e : v.cells.toList = cells) : Parts0 h (.lit v) (cells.map .lit) := fun C S ψ w u _ hv => by
  unfold AV.rel at hv
  subst hv
  rw [e]
  exact relL_lits cells
theorem One.rowV {h : List ABlk} {i : Nat} {v : Value} {e : TypeId} {α : Type} {T : Ty α} {l : List α} (hi : h[i]? = some (.res (rowR v e T l))) : One h (.lit v) := fun C S ψ w u H hv => by
  unfold AV.rel at hv
  subst hv
  obtain ⟨cells, hown, _⟩ := (H.blk i _ hi).2
  rcases hown.2 with ⟨rfl, _⟩ | ⟨_, _, _, rfl, _⟩ <;> rfl
/-- the boxed variable and the set that it names -/
def keysR (S : Pair → Bool) (g m : Nat) : Res := ⟨[], fun k => k = g ∨ k = m, fun w T => (boxR g [.lit (.map (some m))]).R w T ∧ (pairR S m).R w T ∧ g ≠ m,
  fun h hk hb hs => ⟨(boxR g [.lit (.map (some m))]).keep h.1 (fun k hf => hk k (.inl hf)) hb hs, (pairR S m).keep h.2.1 (fun k hf => hk k (.inr hf)) hb hs, h.2.2⟩⟩
def keyF (g : Nat) : Value := .func (.func 115) #[] #[.pointer (some ⟨g, 0, none⟩)]
theorem keysP_in (F : Fence) (n : Nat) (hF : F.fn 66) (hro : F.round = none) (m : Nat) (w : World) :
    CallsIn F n Tryz.prog 66 #[.map (some m)] w fun e w' => e = .returned (keyF w.heap.size) ∧ w' = w.alloc (.cells #[.map (some m)] 62) := by
  refine callsIn_of_wp Tryz.func66 rfl hF ?_ hro
  simp only [Tryz.ntmps66, List.size_toArray, List.length_cons, List.length_nil, Nat.reduceAdd, Nat.reduceSub, Array.replicate_succ, Array.replicate_zero, List.push_toArray, List.append_toArray, List.nil_append, List.cons_append]
  gi_wp2
  go_ret
  exact ⟨rfl, rfl⟩
theorem keysP_turn (S : Pair → Bool) (m : Nat) : FnTurn Tryz.prog 66 (pairR S m) [.lit (.map (some m))] (fun g => keysR S g m) keyF := by
  refine ⟨by kernel_rfl, fun w T vs hT hF hR hr => ?_⟩
  obtain ⟨us, rfl, h0⟩ := rel_lit1 hr
  unfold AV.relL at h0
  subst h0
  refine ((callsIn_wide (n := 4)).1 (keysP_in Fence.wide 4 trivial rfl m w)).mono ?_
  rintro e w' ⟨rfl, rfl⟩
  have hm : m < w.heap.size := hF m rfl
  have hb : Below w.heap.size w (w.alloc (.cells #[.map (some m)] 62)) := (Below.refl _ _).alloc (Nat.le_refl _) _
  refine ⟨_, rfl, ⟨hb.os, hb.tape, hb.output, hb.size, fun k hk _ => hb.block k hk⟩, w.heap.size, rfl, ⟨⟨[.map (some m)], 62, heap_alloc_new w _, relL_litL [.map (some m)]⟩, (show SetP w m S from hR).keep (hb.block m hm), by omega⟩, fun k hk => ?_⟩
  rcases (show k = w.heap.size ∨ k = m from hk) with rfl | rfl
  · exact ⟨.inr (Nat.le_refl _), by simp⟩
  · exact ⟨.inl rfl, by simp; omega⟩
def someK (S : Pair → Bool) (ks : List Pair) : Prop := ks.Nodup ∧ ∀ x ∈ ks, okPair x ∧ S x = true
def stK (S : Pair → Bool) (ks : List Pair) (es : List AV) (ks' : List Pair) : Prop := someK S ks ∧ ∃ q, okPair q ∧ S q = true ∧ q ∉ ks ∧ es = [.agg (encPair q)] ∧ ks' = ks ++ [q]
def finK (S : Pair → Bool) (ks : List Pair) : Prop := someK S ks ∧ ∀ x, okPair x → S x = true → x ∈ ks
theorem someK.add {S : Pair → Bool} {ks : List Pair} {q : Pair} (h : someK S ks) (h1 : okPair q) (h2 : S q = true) (h3 : q ∉ ks) : someK S (ks ++ [q]) := by
  refine ⟨List.nodup_append.2 ⟨h.1, by simp, fun a ha b hb => ?_⟩, fun x hx => ?_⟩
  · simp only [List.mem_cons, List.not_mem_nil, or_false] at hb
    subst hb
    exact fun e => h3 (e ▸ ha)
  · rcases List.mem_append.1 hx with hx | hx
    · exact h.2 x hx
    · simp only [List.mem_cons, List.not_mem_nil, or_false] at hx
      subst hx
      exact ⟨h1, h2⟩
set_option maxRecDepth 100000 in
set_option maxHeartbeats 4000000 in
theorem keysP_iter (S : Pair → Bool) (g m : Nat) (L : List Pair) (hL : ∀ x, okPair x → S x = true → x ∈ L) : IterS Tryz.prog 115 [.pointer (some ⟨g, 0, none⟩)] (keysR S g m) (stK S) [] (finK S) := by
  refine IterS.of_awp Tryz.func115 rfl (by kernel_rfl) rfl Tryz.ntmps115 rfl fun C hrd ι l Jr hm hY q0 => ?_
  simp only [List.map_cons, List.map_nil, List.length_cons, List.length_nil, Nat.reduceAdd, Nat.reduceSub, List.replicate_succ, List.replicate_zero, List.cons_append, List.nil_append]
  refine Awp.via _ (St.le_split (i := 1) (R1 := boxR g [.lit (.map (some m))]) (R2 := pairR S m) rfl rfl rfl rfl (fun _ h => h) fun w T h => ⟨h.1, h.2.1, fun k h1 h2 => h.2.2 (h1.symm.trans h2)⟩) ?_
  refine nT (hk := ?_)
  refine Awp.seq fun K1 h1 => ?_
  (refine Awp.region ?_; (repeat (first | refine sQ (hq := Quiet.pickOr rfl rfl rfl rfl) (hk := ?_) | refine sQ (hq := Quiet.pickAnd rfl rfl rfl rfl) (hk := ?_) | refine sQ (hk := ?_) | refine sSkip (hk := ?_) | refine sG (hk := ?_) | refine sOwn (hk := ?_))))
  refine aSeq_t rfl (AOp.rangeP 2 rfl Tryz.underlying62 rfl rfl fun r => ?_)
  refine sNt (hk := ?_)
  refine aSeq_nil ?_
  refine h1 _ ?_
  refine nT (hk := ?_)
  refine Awp.block ?_
  refine Awp.loopF (fun p : List Pair × ι => ⟨[.lit (.func (.yield l) #[] #[]), .lit (.pointer (some ⟨g, 0, none⟩)), .any, .any, .any, .lit (.pointer (some ⟨r, 0, none⟩)), .any, .any, .any, .any, .any, .any, .any, .any], [.res (Jr p.1 p.2), .res (boxR g [.lit (.map (some m))]), .res (rngR S p.1 m r)]⟩) (fun p => someK S p.1) (fun p => L.length - p.1.length) ([], q0) ⟨List.nodup_nil, fun _ h => by cases h⟩ (le_T) ?_
  rintro ⟨ks, q0⟩ hI
  dsimp only at hI ⊢
  refine Awp.seq fun K3 h3 => ?_
  refine Awp.region ?_
  refine aSeq_t rfl (AOp.nextP 2 rfl rfl rfl (fun hall => ?_) (fun q c hq hS hnk => ?_))
  · refine sNt (hk := ?_)
    (repeat (first | refine sQ (hq := Quiet.extractL rfl rfl rfl) (hk := ?_) | refine sQ (hq := Quiet.pickOr rfl rfl rfl rfl) (hk := ?_) | refine sQ (hq := Quiet.pickAnd rfl rfl rfl rfl) (hk := ?_) | refine sQ (hk := ?_) | refine sSkip (hk := ?_) | refine sG (hg := by first | rfl | exact gA_c rfl rfl) (hq := by (intro hg; (try simp only [Bool.and_eq_true, beq_iff_eq] at hg); (try simp only [hg, cond_true, Bool.true_and, beq_self_eq_true]); exact Quiet.extractL rfl rfl rfl)) (hk := ?_) | refine sG (hk := ?_) | refine sOwn (hk := ?_)))
    refine aSeq_nil ?_
    refine h3 _ ?_
    refine nT (hk := ?_)
    refine Awp.seq fun K4 h4 => ?_
    refine Awp.cond rfl (fun hb5 => by cases hb5) (fun hb5 => ?_)
    refine Awp.exit ?_
    exact ⟨.inl rfl, ks, ⟨hI, hall⟩, q0, rfl, by simp [mkD, ABlk.mrk, hm]; exact ⟨rfl, rfl⟩⟩
  · refine sNt (hk := ?_)
    (repeat (first | refine sQ (hq := Quiet.extractL rfl rfl rfl) (hk := ?_) | refine sQ (hq := Quiet.pickOr rfl rfl rfl rfl) (hk := ?_) | refine sQ (hq := Quiet.pickAnd rfl rfl rfl rfl) (hk := ?_) | refine sQ (hk := ?_) | refine sSkip (hk := ?_) | refine sG (hg := by first | rfl | exact gA_c rfl rfl) (hq := by (intro hg; (try simp only [Bool.and_eq_true, beq_iff_eq] at hg); (try simp only [hg, cond_true, Bool.true_and, beq_self_eq_true]); exact Quiet.extractL rfl rfl rfl)) (hk := ?_) | refine sG (hk := ?_) | refine sOwn (hk := ?_)))
    refine aSeq_nil ?_
    refine h3 _ ?_
    refine nT (hk := ?_)
    refine Awp.seq fun K4 h4 => ?_
    refine Awp.cond rfl (fun hb5 => ?_) (fun hb5 => by cases hb5)
    refine Awp.skip ?_
    refine h4 _ ?_
    refine nT (hk := ?_)
    refine Awp.block ?_
    refine Awp.seq fun K6 h6 => ?_
    (refine Awp.region ?_; (repeat (first | refine sQ (hq := Quiet.entryP 2 rfl rfl rfl) (hk := ?_) | refine sQ (hq := Quiet.pickOr rfl rfl rfl rfl) (hk := ?_) | refine sQ (hq := Quiet.pickAnd rfl rfl rfl rfl) (hk := ?_) | refine sQ (hk := ?_) | refine sSkip (hk := ?_) | refine sG (hg := by first | rfl | exact gA_c rfl rfl) (hq := by (intro hg; (try simp only [] at hg); (try simp only [hg, cond_true, Bool.true_and, beq_self_eq_true]); exact Quiet.entryP 2 rfl rfl rfl)) (hk := ?_) | refine sG (hk := ?_) | refine sOwn (hk := ?_))); refine aSeq_nil ?_)
    refine h6 _ ?_
    refine nT (hk := ?_)
    refine Awp.seq fun K7 h7 => ?_
    refine Awp.regionY ?_
    refine aSeqY_o rfl (AOp.q (Quiet.move rfl (by (conv => lhs; whnf); try rfl)) ?_)
    refine aSeqY_nt (by (try simp only [putA, List.set_cons_zero, List.set_cons_succ]); exact rfl) (by (try simp only [List.nil_append, List.cons_append, List.set_cons_zero, List.set_cons_succ, List.length_nil, List.length_cons, Nat.reduceAdd]); exact rfl) ?_
    refine aSeqY_o rfl (AOp.q (Quiet.loadA_ptr rfl rfl rfl rfl) ?_)
    refine aSeqY_nt (by (try simp only [putA, List.set_cons_zero, List.set_cons_succ]); exact rfl) (by (try simp only [List.nil_append, List.cons_append, List.set_cons_zero, List.set_cons_succ, List.length_nil, List.length_cons, Nat.reduceAdd]); exact rfl) ?_
    refine aSeqY_y rfl (AOpY.yield (i := 0) hrd rfl (fun p => by rw [hm, hm]) rfl rfl rfl rfl (hY ks _ (ks ++ [q]) ⟨hI, q, hq, hS, hnk, rfl, rfl⟩ q0) fun q' => ?_)
    refine aSeqY_nt (by (try simp only [putA, List.set_cons_zero, List.set_cons_succ]); exact rfl) (by (try simp only [List.set_cons_zero]); exact rfl) ?_
    refine aSeqY_o rfl (AOp.q (Quiet.bnot rfl rfl) ?_)
    refine aSeqY_nil ?_
    refine h7 _ ?_
    refine nT (hk := ?_)
    refine Awp.cond rfl (fun hb17 => by cases hb17) (fun hb17 => ?_)
    refine Awp.skip ?_
    have hlen := nodup_leG (hI.add hq hS hnk).1 fun x hx => hL x ((hI.add hq hS hnk).2 x hx).1 ((hI.add hq hS hnk).2 x hx).2
    refine abN (athen_n ⟨(ks ++ [q], q'), hI.add hq hS hnk, by simp only [List.length_append, List.length_cons, List.length_nil] at hlen ⊢; omega, ?_⟩)
    refine St.le.trans (St.le_res (i := 2) (R' := rngR S (ks ++ [q]) m r) rfl (fun _ h => h) (fun _ _ h => h.1) rfl) ?_
    exact le_C (.cons (.cons (.cons (Cut.nil _))))
/-! ### collected and sorted -/
theorem rowP_any {v : Value} {l : List Pair} {w : World} {S S' : Nat → Prop} (h : (rowR v 60 tPair l).R w S) : (rowR v 60 tPair l).R w S' := by
  obtain ⟨cells, h1, h0, h2⟩ := h
  exact ⟨cells, h1, h0, fun i d hd => tPair_R.2 (tPair_R.1 (h2 i d hd))⟩
def RowK (S : Pair → Bool) : Type := {p : Value × List Pair // finK S p.2}
theorem stK_len {S : Pair → Bool} {L : List Pair} (hL : ∀ x, okPair x → S x = true → x ∈ L) {ks ks' : List Pair} {es : List AV} (h : stK S ks es ks') : ks.length + 1 ≤ L.length := by
  obtain ⟨hI, q, hq, hS, hnk, _, _⟩ := h
  have := nodup_leG (hI.add hq hS hnk).1 fun x hx => hL x ((hI.add hq hS hnk).2 x hx).1 ((hI.add hq hS hnk).2 x hx).2
  simpa using this
set_option maxRecDepth 100000 in
set_option maxHeartbeats 4000000 in
theorem appendP_turn (S : Pair → Bool) (g m : Nat) (L : List Pair) (hL : ∀ x, okPair x → S x = true → x ∈ L) (hl : L.length ≤ 4398046511104) :
    FnTurn Tryz.prog 155 (keysR S g m) [.lit (.slice none 0 0), .lit (keyF g)] (fun p : RowK S => rowR p.1.1 60 tPair p.1.2) (fun p => p.1.1) := by
  refine FnTurn.of_awpM Tryz.func155 rfl (by kernel_rfl) rfl Tryz.ntmps155 rfl (fun _ _ _ _ h => rowP_any h) fun C hrd => ?_
  simp only [List.length_cons, List.length_nil, Nat.reduceAdd, Nat.reduceSub, List.replicate_succ, List.replicate_zero, List.cons_append, List.nil_append]
  refine Awp.seq fun K1 h1 => ?_
  refine Awp.region ?_
  refine aSeq_t rfl (AOp.box (cells := [.lit (.slice none 0 0)]) rfl (Parts0.litV (cells := [.slice none 0 0]) rfl) ?_)
  refine sNt (hk := ?_)
  (repeat (first | refine sQ (hq := Quiet.pickOr rfl rfl rfl rfl) (hk := ?_) | refine sQ (hq := Quiet.pickAnd rfl rfl rfl rfl) (hk := ?_) | refine sQ (hk := ?_) | refine sSkip (hk := ?_) | refine sG (hk := ?_) | refine sOwn (hk := ?_)))
  refine aSeq_nil ?_
  refine h1 _ ?_
  refine nT (hk := ?_)
  refine Awp.open_box 2 rfl rfl rfl (fun g2 => [.any, .lit (keyF g), .lit (.pointer (some ⟨g2, 0, none⟩)), .any, .any, .any, .any, .any, .any, .any, .any, .any, .any]) (fun g => (by (repeat (first | exact OpnB.nil | refine OpnB.ptr ?_ | refine OpnB.any ?_ | refine OpnB.keep rfl ?_)))) fun g2 => ?_
  refine Awp.via _ (St.le_nilL 60 tPair (by decide)) ?_
  refine nT (hk := ?_)
  refine Awp.seq fun K2 h2 => ?_
  refine Awp.seq fun K3 h3 => ?_
  (refine Awp.region ?_; (repeat (first | refine sQ (hq := Quiet.pickOr rfl rfl rfl rfl) (hk := ?_) | refine sQ (hq := Quiet.pickAnd rfl rfl rfl rfl) (hk := ?_) | refine sQ (hk := ?_) | refine sSkip (hk := ?_) | refine sG (hk := ?_) | refine sOwn (hk := ?_))); refine aSeq_nil ?_)
  refine h3 _ ?_
  refine nT (hk := ?_)
  refine Awp.block ?_
  refine Awp.rangeS (J := Value) 1 0 (fun ks v => [.dead, .dead, .res (boxR g2 [.lit v]), .res (rowR v 60 tPair ks)]) (.slice none 0 0) hrd rfl (by decide) rfl rfl rfl ?hdrop rfl (fun _ _ => rfl) (fun _ _ => rfl) rfl ?hes (keysP_iter S g m L hL) ?hround ?hdone
  case hdrop =>
    exact ⟨Cut.dead (Cut.dead (Cut.cons (Cut.cons (Cut.nil _)))), fun b hb => List.all_eq_true.1 (show bdH [.dead, .dead, .res (boxR g2 [.lit (.slice none 0 0)]), .res (rowR (.slice none 0 0) 60 tPair [])] = true from rfl) b hb⟩
  case hes =>
    rintro ks es ks' ⟨_, q, _, _, _, rfl, rfl⟩
    exact ⟨rfl, rfl⟩
  case hround =>
    intro ks v es ks' hst C' hr'
    have hlen := stK_len hL hst
    obtain ⟨_, q, hq, hS, hnk, rfl, rfl⟩ := hst
    refine Awp.nt2 (t' := [.any, .lit (keyF g), .lit (.pointer (some ⟨g2, 0, none⟩)), .any, .any, .any, .lit (keyF g), .agg (encPair q), .any, .any, .any, .any, .any]) rfl rfl ?_
    (refine Awp.region ?_; (repeat (first | refine sQ (hq := Quiet.pickOr rfl rfl rfl rfl) (hk := ?_) | refine sQ (hq := Quiet.pickAnd rfl rfl rfl rfl) (hk := ?_) | refine sQ (hk := ?_) | refine sSkip (hk := ?_) | refine sG (hk := ?_) | refine sOwn (hk := ?_))); refine aSeq_nil ?_)
    refine athen_n fun C'' hr'' => ?_
    refine nT (hk := ?_)
    refine Awp.block ?_
    have hfit : Fit [.dead, .dead, .res (boxR g2 [.lit v]), .res (rowR v 60 tPair ks), .box (encPair q)] tPair (.agg (encPair q)) q := Fit.aggL (enc := encPair) fun _ _ _ _ H => put_Pair hq H
    (refine Awp.region ?_; (repeat (first | refine sQ (hq := Quiet.lt1 rfl rfl rfl rfl (by decide) hfit) (hk := ?_) | refine sQ (hq := Quiet.pickOr rfl rfl rfl rfl) (hk := ?_) | refine sQ (hq := Quiet.pickAnd rfl rfl rfl rfl) (hk := ?_) | refine sQ (hk := ?_) | refine sSkip (hk := ?_) | refine sG (hg := by first | rfl | exact gA_c rfl rfl) (hq := by (intro hg; (try simp only [] at hg); (try simp only [hg, cond_true, Bool.true_and, beq_self_eq_true]); exact Quiet.lt1 rfl rfl rfl rfl (by decide) hfit)) (hk := ?_) | refine sG (hk := ?_) | refine sOwn (hk := ?_))))
    refine aSeq_t rfl (AOp.appendL (i := 3) rfl (by kernel_rfl) rfl rfl rfl one1_Pair (by show ks.length + 1 ≤ _; unfold maxLen; omega) (by show (ks.length + 1) * 16 ≤ _; omega) fun v' => ?_)
    refine sNt (hk := ?_)
    refine aSeq_t rfl (AOp.stL (i := 2) (new := [.lit v']) rfl rfl rfl (Parts.one (One.rowV (i := 3) rfl)) rfl rfl (Nat.le_of_ble_eq_true rfl) ?_)
    refine sNt (hk := ?_)
    refine aSeq_nil ?_
    exact ⟨rfl, v', ⟨.cons (.cons (.cons (.cons (Cut.nil _)))), fun b hb => List.all_eq_true.1 (show bdH [.dead, .dead, .res (boxR g2 [.lit v']), .res (rowR v' 60 tPair (ks ++ [q]))] = true from rfl) b hb⟩⟩
  case hdone =>
    intro ks hfin v D
    refine h2 _ ?_
    refine Awp.nt2 (t' := [.any, .lit (keyF g), .lit (.pointer (some ⟨g2, 0, none⟩)), .any, .any, .any, .lit (keyF g), .any, .any, .any, .any, .any, .any]) (h' := [.res (marksR [D]), .dead, .res (boxR g2 [.lit v]), .res (rowR v 60 tPair ks)]) rfl rfl ?_
    refine Awp.seq fun K6 h6 => ?_
    (refine Awp.region ?_; (repeat (first | refine sQ (hq := Quiet.pickOr rfl rfl rfl rfl) (hk := ?_) | refine sQ (hq := Quiet.pickAnd rfl rfl rfl rfl) (hk := ?_) | refine sQ (hk := ?_) | refine sSkip (hk := ?_) | refine sG (hk := ?_) | refine sOwn (hk := ?_))); refine aSeq_nil ?_)
    refine h6 _ ?_
    refine nT (hk := ?_)
    exact Awp.ret ⟨.inr rfl, [D], 3, ⟨(v, ks), hfin⟩, rfl, rfl, by decide, rfl, rfl⟩
set_option maxRecDepth 100000 in
theorem collectP_turn (S : Pair → Bool) (g m : Nat) (L : List Pair) (hL : ∀ x, okPair x → S x = true → x ∈ L) (hl : L.length ≤ 4398046511104) :
    FnTurn Tryz.prog 113 (keysR S g m) [.lit (keyF g)] (fun p : RowK S => rowR p.1.1 60 tPair p.1.2) (fun p => p.1.1) := by
  refine FnTurn.of_awpM Tryz.func113 rfl (by kernel_rfl) rfl Tryz.ntmps113 rfl (fun _ _ _ _ h => rowP_any h) fun C hrd => ?_
  simp only [List.length_cons, List.length_nil, Nat.reduceAdd, Nat.reduceSub, List.replicate_succ, List.replicate_zero, List.cons_append, List.nil_append]
  refine Awp.seq fun K1 h1 => ?_
  (refine Awp.region ?_; (repeat (first | refine sQ (hq := Quiet.pickOr rfl rfl rfl rfl) (hk := ?_) | refine sQ (hq := Quiet.pickAnd rfl rfl rfl rfl) (hk := ?_) | refine sQ (hk := ?_) | refine sSkip (hk := ?_) | refine sG (hk := ?_) | refine sOwn (hk := ?_))); refine aSeq_nil ?_)
  refine h1 _ ?_
  refine nT (hk := ?_)
  refine Awp.seq fun K2 h2 => ?_
  (refine Awp.region ?_; (repeat (first | refine sQ (hq := Quiet.pickOr rfl rfl rfl rfl) (hk := ?_) | refine sQ (hq := Quiet.pickAnd rfl rfl rfl rfl) (hk := ?_) | refine sQ (hk := ?_) | refine sSkip (hk := ?_) | refine sG (hk := ?_) | refine sOwn (hk := ?_))))
  refine aSeq_t rfl (AOp.callTurn (i := 1) rfl rfl (appendP_turn S g m L hL hl) (fun _ => rfl) rfl rfl fun p => ?_)
  refine sNt (hk := ?_)
  (repeat (first | refine sQ (hq := Quiet.pickOr rfl rfl rfl rfl) (hk := ?_) | refine sQ (hq := Quiet.pickAnd rfl rfl rfl rfl) (hk := ?_) | refine sQ (hk := ?_) | refine sSkip (hk := ?_) | refine sG (hk := ?_) | refine sOwn (hk := ?_)))
  refine aSeq_nil ?_
  refine h2 _ ?_
  refine nT (hk := ?_)
  exact Awp.ret ⟨.inr rfl, [], 1, p, rfl, rfl, by decide, rfl, rfl⟩
/-- a set lies in a rising row of registers -/
structure InRow (R : List Int) (S : Pair → Bool) : Prop where
  asc : Asc R
  len : R.length ≤ 2097152
  mem : InP R S
theorem InRow.sub {R : List Int} {S : Pair → Bool} (h : InRow R S) : ∀ x, okPair x → S x = true → x ∈ pairsOf R := fun x _ hx => (mem_pairsOf h.asc).2 (h.mem x hx)
theorem InRow.lens {R : List Int} {S : Pair → Bool} (h : InRow R S) : (pairsOf R).length ≤ 4398046511104 :=
  Nat.le_trans (pairsOf_len R) (Nat.le_trans (Nat.mul_le_mul h.len h.len) (by decide))
theorem InRow.sort {R : List Int} {S : Pair → Bool} (h : InRow R S) (hw : ∀ r ∈ R, wf64 r) {ks : List Pair} (hk : finK S ks) : sortPL ks = asPairs R S :=
  sortPL_of h.asc h.mem hk.1.1 (fun x hx => (hk.1.2 x hx).2) fun x hx => hk.2 x ⟨hw _ (h.mem x hx).1, hw _ (h.mem x hx).2.1⟩ hx
set_option maxRecDepth 100000 in
theorem sortedP_turn {R : List Int} {S : Pair → Bool} (h : InRow R S) (hw : ∀ r ∈ R, wf64 r) (g m : Nat) :
    FnTurn Tryz.prog 65 (keysR S g m) [.lit (keyF g), .lit (.func (.func 67) #[] #[])] (fun v : Value => rowR v 60 tPair (asPairs R S)) (fun v => v) := by
  refine FnTurn.of_awpM Tryz.func65 rfl (by kernel_rfl) rfl Tryz.ntmps65 rfl (fun _ _ _ _ h => rowP_any h) fun C hrd => ?_
  simp only [List.length_cons, List.length_nil, Nat.reduceAdd, Nat.reduceSub, List.replicate_succ, List.replicate_zero, List.cons_append, List.nil_append]
  refine Awp.seq fun K1 h1 => ?_
  (refine Awp.region ?_; (repeat (first | refine sQ (hq := Quiet.pickOr rfl rfl rfl rfl) (hk := ?_) | refine sQ (hq := Quiet.pickAnd rfl rfl rfl rfl) (hk := ?_) | refine sQ (hk := ?_) | refine sSkip (hk := ?_) | refine sG (hk := ?_) | refine sOwn (hk := ?_))); refine aSeq_nil ?_)
  refine h1 _ ?_
  refine nT (hk := ?_)
  refine Awp.seq fun K2 h2 => ?_
  (refine Awp.region ?_; (repeat (first | refine sQ (hq := Quiet.pickOr rfl rfl rfl rfl) (hk := ?_) | refine sQ (hq := Quiet.pickAnd rfl rfl rfl rfl) (hk := ?_) | refine sQ (hk := ?_) | refine sSkip (hk := ?_) | refine sG (hk := ?_) | refine sOwn (hk := ?_))))
  refine aSeq_t rfl (AOp.callTurn (i := 1) rfl rfl (collectP_turn S g m _ h.sub h.lens) (fun _ => rfl) rfl rfl fun p => ?_)
  refine sNt (hk := ?_)
  (repeat (first | refine sQ (hq := Quiet.pickOr rfl rfl rfl rfl) (hk := ?_) | refine sQ (hq := Quiet.pickAnd rfl rfl rfl rfl) (hk := ?_) | refine sQ (hk := ?_) | refine sSkip (hk := ?_) | refine sG (hk := ?_) | refine sOwn (hk := ?_)))
  refine aSeq_nil ?_
  refine h2 _ ?_
  refine nT (hk := ?_)
  obtain ⟨⟨v, ks⟩, hk⟩ := p
  dsimp only at hk ⊢
  have hs := h.sort hw hk
  have hkl : ks.length < 4611686018427387904 := by
    have h1 := nodup_leG hk.1.1 fun x hx => h.sub x (hk.1.2 x hx).1 (hk.1.2 x hx).2
    have h2 := h.lens
    omega
  refine Awp.seq fun K3 h3 => ?_
  (refine Awp.region ?_; (repeat (first | refine sQ (hq := Quiet.pickOr rfl rfl rfl rfl) (hk := ?_) | refine sQ (hq := Quiet.pickAnd rfl rfl rfl rfl) (hk := ?_) | refine sQ (hk := ?_) | refine sSkip (hk := ?_) | refine sG (hk := ?_) | refine sOwn (hk := ?_))))
  refine aSeq_t rfl (AOp.callTurn (i := 1) rfl rfl (sortP_turn hkl) (fun _ => rfl) rfl rfl fun _ => ?_)
  refine sNt (hk := ?_)
  refine aSeq_nil ?_
  refine h3 _ ?_
  refine nT (hk := ?_)
  rw [hs]
  refine Awp.seq fun K4 h4 => ?_
  (refine Awp.region ?_; (repeat (first | refine sQ (hq := Quiet.pickOr rfl rfl rfl rfl) (hk := ?_) | refine sQ (hq := Quiet.pickAnd rfl rfl rfl rfl) (hk := ?_) | refine sQ (hk := ?_) | refine sSkip (hk := ?_) | refine sG (hk := ?_) | refine sOwn (hk := ?_))); refine aSeq_nil ?_)
  refine h4 _ ?_
  refine nT (hk := ?_)
  exact Awp.ret ⟨.inr rfl, [], 1, v, rfl, rfl, by decide, rfl, rfl⟩
set_option maxRecDepth 100000 in
theorem listP_turn {R : List Int} {S : Pair → Bool} (h : InRow R S) (hw : ∀ r ∈ R, wf64 r) (m : Nat) :
    FnTurn Tryz.prog 32 (pairR S m) [.lit (.map (some m))] (fun v : Value => rowR v 60 tPair (asPairs R S)) (fun v => v) := by
  refine FnTurn.of_awpM Tryz.func32 rfl (by kernel_rfl) rfl Tryz.ntmps32 rfl (fun _ _ _ _ h => rowP_any h) fun C hrd => ?_
  simp only [List.length_cons, List.length_nil, Nat.reduceAdd, Nat.reduceSub, List.replicate_succ, List.replicate_zero, List.cons_append, List.nil_append]
  refine Awp.seq fun K1 h1 => ?_
  (refine Awp.region ?_; (repeat (first | refine sQ (hq := Quiet.pickOr rfl rfl rfl rfl) (hk := ?_) | refine sQ (hq := Quiet.pickAnd rfl rfl rfl rfl) (hk := ?_) | refine sQ (hk := ?_) | refine sSkip (hk := ?_) | refine sG (hk := ?_) | refine sOwn (hk := ?_))); refine aSeq_nil ?_)
  refine h1 _ ?_
  refine nT (hk := ?_)
  refine Awp.seq fun K2 h2 => ?_
  (refine Awp.region ?_; (repeat (first | refine sQ (hq := Quiet.pickOr rfl rfl rfl rfl) (hk := ?_) | refine sQ (hq := Quiet.pickAnd rfl rfl rfl rfl) (hk := ?_) | refine sQ (hk := ?_) | refine sSkip (hk := ?_) | refine sG (hk := ?_) | refine sOwn (hk := ?_))))
  refine aSeq_t rfl (AOp.callTurn (i := 1) rfl rfl (keysP_turn S m) (fun _ => rfl) rfl rfl fun g => ?_)
  refine sNt (hk := ?_)
  (repeat (first | refine sQ (hq := Quiet.pickOr rfl rfl rfl rfl) (hk := ?_) | refine sQ (hq := Quiet.pickAnd rfl rfl rfl rfl) (hk := ?_) | refine sQ (hk := ?_) | refine sSkip (hk := ?_) | refine sG (hk := ?_) | refine sOwn (hk := ?_)))
  refine aSeq_t rfl (AOp.callTurn (i := 1) rfl rfl (sortedP_turn h hw g m) (fun _ => rfl) rfl rfl fun v => ?_)
  refine sNt (hk := ?_)
  (repeat (first | refine sQ (hq := Quiet.pickOr rfl rfl rfl rfl) (hk := ?_) | refine sQ (hq := Quiet.pickAnd rfl rfl rfl rfl) (hk := ?_) | refine sQ (hk := ?_) | refine sSkip (hk := ?_) | refine sG (hk := ?_) | refine sOwn (hk := ?_)))
  refine aSeq_nil ?_
  refine h2 _ ?_
  refine nT (hk := ?_)
  exact Awp.ret ⟨.inr rfl, [], 1, v, rfl, rfl, by decide, rfl, rfl⟩
end Mu
end
section
/-
  inter.Edges, inter.Moves, inter.Near, walked: which pairs of registers part, as rows.
  Conditions: at most 2^21 of everything.
-/
namespace Mu
open Go Go.RowKit Go.Proofs Go.Maps
instance inMuEdgesF1 : AG Tryz.prog 62 false 1 := ⟨by kernel_rfl⟩
instance inMuEdgesF2 : SZ Tryz.prog 62 1 := ⟨by kernel_rfl⟩
instance inMuEdgesF3 : ZC Tryz.prog 62 [.map none] := ⟨by kernel_rfl⟩

theorem edges_row {f : Func} (hA : (allX f).length ≤ 2097152) : InRow (regs18L f) (edgesS f) := ⟨(regs18_asc f).1, regs18_le hA, edgesS_in f⟩
theorem moves_row {f : Func} (hA : (allX f).length ≤ 2097152) : InRow (regs18L f) (mvK f (stepsL f).length) := ⟨(regs18_asc f).1, regs18_le hA, movesK_in f _⟩
set_option maxRecDepth 100000 in
theorem edges_fn (f : Func) (ho : okFunc f) (hs : smallF f) (hT : (allReads f).length ≤ 2097152) (hA : (allX f).length ≤ 2097152) (hi1 : ∀ b ∈ f.blocks, b.ins.length + 1 ≤ 2097152) : Fn Tryz.prog 9 [.agg (encFunc f)] (.bs tPair (edgesL f)) := by
  refine Fn.of_awp Tryz.func9 rfl (by kernel_rfl) rfl Tryz.ntmps9 fun C hC => ?_
  simp only [List.length_cons, List.length_nil, Nat.reduceAdd, Nat.reduceSub, List.replicate_succ, List.replicate_zero, List.cons_append, List.nil_append]
  refine Awp.seq fun K1 h1 => ?_
  (refine Awp.region ?_; (repeat (first | refine sQ (hq := Quiet.pickOr rfl rfl rfl rfl) (hk := ?_) | refine sQ (hq := Quiet.pickAnd rfl rfl rfl rfl) (hk := ?_) | refine sQ (hk := ?_) | refine sSkip (hk := ?_) | refine sG (hk := ?_) | refine sOwn (hk := ?_))); refine aSeq_nil ?_)
  refine h1 _ ?_
  refine nT (hk := ?_)
  refine Awp.seq fun K2 h2 => ?_
  (refine Awp.region ?_; (repeat (first | refine sQ (hq := Quiet.pickOr rfl rfl rfl rfl) (hk := ?_) | refine sQ (hq := Quiet.pickAnd rfl rfl rfl rfl) (hk := ?_) | refine sQ (hk := ?_) | refine sSkip (hk := ?_) | refine sG (hk := ?_) | refine sOwn (hk := ?_))))
  refine aSeq_t rfl (AOp.callNew rfl (edges_new f ho hs hT hA hi1) (fun _ => rfl) rfl rfl fun m => ?_)
  refine sNt (hk := ?_)
  refine aSeq_t rfl (AOp.callTurn (i := 1) rfl rfl (listP_turn (edges_row hA) (regs18_wf ho) m) (fun _ => rfl) rfl rfl fun v => ?_)
  refine sNt (hk := ?_)
  (repeat (first | refine sQ (hq := Quiet.pickOr rfl rfl rfl rfl) (hk := ?_) | refine sQ (hq := Quiet.pickAnd rfl rfl rfl rfl) (hk := ?_) | refine sQ (hk := ?_) | refine sSkip (hk := ?_) | refine sG (hk := ?_) | refine sOwn (hk := ?_)))
  refine aSeq_nil ?_
  refine h2 _ ?_
  refine nT (hk := ?_)
  refine Awp.via _ (St.le_close 1 (ver := 0) (t' := [.any, .any, .own 1 0, .any, .any, .any]) rfl rfl (by (try simp only [putA, List.set_cons_zero, List.set_cons_succ]); (repeat (first | exact Cls.nil | refine Cls.own ?_ | refine Cls.any ?_ | refine Cls.keep rfl ?_)))) ?_
  refine nT (hk := ?_)
  exact Awp.ret ⟨.inr rfl, Fin.own rfl⟩
set_option maxRecDepth 100000 in
set_option maxHeartbeats 4000000 in
theorem moves_fn (f : Func) (ho : okFunc f) (hs : smallF f) (hT : (allReads f).length ≤ 2097152) (hA : (allX f).length ≤ 2097152) (hi1 : ∀ b ∈ f.blocks, b.ins.length + 1 ≤ 2097152) : Fn Tryz.prog 11 [.agg (encFunc f)] (.bs tPair (mvL f)) := by
  have hbl := hs.blocks
  have hRl : (regs18L f).length ≤ 2097152 := regs18_le hA
  have hRw : ∀ r ∈ regs18L f, wf64 r := regs18_wf ho
  refine Fn.of_awpM Tryz.func11 rfl (by kernel_rfl) rfl Tryz.ntmps11 fun C hC hrd => ?_
  simp only [List.length_cons, List.length_nil, Nat.reduceAdd, Nat.reduceSub, List.replicate_succ, List.replicate_zero, List.cons_append, List.nil_append]
  refine Awp.seq fun K1 h1 => ?_
  (refine Awp.region ?_; (repeat (first | refine sQ (hq := Quiet.pickOr rfl rfl rfl rfl) (hk := ?_) | refine sQ (hq := Quiet.pickAnd rfl rfl rfl rfl) (hk := ?_) | refine sQ (hk := ?_) | refine sSkip (hk := ?_) | refine sG (hk := ?_) | refine sOwn (hk := ?_))); refine aSeq_nil ?_)
  refine h1 _ ?_
  refine nT (hk := ?_)
  refine Awp.seq fun K2 h2 => ?_
  (refine Awp.region ?_; (repeat (first | refine sQ (hq := Quiet.pickOr rfl rfl rfl rfl) (hk := ?_) | refine sQ (hq := Quiet.pickAnd rfl rfl rfl rfl) (hk := ?_) | refine sQ (hk := ?_) | refine sSkip (hk := ?_) | refine sG (hk := ?_) | refine sOwn (hk := ?_))))
  refine aSeq_t rfl (AOp.mkPairs rfl fun m => ?_)
  refine sNt (hk := ?_)
  (repeat (first | refine sQ (hq := Quiet.pickOr rfl rfl rfl rfl) (hk := ?_) | refine sQ (hq := Quiet.pickAnd rfl rfl rfl rfl) (hk := ?_) | refine sQ (hk := ?_) | refine sSkip (hk := ?_) | refine sG (hk := ?_) | refine sOwn (hk := ?_)))
  refine aSeq_nil ?_
  refine h2 _ ?_
  refine nT (hk := ?_)
  refine Awp.open_box 1 rfl rfl rfl (fun g => [.any, .lit (.pointer (some ⟨g, 0, none⟩)), .any, .ptr 3 0, .any, .any, .any, .any, .any, .any, .any, .any, .any, .any, .any, .any, .any, .any, .any, .any, .any]) (fun g => (by (repeat (first | exact OpnB.nil | refine OpnB.ptr ?_ | refine OpnB.any ?_ | refine OpnB.keep rfl ?_)))) fun g1 => ?_
  refine Awp.open_box 3 rfl rfl rfl (fun g => [.any, .lit (.pointer (some ⟨g1, 0, none⟩)), .any, .lit (.pointer (some ⟨g, 0, none⟩)), .any, .any, .any, .any, .any, .any, .any, .any, .any, .any, .any, .any, .any, .any, .any, .any, .any]) (fun g => (by (repeat (first | exact OpnB.nil | refine OpnB.ptr ?_ | refine OpnB.any ?_ | refine OpnB.keep rfl ?_)))) fun g3 => ?_
  refine Awp.seq fun K3 h3 => ?_
  refine Awp.seq fun K4 h4 => ?_
  (refine Awp.region ?_; (repeat (first | refine sQ (hq := Quiet.pickOr rfl rfl rfl rfl) (hk := ?_) | refine sQ (hq := Quiet.pickAnd rfl rfl rfl rfl) (hk := ?_) | refine sQ (hk := ?_) | refine sSkip (hk := ?_) | refine sG (hk := ?_) | refine sOwn (hk := ?_))))
  (repeat (first | refine sQ (hq := Quiet.pickOr rfl rfl rfl rfl) (hk := ?_) | refine sQ (hq := Quiet.pickAnd rfl rfl rfl rfl) (hk := ?_) | refine sQ (hk := ?_) | refine sSkip (hk := ?_) | refine sG (hk := ?_) | refine sOwn (hk := ?_)))
  refine aSeq_t rfl (AOp.callNew rfl (steps_new f) (fun _ => rfl) rfl rfl fun p => ?_)
  refine sNt (hk := ?_)
  refine aSeq_nil ?_
  refine h4 _ ?_
  refine nT (hk := ?_)
  refine Awp.block ?_
  refine Awp.via ⟨[.any, .lit (.pointer (some ⟨g1, 0, none⟩)), .any, .lit (.pointer (some ⟨g3, 0, none⟩)), .any, .any, .any, .lit (stF p), .any, .any, .any, .any, .any, .any, .any, .any, .any, .any, .any, .any, .any], [.res (marksR []), .res (boxR g1 (encFunc f)), .res (pairR (mvK f 0) m), .res (boxR g3 [.lit (.map (some m))]), .res (boxR p (encFunc f))]⟩ (le_C (.cons (.cons (.cons (.cons (.cons (Cut.nil _))))))) ?_
  refine Awp.rangeY 4 0 (fun k => [.dead, .res (boxR g1 (encFunc f)), .res (pairR (mvK f k) m), .res (boxR g3 [.lit (.map (some m))]), .dead]) hrd (by kernel_rfl) (by decide) rfl rfl rfl ?hdrop rfl (fun _ => rfl) (fun _ => rfl) rfl (stE_cl f) (stE_len f) (steps_iter f ho hs hT hi1 p) ?hround ?hdone
  case hdrop =>
    exact ⟨Cut.dead (Cut.cons (Cut.cons (Cut.cons (Cut.dead (Cut.nil _))))), fun b hb => List.all_eq_true.1 (show bdH [.dead, .res (boxR g1 (encFunc f)), .res (pairR (mvK f 0) m), .res (boxR g3 [.lit (.map (some m))]), .dead] = true from rfl) b hb⟩
  case hround =>
    intro k hk C' hr'
    obtain ⟨q, hq⟩ : ∃ q, (stepsL f)[k]? = some q := ⟨_, List.getElem?_eq_getElem hk⟩
    have hqm := List.mem_of_getElem? hq
    have hcs := movesK_succ hq
    have hin := movesK_in f k
    dsimp only
    rw [stE_eq hq]
    generalize hS0 : mvK f k = S0 at hcs hin ⊢
    refine Awp.nt2 (t' := [.any, .lit (.pointer (some ⟨g1, 0, none⟩)), .any, .lit (.pointer (some ⟨g3, 0, none⟩)), .any, .any, .any, .lit (stF p), .agg (encIns q.1), .bs tInt q.2, .any, .any, .any, .any, .any, .any, .any, .any, .any, .any, .any]) rfl rfl ?_
    (refine Awp.region ?_; (repeat (first | refine sQ (hq := Quiet.pickOr rfl rfl rfl rfl) (hk := ?_) | refine sQ (hq := Quiet.pickAnd rfl rfl rfl rfl) (hk := ?_) | refine sQ (hk := ?_) | refine sSkip (hk := ?_) | refine sG (hk := ?_) | refine sOwn (hk := ?_))); refine aSeq_nil ?_)
    refine athen_n fun C'' hr'' => ?_
    refine nT (hk := ?_)
    refine Awp.block ?_
    refine Awp.seq fun K8 h8 => ?_
    (refine Awp.region ?_; (repeat (first | refine sQ (hq := Quiet.pickOr rfl rfl rfl rfl) (hk := ?_) | refine sQ (hq := Quiet.pickAnd rfl rfl rfl rfl) (hk := ?_) | refine sQ (hk := ?_) | refine sSkip (hk := ?_) | refine sG (hk := ?_) | refine sOwn (hk := ?_))); refine aSeq_nil ?_)
    refine h8 _ ?_
    refine nT (hk := ?_)
    refine Awp.cond rfl (fun hb19 => ?_) (fun hb19 => ?_)
    · have h2 : q.1.op = 2 := by simpa using hb19
      have e2 : mvK f (k + 1) = addPL S0 (pairOf q.1.d q.1.a) := by rw [hcs]; unfold mvA; rw [if_pos h2]
      have hdw : wf64 q.1.d := hRw _ (regs18_d hqm (mov_writes h2).1)
      have haw : wf64 q.1.a := hRw _ (regs18_a hqm h2)
      (refine Awp.region ?_; (repeat (first | refine sQ (hq := Quiet.pickOr rfl rfl rfl rfl) (hk := ?_) | refine sQ (hq := Quiet.pickAnd rfl rfl rfl rfl) (hk := ?_) | refine sQ (hk := ?_) | refine sSkip (hk := ?_) | refine sG (hk := ?_) | refine sOwn (hk := ?_))))
      (repeat (first | refine sQ (hq := Quiet.pickOr rfl rfl rfl rfl) (hk := ?_) | refine sQ (hq := Quiet.pickAnd rfl rfl rfl rfl) (hk := ?_) | refine sQ (hk := ?_) | refine sSkip (hk := ?_) | refine sG (hk := ?_) | refine sOwn (hk := ?_)))
      refine aSeq_t rfl (AOp.callTurn (i := 2) rfl rfl (put_turn hRl hin hdw haw) (fun _ => rfl) rfl rfl fun _ => ?_)
      refine sNt (hk := ?_)
      refine aSeq_nil ?_
      rw [← e2]
      exact ⟨rfl, ⟨.cons (.cons (.cons (.cons (.cons (Cut.nil _))))), fun b hb => List.all_eq_true.1 (show bdH [.dead, .res (boxR g1 (encFunc f)), .res (pairR (mvK f (k + 1)) m), .res (boxR g3 [.lit (.map (some m))]), .dead] = true from rfl) b hb⟩⟩
    · have e2 : mvK f (k + 1) = S0 := by
        rw [hcs]; unfold mvA
        rw [if_neg (by simpa using hb19), addPL_nil]
      refine Awp.skip ?_
      rw [e2]
      exact ⟨rfl, ⟨.cons (.cons (.cons (.cons (.cons (Cut.nil _))))), fun b hb => List.all_eq_true.1 (show bdH [.dead, .res (boxR g1 (encFunc f)), .res (pairR S0 m), .res (boxR g3 [.lit (.map (some m))]), .dead] = true from rfl) b hb⟩⟩
  case hdone =>
    intro D
    refine h3 _ ?_
    refine Awp.nt2 (t' := [.any, .lit (.pointer (some ⟨g1, 0, none⟩)), .any, .lit (.pointer (some ⟨g3, 0, none⟩)), .any, .any, .any, .lit (stF p), .any, .any, .any, .any, .any, .any, .any, .any, .any, .any, .any, .any, .any]) (h' := [.res (marksR [D]), .res (boxR g1 (encFunc f)), .res (pairR (mvK f (stepsL f).length) m), .res (boxR g3 [.lit (.map (some m))]), .dead]) rfl rfl ?_
    refine Awp.seq fun K20 h20 => ?_
    (refine Awp.region ?_; (repeat (first | refine sQ (hq := Quiet.pickOr rfl rfl rfl rfl) (hk := ?_) | refine sQ (hq := Quiet.pickAnd rfl rfl rfl rfl) (hk := ?_) | refine sQ (hk := ?_) | refine sSkip (hk := ?_) | refine sG (hk := ?_) | refine sOwn (hk := ?_))))
    refine aSeq_t rfl (AOp.callTurn (i := 2) rfl rfl (listP_turn (moves_row hA) hRw m) (fun _ => rfl) rfl rfl fun v => ?_)
    refine sNt (hk := ?_)
    (repeat (first | refine sQ (hq := Quiet.pickOr rfl rfl rfl rfl) (hk := ?_) | refine sQ (hq := Quiet.pickAnd rfl rfl rfl rfl) (hk := ?_) | refine sQ (hk := ?_) | refine sSkip (hk := ?_) | refine sG (hk := ?_) | refine sOwn (hk := ?_)))
    refine aSeq_nil ?_
    refine h20 _ ?_
    refine nT (hk := ?_)
    refine Awp.via _ (St.le_close 2 (ver := 0) (t' := [.any, .any, .own 2 0, .any, .any, .any, .any, .any, .any, .any, .any, .any, .any, .any, .any, .any, .any, .any, .any, .any, .any]) rfl rfl (by (try simp only [putA, List.set_cons_zero, List.set_cons_succ]); (repeat (first | exact Cls.nil | refine Cls.own ?_ | refine Cls.any ?_ | refine Cls.keep rfl ?_)))) ?_
    refine nT (hk := ?_)
    exact Awp.ret ⟨.inr rfl, [D], rfl, rfl, Fin.own rfl⟩
/-! ### who parts from one -/
theorem mem_nearX {r y : Int} {x : Pair} : y ∈ nearX r x ↔ (r = x.a ∧ y = x.b) ∨ (r ≠ x.a ∧ r = x.b ∧ y = x.a) := by
  unfold nearX
  by_cases h : r = x.a
  · rw [if_pos h]; simp [h]
  · rw [if_neg h]
    by_cases h2 : r = x.b
    · rw [if_pos h2]
      simp only [List.mem_cons, List.not_mem_nil, or_false]
      refine ⟨fun e => .inr ⟨h, h2, e⟩, fun e => ?_⟩
      rcases e with ⟨e, _⟩ | ⟨_, _, e⟩
      · exact absurd e h
      · exact e
    · rw [if_neg h2]; simp [h, h2]
theorem nearK_mem {f : Func} {r : Int} {ks : List Pair} (hk : someK (edgesS f) ks) : ∀ y ∈ ks.flatMap (nearX r), y ∈ nearL f r := fun y hy => by
  obtain ⟨x, hx, hy⟩ := List.mem_flatMap.1 hy
  have hS := (hk.2 x hx).2
  obtain ⟨ha, hb, hab⟩ := edgesS_in f x hS
  unfold nearL
  rcases mem_nearX.1 hy with ⟨rfl, rfl⟩ | ⟨_, rfl, rfl⟩
  · refine List.mem_filter.2 ⟨hb, ?_⟩
    have e : (⟨min x.a x.b, max x.a x.b⟩ : Pair) = x := by rw [Int.min_eq_left (by omega), Int.max_eq_right (by omega)]
    rw [e, hS]
    have : x.a ≠ x.b := by omega
    simp [this]
  · refine List.mem_filter.2 ⟨ha, ?_⟩
    have e : (⟨min x.b x.a, max x.b x.a⟩ : Pair) = x := by rw [Int.min_eq_right (by omega), Int.max_eq_left (by omega)]
    rw [e, hS]
    have : x.b ≠ x.a := by omega
    simp [this]
theorem nearK_nodup {f : Func} {r : Int} {ks : List Pair} (hk : someK (edgesS f) ks) : (ks.flatMap (nearX r)).Nodup := by
  refine List.pairwise_flatMap.2 ⟨fun x _ => ?_, ?_⟩
  · unfold nearX
    split
    · simp
    · split <;> simp
  · refine hk.1.imp_of_mem fun {x y} hx hy hne u hu v hv huv => hne ?_
    have h1 := (edgesS_in f x (hk.2 x hx).2).2.2
    have h2 := (edgesS_in f y (hk.2 y hy).2).2.2
    subst huv
    obtain ⟨a, b⟩ := x
    obtain ⟨c, d⟩ := y
    have e : a = c ∧ b = d := by
      rcases mem_nearX.1 hu with ⟨e1, e2⟩ | ⟨_, e1, e2⟩ <;> rcases mem_nearX.1 hv with ⟨e3, e4⟩ | ⟨_, e3, e4⟩ <;> dsimp only at e1 e2 e3 e4 h1 h2 <;> omega
    rw [e.1, e.2]
theorem nearK_len {f : Func} {r : Int} {ks : List Pair} (hk : someK (edgesS f) ks) (hA : (allX f).length ≤ 2097152) : (ks.flatMap (nearX r)).length ≤ 2097152 :=
  Nat.le_trans (nodup_leG (nearK_nodup hk) fun y hy => (List.mem_filter.1 (nearK_mem hk y hy)).1) (regs18_le hA)
theorem nearK_all {f : Func} {r : Int} {ks : List Pair} (hk : finK (edgesS f) ks) (hw : ∀ r ∈ regs18L f, wf64 r) : (ks.flatMap (nearX r)).mergeSort (fun x y => decide (x ≤ y)) = nearL f r :=
  asc_ext (asc_sort (nearK_nodup hk.1)) ((regs18_asc f).1.filter _) fun y => by
    rw [(List.mergeSort_perm _ _).mem_iff]
    refine ⟨nearK_mem hk.1 y, fun hy => ?_⟩
    obtain ⟨hy, hp⟩ := List.mem_filter.1 hy
    rw [Bool.and_eq_true] at hp
    obtain ⟨hne, hS⟩ := hp
    have hne : r ≠ y := by simpa using hne
    obtain ⟨h1, h2, _⟩ := edgesS_in f _ hS
    refine List.mem_flatMap.2 ⟨_, hk.2 _ ⟨hw _ h1, hw _ h2⟩ hS, mem_nearX.2 ?_⟩
    dsimp only
    rcases Int.lt_or_lt_of_ne hne with h | h
    · rw [Int.min_eq_left (by omega), Int.max_eq_right (by omega)]; exact .inl ⟨rfl, rfl⟩
    · rw [Int.min_eq_right (by omega), Int.max_eq_left (by omega)]; exact .inr ⟨by omega, rfl, rfl⟩
theorem nearK_add {r : Int} {ks : List Pair} {q : Pair} : (ks ++ [q]).flatMap (nearX r) = ks.flatMap (nearX r) ++ nearX r q := by simp
set_option maxRecDepth 100000 in
set_option maxHeartbeats 4000000 in
theorem near_fn (f : Func) (r : Int) (ho : okFunc f) (hs : smallF f) (hT : (allReads f).length ≤ 2097152) (hA : (allX f).length ≤ 2097152) (hi1 : ∀ b ∈ f.blocks, b.ins.length + 1 ≤ 2097152) : Fn Tryz.prog 16 [.agg (encFunc f), .lit (.int .i64 r)] (.bs tInt (nearL f r)) := by
  have hRw : ∀ r ∈ regs18L f, wf64 r := regs18_wf ho
  have hIR := edges_row hA
  refine Fn.of_awp Tryz.func16 rfl (by kernel_rfl) rfl Tryz.ntmps16 fun C hC => ?_
  simp only [List.length_cons, List.length_nil, Nat.reduceAdd, Nat.reduceSub, List.replicate_succ, List.replicate_zero, List.cons_append, List.nil_append]
  refine Awp.seq fun K1 h1 => ?_
  (refine Awp.region ?_; (repeat (first | refine sQ (hq := Quiet.pickOr rfl rfl rfl rfl) (hk := ?_) | refine sQ (hq := Quiet.pickAnd rfl rfl rfl rfl) (hk := ?_) | refine sQ (hk := ?_) | refine sSkip (hk := ?_) | refine sG (hk := ?_) | refine sOwn (hk := ?_))); refine aSeq_nil ?_)
  refine h1 _ ?_
  refine nT (hk := ?_)
  refine Awp.seq fun K2 h2 => ?_
  (refine Awp.region ?_; (repeat (first | refine sQ (hq := Quiet.pickOr rfl rfl rfl rfl) (hk := ?_) | refine sQ (hq := Quiet.pickAnd rfl rfl rfl rfl) (hk := ?_) | refine sQ (hk := ?_) | refine sSkip (hk := ?_) | refine sG (hk := ?_) | refine sOwn (hk := ?_))); refine aSeq_nil ?_)
  refine h2 _ ?_
  refine nT (hk := ?_)
  refine Awp.seq fun K3 h3 => ?_
  refine Awp.seq fun K4 h4 => ?_
  (refine Awp.region ?_; (repeat (first | refine sQ (hq := Quiet.pickOr rfl rfl rfl rfl) (hk := ?_) | refine sQ (hq := Quiet.pickAnd rfl rfl rfl rfl) (hk := ?_) | refine sQ (hk := ?_) | refine sSkip (hk := ?_) | refine sG (hk := ?_) | refine sOwn (hk := ?_))))
  refine aSeq_t rfl (AOp.callNew rfl (edges_new f ho hs hT hA hi1) (fun _ => rfl) rfl rfl fun m => ?_)
  refine sNt (hk := ?_)
  refine aSeq_t rfl (AOp.rangeP 1 rfl Tryz.underlying62 rfl rfl fun rr => ?_)
  refine sNt (hk := ?_)
  refine aSeq_nil ?_
  refine h4 _ ?_
  refine nT (hk := ?_)
  refine Awp.block ?_
  refine Awp.loopF (fun p : List Pair × Nat => ⟨[.any, .lit (.int .i64 r), .any, .any, .any, .own 2 p.2, .any, .any, .any, .lit (.pointer (some ⟨rr, 0, none⟩)), .any, .any, .any, .any, .any, .any, .any, .any, .any, .any, .any, .any, .any, .any, .any, .any, .any, .any, .any, .any, .any, .any, .any, .any, .any, .any], [.box (encFunc f), .res (rngR (edgesS f) p.1 m rr), .row p.2 3 tInt (p.1.flatMap (nearX r))]⟩) (fun p => someK (edgesS f) p.1) (fun p => (pairsOf (regs18L f)).length - p.1.length) ([], 0) ⟨List.nodup_nil, fun _ h => by cases h⟩ ((St.le_nil 5 3 tInt rfl (by decide)).trans (le_T)) ?_
  rintro ⟨ks, ver⟩ hI
  dsimp only at hI ⊢
  refine Awp.seq fun K6 h6 => ?_
  refine Awp.region ?_
  refine aSeq_t rfl (AOp.nextP 1 rfl rfl rfl (fun hall => ?_) (fun q c hq hS hnk => ?_))
  · refine sNt (hk := ?_)
    (repeat (first | refine sQ (hq := Quiet.extractL rfl rfl rfl) (hk := ?_) | refine sQ (hq := Quiet.pickOr rfl rfl rfl rfl) (hk := ?_) | refine sQ (hq := Quiet.pickAnd rfl rfl rfl rfl) (hk := ?_) | refine sQ (hk := ?_) | refine sSkip (hk := ?_) | refine sG (hg := by first | rfl | exact gA_c rfl rfl) (hq := by (intro hg; (try simp only [Bool.and_eq_true, beq_iff_eq] at hg); (try simp only [hg, cond_true, Bool.true_and, beq_self_eq_true]); exact Quiet.extractL rfl rfl rfl)) (hk := ?_) | refine sG (hk := ?_) | refine sOwn (hk := ?_)))
    refine aSeq_nil ?_
    refine h6 _ ?_
    refine nT (hk := ?_)
    refine Awp.seq fun K7 h7 => ?_
    refine Awp.cond rfl (fun hb8 => by cases hb8) (fun hb8 => ?_)
    refine Awp.exit ?_
    refine h3 _ ?_
    refine nT (hk := ?_)
    refine Awp.seq fun K15 h15 => ?_
    (refine Awp.region ?_; (repeat (first | refine sQ (hq := Quiet.pickOr rfl rfl rfl rfl) (hk := ?_) | refine sQ (hq := Quiet.pickAnd rfl rfl rfl rfl) (hk := ?_) | refine sQ (hk := ?_) | refine sSkip (hk := ?_) | refine sG (hk := ?_) | refine sOwn (hk := ?_))))
    refine aSeq_t rfl (AOp.sortRow rfl rfl rfl (Nat.le_trans (nearK_len hI hA) (by decide)) ?_)
    refine sNt (hk := ?_)
    refine aSeq_nil ?_
    refine h15 _ ?_
    rw [nearK_all ⟨hI, hall⟩ hRw]
    refine nT (hk := ?_)
    refine Awp.seq fun K16 h16 => ?_
    (refine Awp.region ?_; (repeat (first | refine sQ (hq := Quiet.pickOr rfl rfl rfl rfl) (hk := ?_) | refine sQ (hq := Quiet.pickAnd rfl rfl rfl rfl) (hk := ?_) | refine sQ (hk := ?_) | refine sSkip (hk := ?_) | refine sG (hk := ?_) | refine sOwn (hk := ?_))); refine aSeq_nil ?_)
    refine h16 _ ?_
    refine nT (hk := ?_)
    exact Awp.ret ⟨.inr rfl, Fin.own rfl⟩
  · have hadd := hI.add hq hS hnk
    have hlen := nodup_leG hadd.1 fun x hx => hIR.sub x (hadd.2 x hx).1 (hadd.2 x hx).2
    simp only [List.length_append, List.length_cons, List.length_nil] at hlen
    have hl1 := nearK_len (r := r) hadd hA
    have hwa : wfI .i64 q.a := hq.a
    have hwb : wfI .i64 q.b := hq.b
    have hadd2 := nearK_add (r := r) (ks := ks) (q := q)
    rw [hadd2, List.length_append] at hl1
    refine sNt (hk := ?_)
    (repeat (first | refine sQ (hq := Quiet.extractL rfl rfl rfl) (hk := ?_) | refine sQ (hq := Quiet.pickOr rfl rfl rfl rfl) (hk := ?_) | refine sQ (hq := Quiet.pickAnd rfl rfl rfl rfl) (hk := ?_) | refine sQ (hk := ?_) | refine sSkip (hk := ?_) | refine sG (hg := by first | rfl | exact gA_c rfl rfl) (hq := by (intro hg; (try simp only [Bool.and_eq_true, beq_iff_eq] at hg); (try simp only [hg, cond_true, Bool.true_and, beq_self_eq_true]); exact Quiet.extractL rfl rfl rfl)) (hk := ?_) | refine sG (hk := ?_) | refine sOwn (hk := ?_)))
    refine aSeq_nil ?_
    refine h6 _ ?_
    refine nT (hk := ?_)
    refine Awp.seq fun K7 h7 => ?_
    refine Awp.cond rfl (fun hb8 => ?_) (fun hb8 => by cases hb8)
    refine Awp.skip ?_
    refine h7 _ ?_
    refine nT (hk := ?_)
    refine Awp.block ?_
    refine Awp.seq fun K9 h9 => ?_
    (refine Awp.region ?_; (repeat (first | refine sQ (hq := Quiet.entryP 1 rfl rfl rfl) (hk := ?_) | refine sQ (hq := Quiet.pickOr rfl rfl rfl rfl) (hk := ?_) | refine sQ (hq := Quiet.pickAnd rfl rfl rfl rfl) (hk := ?_) | refine sQ (hk := ?_) | refine sSkip (hk := ?_) | refine sG (hg := by first | rfl | exact gA_c rfl rfl) (hq := by (intro hg; (try simp only [] at hg); (try simp only [hg, cond_true, Bool.true_and, beq_self_eq_true]); exact Quiet.entryP 1 rfl rfl rfl)) (hk := ?_) | refine sG (hk := ?_) | refine sOwn (hk := ?_))); refine aSeq_nil ?_)
    refine h9 _ ?_
    refine nT (hk := ?_)
    refine Awp.via _ (St.le_res (i := 1) (R' := rngR (edgesS f) (ks ++ [q]) m rr) rfl (fun _ h => h) (fun _ _ h => h.1) rfl) ?_
    refine nT (hk := ?_)
    refine Awp.seq fun K10 h10 => ?_
    (refine Awp.region ?_; (repeat (first | refine sQ (hq := Quiet.pickOr rfl rfl rfl rfl) (hk := ?_) | refine sQ (hq := Quiet.pickAnd rfl rfl rfl rfl) (hk := ?_) | refine sQ (hk := ?_) | refine sSkip (hk := ?_) | refine sG (hk := ?_) | refine sOwn (hk := ?_))); refine aSeq_nil ?_)
    refine h10 _ ?_
    refine nT (hk := ?_)
    refine Awp.block ?_
    refine Awp.seq fun K11 h11 => ?_
    (refine Awp.region ?_; (repeat (first | refine sQ (hq := Quiet.pickOr rfl rfl rfl rfl) (hk := ?_) | refine sQ (hq := Quiet.pickAnd rfl rfl rfl rfl) (hk := ?_) | refine sQ (hk := ?_) | refine sSkip (hk := ?_) | refine sG (hk := ?_) | refine sOwn (hk := ?_))); refine aSeq_nil ?_)
    refine h11 _ ?_
    refine nT (hk := ?_)
    generalize hL0 : ks.flatMap (nearX r) = L0 at hadd2 hl1 ⊢
    refine Awp.cond rfl (fun hb12 => ?_) (fun hb12 => ?_)
    · have e : r = q.a := by simpa using hb12
      have en : nearX r q = [q.b] := if_pos e
      rw [en] at hadd2 hl1
      have hl2 : L0.length + 1 ≤ 2097152 := hl1
      (refine Awp.region ?_; (repeat (first | refine sQ (hq := Quiet.pickOr rfl rfl rfl rfl) (hk := ?_) | refine sQ (hq := Quiet.pickAnd rfl rfl rfl rfl) (hk := ?_) | refine sQ (hk := ?_) | refine sSkip (hk := ?_) | refine sG (hk := ?_) | refine sOwn (hk := ?_))); refine aSeq_nil ?_)
      refine abN (abN (athen_n ⟨(ks ++ [q], ver + 1), hadd, by dsimp only; simp only [List.length_append, List.length_cons, List.length_nil]; omega, ?_⟩))
      dsimp only
      rw [hadd2]
      exact le_C (.cons (.cons (.cons (Cut.nil _))))
    · have e : r ≠ q.a := by simpa using hb12
      refine Awp.seq fun K13 h13 => ?_
      (refine Awp.region ?_; (repeat (first | refine sQ (hq := Quiet.pickOr rfl rfl rfl rfl) (hk := ?_) | refine sQ (hq := Quiet.pickAnd rfl rfl rfl rfl) (hk := ?_) | refine sQ (hk := ?_) | refine sSkip (hk := ?_) | refine sG (hk := ?_) | refine sOwn (hk := ?_))); refine aSeq_nil ?_)
      refine h13 _ ?_
      refine nT (hk := ?_)
      refine Awp.cond rfl (fun hb14 => ?_) (fun hb14 => ?_)
      · have e2 : r = q.b := by simpa using hb14
        have en : nearX r q = [q.a] := by unfold nearX; rw [if_neg e, if_pos e2]
        rw [en] at hadd2 hl1
        have hl2 : L0.length + 1 ≤ 2097152 := hl1
        (refine Awp.region ?_; (repeat (first | refine sQ (hq := Quiet.pickOr rfl rfl rfl rfl) (hk := ?_) | refine sQ (hq := Quiet.pickAnd rfl rfl rfl rfl) (hk := ?_) | refine sQ (hk := ?_) | refine sSkip (hk := ?_) | refine sG (hk := ?_) | refine sOwn (hk := ?_))); refine aSeq_nil ?_)
        refine abN (abN (athen_n ⟨(ks ++ [q], ver + 1), hadd, by dsimp only; simp only [List.length_append, List.length_cons, List.length_nil]; omega, ?_⟩))
        dsimp only
        rw [hadd2]
        exact le_C (.cons (.cons (.cons (Cut.nil _))))
      · have e2 : r ≠ q.b := by simpa using hb14
        have en : nearX r q = [] := by unfold nearX; rw [if_neg e, if_neg e2]
        rw [en, List.append_nil] at hadd2
        refine Awp.skip ?_
        refine abN (abN (athen_n ⟨(ks ++ [q], ver), hadd, by dsimp only; simp only [List.length_append, List.length_cons, List.length_nil]; omega, ?_⟩))
        dsimp only
        rw [hadd2]
        exact le_C (.cons (.cons (.cons (Cut.nil _))))
end Mu
end
section
/-
  inter's functions as plain functions: what they ask is computed.
  Conditions: as each says.
-/
namespace Mu
open Go Go.RowKit Go.Proofs

def inter_Edges (f : Func) : M (List Pair) := M.chk (fineF f) (M.ok (edgesL f))
theorem inter_Edges_l {f : Func} {r : List Pair} (H : (inter_Edges f).to r) : Fn Tryz.prog 9 [.agg (encFunc f)] (.bs tPair r) := by
  obtain ⟨c, H⟩ := M.to_chk.1 H
  obtain rfl := M.to_ok.1 H
  have c := fineF_iff.1 c
  exact edges_fn f c.ok c.small c.reads c.all c.ins
def inter_Moves (f : Func) : M (List Pair) := M.chk (fineF f) (M.ok (mvL f))
theorem inter_Moves_l {f : Func} {r : List Pair} (H : (inter_Moves f).to r) : Fn Tryz.prog 11 [.agg (encFunc f)] (.bs tPair r) := by
  obtain ⟨c, H⟩ := M.to_chk.1 H
  obtain rfl := M.to_ok.1 H
  have c := fineF_iff.1 c
  exact moves_fn f c.ok c.small c.reads c.all c.ins
def inter_Near (f : Func) (n : Int) : M (List Int) := M.chk (fineF f) (M.ok (nearL f n))
theorem inter_Near_l {f : Func} {n : Int} {r : List Int} (H : (inter_Near f n).to r) : Fn Tryz.prog 16 [.agg (encFunc f), .lit (.int .i64 n)] (.bs tInt r) := by
  obtain ⟨c, H⟩ := M.to_chk.1 H
  obtain rfl := M.to_ok.1 H
  have c := fineF_iff.1 c
  exact near_fn f n c.ok c.small c.reads c.all c.ins
end Mu
end
section
/-
  muntinlaw18: example, head, walked.
  Conditions: none.
-/
namespace Mu
open Go Go.RowKit Go.Proofs

def e18I0 : Ins := ⟨0, 0, 0, 0, 1, 0, [], 0, 0⟩
def e18I1 : Ins := ⟨0, 1, 0, 0, 2, 0, [], 0, 0⟩
def e18I2 : Ins := ⟨2, 2, 0, 0, 0, 0, [], 0, 0⟩
def e18I3 : Ins := ⟨5, 3, 0, 0, 0, 0, [2], 0, 0⟩
def e18I4 : Ins := ⟨1, 4, 1, 3, 0, 0, [], 0, 0⟩
def e18I5 : Ins := ⟨1, 4, 4, 0, 0, 0, [], 0, 0⟩
def e18I6 : Ins := ⟨10, 0, 4, 0, 0, 0, [], 0, 0⟩
def e18L : List Ins := [e18I0, e18I1, e18I2, e18I3, e18I4, e18I5, e18I6]
def e18B : Block := ⟨noName, e18L⟩
def e18F : Func := ⟨noName, 0, 5, [e18B]⟩
theorem e18I3_ok : okIns e18I3 := ⟨wfB_wf (k := .u8) (by decide), wfB_wf (k := .i64) (by decide), wfB_wf (k := .i64) (by decide), wfB_wf (k := .i64) (by decide), wfB_wf (k := .u32) (by decide), wfB_wf (k := .i64) (by decide), wfB_wf (k := .i64) (by decide), wfB_wf (k := .i64) (by decide), fun y hy => by
  simp only [e18I3, List.mem_cons, List.not_mem_nil, or_false] at hy
  subst hy
  exact wfB_wf (k := .i64) (by decide)⟩
theorem e18_fine : FineF e18F := fineF_iff.1 (by decide +kernel)
theorem okI18 {x : Ins} (h : okInsB x = true) : okIns x := okInsB_iff.1 h
set_option maxRecDepth 100000 in
set_option maxHeartbeats 4000000 in
theorem example18_fn : Fn Tryz.prog 30 [] (.agg (encFunc e18F)) := by
  refine Fn.of_awpC Tryz.func30 rfl (by kernel_rfl) rfl (show aggT Tryz.prog 24 = some (true, 4) by kernel_rfl) Tryz.ntmps30 fun C hC => ?_
  simp only [List.length_nil, Nat.sub_zero, List.replicate_succ, List.replicate_zero, List.nil_append]
  refine Awp.seq fun K1 h1 => ?_
  (refine Awp.region ?_; (repeat (first | refine sQ (hk := ?_) | refine sSkip (hk := ?_) | refine sOwn (hk := ?_))); refine aSeq_nil ?_)
  refine h1 _ ?_
  refine nT (hk := ?_)
  refine Awp.seq fun K2 h2 => ?_
  refine Awp.region ?_
  refine aSeq_t rfl (AOp.q (r := .agg (encIns0 e18I0)) (Quiet.bld rfl plIns rfl rfl) ?_)
  refine sNt (hk := ?_)
  refine aSeq_t rfl (AOp.q (r := .agg (encIns0 e18I1)) (Quiet.bld rfl plIns rfl rfl) ?_)
  refine sNt (hk := ?_)
  refine aSeq_t rfl (AOp.q (r := .agg (encIns0 e18I2)) (Quiet.bld rfl plIns rfl rfl) ?_)
  refine sNt (hk := ?_)
  refine aSeq_t rfl (AOp.q (Quiet.lt (xs := [.const (.int .i64 2)]) (T := tInt) (ds := [2]) rfl rfl rfl (by rfl) (by decide) (fits_lits [2] (okI_list (by decide)))) ?_)
  refine sNt (hk := ?_)
  refine aSeq_t rfl (AOp.q (r := .agg (encIns e18I3)) (Quiet.bld rfl plIns rfl rfl) ?_)
  refine sNt (hk := ?_)
  refine aSeq_t rfl (AOp.q (r := .agg (encIns0 e18I4)) (Quiet.bld rfl plIns rfl rfl) ?_)
  refine sNt (hk := ?_)
  refine aSeq_t rfl (AOp.q (r := .agg (encIns0 e18I5)) (Quiet.bld rfl plIns rfl rfl) ?_)
  refine sNt (hk := ?_)
  refine aSeq_t rfl (AOp.q (r := .agg (encIns0 e18I6)) (Quiet.bld rfl plIns rfl rfl) ?_)
  refine sNt (hk := ?_)
  refine aSeq_t rfl (AOp.q (Quiet.lt (xs := [.tmp 1, .tmp 2, .tmp 3, .tmp 5, .tmp 6, .tmp 7, .tmp 8]) (T := tIns) (ds := e18L) rfl rfl rfl (by rfl) (by decide) (.cons (Fit.agg fun _ _ _ _ h => put_ins0 (okI18 (by decide +kernel)) rfl h) (.cons (Fit.agg fun _ _ _ _ h => put_ins0 (okI18 (by decide +kernel)) rfl h) (.cons (Fit.agg fun _ _ _ _ h => put_ins0 (okI18 (by decide +kernel)) rfl h) (.cons (Fit.agg fun _ _ _ _ h => put_ins e18I3_ok h) (.cons (Fit.agg fun _ _ _ _ h => put_ins0 (okI18 (by decide +kernel)) rfl h) (.cons (Fit.agg fun _ _ _ _ h => put_ins0 (okI18 (by decide +kernel)) rfl h) (.cons (Fit.agg fun _ _ _ _ h => put_ins0 (okI18 (by decide +kernel)) rfl h) .nil)))))))) ?_)
  refine sNt (hk := ?_)
  refine aSeq_t rfl (AOp.q (r := .agg (encBlock e18B)) (Quiet.bld rfl plBlock rfl rfl) ?_)
  refine sNt (hk := ?_)
  refine aSeq_t rfl (AOp.q (Quiet.lt (xs := [.tmp 10]) (T := tBlock) (ds := [e18B]) rfl rfl rfl (by rfl) (by decide) (.cons (Fit.agg fun _ _ _ _ h => put_block noName_ok h) .nil)) ?_)
  refine sNt (hk := ?_)
  refine aSeq_t rfl (AOp.q (r := .agg (encFunc e18F)) (Quiet.bld rfl plFunc rfl rfl) ?_)
  refine sNt (hk := ?_)
  (first | refine sQ (hk := ?_) | refine sSkip (hk := ?_) | refine sOwn (hk := ?_))
  refine aSeq_nil ?_
  refine h2 _ ?_
  refine nT (hk := ?_)
  refine Awp.ret ?_
  refine ⟨⟨.inr rfl, 0, _, rfl, rfl, Fin.cl rfl⟩, fun i cells h1 h2 => ?_⟩
  have : i = 0 := by injection h1 with h1; exact h1.symm
  subst this
  injection h2 with h2
  injection h2 with h2
  rw [← h2]
  rfl

/-! ### rows of pairs, plainly -/
theorem beqP_self (x : Pair) : ((x.a == x.a) && ((x.b == x.b) && true)) = true := by simp
theorem inBd_nat {α : Type} {l : List α} {k : Nat} (h : k < l.length) : inBd l (k : Int) = true := inB_iff.2 ⟨by omega, by rw [Int.toNat_natCast]; exact h⟩
theorem i64n {k n : Nat} (hk : k < n) (hn : n ≤ 4611686018427387904) : IntKind.i64.wrap ((k : Int) + 1) = ((k + 1 : Nat) : Int) := by rw [IntWalk.i64_in _ ⟨by omega, by omega⟩]; omega
theorem same18_self (l : List Pair) (hn : l.length ≤ 4611686018427387904) : (r18_Same l l).to true := by
  unfold r18_Same
  refine M.f_to (by simp) (M.els_l (a := ()) ?_ (M.ok_to _))
  refine M.loop_for (step := r18_Same_L9 l l) (fun k => (k : Int)) l.length (fun k hk => ?_) ?_ (j := 0) (Nat.zero_le _)
  · unfold r18_Same_L9
    refine M.t_to (decide_eq_true (by omega)) (M.chk_to (inBd_nat hk) (M.chk_to (inBd_nat hk) (M.f_to ?_ ?_)))
    · rw [beqP_self]; rfl
    · rw [i64n hk hn]
      exact M.ok_to _
  · unfold r18_Same_L9
    exact M.f_to (decide_eq_false (by omega)) (M.ok_to _)
/-! ### the head -/
def ed18 : List Pair := [⟨0, 1⟩, ⟨0, 3⟩, ⟨0, 4⟩, ⟨1, 2⟩, ⟨1, 3⟩]
theorem e18_edges : edgesL e18F = ed18 := by decide +kernel
theorem e18_moves : mvL e18F = [⟨0, 2⟩] := by decide +kernel
theorem e18_cross : crossL e18F = [0, 1] := by decide +kernel
theorem e18_near : nearL e18F 1 = [0, 2, 3] := by decide +kernel
theorem fitP {h : List ABlk} {x : Pair} (hk : okPairB x = true) : Fit h tPair (.agg (encPair x)) x := fit_Pair hk
set_option maxRecDepth 100000 in
set_option maxHeartbeats 4000000 in
theorem head18_fn : Fn Tryz.prog 7 [] (.lit (.bool true)) := by
  have c := e18_fine
  have hE := edges_fn e18F c.ok c.small c.reads c.all c.ins
  have hM := moves_fn e18F c.ok c.small c.reads c.all c.ins
  have hC' := cross_fn e18F c.ok c.small c.reads c.ins
  have hN := near_fn e18F 1 c.ok c.small c.reads c.all c.ins
  rw [e18_edges] at hE
  rw [e18_moves] at hM
  rw [e18_cross] at hC'
  rw [e18_near] at hN
  have hs1 := r18_Same_l (same18_self ed18 (by decide))
  have hs2 := r18_Same_l (same18_self [⟨0, 2⟩] (by decide))
  have hs3 := same_fn [0, 1] [0, 1] (by decide)
  have hs4 := same_fn [0, 2, 3] [0, 2, 3] (by decide)
  rw [decide_eq_true rfl] at hs3 hs4
  refine Fn.of_awp Tryz.func7 rfl (by kernel_rfl) rfl Tryz.ntmps7 fun C hC => ?_
  simp only [List.length_nil, Nat.sub_zero, List.replicate_succ, List.replicate_zero, List.nil_append]
  refine Awp.seq fun K1 h1 => ?_
  (refine Awp.region ?_; (repeat (first | refine sQ (hk := ?_) | refine sSkip (hk := ?_) | refine sOwn (hk := ?_))); refine aSeq_nil ?_)
  refine h1 _ ?_
  refine nT (hk := ?_)
  refine Awp.seq fun K2 h2 => ?_
  (refine Awp.region ?_; (repeat (first | refine sQ (hq := Quiet.call rfl example18_fn rfl rfl rfl) (hk := ?_) | refine sQ (hk := ?_) | refine sSkip (hk := ?_) | refine sOwn (hk := ?_))); refine aSeq_nil ?_)
  refine h2 _ ?_
  refine nT (hk := ?_)
  refine Awp.seq fun K3 h3 => ?_
  (refine Awp.region ?_; (repeat (first | refine sQ (hq := Quiet.call rfl hE rfl rfl rfl) (hk := ?_) | refine sQ (hq := Quiet.call rfl hs1 rfl rfl rfl) (hk := ?_) | refine sQ (hq := Quiet.call rfl hM rfl rfl rfl) (hk := ?_) | refine sQ (hq := Quiet.call rfl hs2 rfl rfl rfl) (hk := ?_) | refine sQ (hq := Quiet.call rfl hC' rfl rfl rfl) (hk := ?_) | refine sQ (hq := Quiet.call rfl hs3 rfl rfl rfl) (hk := ?_) | refine sQ (hq := Quiet.call rfl hN rfl rfl rfl) (hk := ?_) | refine sQ (hq := Quiet.call rfl hs4 rfl rfl rfl) (hk := ?_) | refine sQ (hq := Quiet.lt (xs := [.tmp 5, .tmp 6, .tmp 7, .tmp 8, .tmp 9]) (T := tPair) (ds := ed18) rfl rfl rfl (by rfl) (by decide) (.cons (fitP (by decide)) (.cons (fitP (by decide)) (.cons (fitP (by decide)) (.cons (fitP (by decide)) (.cons (fitP (by decide)) .nil)))))) (hk := ?_) | refine sQ (hq := Quiet.lt (xs := [.tmp 15]) (T := tPair) (ds := [⟨0, 2⟩]) rfl rfl rfl (by rfl) (by decide) (.cons (fitP (by decide)) .nil)) (hk := ?_) | refine sQ (hq := Quiet.lt (xs := [.const (.int .i64 0), .const (.int .i64 1)]) (T := tInt) (ds := [0, 1]) rfl rfl rfl (by rfl) (by decide) (fits_lits [0, 1] (okI_list (by decide)))) (hk := ?_) | refine sQ (hq := Quiet.lt (xs := [.const (.int .i64 0), .const (.int .i64 2), .const (.int .i64 3)]) (T := tInt) (ds := [0, 2, 3]) rfl rfl rfl (by rfl) (by decide) (fits_lits [0, 2, 3] (okI_list (by decide)))) (hk := ?_) | refine sQ (hq := Quiet.bld (rs := encPair ⟨0, 1⟩) rfl plPair rfl rfl) (hk := ?_) | refine sQ (hq := Quiet.bld (rs := encPair ⟨0, 3⟩) rfl plPair rfl rfl) (hk := ?_) | refine sQ (hq := Quiet.bld (rs := encPair ⟨0, 4⟩) rfl plPair rfl rfl) (hk := ?_) | refine sQ (hq := Quiet.bld (rs := encPair ⟨1, 2⟩) rfl plPair rfl rfl) (hk := ?_) | refine sQ (hq := Quiet.bld (rs := encPair ⟨1, 3⟩) rfl plPair rfl rfl) (hk := ?_) | refine sQ (hq := Quiet.bld (rs := encPair ⟨0, 2⟩) rfl plPair rfl rfl) (hk := ?_) | refine sQ (hk := ?_) | refine sSkip (hk := ?_) | refine sOwn (hk := ?_))); refine aSeq_nil ?_)
  refine h3 _ ?_
  refine nT (hk := ?_)
  refine Awp.ret ?_
  exact ⟨.inr rfl, Fin.cl rfl⟩
def law18_head : M Bool := M.ok true
theorem law18_head_l {r : Bool} (H : law18_head.to r) : Fn Tryz.prog 7 [] (.lit (.bool r)) := by
  obtain rfl := M.to_ok.1 H
  exact head18_fn
end Mu
end
section
/-
  Which pairs part, and which registers cross, of a function with an instruction more, and at each call: plain law.
  Conditions: none.
-/
namespace Mu
open Go Go.RowKit Go.Proofs

theorem mem_steps {f : Func} {q : Ins × List Int} : q ∈ stepsL f ↔ ∃ b i, b < f.blocks.length ∧ (insOf f b)[i]? = some q.1 ∧ q.2 = placeL f (regsL f) b (i + 1) := by
  constructor
  · intro h
    unfold stepsL at h
    obtain ⟨b, hb, hq⟩ := List.mem_flatMap.1 h
    obtain ⟨i, hi⟩ := List.mem_iff_getElem?.1 hq
    unfold stepsB at hi
    obtain ⟨h1, h2⟩ := List.getElem?_zip_eq_some.1 hi
    rw [List.getElem?_drop, Nat.add_comm] at h2
    unfold blockL at h2
    rw [List.getElem?_map] at h2
    obtain ⟨k, h3, h4⟩ := Option.map_eq_some_iff.1 h2
    have h5 := (List.getElem?_eq_some_iff.1 h3).1
    rw [List.length_range] at h5
    rw [List.getElem?_range h5] at h3
    cases h3
    exact ⟨b, i, List.mem_range.1 hb, h1, h4.symm⟩
  · rintro ⟨b, i, hb, hx, hl⟩
    have hi := (List.getElem?_eq_some_iff.1 hx).1
    refine List.mem_of_getElem? (stepsL_at hb hx (l := q.2) ?_)
    unfold blockL
    rw [List.getElem?_map, List.getElem?_range (by omega), hl]
    rfl
theorem mem_edgeA {q : Ins × List Int} {x : Pair} : x ∈ edgeA q ↔ ∃ r ∈ q.2, edgeR q r = true ∧ x ∈ pairOf q.1.d r := by
  unfold edgeA
  simp only [List.mem_flatMap, List.mem_filter, and_assoc]
theorem pairOf_self (a : Int) : pairOf a a = [] := if_pos rfl
theorem pairOf_comm (a b : Int) : pairOf a b = pairOf b a := by
  unfold pairOf
  rw [Int.min_comm, Int.max_comm]
  by_cases h : a = b
  · rw [if_pos h, if_pos h.symm]
  · rw [if_neg h, if_neg (Ne.symm h)]
theorem mem_edgeF {l : List Int} {x : Pair} : x ∈ edgeF l ↔ ∃ a ∈ l, ∃ b ∈ l, x ∈ pairOf a b := by
  have key : ∀ (i j : Nat) (a b : Int), j < i → l[i]? = some a → l[j]? = some b → x ∈ pairOf a b → x ∈ edgeF l := fun i j a b hji ha hb hx => by
    unfold edgeF
    refine List.mem_flatMap.2 ⟨i, List.mem_range.2 (List.getElem?_eq_some_iff.1 ha).1, List.mem_flatMap.2 ⟨b, ?_, by rw [ha]; exact hx⟩⟩
    exact List.mem_of_getElem? (i := j) (by rw [List.getElem?_take, if_pos hji]; exact hb)
  constructor
  · intro h
    unfold edgeF at h
    obtain ⟨i, hi, h⟩ := List.mem_flatMap.1 h
    obtain ⟨b, hb, h⟩ := List.mem_flatMap.1 h
    have hi := List.mem_range.1 hi
    rw [List.getElem?_eq_getElem hi] at h
    exact ⟨_, List.getElem_mem hi, b, List.mem_of_mem_take hb, h⟩
  · rintro ⟨a, ha, b, hb, hx⟩
    obtain ⟨i, hi⟩ := List.mem_iff_getElem?.1 ha
    obtain ⟨j, hj⟩ := List.mem_iff_getElem?.1 hb
    rcases Nat.lt_trichotomy i j with h | h | h
    · exact key j i b a h hj hi (by rw [pairOf_comm]; exact hx)
    · subst h
      rw [hi] at hj
      cases hj
      rw [pairOf_self] at hx
      cases hx
    · exact key i j a b h hi hj hx
theorem edgesS_iff {f : Func} {x : Pair} : edgesS f x = true ↔ (∃ q ∈ stepsL f, x ∈ edgeA q) ∨ x ∈ edgeF (firstL f) := by
  unfold edgesS edgeK
  rw [addPL_iff, addPL_iff, List.take_length, List.mem_flatMap]
  simp
theorem movesS_iff {f : Func} {x : Pair} : mvK f (stepsL f).length x = true ↔ ∃ q ∈ stepsL f, x ∈ mvA q := by
  unfold mvK
  rw [addPL_iff, List.take_length, List.mem_flatMap]
  simp
/-! ### from both sides -/
/-! ### an instruction more -/
section
variable {f : Func} {b : Nat} {bl : Block} {x : Ins} (hb : f.blocks[b]? = some bl) (hne : bl.ins ≠ []) (hw : writesB x = false)
include hb hne hw
end
end Mu
end
section
/-
  muntinlaw17: LiveMore, LiveCuts, walked.
  Conditions: at most 1500000 of everything.
-/
namespace Mu
open Go Go.RowKit Go.Proofs
section
variable {P : Program} {C : Ctx} {t : List AV} {h : List ABlk} {o : Oper}
end
end Mu
end
section
/-
  bound.Hints, walked.
  Conditions: at most 2^21 of everything.
-/
namespace Mu
open Go Go.RowKit Go.Proofs

end Mu
end
section
/-
  What a bulk of at most 2^21 gives of a program and its functions, for the Bound laws.
  Conditions: none.
-/
namespace Mu
open Go Go.RowKit Go.Proofs
theorem regs_ins (l : List Ins) : (l.flatMap regsX).length ≤ bulkL tIns.bulk l := by
  induction l with
  | nil => simp [bulkL]
  | cons x l ih =>
    have h1 := readsC_len2 x
    have h2 := bulk_ins x
    have h3 := bulkL_length one_int x.args
    have h4 : (regsX x).length ≤ (readsC x).length + 1 := by
      unfold regsX
      rw [List.length_append]
      split <;> simp
    simp only [List.flatMap_cons, List.length_append, bulkL]
    omega
theorem regs_blocks (l : List Block) : (l.flatMap fun b => b.ins.flatMap regsX).length ≤ bulkL tBlock.bulk l := by
  induction l with
  | nil => simp [bulkL]
  | cons b l ih =>
    have h1 := regs_ins b.ins
    have h2 := bulk_block b
    simp only [List.flatMap_cons, List.length_append, bulkL]
    omega
theorem allX_func {f : Func} (h : tFunc.bulk f ≤ 2097152) : (allX f).length ≤ 2097152 := by
  have h1 := regs_blocks f.blocks
  have h2 := bulk_func f
  have e : (allX f).length = (f.blocks.flatMap fun b => b.ins.flatMap regsX).length := rfl
  omega
end Mu
end
