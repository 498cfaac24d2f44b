/-
  Own texts laid together, part 4: MuR02, MuR31, MuLstA, MuLiftG, MuImgR, MuLstB, MuLstC.
  Conditions: as each part says.
-/
import Derived.Test.YtpippebmbphhfaaDoorIr3
section
/-
  muntinref02: what its functions compute.
  Conditions: none.
-/
namespace Mu
open Go Go.RowKit Go.Proofs

def r02_Kind (op : Int) : M Int := M.cnd (((decide (op ≥ 1)) && (decide (op ≤ 14))) || ((decide (op ≥ 19)) && (decide (op ≤ 25)))) (M.ok 1) (M.bnd (M.cnd (op == 16) (M.ok (op == 16)) (M.cnd (op == 27) (M.ok (op == 27)) (M.ok (op == 29)))) fun x4 => M.cnd x4 (M.ok 2) (M.cnd (op == 15) (M.ok 3) (M.cnd (op == 17) (M.ok 4) (M.cnd (op == 18) (M.ok 5) (M.bnd (M.cnd (op == 26) (M.ok (op == 26)) (M.cnd (op == 28) (M.ok (op == 28)) (M.ok (op == 34)))) fun x12 => M.cnd x12 (M.ok 6) (M.cnd (op == 30) (M.ok 7) (M.cnd (op == 31) (M.ok 8) (M.cnd (op == 33) (M.ok 9) (M.bnd (M.cnd (op == 35) (M.ok (op == 35)) (M.ok (op == 36))) fun x20 => M.cnd x20 (M.ok 10) (M.cnd (op == 37) (M.ok 11) (M.cnd (op == 32) (M.ok 12) (M.ok 0))))))))))))
set_option maxRecDepth 100000 in
set_option maxHeartbeats 4000000 in
theorem r02_Kind_l {op : Int} {r : Int} (H : (r02_Kind op).to r) : Fn Tryd.prog 69 [.lit (.int .u8 op)] (.lit (.int .i64 r)) := by
  delta r02_Kind at H
  try dsimp only at H
  refine Fn.of_awp Tryd.func69 rfl (by kernel_rfl) rfl Tryd.ntmps69 fun C hC => ?_
  simp only [List.length_cons, List.length_nil, Nat.reduceAdd, Nat.reduceSub, List.replicate_succ, List.replicate_zero, List.cons_append, List.nil_append]
  refine wR (hx := by (refine sA (hq := Quiet.assign rfl getC) (ht := set2) (hk := ?_); exact wEnd rfl)) (hk := ?_)
  refine Awp.seq fun Khs1 hs1 => ?_
  refine wR (hx := by (refine sA (hq := Quiet.move rfl get0) (ht := set3) (hk := ?_); refine sA (hq := Quiet.bin rfl get3 getC rfl) (ht := set4) (hk := ?_); refine sA (hq := Quiet.move rfl get4) (ht := set5) (hk := ?_); refine sG (g := (decide (op ≥ 1))) (hg := gA_t rfl) (hq := fun hg => Quiet.move rfl get0) (ht := set6) (hk := ?_); refine sG (g := (decide (op ≥ 1))) (hg := gA_t rfl) (hq := fun hg => Quiet.bin rfl (get6.trans (cndT hg _ _)) getC rfl) (ht := set7) (hk := ?_); refine sA (hq := Quiet.pickAndB rfl get5 get7 getC) (ht := (setS8 set0)) (hk := ?_); refine sA (hq := Quiet.move rfl (getS8 get0)) (ht := (setS8 set1)) (hk := ?_); refine sG (g := (!((decide (op ≥ 1)) && (decide (op ≤ 14))))) (hg := gA_f rfl) (hq := fun hg => Quiet.move rfl get0) (ht := (setS8 set2)) (hk := ?_); refine sG (g := (!((decide (op ≥ 1)) && (decide (op ≤ 14))))) (hg := gA_f rfl) (hq := fun hg => Quiet.bin rfl ((getS8 get2).trans (cndT hg _ _)) getC rfl) (ht := (setS8 set3)) (hk := ?_); refine sG (g := (!((decide (op ≥ 1)) && (decide (op ≤ 14))))) (hg := gA_f rfl) (hq := fun hg => Quiet.move rfl ((getS8 get3).trans (cndT hg _ _))) (ht := (setS8 set4)) (hk := ?_); refine sG (g := ((!((decide (op ≥ 1)) && (decide (op ≤ 14)))) && (decide (op ≥ 19)))) (hg := gA_tc rfl rfl) (hq := fun hg => by (have hg' := and_l hg; exact Quiet.move rfl get0)) (ht := (setS8 set5)) (hk := ?_); refine sG (g := ((!((decide (op ≥ 1)) && (decide (op ≤ 14)))) && (decide (op ≥ 19)))) (hg := gA_tc rfl rfl) (hq := fun hg => by (have hg' := and_l hg; exact Quiet.bin rfl ((getS8 get5).trans (cndT hg _ _)) getC rfl)) (ht := (setS8 set6)) (hk := ?_); refine sG (g := (!((decide (op ≥ 1)) && (decide (op ≤ 14))))) (hg := gA_f rfl) (hq := fun hg => Quiet.pickAndB rfl ((getS8 get4).trans (cndT hg _ _)) ((getS8 get6).trans (cndA hg _ _)) getC) (ht := (setS8 set7)) (hk := ?_); refine sA (hq := Quiet.pickOrB rfl (getS8 get1) getC (getS8 get7)) (ht := (setS8 (setS8 set0))) (hk := ?_); exact wEnd rfl)) (hk := ?_)
  refine Awp.cond rfl (fun hb2 => ?_) (fun hb2 => ?_)
  · have H := M.to_t hb2 H
    refine wR (hx := by (refine sA (hq := Quiet.assign rfl getC) (ht := set2) (hk := ?_); exact wEnd rfl)) (hk := ?_)
    obtain rfl := M.to_ok.1 H
    exact Awp.ret ⟨.inr rfl, Fin.cl rfl⟩
  · have H := M.to_f hb2 H
    refine Awp.skip ?_
    refine hs1 _ ?_
    refine nT (hk := ?_)
    refine Awp.seq fun Khs3 hs3 => ?_
    refine wR (hx := by (refine sA (hq := Quiet.move rfl get0) (ht := (setS8 (setS8 set1))) (hk := ?_); exact wEnd rfl)) (hk := ?_)
    refine Awp.block ?_
    obtain ⟨z5, HX5, Hl5⟩ := M.to_bnd.1 H
    refine Awp.seqJ (β := (Bool) × (Unit)) (fun q5 => z5 = q5.1) (fun q5 => ⟨[.any, .any, .any, .any, .any, .any, .any, .any, .any, .any, .any, .any, .any, .any, .any, .any, .any, .lit (.int .u8 op), .lit (.bool q5.1), .any, .any, .any, .any, .any, .any, .any, .any, .any, .any, .any, .any, .any, .any, .any, .any, .any, .any, .any, .any, .any, .any, .any, .any, .any, .any], []⟩) ?_ ?_
    · have H := HX5
      refine wR (hx := by (refine sA (hq := Quiet.bin rfl (getS8 (getS8 get1)) getC rfl) (ht := (setS8 (setS8 set3))) (hk := ?_); refine sA (hq := Quiet.assign rfl (getS8 (getS8 get3))) (ht := (setS8 (setS8 set2))) (hk := ?_); exact wEnd rfl)) (hk := ?_)
      refine Awp.cond rfl (fun hb6 => ?_) (fun hb6 => ?_)
      · have H := M.to_t hb6 H
        refine Awp.skip ?_
        have e5 := M.to_ok.1 H
        repeat (first | refine abN ?_ | refine asN ?_)
        refine athen_n ⟨(_, ()), e5.symm, ?_⟩
        try dsimp only
        exact le_TA
      · have H := M.to_f hb6 H
        refine wR (hx := by (refine sA (hq := Quiet.bin rfl (getS8 (getS8 get1)) getC rfl) (ht := (setS8 (setS8 set4))) (hk := ?_); refine sA (hq := Quiet.assign rfl (getS8 (getS8 get4))) (ht := (setS8 (setS8 set2))) (hk := ?_); exact wEnd rfl)) (hk := ?_)
        refine Awp.cond rfl (fun hb7 => ?_) (fun hb7 => ?_)
        · have H := M.to_t hb7 H
          refine Awp.skip ?_
          have e5 := M.to_ok.1 H
          repeat (first | refine abN ?_ | refine asN ?_)
          refine athen_n ⟨(_, ()), e5.symm, ?_⟩
          try dsimp only
          exact le_TA
        · have H := M.to_f hb7 H
          refine wRE (hx := by (refine sA (hq := Quiet.bin rfl (getS8 (getS8 get1)) getC rfl) (ht := (setS8 (setS8 set5))) (hk := ?_); refine sA (hq := Quiet.assign rfl (getS8 (getS8 get5))) (ht := (setS8 (setS8 set2))) (hk := ?_); exact wEnd rfl)) (hk := ?_)
          have e5 := M.to_ok.1 H
          repeat (first | refine abN ?_ | refine asN ?_)
          refine athen_n ⟨(_, ()), e5.symm, ?_⟩
          try dsimp only
          exact le_TA
    · rintro ⟨x4, _⟩ hz5
      try dsimp only at hz5
      have H := Hl5
      rw [hz5] at H
      try dsimp only
      refine Awp.cond rfl (fun hb8 => ?_) (fun hb8 => ?_)
      · have H := M.to_t hb8 H
        refine wR (hx := by (refine sA (hq := Quiet.assign rfl getC) (ht := set2) (hk := ?_); exact wEnd rfl)) (hk := ?_)
        obtain rfl := M.to_ok.1 H
        exact Awp.ret ⟨.inr rfl, Fin.cl rfl⟩
      · have H := M.to_f hb8 H
        refine wR (hx := by (refine sA (hq := Quiet.bin rfl (getS8 (getS8 get1)) getC rfl) (ht := (setS8 (setS8 set7))) (hk := ?_); refine sA (hq := Quiet.assign rfl (getS8 (getS8 get7))) (ht := (setS8 (setS8 set6))) (hk := ?_); exact wEnd rfl)) (hk := ?_)
        refine Awp.cond rfl (fun hb9 => ?_) (fun hb9 => ?_)
        · have H := M.to_t hb9 H
          refine wR (hx := by (refine sA (hq := Quiet.assign rfl getC) (ht := set2) (hk := ?_); exact wEnd rfl)) (hk := ?_)
          obtain rfl := M.to_ok.1 H
          exact Awp.ret ⟨.inr rfl, Fin.cl rfl⟩
        · have H := M.to_f hb9 H
          refine wR (hx := by (refine sA (hq := Quiet.bin rfl (getS8 (getS8 get1)) getC rfl) (ht := (setS8 (setS8 (setS8 set1)))) (hk := ?_); refine sA (hq := Quiet.assign rfl (getS8 (getS8 (getS8 get1)))) (ht := (setS8 (setS8 (setS8 set0)))) (hk := ?_); exact wEnd rfl)) (hk := ?_)
          refine Awp.cond rfl (fun hb10 => ?_) (fun hb10 => ?_)
          · have H := M.to_t hb10 H
            refine wR (hx := by (refine sA (hq := Quiet.assign rfl getC) (ht := set2) (hk := ?_); exact wEnd rfl)) (hk := ?_)
            obtain rfl := M.to_ok.1 H
            exact Awp.ret ⟨.inr rfl, Fin.cl rfl⟩
          · have H := M.to_f hb10 H
            refine wR (hx := by (refine sA (hq := Quiet.bin rfl (getS8 (getS8 get1)) getC rfl) (ht := (setS8 (setS8 (setS8 set3)))) (hk := ?_); refine sA (hq := Quiet.assign rfl (getS8 (getS8 (getS8 get3)))) (ht := (setS8 (setS8 (setS8 set2)))) (hk := ?_); exact wEnd rfl)) (hk := ?_)
            refine Awp.cond rfl (fun hb11 => ?_) (fun hb11 => ?_)
            · have H := M.to_t hb11 H
              refine wR (hx := by (refine sA (hq := Quiet.assign rfl getC) (ht := set2) (hk := ?_); exact wEnd rfl)) (hk := ?_)
              obtain rfl := M.to_ok.1 H
              exact Awp.ret ⟨.inr rfl, Fin.cl rfl⟩
            · have H := M.to_f hb11 H
              obtain ⟨z13, HX13, Hl13⟩ := M.to_bnd.1 H
              refine Awp.seqJ (β := (Bool) × (Unit)) (fun q13 => z13 = q13.1) (fun q13 => ⟨[.any, .any, .any, .any, .any, .any, .any, .any, .any, .any, .any, .any, .any, .any, .any, .any, .any, .lit (.int .u8 op), .any, .any, .any, .any, .any, .any, .any, .any, .any, .any, .lit (.bool q13.1), .any, .any, .any, .any, .any, .any, .any, .any, .any, .any, .any, .any, .any, .any, .any, .any], []⟩) ?_ ?_
              · have H := HX13
                refine wR (hx := by (refine sA (hq := Quiet.bin rfl (getS8 (getS8 get1)) getC rfl) (ht := (setS8 (setS8 (setS8 set5)))) (hk := ?_); refine sA (hq := Quiet.assign rfl (getS8 (getS8 (getS8 get5)))) (ht := (setS8 (setS8 (setS8 set4)))) (hk := ?_); exact wEnd rfl)) (hk := ?_)
                refine Awp.cond rfl (fun hb14 => ?_) (fun hb14 => ?_)
                · have H := M.to_t hb14 H
                  refine Awp.skip ?_
                  have e13 := M.to_ok.1 H
                  repeat (first | refine abN ?_ | refine asN ?_)
                  refine athen_n ⟨(_, ()), e13.symm, ?_⟩
                  try dsimp only
                  exact le_TA
                · have H := M.to_f hb14 H
                  refine wR (hx := by (refine sA (hq := Quiet.bin rfl (getS8 (getS8 get1)) getC rfl) (ht := (setS8 (setS8 (setS8 set6)))) (hk := ?_); refine sA (hq := Quiet.assign rfl (getS8 (getS8 (getS8 get6)))) (ht := (setS8 (setS8 (setS8 set4)))) (hk := ?_); exact wEnd rfl)) (hk := ?_)
                  refine Awp.cond rfl (fun hb15 => ?_) (fun hb15 => ?_)
                  · have H := M.to_t hb15 H
                    refine Awp.skip ?_
                    have e13 := M.to_ok.1 H
                    repeat (first | refine abN ?_ | refine asN ?_)
                    refine athen_n ⟨(_, ()), e13.symm, ?_⟩
                    try dsimp only
                    exact le_TA
                  · have H := M.to_f hb15 H
                    refine wRE (hx := by (refine sA (hq := Quiet.bin rfl (getS8 (getS8 get1)) getC rfl) (ht := (setS8 (setS8 (setS8 set7)))) (hk := ?_); refine sA (hq := Quiet.assign rfl (getS8 (getS8 (getS8 get7)))) (ht := (setS8 (setS8 (setS8 set4)))) (hk := ?_); exact wEnd rfl)) (hk := ?_)
                    have e13 := M.to_ok.1 H
                    repeat (first | refine abN ?_ | refine asN ?_)
                    refine athen_n ⟨(_, ()), e13.symm, ?_⟩
                    try dsimp only
                    exact le_TA
              · rintro ⟨x12, _⟩ hz13
                try dsimp only at hz13
                have H := Hl13
                rw [hz13] at H
                try dsimp only
                refine Awp.cond rfl (fun hb16 => ?_) (fun hb16 => ?_)
                · have H := M.to_t hb16 H
                  refine wR (hx := by (refine sA (hq := Quiet.assign rfl getC) (ht := set2) (hk := ?_); exact wEnd rfl)) (hk := ?_)
                  obtain rfl := M.to_ok.1 H
                  exact Awp.ret ⟨.inr rfl, Fin.cl rfl⟩
                · have H := M.to_f hb16 H
                  refine wR (hx := by (refine sA (hq := Quiet.bin rfl (getS8 (getS8 get1)) getC rfl) (ht := (setS32 set1)) (hk := ?_); refine sA (hq := Quiet.assign rfl (getS32 get1)) (ht := (setS32 set0)) (hk := ?_); exact wEnd rfl)) (hk := ?_)
                  refine Awp.cond rfl (fun hb17 => ?_) (fun hb17 => ?_)
                  · have H := M.to_t hb17 H
                    refine wR (hx := by (refine sA (hq := Quiet.assign rfl getC) (ht := set2) (hk := ?_); exact wEnd rfl)) (hk := ?_)
                    obtain rfl := M.to_ok.1 H
                    exact Awp.ret ⟨.inr rfl, Fin.cl rfl⟩
                  · have H := M.to_f hb17 H
                    refine wR (hx := by (refine sA (hq := Quiet.bin rfl (getS8 (getS8 get1)) getC rfl) (ht := (setS32 set3)) (hk := ?_); refine sA (hq := Quiet.assign rfl (getS32 get3)) (ht := (setS32 set2)) (hk := ?_); exact wEnd rfl)) (hk := ?_)
                    refine Awp.cond rfl (fun hb18 => ?_) (fun hb18 => ?_)
                    · have H := M.to_t hb18 H
                      refine wR (hx := by (refine sA (hq := Quiet.assign rfl getC) (ht := set2) (hk := ?_); exact wEnd rfl)) (hk := ?_)
                      obtain rfl := M.to_ok.1 H
                      exact Awp.ret ⟨.inr rfl, Fin.cl rfl⟩
                    · have H := M.to_f hb18 H
                      refine wR (hx := by (refine sA (hq := Quiet.bin rfl (getS8 (getS8 get1)) getC rfl) (ht := (setS32 set5)) (hk := ?_); refine sA (hq := Quiet.assign rfl (getS32 get5)) (ht := (setS32 set4)) (hk := ?_); exact wEnd rfl)) (hk := ?_)
                      refine Awp.cond rfl (fun hb19 => ?_) (fun hb19 => ?_)
                      · have H := M.to_t hb19 H
                        refine wR (hx := by (refine sA (hq := Quiet.assign rfl getC) (ht := set2) (hk := ?_); exact wEnd rfl)) (hk := ?_)
                        obtain rfl := M.to_ok.1 H
                        exact Awp.ret ⟨.inr rfl, Fin.cl rfl⟩
                      · have H := M.to_f hb19 H
                        obtain ⟨z21, HX21, Hl21⟩ := M.to_bnd.1 H
                        refine Awp.seqJ (β := (Bool) × (Unit)) (fun q21 => z21 = q21.1) (fun q21 => ⟨[.any, .any, .any, .any, .any, .any, .any, .any, .any, .any, .any, .any, .any, .any, .any, .any, .any, .lit (.int .u8 op), .any, .any, .any, .any, .any, .any, .any, .any, .any, .any, .any, .any, .any, .any, .any, .any, .any, .any, .any, .any, .lit (.bool q21.1), .any, .any, .any, .any, .any, .any], []⟩) ?_ ?_
                        · have H := HX21
                          refine wR (hx := by (refine sA (hq := Quiet.bin rfl (getS8 (getS8 get1)) getC rfl) (ht := (setS32 set7)) (hk := ?_); refine sA (hq := Quiet.assign rfl (getS32 get7)) (ht := (setS32 set6)) (hk := ?_); exact wEnd rfl)) (hk := ?_)
                          refine Awp.cond rfl (fun hb22 => ?_) (fun hb22 => ?_)
                          · have H := M.to_t hb22 H
                            refine Awp.skip ?_
                            have e21 := M.to_ok.1 H
                            repeat (first | refine abN ?_ | refine asN ?_)
                            refine athen_n ⟨(_, ()), e21.symm, ?_⟩
                            try dsimp only
                            exact le_TA
                          · have H := M.to_f hb22 H
                            refine wRE (hx := by (refine sA (hq := Quiet.bin rfl (getS8 (getS8 get1)) getC rfl) (ht := (setS32 (setS8 set0))) (hk := ?_); refine sA (hq := Quiet.assign rfl (getS32 (getS8 get0))) (ht := (setS32 set6)) (hk := ?_); exact wEnd rfl)) (hk := ?_)
                            have e21 := M.to_ok.1 H
                            repeat (first | refine abN ?_ | refine asN ?_)
                            refine athen_n ⟨(_, ()), e21.symm, ?_⟩
                            try dsimp only
                            exact le_TA
                        · rintro ⟨x20, _⟩ hz21
                          try dsimp only at hz21
                          have H := Hl21
                          rw [hz21] at H
                          try dsimp only
                          refine Awp.cond rfl (fun hb23 => ?_) (fun hb23 => ?_)
                          · have H := M.to_t hb23 H
                            refine wR (hx := by (refine sA (hq := Quiet.assign rfl getC) (ht := set2) (hk := ?_); exact wEnd rfl)) (hk := ?_)
                            obtain rfl := M.to_ok.1 H
                            exact Awp.ret ⟨.inr rfl, Fin.cl rfl⟩
                          · have H := M.to_f hb23 H
                            refine wR (hx := by (refine sA (hq := Quiet.bin rfl (getS8 (getS8 get1)) getC rfl) (ht := (setS32 (setS8 set2))) (hk := ?_); refine sA (hq := Quiet.assign rfl (getS32 (getS8 get2))) (ht := (setS32 (setS8 set1))) (hk := ?_); exact wEnd rfl)) (hk := ?_)
                            refine Awp.cond rfl (fun hb24 => ?_) (fun hb24 => ?_)
                            · have H := M.to_t hb24 H
                              refine wR (hx := by (refine sA (hq := Quiet.assign rfl getC) (ht := set2) (hk := ?_); exact wEnd rfl)) (hk := ?_)
                              obtain rfl := M.to_ok.1 H
                              exact Awp.ret ⟨.inr rfl, Fin.cl rfl⟩
                            · have H := M.to_f hb24 H
                              refine wR (hx := by (refine sA (hq := Quiet.bin rfl (getS8 (getS8 get1)) getC rfl) (ht := (setS32 (setS8 set4))) (hk := ?_); refine sA (hq := Quiet.assign rfl (getS32 (getS8 get4))) (ht := (setS32 (setS8 set3))) (hk := ?_); exact wEnd rfl)) (hk := ?_)
                              refine Awp.cond rfl (fun hb25 => ?_) (fun hb25 => ?_)
                              · have H := M.to_t hb25 H
                                refine wR (hx := by (refine sA (hq := Quiet.assign rfl getC) (ht := set2) (hk := ?_); exact wEnd rfl)) (hk := ?_)
                                obtain rfl := M.to_ok.1 H
                                exact Awp.ret ⟨.inr rfl, Fin.cl rfl⟩
                              · have H := M.to_f hb25 H
                                refine Awp.skip ?_
                                refine hs3 _ ?_
                                refine nT (hk := ?_)
                                refine wR (hx := by (refine sA (hq := Quiet.assign rfl getC) (ht := set2) (hk := ?_); exact wEnd rfl)) (hk := ?_)
                                obtain rfl := M.to_ok.1 H
                                exact Awp.ret ⟨.inr rfl, Fin.cl rfl⟩
def r02_between (n : Int) (low : Int) (high : Int) : M Bool := M.ok ((decide (n ≥ low)) && (decide (n ≤ high)))
set_option maxRecDepth 100000 in
set_option maxHeartbeats 4000000 in
theorem r02_between_l {n : Int} {low : Int} {high : Int} {r : Bool} (H : (r02_between n low high).to r) : Fn Tryd.prog 93 [.lit (.int .i32 n), .lit (.int .i32 low), .lit (.int .i32 high)] (.lit (.bool r)) := by
  delta r02_between at H
  try dsimp only at H
  refine Fn.of_awp Tryd.func93 rfl (by kernel_rfl) rfl Tryd.ntmps93 fun C hC => ?_
  simp only [List.length_cons, List.length_nil, Nat.reduceAdd, Nat.reduceSub, List.replicate_succ, List.replicate_zero, List.cons_append, List.nil_append]
  refine wR (hx := by (refine sA (hq := Quiet.assign rfl getC) (ht := set6) (hk := ?_); exact wEnd rfl)) (hk := ?_)
  refine wR (hx := by (refine sA (hq := Quiet.move rfl get0) (ht := set7) (hk := ?_); refine sA (hq := Quiet.move rfl get1) (ht := (setS8 set0)) (hk := ?_); refine sA (hq := Quiet.bin rfl get7 (getS8 get0) rfl) (ht := (setS8 set1)) (hk := ?_); refine sA (hq := Quiet.move rfl (getS8 get1)) (ht := (setS8 set2)) (hk := ?_); refine sG (g := (decide (n ≥ low))) (hg := gA_t rfl) (hq := fun hg => Quiet.move rfl get0) (ht := (setS8 set3)) (hk := ?_); refine sG (g := (decide (n ≥ low))) (hg := gA_t rfl) (hq := fun hg => Quiet.move rfl get2) (ht := (setS8 set4)) (hk := ?_); refine sG (g := (decide (n ≥ low))) (hg := gA_t rfl) (hq := fun hg => Quiet.bin rfl ((getS8 get3).trans (cndT hg _ _)) ((getS8 get4).trans (cndT hg _ _)) rfl) (ht := (setS8 set5)) (hk := ?_); refine sA (hq := Quiet.pickAndB rfl (getS8 get2) (getS8 get5) getC) (ht := (setS8 set6)) (hk := ?_); refine sA (hq := Quiet.assign rfl (getS8 get6)) (ht := set6) (hk := ?_); exact wEnd rfl)) (hk := ?_)
  obtain rfl := M.to_ok.1 H
  exact Awp.ret ⟨.inr rfl, Fin.cl rfl⟩
def r02_May (x : InstM) : M Bool := M.bnd (r02_Kind x.op) fun r1 => M.cnd ((((((r1 == 0) || (decide (x.rd > 31))) || (decide (x.rs1 > 31))) || (decide (x.rs2 > 31))) || (x.is_ && (x.rs2 != 0))) || ((!x.is_) && (x.imm != 0))) (M.ok false) (M.cnd ((((!((r1 == 1) || (r1 == 2))) && (x.rs2 != 0)) || ((((((x.rd != 0) && (r1 != 1)) && (r1 != 3)) && (r1 != 4)) && (r1 != 6)) && (r1 != 7))) || (((((x.rs1 != 0) && (r1 != 1)) && (r1 != 2)) && (r1 != 8)) && (r1 != 10))) (M.ok false) (M.cnd ((r1 == 1) || (r1 == 2)) (M.bnd (r02_between x.imm (-16384) 16383) fun r8 => M.ok r8) (M.cnd (r1 == 3) (M.bnd (M.whn x.is_ false (r02_between x.imm 0 2097151)) fun r11 => M.ok (x.is_ && r11)) (M.cnd (r1 == 4) (M.bnd (M.whn (x.is_ && (decide (x.rd ≤ 6))) false (r02_between x.imm (-1048576) 1048575)) fun r13 => M.ok ((x.is_ && (decide (x.rd ≤ 6))) && r13)) (M.cnd (r1 == 5) (M.bnd (M.whn x.is_ false (r02_between x.imm (-1048576) 1048575)) fun r15 => M.ok (x.is_ && r15)) (M.bnd (M.cnd (r1 == 7) (M.ok (r1 == 7)) (M.ok (r1 == 8))) fun x16 => M.cnd x16 (M.bnd (M.whn x.is_ false (r02_between x.imm 0 1)) fun r20 => M.ok (x.is_ && r20)) (M.cnd (r1 == 9) (M.bnd (M.whn x.is_ false (r02_between x.imm 3 4)) fun r22 => M.ok (x.is_ && r22)) (M.cnd (r1 == 11) (M.bnd (M.whn x.is_ false (r02_between x.imm 1 3)) fun r24 => M.ok (x.is_ && r24)) (M.ok (!x.is_))))))))))
set_option maxRecDepth 100000 in
set_option maxHeartbeats 4000000 in
theorem r02_May_l {x : InstM} {r : Bool} (H : (r02_May x).to r) : Fn Tryd.prog 85 [.agg (encInstM x)] (.lit (.bool r)) := by
  delta r02_May at H
  try dsimp only at H
  refine Fn.of_awp Tryd.func85 rfl (by kernel_rfl) rfl Tryd.ntmps85 fun C hC => ?_
  simp only [List.length_cons, List.length_nil, Nat.reduceAdd, Nat.reduceSub, List.replicate_succ, List.replicate_zero, List.cons_append, List.nil_append]
  refine wR (hx := by ((refine aSeq_t rfl (AOp.boxI 0 rfl rfl Parts0.agg ?_); refine sNtM (ht := set1) (hk := ?_)); refine sA (hq := Quiet.assign rfl getC) (ht := set2) (hk := ?_); exact wEnd rfl)) (hk := ?_)
  obtain ⟨r1, k1, H⟩ := M.to_bnd.1 H
  have k1 := r02_Kind_l k1
  refine wR (hx := by (refine sA (hq := Quiet.fa_ptr rfl get1 rfl) (ht := set5) (hk := ?_); refine sA (hq := Quiet.load_ptr rfl get5 rfl rfl) (ht := set6) (hk := ?_); refine sA (hq := Quiet.callA rfl rfl k1 rfl rfl) (ht := set7) (hk := ?_); refine sA (hq := Quiet.assign rfl get7) (ht := set3) (hk := ?_); exact wEnd rfl)) (hk := ?_)
  refine Awp.seq fun Khs2 hs2 => ?_
  refine wR (hx := by (refine sA (hq := Quiet.move rfl get3) (ht := (setS8 set0)) (hk := ?_); refine sA (hq := Quiet.bin rfl (getS8 get0) getC rfl) (ht := (setS8 set1)) (hk := ?_); refine sA (hq := Quiet.move rfl (getS8 get1)) (ht := (setS8 set2)) (hk := ?_); refine sG (g := (!(r1 == 0))) (hg := gA_f rfl) (hq := fun hg => Quiet.fa_ptr rfl get1 rfl) (ht := (setS8 set3)) (hk := ?_); refine sG (g := (!(r1 == 0))) (hg := gA_f rfl) (hq := fun hg => Quiet.load_ptr rfl ((getS8 get3).trans (cndT hg _ _)) rfl rfl) (ht := (setS8 set4)) (hk := ?_); refine sG (g := (!(r1 == 0))) (hg := gA_f rfl) (hq := fun hg => Quiet.bin rfl ((getS8 get4).trans (cndT hg _ _)) getC rfl) (ht := (setS8 set5)) (hk := ?_); refine sA (hq := Quiet.pickOrB rfl (getS8 get2) getC (getS8 get5)) (ht := (setS8 set6)) (hk := ?_); refine sA (hq := Quiet.move rfl (getS8 get6)) (ht := (setS8 set7)) (hk := ?_); refine sG (g := (!((r1 == 0) || (decide (x.rd > 31))))) (hg := gA_f rfl) (hq := fun hg => Quiet.fa_ptr rfl get1 rfl) (ht := (setS8 (setS8 set0))) (hk := ?_); refine sG (g := (!((r1 == 0) || (decide (x.rd > 31))))) (hg := gA_f rfl) (hq := fun hg => Quiet.load_ptr rfl ((getS8 (getS8 get0)).trans (cndT hg _ _)) rfl rfl) (ht := (setS8 (setS8 set1))) (hk := ?_); refine sG (g := (!((r1 == 0) || (decide (x.rd > 31))))) (hg := gA_f rfl) (hq := fun hg => Quiet.bin rfl ((getS8 (getS8 get1)).trans (cndT hg _ _)) getC rfl) (ht := (setS8 (setS8 set2))) (hk := ?_); refine sA (hq := Quiet.pickOrB rfl (getS8 get7) getC (getS8 (getS8 get2))) (ht := (setS8 (setS8 set3))) (hk := ?_); refine sA (hq := Quiet.move rfl (getS8 (getS8 get3))) (ht := (setS8 (setS8 set4))) (hk := ?_); refine sG (g := (!(((r1 == 0) || (decide (x.rd > 31))) || (decide (x.rs1 > 31))))) (hg := gA_f rfl) (hq := fun hg => Quiet.fa_ptr rfl get1 rfl) (ht := (setS8 (setS8 set5))) (hk := ?_); refine sG (g := (!(((r1 == 0) || (decide (x.rd > 31))) || (decide (x.rs1 > 31))))) (hg := gA_f rfl) (hq := fun hg => Quiet.load_ptr rfl ((getS8 (getS8 get5)).trans (cndT hg _ _)) rfl rfl) (ht := (setS8 (setS8 set6))) (hk := ?_); refine sG (g := (!(((r1 == 0) || (decide (x.rd > 31))) || (decide (x.rs1 > 31))))) (hg := gA_f rfl) (hq := fun hg => Quiet.bin rfl ((getS8 (getS8 get6)).trans (cndT hg _ _)) getC rfl) (ht := (setS8 (setS8 set7))) (hk := ?_); refine sA (hq := Quiet.pickOrB rfl (getS8 (getS8 get4)) getC (getS8 (getS8 get7))) (ht := (setS8 (setS8 (setS8 set0)))) (hk := ?_); refine sA (hq := Quiet.move rfl (getS8 (getS8 (getS8 get0)))) (ht := (setS8 (setS8 (setS8 set1)))) (hk := ?_); refine sG (g := (!((((r1 == 0) || (decide (x.rd > 31))) || (decide (x.rs1 > 31))) || (decide (x.rs2 > 31))))) (hg := gA_f rfl) (hq := fun hg => Quiet.fa_ptr rfl get1 rfl) (ht := (setS8 (setS8 (setS8 set2)))) (hk := ?_); refine sG (g := (!((((r1 == 0) || (decide (x.rd > 31))) || (decide (x.rs1 > 31))) || (decide (x.rs2 > 31))))) (hg := gA_f rfl) (hq := fun hg => Quiet.load_ptr rfl ((getS8 (getS8 (getS8 get2))).trans (cndT hg _ _)) rfl rfl) (ht := (setS8 (setS8 (setS8 set3)))) (hk := ?_); refine sG (g := (!((((r1 == 0) || (decide (x.rd > 31))) || (decide (x.rs1 > 31))) || (decide (x.rs2 > 31))))) (hg := gA_f rfl) (hq := fun hg => Quiet.move rfl ((getS8 (getS8 (getS8 get3))).trans (cndT hg _ _))) (ht := (setS8 (setS8 (setS8 set4)))) (hk := ?_); refine sG (g := ((!((((r1 == 0) || (decide (x.rd > 31))) || (decide (x.rs1 > 31))) || (decide (x.rs2 > 31)))) && x.is_)) (hg := gA_tc rfl rfl) (hq := fun hg => by (have hg' := and_l hg; exact Quiet.fa_ptr rfl get1 rfl)) (ht := (setS8 (setS8 (setS8 set5)))) (hk := ?_); refine sG (g := ((!((((r1 == 0) || (decide (x.rd > 31))) || (decide (x.rs1 > 31))) || (decide (x.rs2 > 31)))) && x.is_)) (hg := gA_tc rfl rfl) (hq := fun hg => by (have hg' := and_l hg; exact Quiet.load_ptr rfl ((getS8 (getS8 (getS8 get5))).trans (cndT hg _ _)) rfl rfl)) (ht := (setS8 (setS8 (setS8 set6)))) (hk := ?_); refine sG (g := ((!((((r1 == 0) || (decide (x.rd > 31))) || (decide (x.rs1 > 31))) || (decide (x.rs2 > 31)))) && x.is_)) (hg := gA_tc rfl rfl) (hq := fun hg => by (have hg' := and_l hg; exact Quiet.bin rfl ((getS8 (getS8 (getS8 get6))).trans (cndT hg _ _)) getC rfl)) (ht := (setS8 (setS8 (setS8 set7)))) (hk := ?_); refine sG (g := (!((((r1 == 0) || (decide (x.rd > 31))) || (decide (x.rs1 > 31))) || (decide (x.rs2 > 31))))) (hg := gA_f rfl) (hq := fun hg => Quiet.pickAndB rfl ((getS8 (getS8 (getS8 get4))).trans (cndT hg _ _)) ((getS8 (getS8 (getS8 get7))).trans (cndA hg _ _)) getC) (ht := (setS32 set0)) (hk := ?_); refine sA (hq := Quiet.pickOrB rfl (getS8 (getS8 (getS8 get1))) getC (getS32 get0)) (ht := (setS32 set1)) (hk := ?_); refine sA (hq := Quiet.move rfl (getS32 get1)) (ht := (setS32 set2)) (hk := ?_); refine sG (g := (!(((((r1 == 0) || (decide (x.rd > 31))) || (decide (x.rs1 > 31))) || (decide (x.rs2 > 31))) || (x.is_ && (x.rs2 != 0))))) (hg := gA_f rfl) (hq := fun hg => Quiet.fa_ptr rfl get1 rfl) (ht := (setS32 set3)) (hk := ?_); refine sG (g := (!(((((r1 == 0) || (decide (x.rd > 31))) || (decide (x.rs1 > 31))) || (decide (x.rs2 > 31))) || (x.is_ && (x.rs2 != 0))))) (hg := gA_f rfl) (hq := fun hg => Quiet.load_ptr rfl ((getS32 get3).trans (cndT hg _ _)) rfl rfl) (ht := (setS32 set4)) (hk := ?_); refine sG (g := (!(((((r1 == 0) || (decide (x.rd > 31))) || (decide (x.rs1 > 31))) || (decide (x.rs2 > 31))) || (x.is_ && (x.rs2 != 0))))) (hg := gA_f rfl) (hq := fun hg => Quiet.bnot rfl ((getS32 get4).trans (cndT hg _ _))) (ht := (setS32 set5)) (hk := ?_); refine sG (g := (!(((((r1 == 0) || (decide (x.rd > 31))) || (decide (x.rs1 > 31))) || (decide (x.rs2 > 31))) || (x.is_ && (x.rs2 != 0))))) (hg := gA_f rfl) (hq := fun hg => Quiet.move rfl ((getS32 get5).trans (cndT hg _ _))) (ht := (setS32 set6)) (hk := ?_); refine sG (g := ((!(((((r1 == 0) || (decide (x.rd > 31))) || (decide (x.rs1 > 31))) || (decide (x.rs2 > 31))) || (x.is_ && (x.rs2 != 0)))) && (!x.is_))) (hg := gA_tc rfl rfl) (hq := fun hg => by (have hg' := and_l hg; exact Quiet.fa_ptr rfl get1 rfl)) (ht := (setS32 set7)) (hk := ?_); refine sG (g := ((!(((((r1 == 0) || (decide (x.rd > 31))) || (decide (x.rs1 > 31))) || (decide (x.rs2 > 31))) || (x.is_ && (x.rs2 != 0)))) && (!x.is_))) (hg := gA_tc rfl rfl) (hq := fun hg => by (have hg' := and_l hg; exact Quiet.load_ptr rfl ((getS32 get7).trans (cndT hg _ _)) rfl rfl)) (ht := (setS32 (setS8 set0))) (hk := ?_); refine sG (g := ((!(((((r1 == 0) || (decide (x.rd > 31))) || (decide (x.rs1 > 31))) || (decide (x.rs2 > 31))) || (x.is_ && (x.rs2 != 0)))) && (!x.is_))) (hg := gA_tc rfl rfl) (hq := fun hg => by (have hg' := and_l hg; exact Quiet.bin rfl ((getS32 (getS8 get0)).trans (cndT hg _ _)) getC rfl)) (ht := (setS32 (setS8 set1))) (hk := ?_); refine sG (g := (!(((((r1 == 0) || (decide (x.rd > 31))) || (decide (x.rs1 > 31))) || (decide (x.rs2 > 31))) || (x.is_ && (x.rs2 != 0))))) (hg := gA_f rfl) (hq := fun hg => Quiet.pickAndB rfl ((getS32 get6).trans (cndT hg _ _)) ((getS32 (getS8 get1)).trans (cndA hg _ _)) getC) (ht := (setS32 (setS8 set2))) (hk := ?_); refine sA (hq := Quiet.pickOrB rfl (getS32 get2) getC (getS32 (getS8 get2))) (ht := (setS32 (setS8 set3))) (hk := ?_); exact wEnd rfl)) (hk := ?_)
  refine Awp.cond rfl (fun hb3 => ?_) (fun hb3 => ?_)
  · have H := M.to_t hb3 H
    refine wR (hx := by (refine sA (hq := Quiet.assign rfl getC) (ht := set2) (hk := ?_); exact wEnd rfl)) (hk := ?_)
    obtain rfl := M.to_ok.1 H
    exact Awp.ret ⟨.inr rfl, Fin.cl rfl⟩
  · have H := M.to_f hb3 H
    refine Awp.skip ?_
    refine hs2 _ ?_
    refine nT (hk := ?_)
    refine wR (hx := by (refine sA (hq := Quiet.move rfl get3) (ht := (setS32 (setS8 set4))) (hk := ?_); refine sA (hq := Quiet.bin rfl (getS32 (getS8 get4)) getC rfl) (ht := (setS32 (setS8 set5))) (hk := ?_); refine sA (hq := Quiet.move rfl (getS32 (getS8 get5))) (ht := (setS32 (setS8 set6))) (hk := ?_); refine sG (g := (!(r1 == 1))) (hg := gA_f rfl) (hq := fun hg => Quiet.move rfl get3) (ht := (setS32 (setS8 set7))) (hk := ?_); refine sG (g := (!(r1 == 1))) (hg := gA_f rfl) (hq := fun hg => Quiet.bin rfl ((getS32 (getS8 get7)).trans (cndT hg _ _)) getC rfl) (ht := (setS32 (setS8 (setS8 set0)))) (hk := ?_); refine sA (hq := Quiet.pickOrB rfl (getS32 (getS8 get6)) getC (getS32 (getS8 (getS8 get0)))) (ht := (setS32 (setS8 (setS8 set1)))) (hk := ?_); refine sA (hq := Quiet.assign rfl (getS32 (getS8 (getS8 get1)))) (ht := set4) (hk := ?_); exact wEnd rfl)) (hk := ?_)
    refine Awp.seq fun Khs4 hs4 => ?_
    refine wR (hx := by (refine sA (hq := Quiet.move rfl get4) (ht := (setS32 (setS8 (setS8 set2)))) (hk := ?_); refine sA (hq := Quiet.bnot rfl (getS32 (getS8 (getS8 get2)))) (ht := (setS32 (setS8 (setS8 set3)))) (hk := ?_); refine sA (hq := Quiet.move rfl (getS32 (getS8 (getS8 get3)))) (ht := (setS32 (setS8 (setS8 set4)))) (hk := ?_); refine sG (g := (!((r1 == 1) || (r1 == 2)))) (hg := gA_t rfl) (hq := fun hg => Quiet.fa_ptr rfl get1 rfl) (ht := (setS32 (setS8 (setS8 set5)))) (hk := ?_); refine sG (g := (!((r1 == 1) || (r1 == 2)))) (hg := gA_t rfl) (hq := fun hg => Quiet.load_ptr rfl ((getS32 (getS8 (getS8 get5))).trans (cndT hg _ _)) rfl rfl) (ht := (setS32 (setS8 (setS8 set6)))) (hk := ?_); refine sG (g := (!((r1 == 1) || (r1 == 2)))) (hg := gA_t rfl) (hq := fun hg => Quiet.bin rfl ((getS32 (getS8 (getS8 get6))).trans (cndT hg _ _)) getC rfl) (ht := (setS32 (setS8 (setS8 set7)))) (hk := ?_); refine sA (hq := Quiet.pickAndB rfl (getS32 (getS8 (getS8 get4))) (getS32 (getS8 (getS8 get7))) getC) (ht := (setS32 (setS8 (setS8 (setS8 set0))))) (hk := ?_); refine sA (hq := Quiet.move rfl (getS32 (getS8 (getS8 (getS8 get0))))) (ht := (setS32 (setS8 (setS8 (setS8 set1))))) (hk := ?_); refine sG (g := (!((!((r1 == 1) || (r1 == 2))) && (x.rs2 != 0)))) (hg := gA_f rfl) (hq := fun hg => Quiet.fa_ptr rfl get1 rfl) (ht := (setS32 (setS8 (setS8 (setS8 set2))))) (hk := ?_); refine sG (g := (!((!((r1 == 1) || (r1 == 2))) && (x.rs2 != 0)))) (hg := gA_f rfl) (hq := fun hg => Quiet.load_ptr rfl ((getS32 (getS8 (getS8 (getS8 get2)))).trans (cndT hg _ _)) rfl rfl) (ht := (setS32 (setS8 (setS8 (setS8 set3))))) (hk := ?_); refine sG (g := (!((!((r1 == 1) || (r1 == 2))) && (x.rs2 != 0)))) (hg := gA_f rfl) (hq := fun hg => Quiet.bin rfl ((getS32 (getS8 (getS8 (getS8 get3)))).trans (cndT hg _ _)) getC rfl) (ht := (setS32 (setS8 (setS8 (setS8 set4))))) (hk := ?_); refine sG (g := (!((!((r1 == 1) || (r1 == 2))) && (x.rs2 != 0)))) (hg := gA_f rfl) (hq := fun hg => Quiet.move rfl ((getS32 (getS8 (getS8 (getS8 get4)))).trans (cndT hg _ _))) (ht := (setS32 (setS8 (setS8 (setS8 set5))))) (hk := ?_); refine sG (g := ((!((!((r1 == 1) || (r1 == 2))) && (x.rs2 != 0))) && (x.rd != 0))) (hg := gA_tc rfl rfl) (hq := fun hg => by (have hg' := and_l hg; exact Quiet.move rfl get3)) (ht := (setS32 (setS8 (setS8 (setS8 set6))))) (hk := ?_); refine sG (g := ((!((!((r1 == 1) || (r1 == 2))) && (x.rs2 != 0))) && (x.rd != 0))) (hg := gA_tc rfl rfl) (hq := fun hg => by (have hg' := and_l hg; exact Quiet.bin rfl ((getS32 (getS8 (getS8 (getS8 get6)))).trans (cndT hg _ _)) getC rfl)) (ht := (setS32 (setS8 (setS8 (setS8 set7))))) (hk := ?_); refine sG (g := (!((!((r1 == 1) || (r1 == 2))) && (x.rs2 != 0)))) (hg := gA_f rfl) (hq := fun hg => Quiet.pickAndB rfl ((getS32 (getS8 (getS8 (getS8 get5)))).trans (cndT hg _ _)) ((getS32 (getS8 (getS8 (getS8 get7)))).trans (cndA hg _ _)) getC) (ht := (setS32 (setS32 set0))) (hk := ?_); refine sG (g := (!((!((r1 == 1) || (r1 == 2))) && (x.rs2 != 0)))) (hg := gA_f rfl) (hq := fun hg => Quiet.move rfl ((getS32 (getS32 get0)).trans (cndT hg _ _))) (ht := (setS32 (setS32 set1))) (hk := ?_); refine sG (g := ((!((!((r1 == 1) || (r1 == 2))) && (x.rs2 != 0))) && ((x.rd != 0) && (r1 != 1)))) (hg := gA_tc rfl rfl) (hq := fun hg => by (have hg' := and_l hg; exact Quiet.move rfl get3)) (ht := (setS32 (setS32 set2))) (hk := ?_); refine sG (g := ((!((!((r1 == 1) || (r1 == 2))) && (x.rs2 != 0))) && ((x.rd != 0) && (r1 != 1)))) (hg := gA_tc rfl rfl) (hq := fun hg => by (have hg' := and_l hg; exact Quiet.bin rfl ((getS32 (getS32 get2)).trans (cndT hg _ _)) getC rfl)) (ht := (setS32 (setS32 set3))) (hk := ?_); refine sG (g := (!((!((r1 == 1) || (r1 == 2))) && (x.rs2 != 0)))) (hg := gA_f rfl) (hq := fun hg => Quiet.pickAndB rfl ((getS32 (getS32 get1)).trans (cndT hg _ _)) ((getS32 (getS32 get3)).trans (cndA hg _ _)) getC) (ht := (setS32 (setS32 set4))) (hk := ?_); refine sG (g := (!((!((r1 == 1) || (r1 == 2))) && (x.rs2 != 0)))) (hg := gA_f rfl) (hq := fun hg => Quiet.move rfl ((getS32 (getS32 get4)).trans (cndT hg _ _))) (ht := (setS32 (setS32 set5))) (hk := ?_); refine sG (g := ((!((!((r1 == 1) || (r1 == 2))) && (x.rs2 != 0))) && (((x.rd != 0) && (r1 != 1)) && (r1 != 3)))) (hg := gA_tc rfl rfl) (hq := fun hg => by (have hg' := and_l hg; exact Quiet.move rfl get3)) (ht := (setS32 (setS32 set6))) (hk := ?_); refine sG (g := ((!((!((r1 == 1) || (r1 == 2))) && (x.rs2 != 0))) && (((x.rd != 0) && (r1 != 1)) && (r1 != 3)))) (hg := gA_tc rfl rfl) (hq := fun hg => by (have hg' := and_l hg; exact Quiet.bin rfl ((getS32 (getS32 get6)).trans (cndT hg _ _)) getC rfl)) (ht := (setS32 (setS32 set7))) (hk := ?_); refine sG (g := (!((!((r1 == 1) || (r1 == 2))) && (x.rs2 != 0)))) (hg := gA_f rfl) (hq := fun hg => Quiet.pickAndB rfl ((getS32 (getS32 get5)).trans (cndT hg _ _)) ((getS32 (getS32 get7)).trans (cndA hg _ _)) getC) (ht := (setS32 (setS32 (setS8 set0)))) (hk := ?_); refine sG (g := (!((!((r1 == 1) || (r1 == 2))) && (x.rs2 != 0)))) (hg := gA_f rfl) (hq := fun hg => Quiet.move rfl ((getS32 (getS32 (getS8 get0))).trans (cndT hg _ _))) (ht := (setS32 (setS32 (setS8 set1)))) (hk := ?_); refine sG (g := ((!((!((r1 == 1) || (r1 == 2))) && (x.rs2 != 0))) && ((((x.rd != 0) && (r1 != 1)) && (r1 != 3)) && (r1 != 4)))) (hg := gA_tc rfl rfl) (hq := fun hg => by (have hg' := and_l hg; exact Quiet.move rfl get3)) (ht := (setS32 (setS32 (setS8 set2)))) (hk := ?_); refine sG (g := ((!((!((r1 == 1) || (r1 == 2))) && (x.rs2 != 0))) && ((((x.rd != 0) && (r1 != 1)) && (r1 != 3)) && (r1 != 4)))) (hg := gA_tc rfl rfl) (hq := fun hg => by (have hg' := and_l hg; exact Quiet.bin rfl ((getS32 (getS32 (getS8 get2))).trans (cndT hg _ _)) getC rfl)) (ht := (setS32 (setS32 (setS8 set3)))) (hk := ?_); refine sG (g := (!((!((r1 == 1) || (r1 == 2))) && (x.rs2 != 0)))) (hg := gA_f rfl) (hq := fun hg => Quiet.pickAndB rfl ((getS32 (getS32 (getS8 get1))).trans (cndT hg _ _)) ((getS32 (getS32 (getS8 get3))).trans (cndA hg _ _)) getC) (ht := (setS32 (setS32 (setS8 set4)))) (hk := ?_); refine sG (g := (!((!((r1 == 1) || (r1 == 2))) && (x.rs2 != 0)))) (hg := gA_f rfl) (hq := fun hg => Quiet.move rfl ((getS32 (getS32 (getS8 get4))).trans (cndT hg _ _))) (ht := (setS32 (setS32 (setS8 set5)))) (hk := ?_); refine sG (g := ((!((!((r1 == 1) || (r1 == 2))) && (x.rs2 != 0))) && (((((x.rd != 0) && (r1 != 1)) && (r1 != 3)) && (r1 != 4)) && (r1 != 6)))) (hg := gA_tc rfl rfl) (hq := fun hg => by (have hg' := and_l hg; exact Quiet.move rfl get3)) (ht := (setS32 (setS32 (setS8 set6)))) (hk := ?_); refine sG (g := ((!((!((r1 == 1) || (r1 == 2))) && (x.rs2 != 0))) && (((((x.rd != 0) && (r1 != 1)) && (r1 != 3)) && (r1 != 4)) && (r1 != 6)))) (hg := gA_tc rfl rfl) (hq := fun hg => by (have hg' := and_l hg; exact Quiet.bin rfl ((getS32 (getS32 (getS8 get6))).trans (cndT hg _ _)) getC rfl)) (ht := (setS32 (setS32 (setS8 set7)))) (hk := ?_); refine sG (g := (!((!((r1 == 1) || (r1 == 2))) && (x.rs2 != 0)))) (hg := gA_f rfl) (hq := fun hg => Quiet.pickAndB rfl ((getS32 (getS32 (getS8 get5))).trans (cndT hg _ _)) ((getS32 (getS32 (getS8 get7))).trans (cndA hg _ _)) getC) (ht := (setS32 (setS32 (setS8 (setS8 set0))))) (hk := ?_); refine sA (hq := Quiet.pickOrB rfl (getS32 (getS8 (getS8 (getS8 get1)))) getC (getS32 (getS32 (getS8 (getS8 get0))))) (ht := (setS32 (setS32 (setS8 (setS8 set1))))) (hk := ?_); refine sA (hq := Quiet.move rfl (getS32 (getS32 (getS8 (getS8 get1))))) (ht := (setS32 (setS32 (setS8 (setS8 set2))))) (hk := ?_); refine sG (g := (!(((!((r1 == 1) || (r1 == 2))) && (x.rs2 != 0)) || ((((((x.rd != 0) && (r1 != 1)) && (r1 != 3)) && (r1 != 4)) && (r1 != 6)) && (r1 != 7))))) (hg := gA_f rfl) (hq := fun hg => Quiet.fa_ptr rfl get1 rfl) (ht := (setS32 (setS32 (setS8 (setS8 set3))))) (hk := ?_); refine sG (g := (!(((!((r1 == 1) || (r1 == 2))) && (x.rs2 != 0)) || ((((((x.rd != 0) && (r1 != 1)) && (r1 != 3)) && (r1 != 4)) && (r1 != 6)) && (r1 != 7))))) (hg := gA_f rfl) (hq := fun hg => Quiet.load_ptr rfl ((getS32 (getS32 (getS8 (getS8 get3)))).trans (cndT hg _ _)) rfl rfl) (ht := (setS32 (setS32 (setS8 (setS8 set4))))) (hk := ?_); refine sG (g := (!(((!((r1 == 1) || (r1 == 2))) && (x.rs2 != 0)) || ((((((x.rd != 0) && (r1 != 1)) && (r1 != 3)) && (r1 != 4)) && (r1 != 6)) && (r1 != 7))))) (hg := gA_f rfl) (hq := fun hg => Quiet.bin rfl ((getS32 (getS32 (getS8 (getS8 get4)))).trans (cndT hg _ _)) getC rfl) (ht := (setS32 (setS32 (setS8 (setS8 set5))))) (hk := ?_); refine sG (g := (!(((!((r1 == 1) || (r1 == 2))) && (x.rs2 != 0)) || ((((((x.rd != 0) && (r1 != 1)) && (r1 != 3)) && (r1 != 4)) && (r1 != 6)) && (r1 != 7))))) (hg := gA_f rfl) (hq := fun hg => Quiet.move rfl ((getS32 (getS32 (getS8 (getS8 get5)))).trans (cndT hg _ _))) (ht := (setS32 (setS32 (setS8 (setS8 set6))))) (hk := ?_); refine sG (g := ((!(((!((r1 == 1) || (r1 == 2))) && (x.rs2 != 0)) || ((((((x.rd != 0) && (r1 != 1)) && (r1 != 3)) && (r1 != 4)) && (r1 != 6)) && (r1 != 7)))) && (x.rs1 != 0))) (hg := gA_tc rfl rfl) (hq := fun hg => by (have hg' := and_l hg; exact Quiet.move rfl get3)) (ht := (setS32 (setS32 (setS8 (setS8 set7))))) (hk := ?_); refine sG (g := ((!(((!((r1 == 1) || (r1 == 2))) && (x.rs2 != 0)) || ((((((x.rd != 0) && (r1 != 1)) && (r1 != 3)) && (r1 != 4)) && (r1 != 6)) && (r1 != 7)))) && (x.rs1 != 0))) (hg := gA_tc rfl rfl) (hq := fun hg => by (have hg' := and_l hg; exact Quiet.bin rfl ((getS32 (getS32 (getS8 (getS8 get7)))).trans (cndT hg _ _)) getC rfl)) (ht := (setS32 (setS32 (setS8 (setS8 (setS8 set0)))))) (hk := ?_); refine sG (g := (!(((!((r1 == 1) || (r1 == 2))) && (x.rs2 != 0)) || ((((((x.rd != 0) && (r1 != 1)) && (r1 != 3)) && (r1 != 4)) && (r1 != 6)) && (r1 != 7))))) (hg := gA_f rfl) (hq := fun hg => Quiet.pickAndB rfl ((getS32 (getS32 (getS8 (getS8 get6)))).trans (cndT hg _ _)) ((getS32 (getS32 (getS8 (getS8 (getS8 get0))))).trans (cndA hg _ _)) getC) (ht := (setS32 (setS32 (setS8 (setS8 (setS8 set1)))))) (hk := ?_); refine sG (g := (!(((!((r1 == 1) || (r1 == 2))) && (x.rs2 != 0)) || ((((((x.rd != 0) && (r1 != 1)) && (r1 != 3)) && (r1 != 4)) && (r1 != 6)) && (r1 != 7))))) (hg := gA_f rfl) (hq := fun hg => Quiet.move rfl ((getS32 (getS32 (getS8 (getS8 (getS8 get1))))).trans (cndT hg _ _))) (ht := (setS32 (setS32 (setS8 (setS8 (setS8 set2)))))) (hk := ?_); refine sG (g := ((!(((!((r1 == 1) || (r1 == 2))) && (x.rs2 != 0)) || ((((((x.rd != 0) && (r1 != 1)) && (r1 != 3)) && (r1 != 4)) && (r1 != 6)) && (r1 != 7)))) && ((x.rs1 != 0) && (r1 != 1)))) (hg := gA_tc rfl rfl) (hq := fun hg => by (have hg' := and_l hg; exact Quiet.move rfl get3)) (ht := (setS32 (setS32 (setS8 (setS8 (setS8 set3)))))) (hk := ?_); refine sG (g := ((!(((!((r1 == 1) || (r1 == 2))) && (x.rs2 != 0)) || ((((((x.rd != 0) && (r1 != 1)) && (r1 != 3)) && (r1 != 4)) && (r1 != 6)) && (r1 != 7)))) && ((x.rs1 != 0) && (r1 != 1)))) (hg := gA_tc rfl rfl) (hq := fun hg => by (have hg' := and_l hg; exact Quiet.bin rfl ((getS32 (getS32 (getS8 (getS8 (getS8 get3))))).trans (cndT hg _ _)) getC rfl)) (ht := (setS32 (setS32 (setS8 (setS8 (setS8 set4)))))) (hk := ?_); refine sG (g := (!(((!((r1 == 1) || (r1 == 2))) && (x.rs2 != 0)) || ((((((x.rd != 0) && (r1 != 1)) && (r1 != 3)) && (r1 != 4)) && (r1 != 6)) && (r1 != 7))))) (hg := gA_f rfl) (hq := fun hg => Quiet.pickAndB rfl ((getS32 (getS32 (getS8 (getS8 (getS8 get2))))).trans (cndT hg _ _)) ((getS32 (getS32 (getS8 (getS8 (getS8 get4))))).trans (cndA hg _ _)) getC) (ht := (setS32 (setS32 (setS8 (setS8 (setS8 set5)))))) (hk := ?_); refine sG (g := (!(((!((r1 == 1) || (r1 == 2))) && (x.rs2 != 0)) || ((((((x.rd != 0) && (r1 != 1)) && (r1 != 3)) && (r1 != 4)) && (r1 != 6)) && (r1 != 7))))) (hg := gA_f rfl) (hq := fun hg => Quiet.move rfl ((getS32 (getS32 (getS8 (getS8 (getS8 get5))))).trans (cndT hg _ _))) (ht := (setS32 (setS32 (setS8 (setS8 (setS8 set6)))))) (hk := ?_); refine sG (g := ((!(((!((r1 == 1) || (r1 == 2))) && (x.rs2 != 0)) || ((((((x.rd != 0) && (r1 != 1)) && (r1 != 3)) && (r1 != 4)) && (r1 != 6)) && (r1 != 7)))) && (((x.rs1 != 0) && (r1 != 1)) && (r1 != 2)))) (hg := gA_tc rfl rfl) (hq := fun hg => by (have hg' := and_l hg; exact Quiet.move rfl get3)) (ht := (setS32 (setS32 (setS8 (setS8 (setS8 set7)))))) (hk := ?_); refine sG (g := ((!(((!((r1 == 1) || (r1 == 2))) && (x.rs2 != 0)) || ((((((x.rd != 0) && (r1 != 1)) && (r1 != 3)) && (r1 != 4)) && (r1 != 6)) && (r1 != 7)))) && (((x.rs1 != 0) && (r1 != 1)) && (r1 != 2)))) (hg := gA_tc rfl rfl) (hq := fun hg => by (have hg' := and_l hg; exact Quiet.bin rfl ((getS32 (getS32 (getS8 (getS8 (getS8 get7))))).trans (cndT hg _ _)) getC rfl)) (ht := (setS32 (setS32 (setS32 set0)))) (hk := ?_); refine sG (g := (!(((!((r1 == 1) || (r1 == 2))) && (x.rs2 != 0)) || ((((((x.rd != 0) && (r1 != 1)) && (r1 != 3)) && (r1 != 4)) && (r1 != 6)) && (r1 != 7))))) (hg := gA_f rfl) (hq := fun hg => Quiet.pickAndB rfl ((getS32 (getS32 (getS8 (getS8 (getS8 get6))))).trans (cndT hg _ _)) ((getS32 (getS32 (getS32 get0))).trans (cndA hg _ _)) getC) (ht := (setS32 (setS32 (setS32 set1)))) (hk := ?_); refine sG (g := (!(((!((r1 == 1) || (r1 == 2))) && (x.rs2 != 0)) || ((((((x.rd != 0) && (r1 != 1)) && (r1 != 3)) && (r1 != 4)) && (r1 != 6)) && (r1 != 7))))) (hg := gA_f rfl) (hq := fun hg => Quiet.move rfl ((getS32 (getS32 (getS32 get1))).trans (cndT hg _ _))) (ht := (setS32 (setS32 (setS32 set2)))) (hk := ?_); refine sG (g := ((!(((!((r1 == 1) || (r1 == 2))) && (x.rs2 != 0)) || ((((((x.rd != 0) && (r1 != 1)) && (r1 != 3)) && (r1 != 4)) && (r1 != 6)) && (r1 != 7)))) && ((((x.rs1 != 0) && (r1 != 1)) && (r1 != 2)) && (r1 != 8)))) (hg := gA_tc rfl rfl) (hq := fun hg => by (have hg' := and_l hg; exact Quiet.move rfl get3)) (ht := (setS32 (setS32 (setS32 set3)))) (hk := ?_); refine sG (g := ((!(((!((r1 == 1) || (r1 == 2))) && (x.rs2 != 0)) || ((((((x.rd != 0) && (r1 != 1)) && (r1 != 3)) && (r1 != 4)) && (r1 != 6)) && (r1 != 7)))) && ((((x.rs1 != 0) && (r1 != 1)) && (r1 != 2)) && (r1 != 8)))) (hg := gA_tc rfl rfl) (hq := fun hg => by (have hg' := and_l hg; exact Quiet.bin rfl ((getS32 (getS32 (getS32 get3))).trans (cndT hg _ _)) getC rfl)) (ht := (setS32 (setS32 (setS32 set4)))) (hk := ?_); refine sG (g := (!(((!((r1 == 1) || (r1 == 2))) && (x.rs2 != 0)) || ((((((x.rd != 0) && (r1 != 1)) && (r1 != 3)) && (r1 != 4)) && (r1 != 6)) && (r1 != 7))))) (hg := gA_f rfl) (hq := fun hg => Quiet.pickAndB rfl ((getS32 (getS32 (getS32 get2))).trans (cndT hg _ _)) ((getS32 (getS32 (getS32 get4))).trans (cndA hg _ _)) getC) (ht := (setS32 (setS32 (setS32 set5)))) (hk := ?_); refine sA (hq := Quiet.pickOrB rfl (getS32 (getS32 (getS8 (getS8 get2)))) getC (getS32 (getS32 (getS32 get5)))) (ht := (setS32 (setS32 (setS32 set6)))) (hk := ?_); exact wEnd rfl)) (hk := ?_)
    refine Awp.cond rfl (fun hb5 => ?_) (fun hb5 => ?_)
    · have H := M.to_t hb5 H
      refine wR (hx := by (refine sA (hq := Quiet.assign rfl getC) (ht := set2) (hk := ?_); exact wEnd rfl)) (hk := ?_)
      obtain rfl := M.to_ok.1 H
      exact Awp.ret ⟨.inr rfl, Fin.cl rfl⟩
    · have H := M.to_f hb5 H
      refine Awp.skip ?_
      refine hs4 _ ?_
      refine nT (hk := ?_)
      refine Awp.seq fun Khs6 hs6 => ?_
      refine wR (hx := by (refine sA (hq := Quiet.move rfl get4) (ht := (setS32 (setS32 (setS32 set7)))) (hk := ?_); exact wEnd rfl)) (hk := ?_)
      refine Awp.cond rfl (fun hb7 => ?_) (fun hb7 => ?_)
      · have H := M.to_t hb7 H
        obtain ⟨r8, k8, H⟩ := M.to_bnd.1 H
        have k8 := r02_between_l k8
        refine wR (hx := by (refine sA (hq := Quiet.fa_ptr rfl get1 rfl) (ht := (setS32 (setS32 (setS32 (setS8 set0))))) (hk := ?_); refine sA (hq := Quiet.load_ptr rfl (getS32 (getS32 (getS32 (getS8 get0)))) rfl rfl) (ht := (setS32 (setS32 (setS32 (setS8 set1))))) (hk := ?_); refine sA (hq := Quiet.callA rfl rfl k8 rfl rfl) (ht := (setS32 (setS32 (setS32 (setS8 set2))))) (hk := ?_); refine sA (hq := Quiet.assign rfl (getS32 (getS32 (getS32 (getS8 get2))))) (ht := set2) (hk := ?_); exact wEnd rfl)) (hk := ?_)
        obtain rfl := M.to_ok.1 H
        exact Awp.ret ⟨.inr rfl, Fin.cl rfl⟩
      · have H := M.to_f hb7 H
        refine Awp.skip ?_
        refine hs6 _ ?_
        refine nT (hk := ?_)
        refine Awp.seq fun Khs9 hs9 => ?_
        refine wR (hx := by (refine sA (hq := Quiet.move rfl get3) (ht := (setS32 (setS32 (setS32 (setS8 set3))))) (hk := ?_); exact wEnd rfl)) (hk := ?_)
        refine Awp.block ?_
        refine wR (hx := by (refine sA (hq := Quiet.bin rfl (getS32 (getS32 (getS32 (getS8 get3)))) getC rfl) (ht := (setS32 (setS32 (setS32 (setS8 set5))))) (hk := ?_); refine sA (hq := Quiet.assign rfl (getS32 (getS32 (getS32 (getS8 get5))))) (ht := (setS32 (setS32 (setS32 (setS8 set4))))) (hk := ?_); exact wEnd rfl)) (hk := ?_)
        refine Awp.cond rfl (fun hb10 => ?_) (fun hb10 => ?_)
        · have H := M.to_t hb10 H
          obtain ⟨r11, k11, H⟩ := M.to_bnd.1 H
          refine wR (hx := by (refine sA (hq := Quiet.fa_ptr rfl get1 rfl) (ht := (setS32 (setS32 (setS32 (setS8 set6))))) (hk := ?_); refine sA (hq := Quiet.load_ptr rfl (getS32 (getS32 (getS32 (getS8 get6)))) rfl rfl) (ht := (setS32 (setS32 (setS32 (setS8 set7))))) (hk := ?_); refine sA (hq := Quiet.move rfl (getS32 (getS32 (getS32 (getS8 get7))))) (ht := (setS32 (setS32 (setS32 (setS8 (setS8 set0)))))) (hk := ?_); refine sG (g := x.is_) (hg := gA_t rfl) (hq := fun hg => Quiet.fa_ptr rfl get1 rfl) (ht := (setS32 (setS32 (setS32 (setS8 (setS8 set1)))))) (hk := ?_); refine sG (g := x.is_) (hg := gA_t rfl) (hq := fun hg => Quiet.load_ptr rfl ((getS32 (getS32 (getS32 (getS8 (getS8 get1))))).trans (cndT hg _ _)) rfl rfl) (ht := (setS32 (setS32 (setS32 (setS8 (setS8 set2)))))) (hk := ?_); refine sG (g := x.is_) (hg := gA_t rfl) (hq := fun hg => by ((try simp only [cndT hg]); (try simp only [cndA hg]); exact Quiet.callA rfl rfl (r02_between_l (M.to_whn k11 hg)) rfl rfl)) (ht := (setS32 (setS32 (setS32 (setS8 (setS8 set3)))))) (hk := ?_); refine sA (hq := Quiet.pickAndB rfl (getS32 (getS32 (getS32 (getS8 (getS8 get0))))) (getS32 (getS32 (getS32 (getS8 (getS8 get3))))) getC) (ht := (setS32 (setS32 (setS32 (setS8 (setS8 set4)))))) (hk := ?_); refine sA (hq := Quiet.assign rfl (getS32 (getS32 (getS32 (getS8 (getS8 get4)))))) (ht := set2) (hk := ?_); exact wEnd rfl)) (hk := ?_)
          obtain rfl := M.to_ok.1 H
          exact Awp.ret ⟨.inr rfl, Fin.cl rfl⟩
        · have H := M.to_f hb10 H
          refine wR (hx := by (refine sA (hq := Quiet.bin rfl (getS32 (getS32 (getS32 (getS8 get3)))) getC rfl) (ht := (setS32 (setS32 (setS32 (setS8 (setS8 set6)))))) (hk := ?_); refine sA (hq := Quiet.assign rfl (getS32 (getS32 (getS32 (getS8 (getS8 get6)))))) (ht := (setS32 (setS32 (setS32 (setS8 (setS8 set5)))))) (hk := ?_); exact wEnd rfl)) (hk := ?_)
          refine Awp.cond rfl (fun hb12 => ?_) (fun hb12 => ?_)
          · have H := M.to_t hb12 H
            obtain ⟨r13, k13, H⟩ := M.to_bnd.1 H
            refine wR (hx := by (refine sA (hq := Quiet.fa_ptr rfl get1 rfl) (ht := (setS32 (setS32 (setS32 (setS8 (setS8 set7)))))) (hk := ?_); refine sA (hq := Quiet.load_ptr rfl (getS32 (getS32 (getS32 (getS8 (getS8 get7))))) rfl rfl) (ht := (setS32 (setS32 (setS32 (setS8 (setS8 (setS8 set0))))))) (hk := ?_); refine sA (hq := Quiet.move rfl (getS32 (getS32 (getS32 (getS8 (getS8 (getS8 get0))))))) (ht := (setS32 (setS32 (setS32 (setS8 (setS8 (setS8 set1))))))) (hk := ?_); refine sG (g := x.is_) (hg := gA_t rfl) (hq := fun hg => Quiet.fa_ptr rfl get1 rfl) (ht := (setS32 (setS32 (setS32 (setS8 (setS8 (setS8 set2))))))) (hk := ?_); refine sG (g := x.is_) (hg := gA_t rfl) (hq := fun hg => Quiet.load_ptr rfl ((getS32 (getS32 (getS32 (getS8 (getS8 (getS8 get2)))))).trans (cndT hg _ _)) rfl rfl) (ht := (setS32 (setS32 (setS32 (setS8 (setS8 (setS8 set3))))))) (hk := ?_); refine sG (g := x.is_) (hg := gA_t rfl) (hq := fun hg => Quiet.bin rfl ((getS32 (getS32 (getS32 (getS8 (getS8 (getS8 get3)))))).trans (cndT hg _ _)) getC rfl) (ht := (setS32 (setS32 (setS32 (setS8 (setS8 (setS8 set4))))))) (hk := ?_); refine sA (hq := Quiet.pickAndB rfl (getS32 (getS32 (getS32 (getS8 (getS8 (getS8 get1)))))) (getS32 (getS32 (getS32 (getS8 (getS8 (getS8 get4)))))) getC) (ht := (setS32 (setS32 (setS32 (setS8 (setS8 (setS8 set5))))))) (hk := ?_); refine sA (hq := Quiet.move rfl (getS32 (getS32 (getS32 (getS8 (getS8 (getS8 get5))))))) (ht := (setS32 (setS32 (setS32 (setS8 (setS8 (setS8 set6))))))) (hk := ?_); refine sG (g := (x.is_ && (decide (x.rd ≤ 6)))) (hg := gA_t rfl) (hq := fun hg => Quiet.fa_ptr rfl get1 rfl) (ht := (setS32 (setS32 (setS32 (setS8 (setS8 (setS8 set7))))))) (hk := ?_); refine sG (g := (x.is_ && (decide (x.rd ≤ 6)))) (hg := gA_t rfl) (hq := fun hg => Quiet.load_ptr rfl ((getS32 (getS32 (getS32 (getS8 (getS8 (getS8 get7)))))).trans (cndT hg _ _)) rfl rfl) (ht := (setS32 (setS32 (setS32 (setS32 set0))))) (hk := ?_); refine sG (g := (x.is_ && (decide (x.rd ≤ 6)))) (hg := gA_t rfl) (hq := fun hg => by ((try simp only [cndT hg]); (try simp only [cndA hg]); exact Quiet.callA rfl rfl (r02_between_l (M.to_whn k13 hg)) rfl rfl)) (ht := (setS32 (setS32 (setS32 (setS32 set1))))) (hk := ?_); refine sA (hq := Quiet.pickAndB rfl (getS32 (getS32 (getS32 (getS8 (getS8 (getS8 get6)))))) (getS32 (getS32 (getS32 (getS32 get1)))) getC) (ht := (setS32 (setS32 (setS32 (setS32 set2))))) (hk := ?_); refine sA (hq := Quiet.assign rfl (getS32 (getS32 (getS32 (getS32 get2))))) (ht := set2) (hk := ?_); exact wEnd rfl)) (hk := ?_)
            obtain rfl := M.to_ok.1 H
            exact Awp.ret ⟨.inr rfl, Fin.cl rfl⟩
          · have H := M.to_f hb12 H
            refine wR (hx := by (refine sA (hq := Quiet.bin rfl (getS32 (getS32 (getS32 (getS8 get3)))) getC rfl) (ht := (setS32 (setS32 (setS32 (setS32 set4))))) (hk := ?_); refine sA (hq := Quiet.assign rfl (getS32 (getS32 (getS32 (getS32 get4))))) (ht := (setS32 (setS32 (setS32 (setS32 set3))))) (hk := ?_); exact wEnd rfl)) (hk := ?_)
            refine Awp.cond rfl (fun hb14 => ?_) (fun hb14 => ?_)
            · have H := M.to_t hb14 H
              obtain ⟨r15, k15, H⟩ := M.to_bnd.1 H
              refine wR (hx := by (refine sA (hq := Quiet.fa_ptr rfl get1 rfl) (ht := (setS32 (setS32 (setS32 (setS32 set5))))) (hk := ?_); refine sA (hq := Quiet.load_ptr rfl (getS32 (getS32 (getS32 (getS32 get5)))) rfl rfl) (ht := (setS32 (setS32 (setS32 (setS32 set6))))) (hk := ?_); refine sA (hq := Quiet.move rfl (getS32 (getS32 (getS32 (getS32 get6))))) (ht := (setS32 (setS32 (setS32 (setS32 set7))))) (hk := ?_); refine sG (g := x.is_) (hg := gA_t rfl) (hq := fun hg => Quiet.fa_ptr rfl get1 rfl) (ht := (setS32 (setS32 (setS32 (setS32 (setS8 set0)))))) (hk := ?_); refine sG (g := x.is_) (hg := gA_t rfl) (hq := fun hg => Quiet.load_ptr rfl ((getS32 (getS32 (getS32 (getS32 (getS8 get0))))).trans (cndT hg _ _)) rfl rfl) (ht := (setS32 (setS32 (setS32 (setS32 (setS8 set1)))))) (hk := ?_); refine sG (g := x.is_) (hg := gA_t rfl) (hq := fun hg => by ((try simp only [cndT hg]); (try simp only [cndA hg]); exact Quiet.callA rfl rfl (r02_between_l (M.to_whn k15 hg)) rfl rfl)) (ht := (setS32 (setS32 (setS32 (setS32 (setS8 set2)))))) (hk := ?_); refine sA (hq := Quiet.pickAndB rfl (getS32 (getS32 (getS32 (getS32 get7)))) (getS32 (getS32 (getS32 (getS32 (getS8 get2))))) getC) (ht := (setS32 (setS32 (setS32 (setS32 (setS8 set3)))))) (hk := ?_); refine sA (hq := Quiet.assign rfl (getS32 (getS32 (getS32 (getS32 (getS8 get3)))))) (ht := set2) (hk := ?_); exact wEnd rfl)) (hk := ?_)
              obtain rfl := M.to_ok.1 H
              exact Awp.ret ⟨.inr rfl, Fin.cl rfl⟩
            · have H := M.to_f hb14 H
              obtain ⟨z17, HX17, Hl17⟩ := M.to_bnd.1 H
              refine Awp.seqJ (β := (Bool) × (Unit)) (fun q17 => z17 = q17.1) (fun q17 => ⟨.any :: .ptr 0 0 :: .any :: .any :: .any :: .any :: .any :: .any :: .any :: .any :: .any :: .any :: .any :: .any :: .any :: .any :: .any :: .any :: .any :: .any :: .any :: .any :: .any :: .any :: .any :: .any :: .any :: .any :: .any :: .any :: .any :: .any :: .any :: .any :: .any :: .any :: .any :: .any :: .any :: .any :: .any :: .any :: .any :: .any :: .any :: .any :: .any :: .any :: .any :: .any :: .any :: .any :: .any :: .any :: .any :: .any :: .any :: .any :: .any :: .any :: .any :: .any :: .any :: .any :: .any :: .any :: .any :: .any :: .any :: .any :: .any :: .any :: .any :: .any :: .any :: .any :: .any :: .any :: .any :: .any :: .any :: .any :: .any :: .any :: .any :: .any :: .any :: .any :: .any :: .any :: .any :: .any :: .any :: .any :: .any :: .any :: .any :: .any :: .any :: .any :: .any :: .any :: .any :: .any :: .any :: .any :: .any :: .lit (.int .i64 r1) :: .any :: .any :: .any :: .any :: .any :: .any :: .any :: .any :: .any :: .any :: .any :: .any :: .any :: .any :: .any :: .any :: .any :: .any :: .any :: .any :: .any :: .any :: .any :: .any :: .any :: .any :: .any :: .any :: .any :: .any :: .any :: .any :: .lit (.bool q17.1) :: .any :: .any :: .any :: .any :: .any :: .any :: .any :: .any :: .any :: .any :: .any :: .any :: .any :: .any :: .any :: .any :: .any :: .any :: .any :: .any :: .any :: .any :: .any :: .any :: .any :: .any :: .any :: .any :: .any :: .any :: [], [.box (encInstM x)]⟩) ?_ ?_
              · have H := HX17
                refine wR (hx := by (refine sA (hq := Quiet.bin rfl (getS32 (getS32 (getS32 (getS8 get3)))) getC rfl) (ht := (setS32 (setS32 (setS32 (setS32 (setS8 set5)))))) (hk := ?_); refine sA (hq := Quiet.assign rfl (getS32 (getS32 (getS32 (getS32 (getS8 get5)))))) (ht := (setS32 (setS32 (setS32 (setS32 (setS8 set4)))))) (hk := ?_); exact wEnd rfl)) (hk := ?_)
                refine Awp.cond rfl (fun hb18 => ?_) (fun hb18 => ?_)
                · have H := M.to_t hb18 H
                  refine Awp.skip ?_
                  have e17 := M.to_ok.1 H
                  repeat (first | refine abN ?_ | refine asN ?_)
                  refine athen_n ⟨(_, ()), e17.symm, ?_⟩
                  try dsimp only
                  exact le_TA
                · have H := M.to_f hb18 H
                  refine wRE (hx := by (refine sA (hq := Quiet.bin rfl (getS32 (getS32 (getS32 (getS8 get3)))) getC rfl) (ht := (setS32 (setS32 (setS32 (setS32 (setS8 set6)))))) (hk := ?_); refine sA (hq := Quiet.assign rfl (getS32 (getS32 (getS32 (getS32 (getS8 get6)))))) (ht := (setS32 (setS32 (setS32 (setS32 (setS8 set4)))))) (hk := ?_); exact wEnd rfl)) (hk := ?_)
                  have e17 := M.to_ok.1 H
                  repeat (first | refine abN ?_ | refine asN ?_)
                  refine athen_n ⟨(_, ()), e17.symm, ?_⟩
                  try dsimp only
                  exact le_TA
              · rintro ⟨x16, _⟩ hz17
                try dsimp only at hz17
                have H := Hl17
                rw [hz17] at H
                try dsimp only
                refine Awp.cond rfl (fun hb19 => ?_) (fun hb19 => ?_)
                · have H := M.to_t hb19 H
                  obtain ⟨r20, k20, H⟩ := M.to_bnd.1 H
                  refine wR (hx := by (refine sA (hq := Quiet.fa_ptr rfl get1 rfl) (ht := (setS32 (setS32 (setS32 (setS32 (setS8 set7)))))) (hk := ?_); refine sA (hq := Quiet.load_ptr rfl (getS32 (getS32 (getS32 (getS32 (getS8 get7))))) rfl rfl) (ht := (setS32 (setS32 (setS32 (setS32 (setS8 (setS8 set0))))))) (hk := ?_); refine sA (hq := Quiet.move rfl (getS32 (getS32 (getS32 (getS32 (getS8 (getS8 get0))))))) (ht := (setS32 (setS32 (setS32 (setS32 (setS8 (setS8 set1))))))) (hk := ?_); refine sG (g := x.is_) (hg := gA_t rfl) (hq := fun hg => Quiet.fa_ptr rfl get1 rfl) (ht := (setS32 (setS32 (setS32 (setS32 (setS8 (setS8 set2))))))) (hk := ?_); refine sG (g := x.is_) (hg := gA_t rfl) (hq := fun hg => Quiet.load_ptr rfl ((getS32 (getS32 (getS32 (getS32 (getS8 (getS8 get2)))))).trans (cndT hg _ _)) rfl rfl) (ht := (setS32 (setS32 (setS32 (setS32 (setS8 (setS8 set3))))))) (hk := ?_); refine sG (g := x.is_) (hg := gA_t rfl) (hq := fun hg => by ((try simp only [cndT hg]); (try simp only [cndA hg]); exact Quiet.callA rfl rfl (r02_between_l (M.to_whn k20 hg)) rfl rfl)) (ht := (setS32 (setS32 (setS32 (setS32 (setS8 (setS8 set4))))))) (hk := ?_); refine sA (hq := Quiet.pickAndB rfl (getS32 (getS32 (getS32 (getS32 (getS8 (getS8 get1)))))) (getS32 (getS32 (getS32 (getS32 (getS8 (getS8 get4)))))) getC) (ht := (setS32 (setS32 (setS32 (setS32 (setS8 (setS8 set5))))))) (hk := ?_); refine sA (hq := Quiet.assign rfl (getS32 (getS32 (getS32 (getS32 (getS8 (getS8 get5))))))) (ht := set2) (hk := ?_); exact wEnd rfl)) (hk := ?_)
                  obtain rfl := M.to_ok.1 H
                  exact Awp.ret ⟨.inr rfl, Fin.cl rfl⟩
                · have H := M.to_f hb19 H
                  refine wR (hx := by (refine sA (hq := Quiet.bin rfl (getS32 (getS32 (getS32 (getS8 get3)))) getC rfl) (ht := (setS32 (setS32 (setS32 (setS32 (setS8 (setS8 set7))))))) (hk := ?_); refine sA (hq := Quiet.assign rfl (getS32 (getS32 (getS32 (getS32 (getS8 (getS8 get7))))))) (ht := (setS32 (setS32 (setS32 (setS32 (setS8 (setS8 set6))))))) (hk := ?_); exact wEnd rfl)) (hk := ?_)
                  refine Awp.cond rfl (fun hb21 => ?_) (fun hb21 => ?_)
                  · have H := M.to_t hb21 H
                    obtain ⟨r22, k22, H⟩ := M.to_bnd.1 H
                    refine wR (hx := by (refine sA (hq := Quiet.fa_ptr rfl get1 rfl) (ht := (setS32 (setS32 (setS32 (setS32 (setS8 (setS8 (setS8 set0)))))))) (hk := ?_); refine sA (hq := Quiet.load_ptr rfl (getS32 (getS32 (getS32 (getS32 (getS8 (getS8 (getS8 get0))))))) rfl rfl) (ht := (setS32 (setS32 (setS32 (setS32 (setS8 (setS8 (setS8 set1)))))))) (hk := ?_); refine sA (hq := Quiet.move rfl (getS32 (getS32 (getS32 (getS32 (getS8 (getS8 (getS8 get1)))))))) (ht := (setS32 (setS32 (setS32 (setS32 (setS8 (setS8 (setS8 set2)))))))) (hk := ?_); refine sG (g := x.is_) (hg := gA_t rfl) (hq := fun hg => Quiet.fa_ptr rfl get1 rfl) (ht := (setS32 (setS32 (setS32 (setS32 (setS8 (setS8 (setS8 set3)))))))) (hk := ?_); refine sG (g := x.is_) (hg := gA_t rfl) (hq := fun hg => Quiet.load_ptr rfl ((getS32 (getS32 (getS32 (getS32 (getS8 (getS8 (getS8 get3))))))).trans (cndT hg _ _)) rfl rfl) (ht := (setS32 (setS32 (setS32 (setS32 (setS8 (setS8 (setS8 set4)))))))) (hk := ?_); refine sG (g := x.is_) (hg := gA_t rfl) (hq := fun hg => by ((try simp only [cndT hg]); (try simp only [cndA hg]); exact Quiet.callA rfl rfl (r02_between_l (M.to_whn k22 hg)) rfl rfl)) (ht := (setS32 (setS32 (setS32 (setS32 (setS8 (setS8 (setS8 set5)))))))) (hk := ?_); refine sA (hq := Quiet.pickAndB rfl (getS32 (getS32 (getS32 (getS32 (getS8 (getS8 (getS8 get2))))))) (getS32 (getS32 (getS32 (getS32 (getS8 (getS8 (getS8 get5))))))) getC) (ht := (setS32 (setS32 (setS32 (setS32 (setS8 (setS8 (setS8 set6)))))))) (hk := ?_); refine sA (hq := Quiet.assign rfl (getS32 (getS32 (getS32 (getS32 (getS8 (getS8 (getS8 get6)))))))) (ht := set2) (hk := ?_); exact wEnd rfl)) (hk := ?_)
                    obtain rfl := M.to_ok.1 H
                    exact Awp.ret ⟨.inr rfl, Fin.cl rfl⟩
                  · have H := M.to_f hb21 H
                    refine wR (hx := by (refine sA (hq := Quiet.bin rfl (getS32 (getS32 (getS32 (getS8 get3)))) getC rfl) (ht := (setS32 (setS32 (setS32 (setS32 (setS32 set0)))))) (hk := ?_); refine sA (hq := Quiet.assign rfl (getS32 (getS32 (getS32 (getS32 (getS32 get0)))))) (ht := (setS32 (setS32 (setS32 (setS32 (setS8 (setS8 (setS8 set7)))))))) (hk := ?_); exact wEnd rfl)) (hk := ?_)
                    refine Awp.cond rfl (fun hb23 => ?_) (fun hb23 => ?_)
                    · have H := M.to_t hb23 H
                      obtain ⟨r24, k24, H⟩ := M.to_bnd.1 H
                      refine wR (hx := by (refine sA (hq := Quiet.fa_ptr rfl get1 rfl) (ht := (setS32 (setS32 (setS32 (setS32 (setS32 set1)))))) (hk := ?_); refine sA (hq := Quiet.load_ptr rfl (getS32 (getS32 (getS32 (getS32 (getS32 get1))))) rfl rfl) (ht := (setS32 (setS32 (setS32 (setS32 (setS32 set2)))))) (hk := ?_); refine sA (hq := Quiet.move rfl (getS32 (getS32 (getS32 (getS32 (getS32 get2)))))) (ht := (setS32 (setS32 (setS32 (setS32 (setS32 set3)))))) (hk := ?_); refine sG (g := x.is_) (hg := gA_t rfl) (hq := fun hg => Quiet.fa_ptr rfl get1 rfl) (ht := (setS32 (setS32 (setS32 (setS32 (setS32 set4)))))) (hk := ?_); refine sG (g := x.is_) (hg := gA_t rfl) (hq := fun hg => Quiet.load_ptr rfl ((getS32 (getS32 (getS32 (getS32 (getS32 get4))))).trans (cndT hg _ _)) rfl rfl) (ht := (setS32 (setS32 (setS32 (setS32 (setS32 set5)))))) (hk := ?_); refine sG (g := x.is_) (hg := gA_t rfl) (hq := fun hg => by ((try simp only [cndT hg]); (try simp only [cndA hg]); exact Quiet.callA rfl rfl (r02_between_l (M.to_whn k24 hg)) rfl rfl)) (ht := (setS32 (setS32 (setS32 (setS32 (setS32 set6)))))) (hk := ?_); refine sA (hq := Quiet.pickAndB rfl (getS32 (getS32 (getS32 (getS32 (getS32 get3))))) (getS32 (getS32 (getS32 (getS32 (getS32 get6))))) getC) (ht := (setS32 (setS32 (setS32 (setS32 (setS32 set7)))))) (hk := ?_); refine sA (hq := Quiet.assign rfl (getS32 (getS32 (getS32 (getS32 (getS32 get7)))))) (ht := set2) (hk := ?_); exact wEnd rfl)) (hk := ?_)
                      obtain rfl := M.to_ok.1 H
                      exact Awp.ret ⟨.inr rfl, Fin.cl rfl⟩
                    · have H := M.to_f hb23 H
                      refine Awp.skip ?_
                      refine hs9 _ ?_
                      refine nT (hk := ?_)
                      refine wR (hx := by (refine sA (hq := Quiet.fa_ptr rfl get1 rfl) (ht := (setS32 (setS32 (setS32 (setS32 (setS32 (setS8 set0))))))) (hk := ?_); refine sA (hq := Quiet.load_ptr rfl (getS32 (getS32 (getS32 (getS32 (getS32 (getS8 get0)))))) rfl rfl) (ht := (setS32 (setS32 (setS32 (setS32 (setS32 (setS8 set1))))))) (hk := ?_); refine sA (hq := Quiet.bnot rfl (getS32 (getS32 (getS32 (getS32 (getS32 (getS8 get1))))))) (ht := (setS32 (setS32 (setS32 (setS32 (setS32 (setS8 set2))))))) (hk := ?_); refine sA (hq := Quiet.assign rfl (getS32 (getS32 (getS32 (getS32 (getS32 (getS8 get2))))))) (ht := set2) (hk := ?_); exact wEnd rfl)) (hk := ?_)
                      obtain rfl := M.to_ok.1 H
                      exact Awp.ret ⟨.inr rfl, Fin.cl rfl⟩
def r02_low (n : Int) (of1 : Int) : M Int := M.chk (of1 != 0) (M.bnd (M.cnd (decide ((Int.tmod (IntKind.i64.wrap n) of1) < 0)) (M.ok (IntKind.i64.wrap ((Int.tmod (IntKind.i64.wrap n) of1) + of1))) (M.ok (Int.tmod (IntKind.i64.wrap n) of1))) fun r2 => M.ok (IntKind.u32.wrap r2))
set_option maxRecDepth 100000 in
set_option maxHeartbeats 4000000 in
theorem r02_low_l {n : Int} {of1 : Int} {r : Int} (H : (r02_low n of1).to r) : Fn Tryd.prog 86 [.lit (.int .i32 n), .lit (.int .i64 of1)] (.lit (.int .u32 r)) := by
  delta r02_low at H
  try dsimp only at H
  refine Fn.of_awp Tryd.func86 rfl (by kernel_rfl) rfl Tryd.ntmps86 fun C hC => ?_
  simp only [List.length_cons, List.length_nil, Nat.reduceAdd, Nat.reduceSub, List.replicate_succ, List.replicate_zero, List.cons_append, List.nil_append]
  refine wR (hx := by (refine sA (hq := Quiet.assign rfl getC) (ht := set4) (hk := ?_); exact wEnd rfl)) (hk := ?_)
  obtain ⟨c1, H⟩ := M.to_chk.1 H
  refine wR (hx := by (refine sA (hq := Quiet.move rfl get0) (ht := set6) (hk := ?_); refine sA (hq := Quiet.cv rfl get6 rfl) (ht := set7) (hk := ?_); refine sA (hq := Quiet.move rfl get1) (ht := (setS8 set0)) (hk := ?_); refine sA (hq := Quiet.remM rfl get7 (getS8 get0) c1) (ht := (setS8 set1)) (hk := ?_); refine sA (hq := Quiet.assign rfl (getS8 get1)) (ht := set5) (hk := ?_); exact wEnd rfl)) (hk := ?_)
  obtain ⟨z3, HX3, Hl3⟩ := M.to_bnd.1 H
  refine Awp.seqJ (β := (Int) × (Unit)) (fun q3 => z3 = q3.1) (fun q3 => ⟨[.any, .any, .any, .any, .any, .lit (.int .i64 q3.1), .any, .any, .any, .any, .any, .any, .any, .any, .any, .any, .any], []⟩) ?_ ?_
  · have H := HX3
    refine wR (hx := by (refine sA (hq := Quiet.move rfl get5) (ht := (setS8 set2)) (hk := ?_); refine sA (hq := Quiet.bin rfl (getS8 get2) getC rfl) (ht := (setS8 set3)) (hk := ?_); exact wEnd rfl)) (hk := ?_)
    refine Awp.cond rfl (fun hb4 => ?_) (fun hb4 => ?_)
    · have H := M.to_t hb4 H
      refine wRE (hx := by (refine sA (hq := Quiet.move rfl get5) (ht := (setS8 set4)) (hk := ?_); refine sA (hq := Quiet.move rfl get1) (ht := (setS8 set5)) (hk := ?_); refine sA (hq := Quiet.bin rfl (getS8 get4) (getS8 get5) rfl) (ht := (setS8 set6)) (hk := ?_); refine sA (hq := Quiet.assign rfl (getS8 get6)) (ht := set5) (hk := ?_); exact wEnd rfl)) (hk := ?_)
      have e3 := M.to_ok.1 H
      repeat (first | refine abN ?_ | refine asN ?_)
      refine athen_n ⟨(_, ()), e3.symm, ?_⟩
      try dsimp only
      exact le_TA
    · have H := M.to_f hb4 H
      refine Awp.skip ?_
      have e3 := M.to_ok.1 H
      repeat (first | refine abN ?_ | refine asN ?_)
      refine athen_n ⟨(_, ()), e3.symm, ?_⟩
      try dsimp only
      exact le_TA
  · rintro ⟨r2, _⟩ hz3
    try dsimp only at hz3
    have H := Hl3
    rw [hz3] at H
    try dsimp only
    refine wR (hx := by (refine sA (hq := Quiet.move rfl get5) (ht := (setS8 set7)) (hk := ?_); refine sA (hq := Quiet.cv rfl (getS8 get7) rfl) (ht := (setS8 (setS8 set0))) (hk := ?_); refine sA (hq := Quiet.assign rfl (getS8 (getS8 get0))) (ht := set4) (hk := ?_); exact wEnd rfl)) (hk := ?_)
    obtain rfl := M.to_ok.1 H
    exact Awp.ret ⟨.inr rfl, Fin.cl rfl⟩
def r02_Encode (x : InstM) : M (Int × Int) := M.bnd (r02_May x) fun r2 => M.cnd (!r2) (M.ok (0, 2)) (M.bnd (r02_Kind x.op) fun r4 => M.cnd ((decide (r4 ≥ 3)) && (decide (r4 ≤ 5))) (M.bnd (r02_low x.imm 2097152) fun r7 => M.ok (IntKind.u32.wrap ((IntKind.u32.wrap ((IntKind.u32.wrap ((IntKind.u32.wrap x.op) * 67108864)) + (IntKind.u32.wrap ((IntKind.u32.wrap x.rd) * 2097152)))) + r7), 0)) (M.cnd x.is_ (M.bnd (r02_low x.imm 32768) fun r10 => M.ok (IntKind.u32.wrap ((IntKind.u32.wrap ((IntKind.u32.wrap ((IntKind.u32.wrap ((IntKind.u32.wrap ((IntKind.u32.wrap x.op) * 67108864)) + (IntKind.u32.wrap ((IntKind.u32.wrap x.rd) * 2097152)))) + (IntKind.u32.wrap ((IntKind.u32.wrap x.rs1) * 65536)))) + 32768)) + r10), 0)) (M.ok (IntKind.u32.wrap ((IntKind.u32.wrap ((IntKind.u32.wrap ((IntKind.u32.wrap ((IntKind.u32.wrap x.op) * 67108864)) + (IntKind.u32.wrap ((IntKind.u32.wrap x.rd) * 2097152)))) + (IntKind.u32.wrap ((IntKind.u32.wrap x.rs1) * 65536)))) + (IntKind.u32.wrap x.rs2)), 0))))
set_option maxRecDepth 100000 in
set_option maxHeartbeats 4000000 in
theorem r02_Encode_l {x : InstM} {r : Int × Int} (H : (r02_Encode x).to r) : Fn Tryd.prog 71 [.agg (encInstM x)] (.tup [.lit (.int .u32 r.1), .lit (.int .i64 r.2)]) := by
  delta r02_Encode at H
  try dsimp only at H
  refine Fn.of_awp2 Tryd.func71 rfl (by kernel_rfl) rfl Tryd.ntmps71 fun C hC => ?_
  simp only [List.length_cons, List.length_nil, Nat.reduceAdd, Nat.reduceSub, List.replicate_succ, List.replicate_zero, List.cons_append, List.nil_append]
  refine wR (hx := by ((refine aSeq_t rfl (AOp.boxI 0 rfl rfl Parts0.agg ?_); refine sNtM (ht := set1) (hk := ?_)); refine sA (hq := Quiet.assign rfl getC) (ht := set2) (hk := ?_); refine sA (hq := Quiet.assign rfl getC) (ht := set3) (hk := ?_); exact wEnd rfl)) (hk := ?_)
  refine Awp.seq fun Khs1 hs1 => ?_
  obtain ⟨r2, k2, H⟩ := M.to_bnd.1 H
  have k2 := r02_May_l k2
  refine wR (hx := by (refine sA (hq := Quiet.loadA_ptr rfl get1 rfl rfl) (ht := set6) (hk := ?_); refine sA (hq := Quiet.callA rfl rfl k2 rfl rfl) (ht := set7) (hk := ?_); refine sA (hq := Quiet.bnot rfl get7) (ht := (setS8 set0)) (hk := ?_); exact wEnd rfl)) (hk := ?_)
  refine Awp.cond rfl (fun hb3 => ?_) (fun hb3 => ?_)
  · have H := M.to_t hb3 H
    refine wR (hx := by (refine sA (hq := Quiet.assign rfl getC) (ht := set2) (hk := ?_); refine sA (hq := Quiet.assign rfl getC) (ht := set3) (hk := ?_); exact wEnd rfl)) (hk := ?_)
    obtain rfl := M.to_ok.1 H
    exact Awp.ret ⟨.inr rfl, _, _, Fin.cl rfl, rfl, rfl⟩
  · have H := M.to_f hb3 H
    refine Awp.skip ?_
    refine hs1 _ ?_
    refine nT (hk := ?_)
    refine wR (hx := by (refine sA (hq := Quiet.fa_ptr rfl get1 rfl) (ht := (setS8 set1)) (hk := ?_); refine sA (hq := Quiet.load_ptr rfl (getS8 get1) rfl rfl) (ht := (setS8 set2)) (hk := ?_); refine sA (hq := Quiet.cv rfl (getS8 get2) rfl) (ht := (setS8 set3)) (hk := ?_); refine sA (hq := Quiet.bin rfl (getS8 get3) getC rfl) (ht := (setS8 set4)) (hk := ?_); refine sA (hq := Quiet.fa_ptr rfl get1 rfl) (ht := (setS8 set5)) (hk := ?_); refine sA (hq := Quiet.load_ptr rfl (getS8 get5) rfl rfl) (ht := (setS8 set6)) (hk := ?_); refine sA (hq := Quiet.cv rfl (getS8 get6) rfl) (ht := (setS8 set7)) (hk := ?_); refine sA (hq := Quiet.bin rfl (getS8 get7) getC rfl) (ht := (setS8 (setS8 set0))) (hk := ?_); refine sA (hq := Quiet.bin rfl (getS8 get4) (getS8 (getS8 get0)) rfl) (ht := (setS8 (setS8 set1))) (hk := ?_); refine sA (hq := Quiet.assign rfl (getS8 (getS8 get1))) (ht := set4) (hk := ?_); exact wEnd rfl)) (hk := ?_)
    obtain ⟨r4, k4, H⟩ := M.to_bnd.1 H
    have k4 := r02_Kind_l k4
    refine wR (hx := by (refine sA (hq := Quiet.fa_ptr rfl get1 rfl) (ht := (setS8 (setS8 set2))) (hk := ?_); refine sA (hq := Quiet.load_ptr rfl (getS8 (getS8 get2)) rfl rfl) (ht := (setS8 (setS8 set3))) (hk := ?_); refine sA (hq := Quiet.callA rfl rfl k4 rfl rfl) (ht := (setS8 (setS8 set4))) (hk := ?_); refine sA (hq := Quiet.assign rfl (getS8 (getS8 get4))) (ht := set5) (hk := ?_); exact wEnd rfl)) (hk := ?_)
    refine Awp.seq fun Khs5 hs5 => ?_
    refine wR (hx := by (refine sA (hq := Quiet.move rfl get5) (ht := (setS8 (setS8 set5))) (hk := ?_); refine sA (hq := Quiet.bin rfl (getS8 (getS8 get5)) getC rfl) (ht := (setS8 (setS8 set6))) (hk := ?_); refine sA (hq := Quiet.move rfl (getS8 (getS8 get6))) (ht := (setS8 (setS8 set7))) (hk := ?_); refine sG (g := (decide (r4 ≥ 3))) (hg := gA_t rfl) (hq := fun hg => Quiet.move rfl get5) (ht := (setS8 (setS8 (setS8 set0)))) (hk := ?_); refine sG (g := (decide (r4 ≥ 3))) (hg := gA_t rfl) (hq := fun hg => Quiet.bin rfl ((getS8 (getS8 (getS8 get0))).trans (cndT hg _ _)) getC rfl) (ht := (setS8 (setS8 (setS8 set1)))) (hk := ?_); refine sA (hq := Quiet.pickAndB rfl (getS8 (getS8 get7)) (getS8 (getS8 (getS8 get1))) getC) (ht := (setS8 (setS8 (setS8 set2)))) (hk := ?_); exact wEnd rfl)) (hk := ?_)
    refine Awp.cond rfl (fun hb6 => ?_) (fun hb6 => ?_)
    · have H := M.to_t hb6 H
      obtain ⟨r7, k7, H⟩ := M.to_bnd.1 H
      have k7 := r02_low_l k7
      refine wR (hx := by (refine sA (hq := Quiet.move rfl get4) (ht := (setS8 (setS8 (setS8 set3)))) (hk := ?_); refine sA (hq := Quiet.fa_ptr rfl get1 rfl) (ht := (setS8 (setS8 (setS8 set4)))) (hk := ?_); refine sA (hq := Quiet.load_ptr rfl (getS8 (getS8 (getS8 get4))) rfl rfl) (ht := (setS8 (setS8 (setS8 set5)))) (hk := ?_); refine sA (hq := Quiet.callA rfl rfl k7 rfl rfl) (ht := (setS8 (setS8 (setS8 set6)))) (hk := ?_); refine sA (hq := Quiet.bin rfl (getS8 (getS8 (getS8 get3))) (getS8 (getS8 (getS8 get6))) rfl) (ht := (setS8 (setS8 (setS8 set7)))) (hk := ?_); refine sA (hq := Quiet.assign rfl (getS8 (getS8 (getS8 get7)))) (ht := set2) (hk := ?_); refine sA (hq := Quiet.assign rfl getC) (ht := set3) (hk := ?_); exact wEnd rfl)) (hk := ?_)
      obtain rfl := M.to_ok.1 H
      exact Awp.ret ⟨.inr rfl, _, _, Fin.cl rfl, rfl, rfl⟩
    · have H := M.to_f hb6 H
      refine Awp.skip ?_
      refine hs5 _ ?_
      refine nT (hk := ?_)
      refine wR (hx := by (refine sA (hq := Quiet.move rfl get4) (ht := (setS32 set0)) (hk := ?_); refine sA (hq := Quiet.fa_ptr rfl get1 rfl) (ht := (setS32 set1)) (hk := ?_); refine sA (hq := Quiet.load_ptr rfl (getS32 get1) rfl rfl) (ht := (setS32 set2)) (hk := ?_); refine sA (hq := Quiet.cv rfl (getS32 get2) rfl) (ht := (setS32 set3)) (hk := ?_); refine sA (hq := Quiet.bin rfl (getS32 get3) getC rfl) (ht := (setS32 set4)) (hk := ?_); refine sA (hq := Quiet.bin rfl (getS32 get0) (getS32 get4) rfl) (ht := (setS32 set5)) (hk := ?_); refine sA (hq := Quiet.assign rfl (getS32 get5)) (ht := set4) (hk := ?_); exact wEnd rfl)) (hk := ?_)
      refine Awp.seq fun Khs8 hs8 => ?_
      refine wR (hx := by (refine sA (hq := Quiet.fa_ptr rfl get1 rfl) (ht := (setS32 set6)) (hk := ?_); refine sA (hq := Quiet.load_ptr rfl (getS32 get6) rfl rfl) (ht := (setS32 set7)) (hk := ?_); exact wEnd rfl)) (hk := ?_)
      refine Awp.cond rfl (fun hb9 => ?_) (fun hb9 => ?_)
      · have H := M.to_t hb9 H
        obtain ⟨r10, k10, H⟩ := M.to_bnd.1 H
        have k10 := r02_low_l k10
        refine wR (hx := by (refine sA (hq := Quiet.move rfl get4) (ht := (setS32 (setS8 set0))) (hk := ?_); refine sA (hq := Quiet.bin rfl (getS32 (getS8 get0)) getC rfl) (ht := (setS32 (setS8 set1))) (hk := ?_); refine sA (hq := Quiet.fa_ptr rfl get1 rfl) (ht := (setS32 (setS8 set2))) (hk := ?_); refine sA (hq := Quiet.load_ptr rfl (getS32 (getS8 get2)) rfl rfl) (ht := (setS32 (setS8 set3))) (hk := ?_); refine sA (hq := Quiet.callA rfl rfl k10 rfl rfl) (ht := (setS32 (setS8 set4))) (hk := ?_); refine sA (hq := Quiet.bin rfl (getS32 (getS8 get1)) (getS32 (getS8 get4)) rfl) (ht := (setS32 (setS8 set5))) (hk := ?_); refine sA (hq := Quiet.assign rfl (getS32 (getS8 get5))) (ht := set2) (hk := ?_); refine sA (hq := Quiet.assign rfl getC) (ht := set3) (hk := ?_); exact wEnd rfl)) (hk := ?_)
        obtain rfl := M.to_ok.1 H
        exact Awp.ret ⟨.inr rfl, _, _, Fin.cl rfl, rfl, rfl⟩
      · have H := M.to_f hb9 H
        refine Awp.skip ?_
        refine hs8 _ ?_
        refine nT (hk := ?_)
        refine wR (hx := by (refine sA (hq := Quiet.move rfl get4) (ht := (setS32 (setS8 set6))) (hk := ?_); refine sA (hq := Quiet.fa_ptr rfl get1 rfl) (ht := (setS32 (setS8 set7))) (hk := ?_); refine sA (hq := Quiet.load_ptr rfl (getS32 (getS8 get7)) rfl rfl) (ht := (setS32 (setS8 (setS8 set0)))) (hk := ?_); refine sA (hq := Quiet.cv rfl (getS32 (getS8 (getS8 get0))) rfl) (ht := (setS32 (setS8 (setS8 set1)))) (hk := ?_); refine sA (hq := Quiet.bin rfl (getS32 (getS8 get6)) (getS32 (getS8 (getS8 get1))) rfl) (ht := (setS32 (setS8 (setS8 set2)))) (hk := ?_); refine sA (hq := Quiet.assign rfl (getS32 (getS8 (getS8 get2)))) (ht := set2) (hk := ?_); refine sA (hq := Quiet.assign rfl getC) (ht := set3) (hk := ?_); exact wEnd rfl)) (hk := ?_)
        obtain rfl := M.to_ok.1 H
        exact Awp.ret ⟨.inr rfl, _, _, Fin.cl rfl, rfl, rfl⟩
def r02_signed (n : Int) (bits : Int) : M Int := M.chk (decide (0 ≤ (IntKind.u64.wrap (bits - 1)))) (M.cnd (decide (n ≥ (shlV .u32 1 (IntKind.u64.wrap (bits - 1))))) (M.chk (decide (0 ≤ bits)) (M.ok (IntKind.i32.wrap (IntKind.i64.wrap ((IntKind.i64.wrap n) - (shlV .i64 1 bits)))))) (M.ok (IntKind.i32.wrap n)))
set_option maxRecDepth 100000 in
set_option maxHeartbeats 4000000 in
theorem r02_signed_l {n : Int} {bits : Int} {r : Int} (H : (r02_signed n bits).to r) : Fn Tryd.prog 70 [.lit (.int .u32 n), .lit (.int .u64 bits)] (.lit (.int .i32 r)) := by
  delta r02_signed at H
  try dsimp only at H
  refine Fn.of_awp Tryd.func70 rfl (by kernel_rfl) rfl Tryd.ntmps70 fun C hC => ?_
  simp only [List.length_cons, List.length_nil, Nat.reduceAdd, Nat.reduceSub, List.replicate_succ, List.replicate_zero, List.cons_append, List.nil_append]
  refine wR (hx := by (refine sA (hq := Quiet.assign rfl getC) (ht := set4) (hk := ?_); exact wEnd rfl)) (hk := ?_)
  refine Awp.seq fun Khs1 hs1 => ?_
  obtain ⟨c2, H⟩ := M.to_chk.1 H
  refine wR (hx := by (refine sA (hq := Quiet.move rfl get0) (ht := set5) (hk := ?_); refine sA (hq := Quiet.move rfl get1) (ht := set6) (hk := ?_); refine sA (hq := Quiet.bin rfl get6 getC rfl) (ht := set7) (hk := ?_); refine sA (hq := Quiet.shlM rfl getC get7 c2) (ht := (setS8 set0)) (hk := ?_); refine sA (hq := Quiet.bin rfl get5 (getS8 get0) rfl) (ht := (setS8 set1)) (hk := ?_); exact wEnd rfl)) (hk := ?_)
  refine Awp.cond rfl (fun hb3 => ?_) (fun hb3 => ?_)
  · have H := M.to_t hb3 H
    obtain ⟨c4, H⟩ := M.to_chk.1 H
    refine wR (hx := by (refine sA (hq := Quiet.move rfl get0) (ht := (setS8 set2)) (hk := ?_); refine sA (hq := Quiet.cv rfl (getS8 get2) rfl) (ht := (setS8 set3)) (hk := ?_); refine sA (hq := Quiet.move rfl get1) (ht := (setS8 set4)) (hk := ?_); refine sA (hq := Quiet.shlM rfl getC (getS8 get4) c4) (ht := (setS8 set5)) (hk := ?_); refine sA (hq := Quiet.bin rfl (getS8 get3) (getS8 get5) rfl) (ht := (setS8 set6)) (hk := ?_); refine sA (hq := Quiet.cv rfl (getS8 get6) rfl) (ht := (setS8 set7)) (hk := ?_); refine sA (hq := Quiet.assign rfl (getS8 get7)) (ht := set4) (hk := ?_); exact wEnd rfl)) (hk := ?_)
    obtain rfl := M.to_ok.1 H
    exact Awp.ret ⟨.inr rfl, Fin.cl rfl⟩
  · have H := M.to_f hb3 H
    refine Awp.skip ?_
    refine hs1 _ ?_
    refine nT (hk := ?_)
    refine wR (hx := by (refine sA (hq := Quiet.move rfl get0) (ht := (setS8 (setS8 set0))) (hk := ?_); refine sA (hq := Quiet.cv rfl (getS8 (getS8 get0)) rfl) (ht := (setS8 (setS8 set1))) (hk := ?_); refine sA (hq := Quiet.assign rfl (getS8 (getS8 get1))) (ht := set4) (hk := ?_); exact wEnd rfl)) (hk := ?_)
    obtain rfl := M.to_ok.1 H
    exact Awp.ret ⟨.inr rfl, Fin.cl rfl⟩
def r02_Decode (w : Int) : M (InstM × Bool) := M.bnd (r02_Kind (IntKind.u8.wrap (shrV .u32 w 26))) fun r1 => M.bnd (M.cnd ((decide (r1 ≥ 3)) && (decide (r1 ≤ 5))) (M.bnd (r02_signed (Int.tmod w 2097152) 21) fun r8 => M.cnd (r1 == 3) (M.ok (0, 0, true, IntKind.i32.wrap (Int.tmod w 2097152))) (M.ok (0, 0, true, r8))) (M.cnd ((Int.tmod (shrV .u32 w 15) 2) == 1) (M.bnd (r02_signed (Int.tmod w 32768) 15) fun r11 => M.ok (IntKind.u8.wrap (Int.tmod (shrV .u32 w 16) 32), 0, ((Int.tmod (shrV .u32 w 15) 2) == 1), r11)) (M.ok (IntKind.u8.wrap (Int.tmod (shrV .u32 w 16) 32), IntKind.u8.wrap (Int.tmod w 32), ((Int.tmod (shrV .u32 w 15) 2) == 1), 0)))) fun (c1_22, c1_33, c1_44, c1_55) => M.bnd (r02_Encode ⟨IntKind.u8.wrap (shrV .u32 w 26), IntKind.u8.wrap (Int.tmod (shrV .u32 w 21) 32), c1_22, c1_33, c1_44, c1_55⟩) fun r12 => M.cnd ((r12.2 != 0) || (r12.1 != w)) (M.ok (⟨0, 0, 0, 0, false, 0⟩, false)) (M.ok (⟨IntKind.u8.wrap (shrV .u32 w 26), IntKind.u8.wrap (Int.tmod (shrV .u32 w 21) 32), c1_22, c1_33, c1_44, c1_55⟩, true))
set_option maxRecDepth 100000 in
set_option maxHeartbeats 4000000 in
theorem r02_Decode_l {w : Int} {r : InstM × Bool} (H : (r02_Decode w).to r) : Fn Tryd.prog 52 [.lit (.int .u32 w)] (.tup [.agg (encInstM r.1), .lit (.bool r.2)]) := by
  delta r02_Decode at H
  try dsimp only at H
  refine Fn.of_awpC2 Tryd.func52 rfl (by kernel_rfl) rfl (by kernel_rfl : aggT Tryd.prog 75 = some (true, 6)) Tryd.ntmps52 fun C hC => ?_
  simp only [List.length_cons, List.length_nil, Nat.reduceAdd, Nat.reduceSub, List.replicate_succ, List.replicate_zero, List.cons_append, List.nil_append]
  refine wR (hx := by ((refine aSeq_t rfl (AOp.alI 0 rfl rfl ?_); refine sNtM (ht := set2) (hk := ?_)); refine sA (hq := Quiet.assign rfl getC) (ht := set3) (hk := ?_); exact wEnd rfl)) (hk := ?_)
  refine wR (hx := by (refine sA (hq := Quiet.move rfl get0) (ht := (setS8 set0)) (hk := ?_); refine sA (hq := Quiet.shrM rfl (getS8 get0) getC rfl) (ht := (setS8 set1)) (hk := ?_); refine sA (hq := Quiet.cv rfl (getS8 get1) rfl) (ht := (setS8 set2)) (hk := ?_); refine sA (hq := Quiet.move rfl get0) (ht := (setS8 set3)) (hk := ?_); refine sA (hq := Quiet.shrM rfl (getS8 get3) getC rfl) (ht := (setS8 set4)) (hk := ?_); refine sA (hq := Quiet.remM rfl (getS8 get4) getC rfl) (ht := (setS8 set5)) (hk := ?_); refine sA (hq := Quiet.cv rfl (getS8 get5) rfl) (ht := (setS8 set6)) (hk := ?_); refine sA (hq := Quiet.bldP (rs := [.lit (.int .u8 (IntKind.u8.wrap (shrV .u32 w 26))), .lit (.int .u8 (IntKind.u8.wrap (Int.tmod (shrV .u32 w 21) 32))), .lit (.int .u8 0), .lit (.int .u8 0), .lit (.bool false), .lit (.int .i32 0)]) rfl plInstM rfl rfl) (ht := (setS8 set7)) (hk := ?_); (refine aSeq_t rfl (AOp.alI 1 rfl rfl ?_); refine sNtM (ht := set4) (hk := ?_)); (refine aSeq_t rfl (AOp.stBox rfl rfl rfl (Parts.aggB rfl) rfl (Nat.le_of_ble_eq_true rfl) ?_); refine sNtM (ht := setN) (hk := ?_)); exact wEnd rfl)) (hk := ?_)
  obtain ⟨r1, k1, H⟩ := M.to_bnd.1 H
  have k1 := r02_Kind_l k1
  refine wR (hx := by (refine sA (hq := Quiet.fa_ptr rfl get4 rfl) (ht := (setS8 (setS8 set0))) (hk := ?_); refine sA (hq := Quiet.load_ptr rfl (getS8 (getS8 get0)) rfl rfl) (ht := (setS8 (setS8 set1))) (hk := ?_); refine sA (hq := Quiet.callA rfl rfl k1 rfl rfl) (ht := (setS8 (setS8 set2))) (hk := ?_); refine sA (hq := Quiet.assign rfl (getS8 (getS8 get2))) (ht := set5) (hk := ?_); exact wEnd rfl)) (hk := ?_)
  obtain ⟨z6, HX6, Hl6⟩ := M.to_bnd.1 H
  refine Awp.seqJ (β := (Int × Int × Bool × Int) × (Unit)) (fun q6 => z6 = q6.1) (fun q6 => ⟨.lit (.int .u32 w) :: .any :: .ptr 0 0 :: .any :: .ptr 1 0 :: .any :: .any :: .any :: .any :: .any :: .any :: .any :: .any :: .any :: .any :: .any :: .any :: .any :: .any :: .any :: .any :: .any :: .any :: .any :: .any :: .any :: .any :: .any :: .any :: .any :: .any :: .any :: .any :: .any :: .any :: .any :: .any :: .any :: .any :: .any :: .any :: .any :: .any :: .any :: .any :: .any :: .any :: .any :: .any :: .any :: .any :: .any :: .any :: .any :: .any :: .any :: .any :: .any :: .any :: .any :: .any :: .any :: .any :: .any :: .any :: .any :: .any :: .any :: .any :: .any :: [], [.box [.lit (.int .u8 0), .lit (.int .u8 0), .lit (.int .u8 0), .lit (.int .u8 0), .lit (.bool false), .lit (.int .i32 0)], .box [.lit (.int .u8 (IntKind.u8.wrap (shrV .u32 w 26))), .lit (.int .u8 (IntKind.u8.wrap (Int.tmod (shrV .u32 w 21) 32))), .lit (.int .u8 q6.1.1), .lit (.int .u8 q6.1.2.1), .lit (.bool q6.1.2.2.1), .lit (.int .i32 q6.1.2.2.2)]]⟩) ?_ ?_
  · have H := HX6
    refine wR (hx := by (refine sA (hq := Quiet.move rfl get5) (ht := (setS8 (setS8 set3))) (hk := ?_); refine sA (hq := Quiet.bin rfl (getS8 (getS8 get3)) getC rfl) (ht := (setS8 (setS8 set4))) (hk := ?_); refine sA (hq := Quiet.move rfl (getS8 (getS8 get4))) (ht := (setS8 (setS8 set5))) (hk := ?_); refine sG (g := (decide (r1 ≥ 3))) (hg := gA_t rfl) (hq := fun hg => Quiet.move rfl get5) (ht := (setS8 (setS8 set6))) (hk := ?_); refine sG (g := (decide (r1 ≥ 3))) (hg := gA_t rfl) (hq := fun hg => Quiet.bin rfl ((getS8 (getS8 get6)).trans (cndT hg _ _)) getC rfl) (ht := (setS8 (setS8 set7))) (hk := ?_); refine sA (hq := Quiet.pickAndB rfl (getS8 (getS8 get5)) (getS8 (getS8 get7)) getC) (ht := (setS8 (setS8 (setS8 set0)))) (hk := ?_); exact wEnd rfl)) (hk := ?_)
    refine Awp.cond rfl (fun hb7 => ?_) (fun hb7 => ?_)
    · have H := M.to_t hb7 H
      refine wR (hx := by (refine sA (hq := Quiet.fa_ptr rfl get4 rfl) (ht := (setS8 (setS8 (setS8 set1)))) (hk := ?_); (refine aSeq_t rfl (AOp.stBox (new := [_]) rfl rfl rfl (Parts.one (One.lit rfl)) rfl (Nat.le_of_ble_eq_true rfl) ?_); refine sNtM (ht := setN) (hk := ?_)); exact wEnd rfl)) (hk := ?_)
      obtain ⟨r8, k8, H⟩ := M.to_bnd.1 H
      have k8 := r02_signed_l k8
      refine wR (hx := by (refine sA (hq := Quiet.move rfl get0) (ht := (setS8 (setS8 (setS8 set2)))) (hk := ?_); refine sA (hq := Quiet.remM rfl (getS8 (getS8 (getS8 get2))) getC rfl) (ht := (setS8 (setS8 (setS8 set3)))) (hk := ?_); refine sA (hq := Quiet.callA rfl rfl k8 rfl rfl) (ht := (setS8 (setS8 (setS8 set4)))) (hk := ?_); refine sA (hq := Quiet.fa_ptr rfl get4 rfl) (ht := (setS8 (setS8 (setS8 set5)))) (hk := ?_); (refine aSeq_t rfl (AOp.stBox (new := [_]) rfl rfl rfl (Parts.one (One.lit rfl)) rfl (Nat.le_of_ble_eq_true rfl) ?_); refine sNtM (ht := setN) (hk := ?_)); exact wEnd rfl)) (hk := ?_)
      refine wR (hx := by (refine sA (hq := Quiet.move rfl get5) (ht := (setS8 (setS8 (setS8 set6)))) (hk := ?_); refine sA (hq := Quiet.bin rfl (getS8 (getS8 (getS8 get6))) getC rfl) (ht := (setS8 (setS8 (setS8 set7)))) (hk := ?_); exact wEnd rfl)) (hk := ?_)
      refine Awp.cond rfl (fun hb9 => ?_) (fun hb9 => ?_)
      · have H := M.to_t hb9 H
        refine wRE (hx := by (refine sA (hq := Quiet.move rfl get0) (ht := (setS32 set0)) (hk := ?_); refine sA (hq := Quiet.remM rfl (getS32 get0) getC rfl) (ht := (setS32 set1)) (hk := ?_); refine sA (hq := Quiet.cv rfl (getS32 get1) rfl) (ht := (setS32 set2)) (hk := ?_); refine sA (hq := Quiet.fa_ptr rfl get4 rfl) (ht := (setS32 set3)) (hk := ?_); (refine aSeq_t rfl (AOp.stBox (new := [_]) rfl rfl rfl (Parts.one (One.lit rfl)) rfl (Nat.le_of_ble_eq_true rfl) ?_); refine sNtM (ht := setN) (hk := ?_)); exact wEnd rfl)) (hk := ?_)
        have e6 := M.to_ok.1 H
        repeat (first | refine abN ?_ | refine asN ?_)
        refine athen_n ⟨(_, ()), e6.symm, ?_⟩
        try dsimp only
        exact le_TA
      · have H := M.to_f hb9 H
        refine Awp.skip ?_
        have e6 := M.to_ok.1 H
        repeat (first | refine abN ?_ | refine asN ?_)
        refine athen_n ⟨(_, ()), e6.symm, ?_⟩
        try dsimp only
        exact le_TA
    · have H := M.to_f hb7 H
      refine wR (hx := by (refine sA (hq := Quiet.move rfl get0) (ht := (setS32 set4)) (hk := ?_); refine sA (hq := Quiet.shrM rfl (getS32 get4) getC rfl) (ht := (setS32 set5)) (hk := ?_); refine sA (hq := Quiet.remM rfl (getS32 get5) getC rfl) (ht := (setS32 set6)) (hk := ?_); refine sA (hq := Quiet.cv rfl (getS32 get6) rfl) (ht := (setS32 set7)) (hk := ?_); refine sA (hq := Quiet.fa_ptr rfl get4 rfl) (ht := (setS32 (setS8 set0))) (hk := ?_); (refine aSeq_t rfl (AOp.stBox (new := [_]) rfl rfl rfl (Parts.one (One.lit rfl)) rfl (Nat.le_of_ble_eq_true rfl) ?_); refine sNtM (ht := setN) (hk := ?_)); exact wEnd rfl)) (hk := ?_)
      refine wR (hx := by (refine sA (hq := Quiet.move rfl get0) (ht := (setS32 (setS8 set1))) (hk := ?_); refine sA (hq := Quiet.shrM rfl (getS32 (getS8 get1)) getC rfl) (ht := (setS32 (setS8 set2))) (hk := ?_); refine sA (hq := Quiet.remM rfl (getS32 (getS8 get2)) getC rfl) (ht := (setS32 (setS8 set3))) (hk := ?_); refine sA (hq := Quiet.bin rfl (getS32 (getS8 get3)) getC rfl) (ht := (setS32 (setS8 set4))) (hk := ?_); refine sA (hq := Quiet.fa_ptr rfl get4 rfl) (ht := (setS32 (setS8 set5))) (hk := ?_); (refine aSeq_t rfl (AOp.stBox (new := [_]) rfl rfl rfl (Parts.one (One.lit rfl)) rfl (Nat.le_of_ble_eq_true rfl) ?_); refine sNtM (ht := setN) (hk := ?_)); exact wEnd rfl)) (hk := ?_)
      refine wR (hx := by (refine sA (hq := Quiet.fa_ptr rfl get4 rfl) (ht := (setS32 (setS8 set6))) (hk := ?_); refine sA (hq := Quiet.load_ptr rfl (getS32 (getS8 get6)) rfl rfl) (ht := (setS32 (setS8 set7))) (hk := ?_); exact wEnd rfl)) (hk := ?_)
      refine Awp.cond rfl (fun hb10 => ?_) (fun hb10 => ?_)
      · have H := M.to_t hb10 H
        obtain ⟨r11, k11, H⟩ := M.to_bnd.1 H
        have k11 := r02_signed_l k11
        refine wRE (hx := by (refine sA (hq := Quiet.move rfl get0) (ht := (setS32 (setS8 (setS8 set0)))) (hk := ?_); refine sA (hq := Quiet.remM rfl (getS32 (getS8 (getS8 get0))) getC rfl) (ht := (setS32 (setS8 (setS8 set1)))) (hk := ?_); refine sA (hq := Quiet.callA rfl rfl k11 rfl rfl) (ht := (setS32 (setS8 (setS8 set2)))) (hk := ?_); refine sA (hq := Quiet.fa_ptr rfl get4 rfl) (ht := (setS32 (setS8 (setS8 set3)))) (hk := ?_); (refine aSeq_t rfl (AOp.stBox (new := [_]) rfl rfl rfl (Parts.one (One.lit rfl)) rfl (Nat.le_of_ble_eq_true rfl) ?_); refine sNtM (ht := setN) (hk := ?_)); exact wEnd rfl)) (hk := ?_)
        have e6 := M.to_ok.1 H
        repeat (first | refine abN ?_ | refine asN ?_)
        refine athen_n ⟨(_, ()), e6.symm, ?_⟩
        try dsimp only
        exact le_TA
      · have H := M.to_f hb10 H
        refine wRE (hx := by (refine sA (hq := Quiet.move rfl get0) (ht := (setS32 (setS8 (setS8 set4)))) (hk := ?_); refine sA (hq := Quiet.remM rfl (getS32 (getS8 (getS8 get4))) getC rfl) (ht := (setS32 (setS8 (setS8 set5)))) (hk := ?_); refine sA (hq := Quiet.cv rfl (getS32 (getS8 (getS8 get5))) rfl) (ht := (setS32 (setS8 (setS8 set6)))) (hk := ?_); refine sA (hq := Quiet.fa_ptr rfl get4 rfl) (ht := (setS32 (setS8 (setS8 set7)))) (hk := ?_); (refine aSeq_t rfl (AOp.stBox (new := [_]) rfl rfl rfl (Parts.one (One.lit rfl)) rfl (Nat.le_of_ble_eq_true rfl) ?_); refine sNtM (ht := setN) (hk := ?_)); exact wEnd rfl)) (hk := ?_)
        have e6 := M.to_ok.1 H
        repeat (first | refine abN ?_ | refine asN ?_)
        refine athen_n ⟨(_, ()), e6.symm, ?_⟩
        try dsimp only
        exact le_TA
  · rintro ⟨⟨c1_22, c1_33, c1_44, c1_55⟩, _⟩ hz6
    try dsimp only at hz6
    have H := Hl6
    rw [hz6] at H
    try dsimp only at H ⊢
    obtain ⟨r12, k12, H⟩ := M.to_bnd.1 H
    have k12 := r02_Encode_l k12
    refine wR (hx := by (refine sA (hq := Quiet.loadA_ptr rfl get4 rfl rfl) (ht := (setS32 (setS8 (setS8 (setS8 set1))))) (hk := ?_); refine sA (hq := Quiet.callA rfl rfl k12 rfl rfl) (ht := (setS32 (setS8 (setS8 (setS8 set2))))) (hk := ?_); refine sA (hq := Quiet.move rfl (getS32 (getS8 (getS8 (getS8 get2))))) (ht := (setS32 (setS8 (setS8 (setS8 set0))))) (hk := ?_); refine sA (hq := Quiet.extract rfl (getS32 (getS8 (getS8 (getS8 get0)))) rfl) (ht := (setS32 (setS8 (setS8 (setS8 set3))))) (hk := ?_); refine sA (hq := Quiet.extract rfl (getS32 (getS8 (getS8 (getS8 get0)))) rfl) (ht := (setS32 (setS8 (setS8 (setS8 set4))))) (hk := ?_); refine sA (hq := Quiet.assign rfl (getS32 (getS8 (getS8 (getS8 get3))))) (ht := set6) (hk := ?_); refine sA (hq := Quiet.assign rfl (getS32 (getS8 (getS8 (getS8 get4))))) (ht := set7) (hk := ?_); exact wEnd rfl)) (hk := ?_)
    refine Awp.seq fun Khs13 hs13 => ?_
    refine wR (hx := by (refine sA (hq := Quiet.move rfl get7) (ht := (setS32 (setS8 (setS8 (setS8 set5))))) (hk := ?_); refine sA (hq := Quiet.bin rfl (getS32 (getS8 (getS8 (getS8 get5)))) getC rfl) (ht := (setS32 (setS8 (setS8 (setS8 set6))))) (hk := ?_); refine sA (hq := Quiet.move rfl (getS32 (getS8 (getS8 (getS8 get6))))) (ht := (setS32 (setS8 (setS8 (setS8 set7))))) (hk := ?_); refine sG (g := (!(r12.2 != 0))) (hg := gA_f rfl) (hq := fun hg => Quiet.move rfl get6) (ht := (setS32 (setS32 set0))) (hk := ?_); refine sG (g := (!(r12.2 != 0))) (hg := gA_f rfl) (hq := fun hg => Quiet.move rfl get0) (ht := (setS32 (setS32 set1))) (hk := ?_); refine sG (g := (!(r12.2 != 0))) (hg := gA_f rfl) (hq := fun hg => Quiet.bin rfl ((getS32 (getS32 get0)).trans (cndT hg _ _)) ((getS32 (getS32 get1)).trans (cndT hg _ _)) rfl) (ht := (setS32 (setS32 set2))) (hk := ?_); refine sA (hq := Quiet.pickOrB rfl (getS32 (getS8 (getS8 (getS8 get7)))) getC (getS32 (getS32 get2))) (ht := (setS32 (setS32 set3))) (hk := ?_); exact wEnd rfl)) (hk := ?_)
    refine Awp.cond rfl (fun hb14 => ?_) (fun hb14 => ?_)
    · have H := M.to_t hb14 H
      refine wR (hx := by (refine sA (hq := Quiet.bldP (rs := [.lit (.int .u8 0), .lit (.int .u8 0), .lit (.int .u8 0), .lit (.int .u8 0), .lit (.bool false), .lit (.int .i32 0)]) rfl plInstM rfl rfl) (ht := (setS32 (setS32 set4))) (hk := ?_); (refine aSeq_t rfl (AOp.stBox rfl rfl rfl (Parts.aggB rfl) rfl (Nat.le_of_ble_eq_true rfl) ?_); refine sNtM (ht := setN) (hk := ?_)); refine sA (hq := Quiet.assign rfl getC) (ht := set3) (hk := ?_); exact wEnd rfl)) (hk := ?_)
      obtain rfl := M.to_ok.1 H
      exact Awp.ret ⟨.inr rfl, 0, _, rfl, rfl, rfl, Fin.cl rfl⟩
    · have H := M.to_f hb14 H
      refine Awp.skip ?_
      refine hs13 _ ?_
      refine nT (hk := ?_)
      refine wR (hx := by (refine sA (hq := Quiet.loadA_ptr rfl get4 rfl rfl) (ht := (setS32 (setS32 set5))) (hk := ?_); (refine aSeq_t rfl (AOp.stBox rfl rfl rfl (Parts.aggB rfl) rfl (Nat.le_of_ble_eq_true rfl) ?_); refine sNtM (ht := setN) (hk := ?_)); refine sA (hq := Quiet.assign rfl getC) (ht := set3) (hk := ?_); exact wEnd rfl)) (hk := ?_)
      obtain rfl := M.to_ok.1 H
      exact Awp.ret ⟨.inr rfl, 0, _, rfl, rfl, rfl, Fin.cl rfl⟩
end Mu
end
section
/-
  muntinref31: the functions of listings.
  Conditions: none.
-/
namespace Mu
open Go Go.RowKit Go.Proofs

def r31_digitsF (self : (Int × Int) → M ByteArray) : (Int × Int) → M ByteArray := fun (n, base) => M.cnd (decide (n < base)) (M.chk (cutB ⟨#[48, 49, 50, 51, 52, 53, 54, 55, 56, 57, 97, 98, 99, 100, 101, 102]⟩ n (IntKind.u64.wrap (n + 1))) (M.ok (cutD ⟨#[48, 49, 50, 51, 52, 53, 54, 55, 56, 57, 97, 98, 99, 100, 101, 102]⟩ n (IntKind.u64.wrap (n + 1))))) (M.chk (base != 0) (M.bnd (self (IntKind.u64.wrap (Int.tdiv n base), base)) fun r5 => M.chk (cutB ⟨#[48, 49, 50, 51, 52, 53, 54, 55, 56, 57, 97, 98, 99, 100, 101, 102]⟩ (Int.tmod n base) (IntKind.u64.wrap ((Int.tmod n base) + 1))) (M.chk (catB r5 (cutD ⟨#[48, 49, 50, 51, 52, 53, 54, 55, 56, 57, 97, 98, 99, 100, 101, 102]⟩ (Int.tmod n base) (IntKind.u64.wrap ((Int.tmod n base) + 1)))) (M.ok (r5 ++ (cutD ⟨#[48, 49, 50, 51, 52, 53, 54, 55, 56, 57, 97, 98, 99, 100, 101, 102]⟩ (Int.tmod n base) (IntKind.u64.wrap ((Int.tmod n base) + 1))))))))
theorem r31_digits_mono (f g : (Int × Int) → M ByteArray) (h : ∀ a, (f a).sub (g a)) : ∀ a, (r31_digitsF f a).sub (r31_digitsF g a) := by
  intro a
  simp only [r31_digitsF]
  repeat (first | exact h _ | exact M.sub_refl _ | refine M.sub_cnd ?_ ?_ | refine M.sub_chk ?_ | refine M.sub_whn ?_ | refine M.sub_bnd ?_ fun _ => ?_ | refine M.sub_els ?_ fun _ => ?_ | refine M.sub_loop (fun _ => ?_) _)
def r31_digits (n : Int) (base : Int) : M ByteArray := M.fix r31_digitsF r31_digits_mono (n, base)
set_option maxRecDepth 100000 in
set_option maxHeartbeats 4000000 in
theorem r31_digits_ind (fuel0 : Nat) : ∀ (a : Int × Int) (r : ByteArray), (M.fixR r31_digitsF fuel0 a).to r → Fn Tryd.prog 50 [.lit (.int .u64 a.1), .lit (.int .u64 a.2)] (.lit (.string r)) := by
  induction fuel0 with
  | zero => exact fun _ _ h => (M.to_no h).elim
  | succ fuel0 ih =>
    rintro ⟨n, base⟩ r H
    have H : (r31_digitsF (M.fixR r31_digitsF fuel0) (n, base)).to r := H
    delta r31_digitsF at H
    try dsimp only at H ⊢
    refine Fn.of_awp Tryd.func50 rfl (by kernel_rfl) rfl Tryd.ntmps50 fun C hC => ?_
    simp only [List.length_cons, List.length_nil, Nat.reduceAdd, Nat.reduceSub, List.replicate_succ, List.replicate_zero, List.cons_append, List.nil_append]
    refine wR (hx := by (refine sA (hq := Quiet.assign rfl getC) (ht := set4) (hk := ?_); exact wEnd rfl)) (hk := ?_)
    refine wR (hx := by (refine sA (hq := Quiet.assign rfl getC) (ht := set5) (hk := ?_); exact wEnd rfl)) (hk := ?_)
    refine Awp.seq fun Khs1 hs1 => ?_
    refine wR (hx := by (refine sA (hq := Quiet.move rfl get0) (ht := set6) (hk := ?_); refine sA (hq := Quiet.move rfl get1) (ht := set7) (hk := ?_); refine sA (hq := Quiet.bin rfl get6 get7 rfl) (ht := (setS8 set0)) (hk := ?_); exact wEnd rfl)) (hk := ?_)
    refine Awp.cond rfl (fun hb2 => ?_) (fun hb2 => ?_)
    · have H := M.to_t hb2 H
      obtain ⟨c3, H⟩ := M.to_chk.1 H
      refine wR (hx := by (refine sA (hq := Quiet.move rfl get5) (ht := (setS8 set1)) (hk := ?_); refine sA (hq := Quiet.move rfl get0) (ht := (setS8 set2)) (hk := ?_); refine sA (hq := Quiet.move rfl get0) (ht := (setS8 set3)) (hk := ?_); refine sA (hq := Quiet.bin rfl (getS8 get3) getC rfl) (ht := (setS8 set4)) (hk := ?_); refine sA (hq := Quiet.cutM rfl rfl rfl rfl c3) (ht := (setS8 set5)) (hk := ?_); refine sA (hq := Quiet.assign rfl (getS8 get5)) (ht := set4) (hk := ?_); exact wEnd rfl)) (hk := ?_)
      obtain rfl := M.to_ok.1 H
      exact Awp.ret ⟨.inr rfl, Fin.cl rfl⟩
    · have H := M.to_f hb2 H
      refine Awp.skip ?_
      refine hs1 _ ?_
      refine nT (hk := ?_)
      obtain ⟨c4, H⟩ := M.to_chk.1 H
      obtain ⟨r5, k5, H⟩ := M.to_bnd.1 H
      have k5 := ih _ _ k5
      obtain ⟨c6, H⟩ := M.to_chk.1 H
      obtain ⟨c7, H⟩ := M.to_chk.1 H
      refine wD 16 (hq := by (refine qA (hq := Quiet.move rfl get0) (ht := (setS8 set6)) (hk := ?_); refine qA (hq := Quiet.move rfl get1) (ht := (setS8 set7)) (hk := ?_); refine qA (hq := Quiet.quoM rfl (getS8 get6) (getS8 get7) c4) (ht := (setS8 (setS8 set0))) (hk := ?_); refine qA (hq := Quiet.move rfl get1) (ht := (setS8 (setS8 set1))) (hk := ?_); refine qA (hq := Quiet.callA rfl rfl k5 rfl rfl) (ht := (setS8 (setS8 set2))) (hk := ?_); refine qA (hq := Quiet.move rfl get5) (ht := (setS8 (setS8 set3))) (hk := ?_); refine qA (hq := Quiet.move rfl get0) (ht := (setS8 (setS8 set4))) (hk := ?_); refine qA (hq := Quiet.move rfl get1) (ht := (setS8 (setS8 set5))) (hk := ?_); refine qA (hq := Quiet.remM rfl (getS8 (getS8 get4)) (getS8 (getS8 get5)) c4) (ht := (setS8 (setS8 set6))) (hk := ?_); refine qA (hq := Quiet.move rfl get0) (ht := (setS8 (setS8 set7))) (hk := ?_); refine qA (hq := Quiet.move rfl get1) (ht := (setS8 (setS8 (setS8 set0)))) (hk := ?_); refine qA (hq := Quiet.remM rfl (getS8 (getS8 get7)) (getS8 (getS8 (getS8 get0))) c4) (ht := (setS8 (setS8 (setS8 set1)))) (hk := ?_); refine qA (hq := Quiet.bin rfl (getS8 (getS8 (getS8 get1))) getC rfl) (ht := (setS8 (setS8 (setS8 set2)))) (hk := ?_); refine qA (hq := Quiet.cutM rfl rfl rfl rfl c6) (ht := (setS8 (setS8 (setS8 set3)))) (hk := ?_); refine qA (hq := Quiet.cat rfl (getS8 (getS8 get2)) (getS8 (getS8 (getS8 get3))) (catB_le c7)) (ht := (setS8 (setS8 (setS8 set4)))) (hk := ?_); refine qA (hq := Quiet.assign rfl (getS8 (getS8 (getS8 get4)))) (ht := set4) (hk := ?_); exact qEnd rfl)) (hx := by (exact wEnd rfl)) (hk := ?_)
      obtain rfl := M.to_ok.1 H
      exact Awp.ret ⟨.inr rfl, Fin.cl rfl⟩
theorem r31_digits_l {n : Int} {base : Int} {r : ByteArray} (H : (r31_digits n base).to r) : Fn Tryd.prog 50 [.lit (.int .u64 n), .lit (.int .u64 base)] (.lit (.string r)) := by
  obtain ⟨n0, h0⟩ := M.of_fix H
  exact r31_digits_ind n0 _ _ h0
def r31_hex_L4 : ByteArray → M (ByteArray ⊕ ByteArray) := fun s2 => M.cnd (decide ((s2.size : Int) < 8)) (M.chk (catB ⟨#[48]⟩ s2) (M.ok (.inl (⟨#[48]⟩ ++ s2)))) (M.ok (.inr s2))
def r31_hex (w : Int) : M ByteArray := M.bnd (r31_digits (IntKind.u64.wrap w) 16) fun r1 => M.bnd (M.loop (r31_hex_L4) r1) fun s4 => M.ok s4
set_option maxRecDepth 100000 in
set_option maxHeartbeats 4000000 in
theorem r31_hex_l {w : Int} {r : ByteArray} (H : (r31_hex w).to r) : Fn Tryd.prog 51 [.lit (.int .u32 w)] (.lit (.string r)) := by
  delta r31_hex at H
  try dsimp only at H
  refine Fn.of_awp Tryd.func51 rfl (by kernel_rfl) rfl Tryd.ntmps51 fun C hC => ?_
  simp only [List.length_cons, List.length_nil, Nat.reduceAdd, Nat.reduceSub, List.replicate_succ, List.replicate_zero, List.cons_append, List.nil_append]
  refine wR (hx := by (refine sA (hq := Quiet.assign rfl getC) (ht := set2) (hk := ?_); exact wEnd rfl)) (hk := ?_)
  obtain ⟨r1, k1, H⟩ := M.to_bnd.1 H
  have k1 := r31_digits_l k1
  refine wR (hx := by (refine sA (hq := Quiet.move rfl get0) (ht := set4) (hk := ?_); refine sA (hq := Quiet.cv rfl get4 rfl) (ht := set5) (hk := ?_); refine sA (hq := Quiet.callA rfl rfl k1 rfl rfl) (ht := set6) (hk := ?_); refine sA (hq := Quiet.assign rfl get6) (ht := set3) (hk := ?_); exact wEnd rfl)) (hk := ?_)
  obtain ⟨z3, HX3, Hl3⟩ := M.to_bnd.1 H
  refine Awp.seqJ (β := (ByteArray) × (Unit)) (fun q3 => z3 = q3.1) (fun q3 => ⟨[.any, .any, .any, .lit (.string q3.1), .any, .any, .any, .any, .any, .any, .any, .any, .any], []⟩) ?_ ?_
  · refine Awp.block ?_
    refine Awp.loopM HX3 (fun s3 b3 => ⟨[.any, .any, .any, .lit (.string s3), .any, .any, .any, .any, .any, .any, .any, .any, .any], []⟩) () (?_) ?_
    · try dsimp only
      exact le_TA
    · rintro s2 _ x3 H Hr3
      try dsimp only
      dsimp only [r31_hex_L4] at H
      refine Awp.seq fun Khs5 hs5 => ?_
      refine wR (hx := by (refine sA (hq := Quiet.move rfl get3) (ht := set7) (hk := ?_); refine sA (hq := Quiet.lnS rfl get7) (ht := (setS8 set0)) (hk := ?_); refine sA (hq := Quiet.bin rfl (getS8 get0) getC rfl) (ht := (setS8 set1)) (hk := ?_); exact wEnd rfl)) (hk := ?_)
      refine Awp.cond rfl (fun hb6 => ?_) (fun hb6 => ?_)
      · have H := M.to_t hb6 H
        refine Awp.skip ?_
        refine hs5 _ ?_
        refine nT (hk := ?_)
        refine Awp.block ?_
        obtain ⟨c7, H⟩ := M.to_chk.1 H
        refine wRE (hx := by (refine sA (hq := Quiet.move rfl get3) (ht := (setS8 set2)) (hk := ?_); refine sA (hq := Quiet.cat rfl getC (getS8 get2) (catB_le c7)) (ht := (setS8 set3)) (hk := ?_); refine sA (hq := Quiet.assign rfl (getS8 get3)) (ht := set3) (hk := ?_); exact wEnd rfl)) (hk := ?_)
        have e3 := M.to_ok.1 H
        repeat (first | refine abN ?_ | refine asN ?_)
        refine athen_n ⟨_, (), e3.symm, ?_⟩
        try dsimp only
        exact le_TA
      · have H := M.to_f hb6 H
        refine Awp.exit ?_
        repeat (first | refine athen_e ?_ | refine exO (by decide) ?_ | refine asE ?_)
        refine exN ?_
        have e3 := Hr3 _ (M.to_ok.1 H).symm
        repeat (first | refine abN ?_ | refine asN ?_)
        refine athen_n ⟨(_, ()), e3.symm, ?_⟩
        try dsimp only
        exact le_TA
  · rintro ⟨s4, _⟩ hz3
    try dsimp only at hz3
    have H := Hl3
    rw [hz3] at H
    try dsimp only
    refine wR (hx := by (refine sA (hq := Quiet.move rfl get3) (ht := (setS8 set4)) (hk := ?_); refine sA (hq := Quiet.assign rfl (getS8 get4)) (ht := set2) (hk := ?_); exact wEnd rfl)) (hk := ?_)
    obtain rfl := M.to_ok.1 H
    exact Awp.ret ⟨.inr rfl, Fin.cl rfl⟩
def r31_dec (n : Int) : M ByteArray := M.bnd (r31_digits (IntKind.u64.wrap n) 10) fun r1 => M.ok r1
set_option maxRecDepth 100000 in
set_option maxHeartbeats 4000000 in
theorem r31_dec_l {n : Int} {r : ByteArray} (H : (r31_dec n).to r) : Fn Tryd.prog 31 [.lit (.int .i64 n)] (.lit (.string r)) := by
  delta r31_dec at H
  try dsimp only at H
  refine Fn.of_awp Tryd.func31 rfl (by kernel_rfl) rfl Tryd.ntmps31 fun C hC => ?_
  simp only [List.length_cons, List.length_nil, Nat.reduceAdd, Nat.reduceSub, List.replicate_succ, List.replicate_zero, List.cons_append, List.nil_append]
  refine wR (hx := by (refine sA (hq := Quiet.assign rfl getC) (ht := set2) (hk := ?_); exact wEnd rfl)) (hk := ?_)
  obtain ⟨r1, k1, H⟩ := M.to_bnd.1 H
  have k1 := r31_digits_l k1
  refine wR (hx := by (refine sA (hq := Quiet.move rfl get0) (ht := set3) (hk := ?_); refine sA (hq := Quiet.cv rfl get3 rfl) (ht := set4) (hk := ?_); refine sA (hq := Quiet.callA rfl rfl k1 rfl rfl) (ht := set5) (hk := ?_); refine sA (hq := Quiet.assign rfl get5) (ht := set2) (hk := ?_); exact wEnd rfl)) (hk := ?_)
  obtain rfl := M.to_ok.1 H
  exact Awp.ret ⟨.inr rfl, Fin.cl rfl⟩
def r31_Line (at0 : Int) (w : Int) : M ByteArray := M.bnd (r31_dec at0) fun r1 => M.chk (catB r1 ⟨#[32]⟩) (M.bnd (r31_hex w) fun r3 => M.chk (catB (r1 ++ ⟨#[32]⟩) r3) (M.bnd (r02_Decode w) fun r5 => M.cnd (!r5.2) (M.chk (catB ((r1 ++ ⟨#[32]⟩) ++ r3) ⟨#[10]⟩) (M.ok (((r1 ++ ⟨#[32]⟩) ++ r3) ++ ⟨#[10]⟩))) (M.chk (catB ((r1 ++ ⟨#[32]⟩) ++ r3) ⟨#[32]⟩) (M.bnd (r31_dec (IntKind.i64.wrap r5.1.op)) fun r10 => M.chk (catB (((r1 ++ ⟨#[32]⟩) ++ r3) ++ ⟨#[32]⟩) r10) (M.chk (catB ((((r1 ++ ⟨#[32]⟩) ++ r3) ++ ⟨#[32]⟩) ++ r10) ⟨#[32]⟩) (M.bnd (r31_dec (IntKind.i64.wrap r5.1.rd)) fun r13 => M.chk (catB (((((r1 ++ ⟨#[32]⟩) ++ r3) ++ ⟨#[32]⟩) ++ r10) ++ ⟨#[32]⟩) r13) (M.chk (catB ((((((r1 ++ ⟨#[32]⟩) ++ r3) ++ ⟨#[32]⟩) ++ r10) ++ ⟨#[32]⟩) ++ r13) ⟨#[32]⟩) (M.bnd (r31_dec (IntKind.i64.wrap r5.1.rs1)) fun r16 => M.chk (catB (((((((r1 ++ ⟨#[32]⟩) ++ r3) ++ ⟨#[32]⟩) ++ r10) ++ ⟨#[32]⟩) ++ r13) ++ ⟨#[32]⟩) r16) (M.chk (catB ((((((((r1 ++ ⟨#[32]⟩) ++ r3) ++ ⟨#[32]⟩) ++ r10) ++ ⟨#[32]⟩) ++ r13) ++ ⟨#[32]⟩) ++ r16) ⟨#[32]⟩) (M.bnd (r31_dec (IntKind.i64.wrap r5.1.rs2)) fun r19 => M.chk (catB (((((((((r1 ++ ⟨#[32]⟩) ++ r3) ++ ⟨#[32]⟩) ++ r10) ++ ⟨#[32]⟩) ++ r13) ++ ⟨#[32]⟩) ++ r16) ++ ⟨#[32]⟩) r19) (M.bnd (M.cnd (r5.1.is_ && (decide (r5.1.imm < 0))) (M.chk (catB ((((((((((r1 ++ ⟨#[32]⟩) ++ r3) ++ ⟨#[32]⟩) ++ r10) ++ ⟨#[32]⟩) ++ r13) ++ ⟨#[32]⟩) ++ r16) ++ ⟨#[32]⟩) ++ r19) ⟨#[32, 35, 45]⟩) (M.bnd (r31_dec (IntKind.i64.wrap (0 - (IntKind.i64.wrap r5.1.imm)))) fun r25 => M.chk (catB (((((((((((r1 ++ ⟨#[32]⟩) ++ r3) ++ ⟨#[32]⟩) ++ r10) ++ ⟨#[32]⟩) ++ r13) ++ ⟨#[32]⟩) ++ r16) ++ ⟨#[32]⟩) ++ r19) ++ ⟨#[32, 35, 45]⟩) r25) (M.ok ((((((((((((r1 ++ ⟨#[32]⟩) ++ r3) ++ ⟨#[32]⟩) ++ r10) ++ ⟨#[32]⟩) ++ r13) ++ ⟨#[32]⟩) ++ r16) ++ ⟨#[32]⟩) ++ r19) ++ ⟨#[32, 35, 45]⟩) ++ r25)))) (M.cnd r5.1.is_ (M.chk (catB ((((((((((r1 ++ ⟨#[32]⟩) ++ r3) ++ ⟨#[32]⟩) ++ r10) ++ ⟨#[32]⟩) ++ r13) ++ ⟨#[32]⟩) ++ r16) ++ ⟨#[32]⟩) ++ r19) ⟨#[32, 35]⟩) (M.bnd (r31_dec (IntKind.i64.wrap r5.1.imm)) fun r29 => M.chk (catB (((((((((((r1 ++ ⟨#[32]⟩) ++ r3) ++ ⟨#[32]⟩) ++ r10) ++ ⟨#[32]⟩) ++ r13) ++ ⟨#[32]⟩) ++ r16) ++ ⟨#[32]⟩) ++ r19) ++ ⟨#[32, 35]⟩) r29) (M.ok ((((((((((((r1 ++ ⟨#[32]⟩) ++ r3) ++ ⟨#[32]⟩) ++ r10) ++ ⟨#[32]⟩) ++ r13) ++ ⟨#[32]⟩) ++ r16) ++ ⟨#[32]⟩) ++ r19) ++ ⟨#[32, 35]⟩) ++ r29)))) (M.ok ((((((((((r1 ++ ⟨#[32]⟩) ++ r3) ++ ⟨#[32]⟩) ++ r10) ++ ⟨#[32]⟩) ++ r13) ++ ⟨#[32]⟩) ++ r16) ++ ⟨#[32]⟩) ++ r19)))) fun s21 => M.chk (catB s21 ⟨#[10]⟩) (M.ok (s21 ++ ⟨#[10]⟩)))))))))))))
set_option maxRecDepth 100000 in
set_option maxHeartbeats 4000000 in
theorem r31_Line_l {at0 : Int} {w : Int} {r : ByteArray} (H : (r31_Line at0 w).to r) : Fn Tryd.prog 32 [.lit (.int .i64 at0), .lit (.int .u32 w)] (.lit (.string r)) := by
  delta r31_Line at H
  try dsimp only at H
  refine Fn.of_awp Tryd.func32 rfl (by kernel_rfl) rfl Tryd.ntmps32 fun C hC => ?_
  simp only [List.length_cons, List.length_nil, Nat.reduceAdd, Nat.reduceSub, List.replicate_succ, List.replicate_zero, List.cons_append, List.nil_append]
  refine wR (hx := by (refine sA (hq := Quiet.assign rfl getC) (ht := set4) (hk := ?_); exact wEnd rfl)) (hk := ?_)
  obtain ⟨r1, k1, H⟩ := M.to_bnd.1 H
  have k1 := r31_dec_l k1
  obtain ⟨c2, H⟩ := M.to_chk.1 H
  obtain ⟨r3, k3, H⟩ := M.to_bnd.1 H
  have k3 := r31_hex_l k3
  obtain ⟨c4, H⟩ := M.to_chk.1 H
  refine wR (hx := by (refine sA (hq := Quiet.move rfl get0) (ht := (setS8 set0)) (hk := ?_); refine sA (hq := Quiet.callA rfl rfl k1 rfl rfl) (ht := (setS8 set1)) (hk := ?_); refine sA (hq := Quiet.cat rfl (getS8 get1) getC (catB_le c2)) (ht := (setS8 set2)) (hk := ?_); refine sA (hq := Quiet.move rfl get1) (ht := (setS8 set3)) (hk := ?_); refine sA (hq := Quiet.callA rfl rfl k3 rfl rfl) (ht := (setS8 set4)) (hk := ?_); refine sA (hq := Quiet.cat rfl (getS8 get2) (getS8 get4) (catB_le c4)) (ht := (setS8 set5)) (hk := ?_); refine sA (hq := Quiet.assign rfl (getS8 get5)) (ht := set5) (hk := ?_); exact wEnd rfl)) (hk := ?_)
  obtain ⟨r5, k5, H⟩ := M.to_bnd.1 H
  have k5 := r02_Decode_l k5
  refine wR (hx := by (refine sA (hq := Quiet.move rfl get1) (ht := (setS8 set7)) (hk := ?_); refine sA (hq := Quiet.callA rfl rfl k5 rfl rfl) (ht := (setS8 (setS8 set0))) (hk := ?_); refine sA (hq := Quiet.move rfl (getS8 (getS8 get0))) (ht := (setS8 set6)) (hk := ?_); refine sA (hq := Quiet.extract rfl (getS8 get6) rfl) (ht := (setS8 (setS8 set1))) (hk := ?_); refine sA (hq := Quiet.extract rfl (getS8 get6) rfl) (ht := (setS8 (setS8 set2))) (hk := ?_); (refine aSeq_t rfl (AOp.alI 0 rfl rfl ?_); refine sNtM (ht := set6) (hk := ?_)); (refine aSeq_t rfl (AOp.stBox rfl rfl rfl (Parts.aggB rfl) rfl (Nat.le_of_ble_eq_true rfl) ?_); refine sNtM (ht := setN) (hk := ?_)); refine sA (hq := Quiet.assign rfl (getS8 (getS8 get2))) (ht := set7) (hk := ?_); exact wEnd rfl)) (hk := ?_)
  refine Awp.seq fun Khs6 hs6 => ?_
  refine wR (hx := by (refine sA (hq := Quiet.move rfl get7) (ht := (setS8 (setS8 set3))) (hk := ?_); refine sA (hq := Quiet.bnot rfl (getS8 (getS8 get3))) (ht := (setS8 (setS8 set4))) (hk := ?_); exact wEnd rfl)) (hk := ?_)
  refine Awp.cond rfl (fun hb7 => ?_) (fun hb7 => ?_)
  · have H := M.to_t hb7 H
    obtain ⟨c8, H⟩ := M.to_chk.1 H
    refine wR (hx := by (refine sA (hq := Quiet.move rfl get5) (ht := (setS8 (setS8 set5))) (hk := ?_); refine sA (hq := Quiet.cat rfl (getS8 (getS8 get5)) getC (catB_le c8)) (ht := (setS8 (setS8 set6))) (hk := ?_); refine sA (hq := Quiet.assign rfl (getS8 (getS8 get6))) (ht := set4) (hk := ?_); exact wEnd rfl)) (hk := ?_)
    obtain rfl := M.to_ok.1 H
    exact Awp.ret ⟨.inr rfl, Fin.cl rfl⟩
  · have H := M.to_f hb7 H
    refine Awp.skip ?_
    refine hs6 _ ?_
    refine nT (hk := ?_)
    obtain ⟨c9, H⟩ := M.to_chk.1 H
    obtain ⟨r10, k10, H⟩ := M.to_bnd.1 H
    have k10 := r31_dec_l k10
    obtain ⟨c11, H⟩ := M.to_chk.1 H
    obtain ⟨c12, H⟩ := M.to_chk.1 H
    obtain ⟨r13, k13, H⟩ := M.to_bnd.1 H
    have k13 := r31_dec_l k13
    obtain ⟨c14, H⟩ := M.to_chk.1 H
    obtain ⟨c15, H⟩ := M.to_chk.1 H
    obtain ⟨r16, k16, H⟩ := M.to_bnd.1 H
    have k16 := r31_dec_l k16
    obtain ⟨c17, H⟩ := M.to_chk.1 H
    obtain ⟨c18, H⟩ := M.to_chk.1 H
    obtain ⟨r19, k19, H⟩ := M.to_bnd.1 H
    have k19 := r31_dec_l k19
    obtain ⟨c20, H⟩ := M.to_chk.1 H
    refine wD 26 (hq := by (refine qA (hq := Quiet.move rfl get5) (ht := (setS8 (setS8 set7))) (hk := ?_); refine qA (hq := Quiet.cat rfl (getS8 (getS8 get7)) getC (catB_le c9)) (ht := (setS8 (setS8 (setS8 set0)))) (hk := ?_); refine qA (hq := Quiet.fa_ptr rfl get6 rfl) (ht := (setS8 (setS8 (setS8 set1)))) (hk := ?_); refine qA (hq := Quiet.load_ptr rfl (getS8 (getS8 (getS8 get1))) rfl rfl) (ht := (setS8 (setS8 (setS8 set2)))) (hk := ?_); refine qA (hq := Quiet.cv rfl (getS8 (getS8 (getS8 get2))) rfl) (ht := (setS8 (setS8 (setS8 set3)))) (hk := ?_); refine qA (hq := Quiet.callA rfl rfl k10 rfl rfl) (ht := (setS8 (setS8 (setS8 set4)))) (hk := ?_); refine qA (hq := Quiet.cat rfl (getS8 (getS8 (getS8 get0))) (getS8 (getS8 (getS8 get4))) (catB_le c11)) (ht := (setS8 (setS8 (setS8 set5)))) (hk := ?_); refine qA (hq := Quiet.cat rfl (getS8 (getS8 (getS8 get5))) getC (catB_le c12)) (ht := (setS8 (setS8 (setS8 set6)))) (hk := ?_); refine qA (hq := Quiet.fa_ptr rfl get6 rfl) (ht := (setS8 (setS8 (setS8 set7)))) (hk := ?_); refine qA (hq := Quiet.load_ptr rfl (getS8 (getS8 (getS8 get7))) rfl rfl) (ht := (setS32 set0)) (hk := ?_); refine qA (hq := Quiet.cv rfl (getS32 get0) rfl) (ht := (setS32 set1)) (hk := ?_); refine qA (hq := Quiet.callA rfl rfl k13 rfl rfl) (ht := (setS32 set2)) (hk := ?_); refine qA (hq := Quiet.cat rfl (getS8 (getS8 (getS8 get6))) (getS32 get2) (catB_le c14)) (ht := (setS32 set3)) (hk := ?_); refine qA (hq := Quiet.cat rfl (getS32 get3) getC (catB_le c15)) (ht := (setS32 set4)) (hk := ?_); refine qA (hq := Quiet.fa_ptr rfl get6 rfl) (ht := (setS32 set5)) (hk := ?_); refine qA (hq := Quiet.load_ptr rfl (getS32 get5) rfl rfl) (ht := (setS32 set6)) (hk := ?_); refine qA (hq := Quiet.cv rfl (getS32 get6) rfl) (ht := (setS32 set7)) (hk := ?_); refine qA (hq := Quiet.callA rfl rfl k16 rfl rfl) (ht := (setS32 (setS8 set0))) (hk := ?_); refine qA (hq := Quiet.cat rfl (getS32 get4) (getS32 (getS8 get0)) (catB_le c17)) (ht := (setS32 (setS8 set1))) (hk := ?_); refine qA (hq := Quiet.cat rfl (getS32 (getS8 get1)) getC (catB_le c18)) (ht := (setS32 (setS8 set2))) (hk := ?_); refine qA (hq := Quiet.fa_ptr rfl get6 rfl) (ht := (setS32 (setS8 set3))) (hk := ?_); refine qA (hq := Quiet.load_ptr rfl (getS32 (getS8 get3)) rfl rfl) (ht := (setS32 (setS8 set4))) (hk := ?_); refine qA (hq := Quiet.cv rfl (getS32 (getS8 get4)) rfl) (ht := (setS32 (setS8 set5))) (hk := ?_); refine qA (hq := Quiet.callA rfl rfl k19 rfl rfl) (ht := (setS32 (setS8 set6))) (hk := ?_); refine qA (hq := Quiet.cat rfl (getS32 (getS8 get2)) (getS32 (getS8 get6)) (catB_le c20)) (ht := (setS32 (setS8 set7))) (hk := ?_); refine qA (hq := Quiet.assign rfl (getS32 (getS8 get7))) (ht := set5) (hk := ?_); exact qEnd rfl)) (hx := by (exact wEnd rfl)) (hk := ?_)
    obtain ⟨z22, HX22, Hl22⟩ := M.to_bnd.1 H
    refine Awp.seqJ (β := (ByteArray) × (Unit)) (fun q22 => z22 = q22.1) (fun q22 => ⟨.any :: .any :: .any :: .any :: .any :: .lit (.string q22.1) :: .any :: .any :: .any :: .any :: .any :: .any :: .any :: .any :: .any :: .any :: .any :: .any :: .any :: .any :: .any :: .any :: .any :: .any :: .any :: .any :: .any :: .any :: .any :: .any :: .any :: .any :: .any :: .any :: .any :: .any :: .any :: .any :: .any :: .any :: .any :: .any :: .any :: .any :: .any :: .any :: .any :: .any :: .any :: .any :: .any :: .any :: .any :: .any :: .any :: .any :: .any :: .any :: .any :: .any :: .any :: .any :: .any :: .any :: .any :: .any :: .any :: .any :: .any :: .any :: .any :: .any :: .any :: .any :: [], [.dead]⟩) ?_ ?_
    · have H := HX22
      refine wR (hx := by (refine sA (hq := Quiet.fa_ptr rfl get6 rfl) (ht := (setS32 (setS8 (setS8 set0)))) (hk := ?_); refine sA (hq := Quiet.load_ptr rfl (getS32 (getS8 (getS8 get0))) rfl rfl) (ht := (setS32 (setS8 (setS8 set1)))) (hk := ?_); refine sA (hq := Quiet.move rfl (getS32 (getS8 (getS8 get1)))) (ht := (setS32 (setS8 (setS8 set2)))) (hk := ?_); refine sG (g := r5.1.is_) (hg := gA_t rfl) (hq := fun hg => Quiet.fa_ptr rfl get6 rfl) (ht := (setS32 (setS8 (setS8 set3)))) (hk := ?_); refine sG (g := r5.1.is_) (hg := gA_t rfl) (hq := fun hg => Quiet.load_ptr rfl ((getS32 (getS8 (getS8 get3))).trans (cndT hg _ _)) rfl rfl) (ht := (setS32 (setS8 (setS8 set4)))) (hk := ?_); refine sG (g := r5.1.is_) (hg := gA_t rfl) (hq := fun hg => Quiet.bin rfl ((getS32 (getS8 (getS8 get4))).trans (cndT hg _ _)) getC rfl) (ht := (setS32 (setS8 (setS8 set5)))) (hk := ?_); refine sA (hq := Quiet.pickAndB rfl (getS32 (getS8 (getS8 get2))) (getS32 (getS8 (getS8 get5))) getC) (ht := (setS32 (setS8 (setS8 set6)))) (hk := ?_); exact wEnd rfl)) (hk := ?_)
      refine Awp.cond rfl (fun hb23 => ?_) (fun hb23 => ?_)
      · have H := M.to_t hb23 H
        obtain ⟨c24, H⟩ := M.to_chk.1 H
        obtain ⟨r25, k25, H⟩ := M.to_bnd.1 H
        have k25 := r31_dec_l k25
        obtain ⟨c26, H⟩ := M.to_chk.1 H
        refine wRE (hx := by (refine sA (hq := Quiet.move rfl get5) (ht := (setS32 (setS8 (setS8 set7)))) (hk := ?_); refine sA (hq := Quiet.cat rfl (getS32 (getS8 (getS8 get7))) getC (catB_le c24)) (ht := (setS32 (setS8 (setS8 (setS8 set0))))) (hk := ?_); refine sA (hq := Quiet.fa_ptr rfl get6 rfl) (ht := (setS32 (setS8 (setS8 (setS8 set1))))) (hk := ?_); refine sA (hq := Quiet.load_ptr rfl (getS32 (getS8 (getS8 (getS8 get1)))) rfl rfl) (ht := (setS32 (setS8 (setS8 (setS8 set2))))) (hk := ?_); refine sA (hq := Quiet.cv rfl (getS32 (getS8 (getS8 (getS8 get2)))) rfl) (ht := (setS32 (setS8 (setS8 (setS8 set3))))) (hk := ?_); refine sA (hq := Quiet.negM rfl (getS32 (getS8 (getS8 (getS8 get3))))) (ht := (setS32 (setS8 (setS8 (setS8 set4))))) (hk := ?_); refine sA (hq := Quiet.callA rfl rfl k25 rfl rfl) (ht := (setS32 (setS8 (setS8 (setS8 set5))))) (hk := ?_); refine sA (hq := Quiet.cat rfl (getS32 (getS8 (getS8 (getS8 get0)))) (getS32 (getS8 (getS8 (getS8 get5)))) (catB_le c26)) (ht := (setS32 (setS8 (setS8 (setS8 set6))))) (hk := ?_); refine sA (hq := Quiet.assign rfl (getS32 (getS8 (getS8 (getS8 get6))))) (ht := set5) (hk := ?_); exact wEnd rfl)) (hk := ?_)
        have e22 := M.to_ok.1 H
        repeat (first | refine abN ?_ | refine asN ?_)
        refine athen_n ⟨(_, ()), e22.symm, ?_⟩
        try dsimp only
        exact leC (Cut.dead (Cut.nil _))
      · have H := M.to_f hb23 H
        refine wR (hx := by (refine sA (hq := Quiet.fa_ptr rfl get6 rfl) (ht := (setS32 (setS8 (setS8 (setS8 set7))))) (hk := ?_); refine sA (hq := Quiet.load_ptr rfl (getS32 (getS8 (getS8 (getS8 get7)))) rfl rfl) (ht := (setS32 (setS32 set0))) (hk := ?_); exact wEnd rfl)) (hk := ?_)
        refine Awp.cond rfl (fun hb27 => ?_) (fun hb27 => ?_)
        · have H := M.to_t hb27 H
          obtain ⟨c28, H⟩ := M.to_chk.1 H
          obtain ⟨r29, k29, H⟩ := M.to_bnd.1 H
          have k29 := r31_dec_l k29
          obtain ⟨c30, H⟩ := M.to_chk.1 H
          refine wRE (hx := by (refine sA (hq := Quiet.move rfl get5) (ht := (setS32 (setS32 set1))) (hk := ?_); refine sA (hq := Quiet.cat rfl (getS32 (getS32 get1)) getC (catB_le c28)) (ht := (setS32 (setS32 set2))) (hk := ?_); refine sA (hq := Quiet.fa_ptr rfl get6 rfl) (ht := (setS32 (setS32 set3))) (hk := ?_); refine sA (hq := Quiet.load_ptr rfl (getS32 (getS32 get3)) rfl rfl) (ht := (setS32 (setS32 set4))) (hk := ?_); refine sA (hq := Quiet.cv rfl (getS32 (getS32 get4)) rfl) (ht := (setS32 (setS32 set5))) (hk := ?_); refine sA (hq := Quiet.callA rfl rfl k29 rfl rfl) (ht := (setS32 (setS32 set6))) (hk := ?_); refine sA (hq := Quiet.cat rfl (getS32 (getS32 get2)) (getS32 (getS32 get6)) (catB_le c30)) (ht := (setS32 (setS32 set7))) (hk := ?_); refine sA (hq := Quiet.assign rfl (getS32 (getS32 get7))) (ht := set5) (hk := ?_); exact wEnd rfl)) (hk := ?_)
          have e22 := M.to_ok.1 H
          repeat (first | refine abN ?_ | refine asN ?_)
          refine athen_n ⟨(_, ()), e22.symm, ?_⟩
          try dsimp only
          exact leC (Cut.dead (Cut.nil _))
        · have H := M.to_f hb27 H
          refine Awp.skip ?_
          have e22 := M.to_ok.1 H
          repeat (first | refine abN ?_ | refine asN ?_)
          refine athen_n ⟨(_, ()), e22.symm, ?_⟩
          try dsimp only
          exact leC (Cut.dead (Cut.nil _))
    · rintro ⟨s21, _⟩ hz22
      try dsimp only at hz22
      have H := Hl22
      rw [hz22] at H
      try dsimp only
      obtain ⟨c31, H⟩ := M.to_chk.1 H
      refine wR (hx := by (refine sA (hq := Quiet.move rfl get5) (ht := (setS32 (setS32 (setS8 set0)))) (hk := ?_); refine sA (hq := Quiet.cat rfl (getS32 (getS32 (getS8 get0))) getC (catB_le c31)) (ht := (setS32 (setS32 (setS8 set1)))) (hk := ?_); refine sA (hq := Quiet.assign rfl (getS32 (getS32 (getS8 get1)))) (ht := set4) (hk := ?_); exact wEnd rfl)) (hk := ?_)
      obtain rfl := M.to_ok.1 H
      exact Awp.ret ⟨.inr rfl, Fin.cl rfl⟩
end Mu
end
section
/-
  Words are decoded by the document as by the program: muntinref02.Decode.
  Conditions: none.
-/
namespace Mu
open Go Go.RowKit Go.Proofs

namespace M
variable {α β : Type}
theorem run_ok (a : α) (n : Nat) : (ok a).run n = some a := rfl
theorem run_bnd (x : M α) (f : α → M β) (n : Nat) : (bnd x f).run n = (x.run n).bind fun a => (f a).run n := rfl
theorem run_cnd (c : Bool) (x y : M α) (n : Nat) : (cnd c x y).run n = if c = true then x.run n else y.run n := by cases c <;> rfl
theorem run_whn (c : Bool) (d : α) (x : M α) (n : Nat) : (whn c d x).run n = if c = true then x.run n else some d := by cases c <;> rfl
theorem run_chk (c : Bool) (x : M α) (n : Nat) : (chk c x).run n = if c = true then x.run n else none := by cases c <;> rfl
end M

/-- the kinds of operations -/
def kindT : List Int := [0, 1, 1, 1, 1, 1, 1, 1, 1, 1, 1, 1, 1, 1, 1, 3, 2, 4, 5, 1, 1, 1, 1, 1, 1, 1, 6, 2, 6, 2, 7, 8, 12, 9, 6, 10, 10, 11]
def kindN (op : Nat) : Int := kindT.getD op 0
theorem kind_run {op : Nat} (h : op < 64) : (r02_Kind (op : Int)).run 0 = some (kindN op) :=
  (by decide +kernel : ∀ k : _root_.Fin 64, (r02_Kind (k.val : Int)).run 0 = some (kindN k.val)) ⟨op, h⟩
/-- what is known of an operation: its kind; whether there is one; its fields; whether it is 17; its bounds -/
def row9 (o : Nat) : Int × Bool × Bool × Bool × Bool × Bool × Bool × Int × Int := (kindN o, hasP (o : Int) == 128, hasBit (o : Int) 1, hasBit (o : Int) 2, hasBit (o : Int) 4, hasBit (o : Int) 8, (o : Int) == 17, lowP (o : Int), highP (o : Int))
def rows9 : List (Int × Bool × Bool × Bool × Bool × Bool × Bool × Int × Int) := [(0, true, false, false, false, false, false, -16384, 16383), (1, false, true, true, true, false, false, -16384, 16383),
  (3, false, true, false, false, true, false, 0, 2097151), (2, false, false, true, true, false, false, -16384, 16383),
  (4, false, true, false, false, true, true, -1048576, 1048575),
  (5, false, false, false, false, true, false, -1048576, 1048575),
  (6, false, true, false, false, false, false, -16384, 16383), (7, false, true, false, false, true, false, 0, 1),
  (8, false, false, true, false, true, false, 0, 1), (12, false, false, false, false, false, false, -16384, 16383),
  (9, false, false, false, false, true, false, 3, 4), (10, false, false, true, false, false, false, -16384, 16383),
  (11, false, false, false, false, true, false, 1, 3)]
theorem row9_in {o : Nat} (h : o < 64) : row9 o ∈ rows9 := (by decide +kernel : ∀ k : _root_.Fin 64, row9 k.val ∈ rows9) ⟨o, h⟩
theorem long_kind {o : Nat} (h : o < 64) : (decide (kindN o ≥ 3) && decide (kindN o ≤ 5)) = hasBit (o : Int) 16 :=
  (by decide +kernel : ∀ k : _root_.Fin 64, (decide (kindN k.val ≥ 3) && decide (kindN k.val ≤ 5)) = hasBit (k.val : Int) 16) ⟨o, h⟩
theorem long_none {o : Nat} (h : o < 64) : (hasBit (o : Int) 16 && hasP (o : Int) != 128) = hasBit (o : Int) 16 :=
  (by decide +kernel : ∀ k : _root_.Fin 64, (hasBit (k.val : Int) 16 && hasP (k.val : Int) != 128) = hasBit (k.val : Int) 16) ⟨o, h⟩
theorem kind_three {o : Nat} (h : o < 64) : (kindN o == 3) = decide ((o : Int) = 15) :=
  (by decide +kernel : ∀ k : _root_.Fin 64, (kindN k.val == 3) = decide ((k.val : Int) = 15)) ⟨o, h⟩
set_option maxHeartbeats 4000000 in
theorem may02_run (x : InstM) {o : Nat} (ho : x.op = (o : Int)) (h : o < 64) (h1 : 0 ≤ x.rd) (h2 : 0 ≤ x.rs1) (h3 : 0 ≤ x.rs2) : (r02_May x).run 0 = some (mayI x) := by
  have hc := row9_in h
  have hk := kind_run h
  obtain ⟨op, rd, rs1, rs2, is, imm⟩ := x
  dsimp only at ho h1 h2 h3
  subst ho
  unfold row9 rows9 at hc
  unfold r02_May mayI badI plainI isNum sameI
  simp only [M.run_bnd, hk, Option.bind_some]
  generalize kindN o = k at *
  generalize (hasP (o : Int) == 128) = n at *
  generalize hasBit (o : Int) 1 = b1 at *
  generalize hasBit (o : Int) 2 = b2 at *
  generalize hasBit (o : Int) 4 = b4 at *
  generalize hasBit (o : Int) 8 = b8 at *
  generalize ((o : Int) == 17) = b17 at *
  generalize lowP (o : Int) = lo at *
  generalize highP (o : Int) = hi at *
  simp only [List.mem_cons, Prod.mk.injEq, List.not_mem_nil, or_false] at hc
  unfold r02_between
  rcases hc with ⟨rfl, rfl, rfl, rfl, rfl, rfl, rfl, rfl, rfl⟩ | ⟨rfl, rfl, rfl, rfl, rfl, rfl, rfl, rfl, rfl⟩ | ⟨rfl, rfl, rfl, rfl, rfl, rfl, rfl, rfl, rfl⟩ | ⟨rfl, rfl, rfl, rfl, rfl, rfl, rfl, rfl, rfl⟩ | ⟨rfl, rfl, rfl, rfl, rfl, rfl, rfl, rfl, rfl⟩ | ⟨rfl, rfl, rfl, rfl, rfl, rfl, rfl, rfl, rfl⟩ | ⟨rfl, rfl, rfl, rfl, rfl, rfl, rfl, rfl, rfl⟩ | ⟨rfl, rfl, rfl, rfl, rfl, rfl, rfl, rfl, rfl⟩ | ⟨rfl, rfl, rfl, rfl, rfl, rfl, rfl, rfl, rfl⟩ | ⟨rfl, rfl, rfl, rfl, rfl, rfl, rfl, rfl, rfl⟩ | ⟨rfl, rfl, rfl, rfl, rfl, rfl, rfl, rfl, rfl⟩ | ⟨rfl, rfl, rfl, rfl, rfl, rfl, rfl, rfl, rfl⟩ | ⟨rfl, rfl, rfl, rfl, rfl, rfl, rfl, rfl, rfl⟩ <;> cases is <;>
    simp [M.run_cnd, M.run_whn, M.run_bnd, M.run_ok] <;> (repeat' split) <;> (try simp_all) <;> (repeat' split) <;> (try simp_all) <;> (repeat' split) <;> (try simp_all) <;> (try omega) <;> (rw [Bool.eq_iff_iff]; simp; omega)

/-! ### numbers -/
theorem wi64 {a : Int} (h : -9223372036854775808 ≤ a ∧ a ≤ 9223372036854775807) : IntKind.i64.wrap a = a := IntWalk.i64_in _ h
theorem wi32 {a : Int} (h : -2147483648 ≤ a ∧ a ≤ 2147483647) : IntKind.i32.wrap a = a := IntWalk.i32_in _ h
theorem wu32 {a : Int} (h : 0 ≤ a ∧ a < 4294967296) : IntKind.u32.wrap a = a := by rw [wrap_u32m]; omega
theorem wu8 {a : Int} (h : 0 ≤ a ∧ a < 256) : IntKind.u8.wrap a = a := by rw [wrap_u8m]; omega
theorem shr32 (w : Nat) (k : Nat) (h : k ≤ 32) : shrV .u32 (w : Int) (k : Int) = ((w / 2 ^ k : Nat) : Int) := by
  unfold shrV
  have e : min (k : Int).toNat IntKind.u32.bits = k := by
    rw [Int.toNat_natCast]
    exact Nat.min_eq_left h
  have : ((2 : Int) ^ k) = ((2 ^ k : Nat) : Int) := by rw [Int.natCast_pow]; rfl
  rw [e, this, Int.natCast_ediv]
theorem tmodN (a b : Nat) : Int.tmod (a : Int) (b : Int) = ((a % b : Nat) : Int) := by rw [Int.tmod_eq_emod_of_nonneg (by omega)]; rfl
theorem signed_run (n b m : Nat) (h : (b = 21 ∧ m = 1048576) ∨ (b = 15 ∧ m = 16384)) (hn : n < 2 * m) : (r02_signed (n : Int) (b : Int)).run 0 = some (sxN n m) := by
  unfold r02_signed sxN
  rcases h with ⟨rfl, rfl⟩ | ⟨rfl, rfl⟩
  · have e1 : decide ((0 : Int) ≤ IntKind.u64.wrap (((21 : Nat) : Int) - 1)) = true := by decide
    have e2 : shlV .u32 1 (IntKind.u64.wrap (((21 : Nat) : Int) - 1)) = 1048576 := by decide
    have e3 : shlV .i64 1 ((21 : Nat) : Int) = 2097152 := by decide
    simp only [M.run_chk, M.run_cnd, M.run_ok, e1, e2, e3]
    by_cases hc : n < 1048576
    · rw [if_pos hc, decide_eq_false (by omega : ¬ (n : Int) ≥ 1048576), wi32 (a := (n : Int)) (by omega)]
      simp
    · rw [if_neg hc, decide_eq_true (by omega : (n : Int) ≥ 1048576), wi64 (a := (n : Int)) (by omega), wi64 (by omega), wi32 (by omega)]
      simp
  · have e1 : decide ((0 : Int) ≤ IntKind.u64.wrap (((15 : Nat) : Int) - 1)) = true := by decide
    have e2 : shlV .u32 1 (IntKind.u64.wrap (((15 : Nat) : Int) - 1)) = 16384 := by decide
    have e3 : shlV .i64 1 ((15 : Nat) : Int) = 32768 := by decide
    simp only [M.run_chk, M.run_cnd, M.run_ok, e1, e2, e3]
    by_cases hc : n < 16384
    · rw [if_pos hc, decide_eq_false (by omega : ¬ (n : Int) ≥ 16384), wi32 (a := (n : Int)) (by omega)]
      simp
    · rw [if_neg hc, decide_eq_true (by omega : (n : Int) ≥ 16384), wi64 (a := (n : Int)) (by omega), wi64 (by omega), wi32 (by omega)]
      simp
theorem low_run (n m : Int) (hn : -2147483648 ≤ n ∧ n ≤ 2147483647) (hm : m = 2097152 ∨ m = 32768) : (r02_low n m).run 0 = some (n % m) := by
  unfold r02_low
  have h0 : (m != 0) = true := by rcases hm with rfl | rfl <;> rfl
  simp only [M.run_chk, M.run_bnd, M.run_cnd, M.run_ok, h0, wi64 (a := n) (by omega)]
  have e : Int.tmod n m = if 0 ≤ n ∨ m ∣ n then n % m else n % m - m := by
    rw [Int.tmod_eq_emod]
    rcases hm with rfl | rfl <;> split <;> simp
  rcases hm with rfl | rfl
  · by_cases hneg : Int.tmod n 2097152 < 0
    · rw [decide_eq_true hneg]
      rw [e] at hneg ⊢
      split at hneg
      · omega
      · rename_i hd
        rw [if_neg hd]
        simp only [if_true, Option.bind_some]
        rw [wi64 (by omega), wu32 (by omega)]
        congr 1
        omega
    · rw [decide_eq_false hneg]
      rw [e] at hneg ⊢
      split at hneg
      · rename_i hd
        rw [if_pos hd]
        simp only [Bool.false_eq_true, if_false, Option.bind_some, if_true]
        rw [wu32 (by omega)]
      · omega
  · by_cases hneg : Int.tmod n 32768 < 0
    · rw [decide_eq_true hneg]
      rw [e] at hneg ⊢
      split at hneg
      · omega
      · rename_i hd
        rw [if_neg hd]
        simp only [if_true, Option.bind_some]
        rw [wi64 (by omega), wu32 (by omega)]
        congr 1
        omega
    · rw [decide_eq_false hneg]
      rw [e] at hneg ⊢
      split at hneg
      · rename_i hd
        rw [if_pos hd]
        simp only [Bool.false_eq_true, if_false, Option.bind_some, if_true]
        rw [wu32 (by omega)]
      · omega
theorem enc02_run (x : InstM) {o : Nat} (ho : x.op = (o : Int)) (h : o < 64) (h1 : 0 ≤ x.rd) (h2 : 0 ≤ x.rs1) (h3 : 0 ≤ x.rs2) (hi : -2147483648 ≤ x.imm ∧ x.imm ≤ 2147483647) : (r02_Encode x).run 0 = some (encI x, encE x) := by
  unfold r02_Encode encI encE
  simp only [M.run_bnd, M.run_cnd, M.run_ok, may02_run x ho h h1 h2 h3, Option.bind_some]
  cases hm : mayI x with
  | false => simp
  | true =>
    obtain ⟨q1, q2, q3, q4⟩ := mayI_in hm
    have hk : (r02_Kind x.op).run 0 = some (kindN o) := by rw [ho]; exact kind_run h
    simp only [Bool.not_true, Bool.false_eq_true, if_false, if_true, hk, Option.bind_some, long_kind h]
    rw [ho]
    rw [ho] at q1
    have w1 : IntKind.u32.wrap (o : Int) = (o : Int) := wu32 (by omega)
    have w2 : IntKind.u32.wrap x.rd = x.rd := wu32 (by omega)
    have w3 : IntKind.u32.wrap x.rs1 = x.rs1 := wu32 (by omega)
    have w4 : IntKind.u32.wrap x.rs2 = x.rs2 := wu32 (by omega)
    have w5 : IntKind.u32.wrap ((o : Int) * 67108864) = (o : Int) * 67108864 := wu32 (by omega)
    have w6 : IntKind.u32.wrap (x.rd * 2097152) = x.rd * 2097152 := wu32 (by omega)
    have w7 : IntKind.u32.wrap (x.rs1 * 65536) = x.rs1 * 65536 := wu32 (by omega)
    simp only [w1, w2, w3, w4, w5, w6, w7]
    have w8 : IntKind.u32.wrap ((o : Int) * 67108864 + x.rd * 2097152) = (o : Int) * 67108864 + x.rd * 2097152 := wu32 (by omega)
    have w9 : IntKind.u32.wrap ((o : Int) * 67108864 + x.rd * 2097152 + x.rs1 * 65536) = (o : Int) * 67108864 + x.rd * 2097152 + x.rs1 * 65536 := wu32 (by omega)
    have w10 : IntKind.u32.wrap ((o : Int) * 67108864 + x.rd * 2097152 + x.rs1 * 65536 + 32768) = (o : Int) * 67108864 + x.rd * 2097152 + x.rs1 * 65536 + 32768 := wu32 (by omega)
    simp only [w8, w9, w10, low_run x.imm 2097152 hi (.inl rfl), low_run x.imm 32768 hi (.inr rfl), Option.bind_some]
    unfold encW
    rw [ho]
    cases hb : hasBit (o : Int) 16 with
    | true =>
      simp only [if_true]
      rw [wu32 (by omega)]
      congr 2
      omega
    | false =>
      simp only [Bool.false_eq_true, if_false]
      cases hs : x.is_ with
      | true =>
        simp only [if_true]
        rw [wu32 (by omega)]
        congr 2
        omega
      | false =>
        simp only [Bool.false_eq_true, if_false]
        rw [wu32 (by omega)]
        congr 2
        omega
theorem dec02_run (w : Nat) (hw : w < 4294967296) : (r02_Decode (w : Int)).run 0 = some (decX w, decOK w) := by
  have e26 : IntKind.u8.wrap (shrV .u32 (w : Int) 26) = ((w / 67108864 : Nat) : Int) := by
    rw [show (26 : Int) = ((26 : Nat) : Int) from rfl, shr32 w 26 (by decide)]
    exact wu8 (by omega)
  have e21 : IntKind.u8.wrap (Int.tmod (shrV .u32 (w : Int) 21) 32) = ((w / 2097152 % 32 : Nat) : Int) := by
    rw [show (21 : Int) = ((21 : Nat) : Int) from rfl, shr32 w 21 (by decide), show (32 : Int) = ((32 : Nat) : Int) from rfl, tmodN]
    exact wu8 (by omega)
  have e16 : IntKind.u8.wrap (Int.tmod (shrV .u32 (w : Int) 16) 32) = ((w / 65536 % 32 : Nat) : Int) := by
    rw [show (16 : Int) = ((16 : Nat) : Int) from rfl, shr32 w 16 (by decide), show (32 : Int) = ((32 : Nat) : Int) from rfl, tmodN]
    exact wu8 (by omega)
  have e0 : IntKind.u8.wrap (Int.tmod (w : Int) 32) = ((w % 32 : Nat) : Int) := by
    rw [show (32 : Int) = ((32 : Nat) : Int) from rfl, tmodN]
    exact wu8 (by omega)
  have e15 : (Int.tmod (shrV .u32 (w : Int) 15) 2 == 1) = bitN w := by
    rw [show (15 : Int) = ((15 : Nat) : Int) from rfl, shr32 w 15 (by decide), show (2 : Int) = ((2 : Nat) : Int) from rfl, tmodN]
    rfl
  have m21 : Int.tmod (w : Int) 2097152 = ((w % 2097152 : Nat) : Int) := by rw [show (2097152 : Int) = ((2097152 : Nat) : Int) from rfl, tmodN]
  have m15 : Int.tmod (w : Int) 32768 = ((w % 32768 : Nat) : Int) := by rw [show (32768 : Int) = ((32768 : Nat) : Int) from rfl, tmodN]
  have ho : w / 67108864 < 64 := by omega
  have s21 : (r02_signed ((w % 2097152 : Nat) : Int) 21).run 0 = some (sxN (w % 2097152) 1048576) := signed_run (w % 2097152) 21 1048576 (.inl ⟨rfl, rfl⟩) (by omega)
  have s15 : (r02_signed ((w % 32768 : Nat) : Int) 15).run 0 = some (sxN (w % 32768) 16384) := signed_run (w % 32768) 15 16384 (.inr ⟨rfl, rfl⟩) (by omega)
  have i21 : IntKind.i32.wrap ((w % 2097152 : Nat) : Int) = ((w % 2097152 : Nat) : Int) := wi32 (by omega)
  unfold r02_Decode
  simp only [e26, e21, e16, e0, e15, m21, m15, i21]
  have hcand : candI w = candI w := rfl
  have henc : ∀ x : InstM, x = candI w → (r02_Encode x).run 0 = some (encI (candI w), encE (candI w)) := fun x hx => by
    subst hx
    refine enc02_run _ (o := w / 67108864) rfl ho ?_ ?_ ?_ ?_
    · show (0 : Int) ≤ ((w / 2097152 % 32 : Nat) : Int); omega
    · show (0 : Int) ≤ if longN w = true then 0 else ((w / 65536 % 32 : Nat) : Int)
      split <;> omega
    · show (0 : Int) ≤ if longN w = true then 0 else if bitN w = true then 0 else ((w % 32 : Nat) : Int)
      split
      · omega
      · split <;> omega
    · show -2147483648 ≤ (if longN w = true then (if opN w = 15 then ((w % 2097152 : Nat) : Int) else sxN (w % 2097152) 1048576) else if bitN w = true then sxN (w % 32768) 16384 else 0) ∧ (if longN w = true then (if opN w = 15 then ((w % 2097152 : Nat) : Int) else sxN (w % 2097152) 1048576) else if bitN w = true then sxN (w % 32768) 16384 else 0) ≤ 2147483647
      unfold sxN
      repeat' split
      all_goals omega
  have hlong : hasBit ((w / 67108864 : Nat) : Int) 16 = longN w := (long_none ho).symm
  have fin : ∀ x : InstM, x = candI w → ((M.bnd (r02_Encode x) fun r12 => M.cnd ((r12.2 != 0) || (r12.1 != (w : Int))) (M.ok (⟨0, 0, 0, 0, false, 0⟩, false)) (M.ok (x, true)) : M (InstM × Bool))).run 0 = some (decX w, decOK w) := fun x hx => by
    simp only [M.run_bnd, M.run_cnd, M.run_ok, henc x hx, Option.bind_some]
    have hraw : ((encE (candI w) != 0) || (encI (candI w) != (w : Int))) = !decOK w := by
      unfold decOK
      rw [Bool.eq_iff_iff]
      simp only [Bool.or_eq_true, bne_iff_ne, Bool.not_eq_true', Bool.and_eq_false_iff, decide_eq_false_iff_not]
    rw [hraw]
    unfold decX
    cases decOK w with
    | true => simp [hx]
    | false => simp [zeroI]
  simp only [M.run_bnd, kind_run ho, Option.bind_some, M.run_cnd, long_kind ho, hlong]
  have eq2 : ∀ (a b c : Int) (d : Bool) (e f : Int), candI w = ⟨opN w, ((w / 2097152 % 32 : Nat) : Int), b, c, d, e⟩ → True := fun _ _ _ _ _ _ _ => trivial
  cases hl : longN w with
  | true =>
    simp only [if_true, s21, Option.bind_some, M.run_ok, kind_three ho]
    by_cases h15 : ((w / 67108864 : Nat) : Int) = 15
    · simp only [h15, decide_true, if_true, Option.bind_some]
      have := fin ⟨15, ((w / 2097152 % 32 : Nat) : Int), 0, 0, true, ((w % 2097152 : Nat) : Int)⟩ (by unfold candI; rw [hl]; simp only [if_true]; unfold opN; rw [h15]; simp)
      simpa only [M.run_bnd, M.run_cnd, M.run_ok] using this
    · simp only [h15, decide_false, Bool.false_eq_true, if_false, Option.bind_some]
      have := fin ⟨((w / 67108864 : Nat) : Int), ((w / 2097152 % 32 : Nat) : Int), 0, 0, true, sxN (w % 2097152) 1048576⟩ (by unfold candI; rw [hl]; simp only [if_true]; unfold opN; rw [if_neg h15])
      simpa only [M.run_bnd, M.run_cnd, M.run_ok] using this
  | false =>
    simp only [Bool.false_eq_true, if_false]
    cases hb : bitN w with
    | true =>
      simp only [if_true, s15, Option.bind_some, M.run_ok]
      have := fin ⟨((w / 67108864 : Nat) : Int), ((w / 2097152 % 32 : Nat) : Int), ((w / 65536 % 32 : Nat) : Int), 0, true, sxN (w % 32768) 16384⟩ (by unfold candI; rw [hl, hb]; simp only [Bool.false_eq_true, if_false, if_true]; rfl)
      simpa only [M.run_bnd, M.run_cnd, M.run_ok] using this
    | false =>
      simp only [Bool.false_eq_true, if_false, Option.bind_some, M.run_ok]
      have := fin ⟨((w / 67108864 : Nat) : Int), ((w / 2097152 % 32 : Nat) : Int), ((w / 65536 % 32 : Nat) : Int), ((w % 32 : Nat) : Int), false, 0⟩ (by unfold candI; rw [hl, hb]; simp only [Bool.false_eq_true, if_false]; rfl)
      simpa only [M.run_bnd, M.run_cnd, M.run_ok] using this
end Mu
end
section
/-
  Walks that show M: loops that are gone through round by round, pointers in arrays, variables at places that closures know.
  Conditions: none; generic.
-/
namespace Mu
open Go Go.RowKit Go.Proofs

/-! ### a loop, round by round -/
/-- at the head of a round -/
def inl (F : Fence) (n : Nat) (P : Program) (c : Code) (Q : Exit → Act → World → Prop) (a : Act) (w : World) : Prop :=
  ∀ (b : Frame) (k : List Item) (cs : List Frame), b.roundOf = F.round → F.fn b.fn → F.room (cs.length + 1 + n) →
    ∃ e a' w', Q e a' w' ∧ ArrivesIn (Machine.fenced P F) P (lone (b.atR a (.code c :: .inLoop c :: k)) cs w) b k cs e a' w'
theorem wpIn_inl {F : Fence} {n : Nat} {P : Program} {c : Code} {Q : Exit → Act → World → Prop} {a : Act} {w : World} (h : inl F n P c Q a w) : (Code.loop c).wpIn F n P Q a w := by
  intro b k cs hro hb hr
  obtain ⟨e, a', w', hq, harr⟩ := h b k cs hro hb hr
  exact ⟨e, a', w', hq, .of_steps (.one (fenced_calm hb hr rfl) stepR_loop) harr⟩
theorem inl_step {F : Fence} {n : Nat} {P : Program} {c : Code} {Q : Exit → Act → World → Prop} {a : Act} {w : World} (h : c.wpIn F n P (Exit.then (inl F n P c Q) Q) a w) : inl F n P c Q a w := by
  intro b k cs hro hb hr
  obtain ⟨e, a₁, w₁, hq, harr⟩ := h b (.inLoop c :: k) cs hro hb hr
  cases e with
  | normal =>
    obtain ⟨e₂, a₂, w₂, hq₂, harr₂⟩ := hq b k cs hro hb hr
    exact ⟨e₂, a₂, w₂, hq₂, .of_steps (StepsIn.trans harr (.one (fenced_calm hb hr rfl) stepR_inLoop)) harr₂⟩
  | exit id => exact ⟨_, a₁, w₁, hq, .pass (x := .inLoop c) rfl (fun _ _ => .inl (by simp)) harr⟩
  | goto l => exact ⟨_, a₁, w₁, hq, .pass (x := .inLoop c) rfl (fun _ _ => .inl (by simp)) harr⟩
  | ret => exact ⟨_, a₁, w₁, hq, .pass (x := .inLoop c) rfl (fun _ _ => .inl (by simp)) harr⟩
  | panic ch => exact ⟨_, a₁, w₁, hq, .pass (x := .inLoop c) rfl (fun _ _ => .inl (by simp)) harr⟩
  | outgrown => exact ⟨_, a₁, w₁, hq, .pass (x := .inLoop c) rfl (fun _ _ => .inl (by simp)) harr⟩
section
variable {P : Program} {C : Ctx}
def AwpL (P : Program) (C : Ctx) (c : Code) (Q : Exit → St → Prop) (s : St) : Prop :=
  ∀ a w, s.rel C a w → inl (fnc C.rd) 4 P c (fun e a' w' => ∃ s', Q e s' ∧ s'.rel C a' w') a w
theorem Awp.loopU {c : Code} {Q : Exit → St → Prop} {s : St} (h : AwpL P C c Q s) : Awp P C (.loop c) Q s := fun a w H => wpIn_inl (h a w H)
theorem AwpL.step {c : Code} {Q : Exit → St → Prop} {s : St} (h : Awp P C c (athen (AwpL P C c Q) Q) s) : AwpL P C c Q s := fun a w H =>
  inl_step (wpIn_mono (h a w H) fun e a' w' ⟨s', q, r⟩ => by
    cases e with
    | normal => exact q a' w' r
    | _ => exact ⟨s', q, r⟩)
theorem Awp.condB {k : Operand} {x y : Code} {b : Bool} {Q : Exit → St → Prop} {s : St} (hb : b = true) (hc : evA s.t k = .lit (.bool b)) (ht : Awp P C x Q s) : Awp P C (.cond k x y) Q s := Awp.cond hc (fun _ => ht) fun h => by rw [hb] at h; cases h
theorem Awp.condN {k : Operand} {x y : Code} {b : Bool} {Q : Exit → St → Prop} {s : St} (hb : b = false) (hc : evA s.t k = .lit (.bool b)) (ht : Awp P C y Q s) : Awp P C (.cond k x y) Q s := Awp.cond hc (fun h => by rw [hb] at h; cases h) fun _ => ht

/-! ### pointers -/
variable {t : List AV} {h : List ABlk} {o : Oper}
theorem Quiet.nilP {x : Operand} {i off : Nat} (ho : o.op = .nilCheck x) (hx : evA t x = .ptr i off) (hi : ABlk.isBox h[i]? = true) : Quiet P C t h o (.ptr i off) :=
  Quiet.of_run fun S ψ w ρ _ hρ => by
    have h1 := hρ x (by simp [ho, Op.operands])
    rw [hx] at h1
    have h2 := h1
    unfold AV.rel at h1
    obtain ⟨_, h3⟩ := h1
    obtain ⟨g, _, h5⟩ := h3 hi
    exact ⟨.pointer (some ⟨g, off, none⟩), by simp [execOp, ho, h5], by rw [← h5]; exact h2⟩
def arrPtr (P : Program) (ty : TypeId) : Bool :=
  match P.underlying ty with
  | some (.array _ e) => match P.underlying e with | some (.pointer _) => true | _ => false
  | _ => false
theorem run_part_ptr {w : World} {e q : TypeId} {xs : Array Value} {off : Nat} {v : Value} (he : P.underlying e = some (.pointer q)) (hx : xs[off]? = some v) : (part e xs off).run P w = .ok v w := by
  simp [part, isAgg, run_underlying he, hx]
/-- a pointer out of an array of such -/
theorem Quiet.ixPtr {ty : TypeId} {x y : Operand} {ik : IntKind} {l : List AV} {r : AV} {k n : Nat} (ho : o.op = .index ty x y) (ha : arrOf P ty = some (n, 1)) (hn : l.length = n) (hk : arrPtr P ty = true) (hx : evA t x = .agg l) (hy : evA t y = .lit (.int ik (k : Int))) (hr : l[k]? = some r) : Quiet P C t h o r :=
  Quiet.of_run fun S ψ w ρ H hρ => by
    have h1 := hρ x (by simp [ho, Op.operands])
    have h2 := hρ y (by simp [ho, Op.operands])
    rw [hx] at h1
    rw [hy] at h2
    unfold AV.rel at h1 h2
    obtain ⟨cs, e1, hl⟩ := h1
    obtain ⟨v, hv, hrel⟩ := relL_get hl hr
    subst hn
    have hlt : k < l.length := (List.getElem?_eq_some_iff.1 hr).1
    unfold arrOf at ha
    split at ha <;> try (cases ha; done)
    rename_i n' e hu
    cases hi : P.info? e with
    | none => rw [hi] at ha; cases ha
    | some i =>
      rw [hi] at ha
      simp only [Option.map_some, Option.some.injEq, Prod.mk.injEq] at ha
      obtain ⟨rfl, he1⟩ := ha
      obtain ⟨q, hke⟩ : ∃ q, P.underlying e = some (.pointer q) := by
        unfold arrPtr at hk
        rw [hu] at hk
        simp only at hk
        split at hk
        · rename_i q he; exact ⟨q, he⟩
        · cases hk
      refine ⟨v, ?_, hrel⟩
      have hp := run_part_ptr (P := P) (w := w) (e := e) (xs := cs.toArray) (off := k) (v := v) hke (by simp [hv])
      simp [execOp, ho, e1, h2, Instr.index, asIntOf, underlying, hu, hlt, Go.sizeOf, typeInfo, hi, he1, hp]
end
section
variable {P : Program} {C : Ctx} {t : List AV} {h : List ABlk} {o : Oper}
def onesB (h : List ABlk) : AV → Bool
  | .ptr i _ => ABlk.isBox h[i]?
  | x => litBs x
theorem One.onesB {x : AV} (hx : onesB h x = true) : One h x := by
  cases x with
  | ptr i off =>
    have hx : ABlk.isBox h[i]? = true := hx
    cases hi : h[i]? with
    | none => rw [hi] at hx; cases hx
    | some b => cases b <;> rw [hi] at hx <;> first | exact One.ptr hi | cases hx
  | _ => exact One.litBs hx
/-- an array with pointers put in -/
theorem Quiet.bldQ {ty : TypeId} {parts : Array (Nat × Operand)} {zs : List Value} {n : Nat} {rs : List AV} (ho : o.op = .build ty parts) (hz : zeroCells? P ty = some zs) (hs : arrOf P ty = some (n, 1))
    (hr : putCellsA (zs.map .lit) (parts.toList.map fun p => (p.1, evA t p.2)) = some rs) (h1 : (parts.toList.all fun p => onesB h (evA t p.2)) = true) : Quiet P C t h o (.agg rs) :=
  Quiet.of_run fun S ψ w ρ H hρ => by
    unfold zeroCells? at hz
    obtain ⟨z, hz1, rfl⟩ := Option.map_eq_some_iff.1 hz
    obtain ⟨i, hi, hz2⟩ := Option.bind_eq_some_iff.1 hz1
    unfold arrOf at hs
    split at hs <;> try (cases hs; done)
    rename_i n' e hu
    cases h2 : P.info? e with
    | none => rw [h2] at hs; cases hs
    | some ie =>
      rw [h2] at hs
      simp only [Option.map_some, Option.some.injEq, Prod.mk.injEq] at hs
      obtain ⟨rfl, he1⟩ := hs
      have hmem : ∀ p ∈ parts.toList, AV.rel w S h ψ (evA t p.2) (ρ p.2) := fun p hp => hρ p.2 (by rw [ho]; exact List.mem_toArray.2 (List.mem_map.2 ⟨p, hp, rfl⟩))
      obtain ⟨us', h3, h4⟩ := fill_arr (w := w) (S := S) (h := h) (ψ := ψ) _ _ rs (parts.toList.map fun p => (p.1, ρ p.2)) z.cells.toList hr (relL_lits _) (by simp) fun j p v hp hv => by
        rw [List.getElem?_map] at hp hv
        obtain ⟨q, hq, rfl⟩ := Option.map_eq_some_iff.1 hp
        rw [hq] at hv
        cases hv
        have hqm := List.mem_of_getElem? hq
        exact ⟨hmem q hqm, One.onesB (List.all_eq_true.1 h1 q hqm) C S ψ w _ H (hmem q hqm)⟩
      refine ⟨.agg us'.toArray, ?_, by unfold AV.rel; exact ⟨us', rfl, h4⟩⟩
      have hf : Instr.fill (fun i => some (i * 1, 1)) z.cells (parts.map fun p => (p.1, ρ p.2)).toList = some us'.toArray := by simpa using h3
      simp only [execOp, ho, Instr.build, zeroValue, typeInfo, underlying, Go.sizeOf, Sem.run_bind, run_program, Result.andThen_ok, hi, hz2, Sem.run_pure, hu, h2, he1, hf]
end

theorem qVia {Q : Exit → St → Prop} {s : St} (s' : St) (e : s = s') (h : Q .normal s') : Q .normal s := by rw [e]; exact h
theorem mapc {x y : AV} {l l' : List AV} (h1 : x = y) (h2 : l = l') : x :: l = y :: l' := by rw [h1, h2]
theorem Fit.of_eq {h : List ABlk} {α : Type} {T : Ty α} {x y : AV} {d : α} (e : x = y) (hf : Fit h T y d) : Fit h T x d := by rw [e]; exact hf

/-! ### function values that turn memory, where something of the world is presupposed -/
/-- it holds wherever the call gets to -/
def GIn (G : World → Prop) (C : Ctx) : Prop := ∀ w', Kp C.N C.w0 w' → G w'
theorem Quiet.callTI {G : World → Prop} {P : Program} {C : Ctx} {t : List AV} {h : List ABlk} {o : Oper} {f : FuncId} {args : Array Operand} {tys : Array TypeId} {xs : List AV} {r : AV}
    (ho : o.op = .call { callee := .value (.func f), args := args, argTypes := tys }) (hx : args.toList.map (evA t) = xs) (hI : GIn G C) (hF : FnT G P f xs r) (hc : AV.clL xs = true) (hr : AV.cl r = true) : Quiet P C t h o r := by
  intro S ψ w ρ H hρ
  have h1 : ρ (.func f) = .func (.func f) #[] #[] := by
    have := hρ (.func f) (by rw [ho]; exact Array.mem_append.2 (.inl (by simp)))
    simpa [evA, AV.rel] using this
  rw [run_call ho hF.1 ρ w h1]
  refine ⟨rfl, ?_⟩
  have h2 : AV.relL w S h ψ xs (args.toList.map ρ) := by
    rw [← hx]
    exact relL_map fun x hx' => hρ x (by rw [ho]; exact Array.mem_append.2 (.inr (Array.mem_toList_iff.1 hx')))
  have h3 := hF.2 w S (args.toList.map ρ) (hI w H.bel) H.lt (AV.relL_cl _ _ hc h2)
  rw [show (args.map ρ) = (args.toList.map ρ).toArray from (by rw [← Array.toList_map])]
  refine h3.mono ?_
  rintro e w' ⟨v, he, hb, S', k1, k2, k3, k4⟩
  exact ⟨v, he, hb, S', k1, k2, k3, AV.rel_cl _ _ hr k4⟩
section
variable {G : World → Prop} {P : Program} {f : FuncId} {fn : Go.Func} {c : Code} {args : List AV} {ι : Type} {R : Res} {Rs : ι → Res} {val : ι → Value} {t : Tmp} {n : Nat}
def FnTurnG (G : World → Prop) (P : Program) (f : FuncId) (R : Res) (args : List AV) (Rs : ι → Res) (val : ι → Value) : Prop :=
  Enters P f = true ∧ ∀ (w : World) (S : Nat → Prop) (vs : List Value), (∃ w0, G w0 ∧ Below w0.heap.size w0 w ∧ ∀ g, R.F g → w0.heap.size ≤ g) → (∀ k, S k → k < w.heap.size ∧ ¬ R.F k) → (∀ g, R.F g → g < w.heap.size) → R.R w S → AV.relL w S [] ψ0 args vs →
    Calls P f vs.toArray w fun e w' => ∃ v, e = .returned v ∧ Turns w S R.F Rs val v w'
theorem turn_start1 {w : World} {S : Nat → Prop} {vs : List Value} (hm : R.mrk = []) (hSl : ∀ k, S k → k < w.heap.size ∧ ¬ R.F k) (hF : ∀ g, R.F g → g < w.heap.size) (hR : R.R w S) (hr : AV.relL w S [] ψ0 args vs) :
    St.rel ⟨w, S, fun k => k < w.heap.size ∧ ¬ R.F k, none⟩ ⟨args ++ List.replicate (n - args.length) (.lit undef), [.res R]⟩ { tmps := vs.toArray ++ Array.replicate (n - vs.toArray.size) undef, defers := [] } w := by
  obtain ⟨_, S1, ψ, _, hl⟩ := start_rel (n := n) (fun k hk => (hSl k hk).1) hr
  refine ⟨by show [] = mkD [.res R]; simp [mkD, ABlk.mrk, hm], S, ψ0, ⟨Kp.refl _ _, fun k hk => hk.1, fun k hk => (hSl k hk).1, fun _ h => h, fun _ h => .inl h, fun i b hi => ?_, fun i j hij hi hj => ?_⟩, ?_⟩
  · cases i with
    | zero =>
      simp only [List.getElem?_cons_zero, Option.some.injEq] at hi
      subst hi
      exact ⟨fun g hg => ⟨fun hc => hc.2 hg, fun hs => (hSl g hs).2 hg, hF g hg⟩, hR⟩
    | succ i => simp at hi
  · cases i with
    | zero => cases j with
      | zero => exact absurd rfl hij
      | succ j => simp [ABlk.live] at hj
    | succ i => simp [ABlk.live] at hi
  · simp only [Array.toList_append, Array.toList_replicate, List.size_toArray]
    have X : Ext w S [] ψ0 w S [.res R] ψ0 := ⟨fun _ _ => rfl, fun _ h => h, by simp, fun i c' hi => by simp at hi, fun i hi => by simp at hi⟩
    refine relL_append (AV.relL_ext X _ _ hr) (relL_of (by simp [relL_len hr]) fun i x v hx hv => ?_)
    rw [List.getElem?_replicate] at hx hv
    split at hx <;> cases hx
    split at hv <;> cases hv
    unfold AV.rel
    rfl
theorem FnTurnG.of_awp (hL : Lasts G) (hf : P.funcs[f]? = some fn) (hb : fn.body = some c) (hE : Enters P f = true) (hres : fn.results = #[.tmp t]) (hn : fn.ntmps = n)
    (hm : R.mrk = []) (hS : ∀ p w S S', (Rs p).R w S → (Rs p).R w S')
    (h : ∀ C : Ctx, GIn G C → Awp P C c (RetsT t R Rs val) ⟨args ++ List.replicate (n - args.length) (.lit undef), [.res R]⟩) : FnTurnG G P f R args Rs val := by
  refine ⟨hE, fun w S vs ⟨w0, hG, hbl, hg0⟩ hSl hF hR hr => calls_of_wp hf hb ?_⟩
  rw [hn]
  have hI : GIn G ⟨w, S, fun k => k < w.heap.size ∧ ¬ R.F k, none⟩ := fun w' hk => hL _ _ hG ⟨hk.os.trans hbl.os, hk.tape.trans hbl.tape, hk.output.trans hbl.output, Nat.le_trans hbl.size hk.size, fun k hlt => (hk.block k ⟨Nat.lt_of_lt_of_le hlt hbl.size, fun hf => Nat.not_le_of_lt hlt (hg0 k hf)⟩).trans (hbl.block k hlt)⟩
  refine wp_mono ((h ⟨w, S, fun k => k < w.heap.size ∧ ¬ R.F k, none⟩ hI).wp rfl (turn_start1 hm hSl hF hR hr)) ?_
  rintro x a' w' ⟨s, ⟨hx, p, hmk, hi, hev⟩, hd, S1, ψ, H, hl⟩
  rw [hmk, hm] at hd
  have hv := ev_rel hl (.tmp t)
  rw [hev] at hv
  unfold AV.rel at hv
  have hB := H.blk 0 _ hi
  have hres' : (results fn a'.tmps).run P w' = .ok (a'.eval (.tmp t)) w' := results_tmp hres _ _ _
  have hfin : ∃ v, Ending.returned (a'.eval (.tmp t)) = .returned v ∧ Turns w S R.F Rs val v w' :=
    ⟨_, rfl, ⟨H.bel.os, H.bel.tape, H.bel.output, H.bel.size, fun k hk hn => H.bel.block k ⟨hk, hn⟩⟩, p, hv, hS p _ _ _ hB.2, fun k hk => by
      obtain ⟨k1, _, k3⟩ := hB.1 k hk
      refine ⟨?_, k3⟩
      by_cases hc : R.F k
      · exact .inl hc
      · exact .inr (Nat.le_of_not_lt fun hlt => k1 ⟨hlt, hc⟩)⟩
  rcases hx with rfl | rfl
  · exact ⟨hd, _, hres', hfin⟩
  · exact ⟨hd, _, hres', hfin⟩
end
section
variable {G : World → Prop} {P : Program} {C : Ctx} {o : Oper} {t : List AV} {h : List ABlk} {ι : Type} {Rs : ι → Res} {val : ι → Value}
theorem AOp.callTurnVG {i : Nat} {R : Res} {f : FuncId} {x : Operand} {args : Array Operand} {tys : Array TypeId} {l xs : List AV} {K : St → Prop} (hC : C.std) (hG : G C.w0) (hi : h[i]? = some (.res R))
    (ho : o.op = .call { callee := .value x, args := args, argTypes := tys }) (hv : evA t x = .fn f l) (hF : FnTurnG G P f R xs Rs val) (hm : ∀ p, (Rs p).mrk = R.mrk) (hx : args.toList.map (evA t) ++ l = xs) (hc : AV.clL xs = true)
    (hK : ∀ p, K ⟨putA t o.dst (.lit (val p)), h.set i (.res (Rs p))⟩) : AOp P C o ⟨t, h⟩ K := by
  refine AOp.turn hi hm (fun S ψ w ρ H hR hlt hρ => ?_) hK
  have h1 := hρ x (by rw [ho]; exact Array.mem_append.2 (.inl (by simp)))
  rw [hv] at h1
  unfold AV.rel at h1
  obtain ⟨cs, e, hcs⟩ := h1
  rw [run_callV ho hF.1 ρ w e]
  refine ⟨rfl, ?_⟩
  have h2 : AV.relL w S h ψ xs (args.toList.map ρ ++ cs) := by
    rw [← hx]
    exact relL_append (relL_map fun x hx' => hρ x (by rw [ho]; exact Array.mem_append.2 (.inr (Array.mem_toList_iff.1 hx')))) hcs
  rw [show (args.map ρ ++ cs.toArray) = (args.toList.map ρ ++ cs).toArray from (by simp)]
  exact hF.2 w S (args.toList.map ρ ++ cs) ⟨C.w0, hG, H.bel.below hC, fun g hg => Nat.le_of_not_lt fun hlt => ((H.blk i _ hi).1 g hg).1 (hC g hlt)⟩ (fun k hk => ⟨H.lt k hk, fun hf => ((H.blk i _ hi).1 k hf).2.1 hk⟩) hlt hR (AV.relL_cl _ _ hc h2)
end
end Mu
end
section
/-
  Images read of listings: what image.Read computes.
  Conditions: what is laid (GL).
-/
namespace Mu
open Go Go.RowKit Go.Proofs

instance inMuImgR1 : ZC Tryd.prog 9 [.string ⟨#[]⟩] := ⟨by kernel_rfl⟩
def strings_Cut (s sep : ByteArray) : M (ByteArray × ByteArray × Bool) := M.chk (decide (s.size < 4294967281)) (M.ok (⟨(Lib.cut s.data.toList sep.data.toList).1.toArray⟩, ⟨(Lib.cut s.data.toList sep.data.toList).2.1.toArray⟩, (Lib.cut s.data.toList sep.data.toList).2.2))
theorem strings_Cut_l {s sep : ByteArray} {r : ByteArray × ByteArray × Bool} (H : (strings_Cut s sep).to r) : FnT GL Tryd.prog 29 [.lit (.string s), .lit (.string sep)] (.tup [.lit (.string r.1), .lit (.string r.2.1), .lit (.bool r.2.2)]) := by
  obtain ⟨c, H⟩ := M.to_chk.1 H
  obtain rfl := M.to_ok.1 H
  refine ⟨by kernel_rfl, fun w S vs hG hS hr => ?_⟩
  obtain rfl := relL_lit2 hr
  obtain ⟨m, hm⟩ := hG.most
  refine (Tryd.strings_Cut s sep m w (of_decide_eq_true c) hm).mono fun e w' ⟨he, n, hw⟩ => ?_
  subst hw
  refine ⟨_, he, ⟨rfl, rfl, rfl, Nat.le_refl _, fun _ _ => rfl⟩, S, fun k hk => hk, fun k hk => .inl hk, hS, ?_⟩
  unfold AV.rel
  exact ⟨[_, _, _], rfl, relL_lits [_, _, _]⟩
def image_value_L5 (s : ByteArray) (base : Int) : (Int × Int) → M ((Int × Int) ⊕ ((Int) ⊕ (Int))) := fun (n1, x2) => M.cnd (decide (x2 < (s.size : Int))) (M.chk (inSt s x2) (M.bnd (strings_IndexByte ⟨#[48, 49, 50, 51, 52, 53, 54, 55, 56, 57, 97, 98, 99, 100, 101, 102]⟩ (chD s x2)) fun r9 => M.cnd (((decide (r9 < 0)) || (decide ((IntKind.u64.wrap r9) ≥ base))) || (decide (n1 > 4294967296))) (M.ok (.inr (.inr 0))) (M.ok (.inl (IntKind.u64.wrap ((IntKind.u64.wrap (n1 * base)) + (IntKind.u64.wrap r9)), IntKind.i64.wrap (x2 + 1)))))) (M.ok (.inr (.inl n1)))
def image_value (s : ByteArray) (base : Int) : M Int := M.els (M.loop (image_value_L5 s base) (0, 0)) fun n4 => M.ok n4
set_option maxRecDepth 100000 in
set_option maxHeartbeats 4000000 in
theorem image_value_l {s : ByteArray} {base : Int} {r : Int} (H : (image_value s base).to r) : Fn Tryd.prog 30 [.lit (.string s), .lit (.int .u64 base)] (.lit (.int .u64 r)) := by
  delta image_value at H
  try dsimp only at H
  refine Fn.of_awp Tryd.func30 rfl (by kernel_rfl) rfl Tryd.ntmps30 fun C hC => ?_
  simp only [List.length_cons, List.length_nil, Nat.reduceAdd, Nat.reduceSub, List.replicate_succ, List.replicate_zero, List.cons_append, List.nil_append]
  refine wR (hx := by (refine sA (hq := Quiet.assign rfl getC) (ht := set4) (hk := ?_); exact wEnd rfl)) (hk := ?_)
  refine wR (hx := by (refine sA (hq := Quiet.assign rfl getC) (ht := set5) (hk := ?_); exact wEnd rfl)) (hk := ?_)
  obtain ⟨z3, HX3, Hl3, Hq3⟩ := M.to_els H
  refine Awp.seqJ (β := (Int) × (Unit)) (fun q3 => z3 = .inl q3.1) (fun q3 => ⟨[.any, .any, .any, .any, .any, .lit (.int .u64 q3.1), .any, .any, .any, .any, .any, .any, .any, .any, .any, .any, .any, .any, .any, .any, .any, .any, .any, .any, .any, .any, .any, .any, .any, .any, .any, .any, .any, .any, .any, .any, .any], []⟩) ?_ ?_
  · refine wR (hx := by (refine sA (hq := Quiet.move rfl get0) (ht := (setS8 set0)) (hk := ?_); refine sA (hq := Quiet.lnS rfl (getS8 get0)) (ht := (setS8 set1)) (hk := ?_); refine sA (hq := Quiet.move rfl getC) (ht := (setS8 set2)) (hk := ?_); exact wEnd rfl)) (hk := ?_)
    refine Awp.block ?_
    refine Awp.loopM HX3 (fun s3 b3 => ⟨[.lit (.string s), .lit (.int .u64 base), .any, .any, .any, .lit (.int .u64 s3.1), .any, .any, .any, .lit (.int .i64 (s.size : Int)), .lit (.int .i64 s3.2), .any, .any, .any, .any, .any, .any, .any, .any, .any, .any, .any, .any, .any, .any, .any, .any, .any, .any, .any, .any, .any, .any, .any, .any, .any, .any], []⟩) () (?_) ?_
    · try dsimp only
      exact le_TA
    · rintro ⟨n1, x2⟩ _ x3 H Hr3
      try dsimp only
      dsimp only [image_value_L5] at H
      refine wR (hx := by (refine sA (hq := Quiet.bin rfl (getS8 get2) (getS8 get1) rfl) (ht := (setS8 set3)) (hk := ?_); exact wEnd rfl)) (hk := ?_)
      refine Awp.seq fun Khs5 hs5 => ?_
      refine Awp.cond rfl (fun hb6 => ?_) (fun hb6 => ?_)
      · have H := M.to_t hb6 H
        refine Awp.skip ?_
        refine hs5 _ ?_
        refine nT (hk := ?_)
        refine Awp.seq fun Khs7 hs7 => ?_
        refine Awp.block ?_
        refine wR (hx := by (refine sA (hq := Quiet.move rfl (getS8 get2)) (ht := (setS8 set4)) (hk := ?_); refine sA (hq := Quiet.assign rfl (getS8 get4)) (ht := set6) (hk := ?_); exact wEnd rfl)) (hk := ?_)
        obtain ⟨c8, H⟩ := M.to_chk.1 H
        obtain ⟨r9, k9, H⟩ := M.to_bnd.1 H
        have k9 := strings_IndexByte_l k9
        refine wR (hx := by (refine sA (hq := Quiet.move rfl get0) (ht := (setS8 set5)) (hk := ?_); refine sA (hq := Quiet.move rfl get6) (ht := (setS8 set6)) (hk := ?_); refine sA (hq := Quiet.ixSM rfl (getS8 get5) (getS8 get6) c8) (ht := (setS8 set7)) (hk := ?_); refine sA (hq := Quiet.callA rfl rfl k9 rfl rfl) (ht := (setS8 (setS8 set0))) (hk := ?_); refine sA (hq := Quiet.assign rfl (getS8 (getS8 get0))) (ht := set7) (hk := ?_); exact wEnd rfl)) (hk := ?_)
        refine Awp.seq fun Khs10 hs10 => ?_
        refine wR (hx := by (refine sA (hq := Quiet.move rfl get7) (ht := (setS8 (setS8 set1))) (hk := ?_); refine sA (hq := Quiet.bin rfl (getS8 (getS8 get1)) getC rfl) (ht := (setS8 (setS8 set2))) (hk := ?_); refine sA (hq := Quiet.move rfl (getS8 (getS8 get2))) (ht := (setS8 (setS8 set3))) (hk := ?_); refine sG (g := (!(decide (r9 < 0)))) (hg := gA_f rfl) (hq := fun hg => Quiet.move rfl get7) (ht := (setS8 (setS8 set4))) (hk := ?_); refine sG (g := (!(decide (r9 < 0)))) (hg := gA_f rfl) (hq := fun hg => Quiet.cv rfl ((getS8 (getS8 get4)).trans (cndT hg _ _)) rfl) (ht := (setS8 (setS8 set5))) (hk := ?_); refine sG (g := (!(decide (r9 < 0)))) (hg := gA_f rfl) (hq := fun hg => Quiet.move rfl get1) (ht := (setS8 (setS8 set6))) (hk := ?_); refine sG (g := (!(decide (r9 < 0)))) (hg := gA_f rfl) (hq := fun hg => Quiet.bin rfl ((getS8 (getS8 get5)).trans (cndT hg _ _)) ((getS8 (getS8 get6)).trans (cndT hg _ _)) rfl) (ht := (setS8 (setS8 set7))) (hk := ?_); refine sA (hq := Quiet.pickOrB rfl (getS8 (getS8 get3)) getC (getS8 (getS8 get7))) (ht := (setS8 (setS8 (setS8 set0)))) (hk := ?_); refine sA (hq := Quiet.move rfl (getS8 (getS8 (getS8 get0)))) (ht := (setS8 (setS8 (setS8 set1)))) (hk := ?_); refine sG (g := (!((decide (r9 < 0)) || (decide ((IntKind.u64.wrap r9) ≥ base))))) (hg := gA_f rfl) (hq := fun hg => Quiet.move rfl get5) (ht := (setS8 (setS8 (setS8 set2)))) (hk := ?_); refine sG (g := (!((decide (r9 < 0)) || (decide ((IntKind.u64.wrap r9) ≥ base))))) (hg := gA_f rfl) (hq := fun hg => Quiet.bin rfl ((getS8 (getS8 (getS8 get2))).trans (cndT hg _ _)) getC rfl) (ht := (setS8 (setS8 (setS8 set3)))) (hk := ?_); refine sA (hq := Quiet.pickOrB rfl (getS8 (getS8 (getS8 get1))) getC (getS8 (getS8 (getS8 get3)))) (ht := (setS8 (setS8 (setS8 set4)))) (hk := ?_); exact wEnd rfl)) (hk := ?_)
        refine Awp.cond rfl (fun hb11 => ?_) (fun hb11 => ?_)
        · have H := M.to_t hb11 H
          refine wR (hx := by (refine sA (hq := Quiet.assign rfl getC) (ht := set4) (hk := ?_); exact wEnd rfl)) (hk := ?_)
          have H := M.to_ok.2 (Hq3 _ (Hr3 _ (M.to_ok.1 H).symm).symm)
          obtain rfl := M.to_ok.1 H
          exact Awp.ret ⟨.inr rfl, Fin.cl rfl⟩
        · have H := M.to_f hb11 H
          refine Awp.skip ?_
          refine hs10 _ ?_
          refine nT (hk := ?_)
          refine wRE (hx := by (refine sA (hq := Quiet.move rfl get5) (ht := (setS8 (setS8 (setS8 set5)))) (hk := ?_); refine sA (hq := Quiet.move rfl get1) (ht := (setS8 (setS8 (setS8 set6)))) (hk := ?_); refine sA (hq := Quiet.bin rfl (getS8 (getS8 (getS8 get5))) (getS8 (getS8 (getS8 get6))) rfl) (ht := (setS8 (setS8 (setS8 set7)))) (hk := ?_); refine sA (hq := Quiet.move rfl get7) (ht := (setS32 set0)) (hk := ?_); refine sA (hq := Quiet.cv rfl (getS32 get0) rfl) (ht := (setS32 set1)) (hk := ?_); refine sA (hq := Quiet.bin rfl (getS8 (getS8 (getS8 get7))) (getS32 get1) rfl) (ht := (setS32 set2)) (hk := ?_); refine sA (hq := Quiet.assign rfl (getS32 get2)) (ht := set5) (hk := ?_); exact wEnd rfl)) (hk := ?_)
          refine hs7 _ ?_
          refine nT (hk := ?_)
          refine wRE (hx := by (refine sA (hq := Quiet.bin rfl (getS8 get2) getC rfl) (ht := (setS32 set3)) (hk := ?_); refine sA (hq := Quiet.move rfl (getS32 get3)) (ht := (setS8 set2)) (hk := ?_); exact wEnd rfl)) (hk := ?_)
          have e3 := M.to_ok.1 H
          repeat (first | refine abN ?_ | refine asN ?_)
          refine athen_n ⟨_, (), e3.symm, ?_⟩
          try dsimp only
          exact le_TA
      · have H := M.to_f hb6 H
        refine Awp.exit ?_
        repeat (first | refine athen_e ?_ | refine exO (by decide) ?_ | refine asE ?_)
        refine exN ?_
        have e3 := Hr3 _ (M.to_ok.1 H).symm
        repeat (first | refine abN ?_ | refine asN ?_)
        refine athen_n ⟨(_, ()), e3.symm, ?_⟩
        try dsimp only
        exact le_TA
  · rintro ⟨n4, _⟩ hz3
    try dsimp only at hz3
    have H := Hl3 _ hz3
    try dsimp only
    refine wR (hx := by (refine sA (hq := Quiet.move rfl get5) (ht := (setS32 set4)) (hk := ?_); refine sA (hq := Quiet.assign rfl (getS32 get4)) (ht := set4) (hk := ?_); exact wEnd rfl)) (hk := ?_)
    obtain rfl := M.to_ok.1 H
    exact Awp.ret ⟨.inr rfl, Fin.cl rfl⟩
def image_next (f0 : ByteArray) : M (ByteArray × ByteArray) := M.bnd (strings_Cut f0 ⟨#[32]⟩) fun r1 => M.ok (r1.2.1, r1.1)
set_option maxRecDepth 100000 in
set_option maxHeartbeats 4000000 in
theorem image_next_l {f0 : ByteArray} {g : Nat} {r : ByteArray × ByteArray} (H : (image_next f0).to r) : FnTurnG GL Tryd.prog 28 (boxR g [.lit (.string f0)]) [.lit (.pointer (some ⟨g, 0, none⟩))] (fun _ : Unit => boxR g [.lit (.string r.1)]) (fun _ => (.string r.2)) := by
  delta image_next at H
  try dsimp only at H
  refine FnTurnG.of_awp gl_lasts Tryd.func28 rfl (by kernel_rfl) rfl Tryd.ntmps28 rfl (fun _ _ _ _ h => h) fun C hI => ?_
  simp only [List.length_cons, List.length_nil, Nat.reduceAdd, Nat.reduceSub, List.replicate_succ, List.replicate_zero, List.cons_append, List.nil_append]
  refine wR (hx := by (refine sA (hq := Quiet.assign rfl getC) (ht := set1) (hk := ?_); exact wEnd rfl)) (hk := ?_)
  obtain ⟨r1, k1, H⟩ := M.to_bnd.1 H
  have k1 := strings_Cut_l k1
  refine wR (hx := by (refine sA (hq := Quiet.ldL (i := 0) (g := g) rfl get0 rfl rfl rfl) (ht := set6) (hk := ?_); refine sA (hq := Quiet.callTI rfl rfl hI k1 rfl rfl) (ht := set7) (hk := ?_); refine sA (hq := Quiet.move rfl get7) (ht := set5) (hk := ?_); refine sA (hq := Quiet.extract rfl get5 rfl) (ht := (setS8 set0)) (hk := ?_); refine sA (hq := Quiet.extract rfl get5 rfl) (ht := (setS8 set1)) (hk := ?_); refine sA (hq := Quiet.extract rfl get5 rfl) (ht := (setS8 set2)) (hk := ?_); refine sA (hq := Quiet.assign rfl (getS8 get0)) (ht := set2) (hk := ?_); refine sA (hq := Quiet.assign rfl (getS8 get1)) (ht := set3) (hk := ?_); refine sA (hq := Quiet.assign rfl (getS8 get2)) (ht := set4) (hk := ?_); exact wEnd rfl)) (hk := ?_)
  refine wR (hx := by (refine sA (hq := Quiet.move rfl get3) (ht := (setS8 set3)) (hk := ?_); (refine aSeq_t rfl (AOp.stL (i := 0) (g := g) (new := [_]) rfl get0 rfl (Parts.one (One.lit rfl)) rfl rfl (Nat.le_of_ble_eq_true rfl) ?_); refine sNtM (ht := setN) (hk := ?_)); exact wEnd rfl)) (hk := ?_)
  refine wR (hx := by (refine sA (hq := Quiet.move rfl get2) (ht := (setS8 set4)) (hk := ?_); refine sA (hq := Quiet.assign rfl (getS8 get4)) (ht := set1) (hk := ?_); exact wEnd rfl)) (hk := ?_)
  obtain rfl := M.to_ok.1 H
  exact Awp.ret ⟨.inr rfl, (), rfl, rfl, rfl⟩
def image_ReadM_L25 : (ByteArray × (List Int)) → M ((ByteArray × (List Int)) ⊕ (ByteArray × (List Int))) := fun (c1_034, l36) => M.cnd (c1_034 != ⟨#[]⟩) (M.bnd (image_next c1_034) fun r43 => M.bnd (image_value r43.2 10) fun r44 => M.chk (wfB .u32 (IntKind.u32.wrap r44)) (M.chk (rowB (l36.length + [IntKind.u32.wrap r44].length) 4) (M.ok (.inl (r43.1, l36 ++ [IntKind.u32.wrap r44]))))) (M.ok (.inr (c1_034, l36)))
def image_ReadM_L32 (r2 : List ByteArray) : (Int × ByteArray × (List Int)) → M ((Int × ByteArray × (List Int)) ⊕ (ByteArray × (List Int))) := fun (x52, c1_053, l56) => M.cnd (decide (x52 < ((slD r2 2 (r2.length : Int)).length : Int))) (M.chk (inBd (slD r2 2 (r2.length : Int)) x52) (M.bnd (image_next (ixD (slD r2 2 (r2.length : Int)) x52)) fun r66 => M.bnd (image_next r66.1) fun r67 => M.bnd (image_value r67.2 16) fun r68 => M.chk (wfB .u32 (IntKind.u32.wrap r68)) (M.chk (rowB (l56.length + [IntKind.u32.wrap r68].length) 4) (M.ok (.inl (IntKind.i64.wrap (x52 + 1), r67.1, l56 ++ [IntKind.u32.wrap r68])))))) (M.ok (.inr (c1_053, l56)))
def image_ReadM (s : ByteArray) : M (Img × Int) := M.bnd (strings_TrimSuffix s ⟨#[10]⟩) fun r1 => M.bnd (strings_Split r1 ⟨#[10]⟩) fun r2 => M.cnd (decide ((r2.length : Int) < 2)) (M.ok (⟨0, [], 0, 0, 0, [], 0⟩, 5)) (M.chk (inBd r2 0) (M.bnd (image_next (ixD r2 0)) fun r7 => M.bnd (image_next r7.1) fun r11 => M.bnd (image_value r11.2 10) fun r12 => M.bnd (image_next r11.1) fun r15 => M.bnd (image_value r15.2 10) fun r16 => M.bnd (image_next r15.1) fun r19 => M.bnd (image_value r19.2 10) fun r20 => M.bnd (image_next r19.1) fun r23 => M.bnd (image_value r23.2 10) fun r24 => M.bnd (image_next r23.1) fun r27 => M.bnd (image_value r27.2 10) fun r28 => M.chk (inBd r2 1) (M.bnd (image_next (ixD r2 1)) fun r33 => M.bnd (M.loop (image_ReadM_L25) (r33.1, [])) fun (c1_038, l40) => M.chk (slB r2 2 (r2.length : Int)) (M.bnd (M.loop (image_ReadM_L32 r2) (0, c1_038, [])) fun (_c1_058, l61) => M.bnd (image_List ⟨IntKind.i64.wrap r12, l61, IntKind.i64.wrap r16, IntKind.i64.wrap r20, IntKind.i64.wrap r24, l40, IntKind.i64.wrap r28⟩) fun r73 => M.cnd ((r73.2 != 0) || (r73.1 != s)) (M.ok (⟨0, [], 0, 0, 0, [], 0⟩, 5)) (M.ok (⟨IntKind.i64.wrap r12, l61, IntKind.i64.wrap r16, IntKind.i64.wrap r20, IntKind.i64.wrap r24, l40, IntKind.i64.wrap r28⟩, 0))))))
set_option maxRecDepth 100000 in
set_option maxHeartbeats 4000000 in
theorem image_ReadM_l {s : ByteArray} {r : Img × Int} (H : (image_ReadM s).to r) : FnT GL Tryd.prog 13 [.lit (.string s)] (.tup [.agg (encImg r.1), .lit (.int .i64 r.2)]) := by
  delta image_ReadM at H
  try dsimp only at H
  have hL := gl_lasts
  refine FnT.of_awpC2 Tryd.func13 rfl (by kernel_rfl) rfl (by kernel_rfl : aggT Tryd.prog 25 = some (true, 7)) Tryd.ntmps13 fun C hC hG => ?_
  simp only [List.length_cons, List.length_nil, Nat.reduceAdd, Nat.reduceSub, List.replicate_succ, List.replicate_zero, List.cons_append, List.nil_append]
  refine wR (hx := by ((refine aSeq_t rfl (AOp.alI 0 rfl rfl ?_); refine sNtM (ht := set2) (hk := ?_)); refine sA (hq := Quiet.assign rfl getC) (ht := set3) (hk := ?_); exact wEnd rfl)) (hk := ?_)
  obtain ⟨r1, k1, H⟩ := M.to_bnd.1 H
  have k1 := strings_TrimSuffix_l k1
  obtain ⟨r2, k2, H⟩ := M.to_bnd.1 H
  have k2 := strings_Split_l k2
  refine wR (hx := by (refine sA (hq := Quiet.move rfl get0) (ht := (setS8 set6)) (hk := ?_); refine sA (hq := Quiet.callA rfl rfl k1 rfl rfl) (ht := (setS8 set7)) (hk := ?_); refine sA (hq := Quiet.callTA rfl rfl hC hL hG k2 rfl rfl) (ht := (setS8 (setS8 set0))) (hk := ?_); refine sA (hq := Quiet.assign rfl (getS8 (getS8 get0))) (ht := set4) (hk := ?_); exact wEnd rfl)) (hk := ?_)
  refine Awp.seq fun Khs3 hs3 => ?_
  refine wR (hx := by (refine sA (hq := Quiet.move rfl get4) (ht := (setS8 (setS8 set1))) (hk := ?_); refine sA (hq := Quiet.ln rfl (getS8 (getS8 get1))) (ht := (setS8 (setS8 set2))) (hk := ?_); refine sA (hq := Quiet.bin rfl (getS8 (getS8 get2)) getC rfl) (ht := (setS8 (setS8 set3))) (hk := ?_); exact wEnd rfl)) (hk := ?_)
  refine Awp.cond rfl (fun hb4 => ?_) (fun hb4 => ?_)
  · have H := M.to_t hb4 H
    refine wR (hx := by (refine sA (hq := Quiet.bldP (rs := [.lit (.int .i64 0), .lit (.slice none 0 0), .lit (.int .i64 0), .lit (.int .i64 0), .lit (.int .i64 0), .lit (.slice none 0 0), .lit (.int .i64 0)]) rfl plImg rfl rfl) (ht := (setS8 (setS8 set4))) (hk := ?_); (refine aSeq_t rfl (AOp.stBox rfl rfl rfl (Parts.aggB rfl) rfl (Nat.le_of_ble_eq_true rfl) ?_); refine sNtM (ht := setN) (hk := ?_)); refine sA (hq := Quiet.assign rfl getC) (ht := set3) (hk := ?_); exact wEnd rfl)) (hk := ?_)
    obtain rfl := M.to_ok.1 H
    exact Awp.ret ⟨.inr rfl, 0, _, rfl, rfl, rfl, Fin.weak rfl (fun _ _ _ H => Up.rel (Up.tp (.cons (Up.ag (.cons (.refl _) (.cons (.nil _) (.cons (.refl _) (.cons (.refl _) (.cons (.refl _) (.cons (.nil _) (.cons (.refl _) .nil)))))))) (.cons (.refl _) .nil))) H)⟩
  · have H := M.to_f hb4 H
    refine Awp.skip ?_
    refine hs3 _ ?_
    refine nT (hk := ?_)
    obtain ⟨c5, H⟩ := M.to_chk.1 H
    refine wR (hx := by (refine sA (hq := Quiet.move rfl get4) (ht := (setS8 (setS8 set5))) (hk := ?_); refine sA (hq := Quiet.ixM rfl (getS8 (getS8 get5)) getC rfl c5) (ht := (setS8 (setS8 set6))) (hk := ?_); refine sA (hq := Quiet.load_bp rfl (getS8 (getS8 get6)) rfl) (ht := (setS8 (setS8 set7))) (hk := ?_); (refine aSeq_t rfl (AOp.alI 1 rfl rfl ?_); refine sNtM (ht := set5) (hk := ?_)); (refine aSeq_t rfl (AOp.stBox (new := [_]) rfl rfl rfl (Parts.one (One.lit rfl)) rfl (Nat.le_of_ble_eq_true rfl) ?_); refine sNtM (ht := setN) (hk := ?_)); exact wEnd rfl)) (hk := ?_)
    refine Awp.open_box 1 rfl rfl rfl (fun g6 => .lit (.string s) :: .any :: .ptr 0 0 :: .lit (.int .i64 0) :: .bs Ty.str r2 :: .lit (.pointer (some ⟨g6, 0, none⟩)) :: .any :: .any :: .any :: .any :: .any :: .any :: .any :: .any :: .lit (.string s) :: .lit (.string r1) :: .bs Ty.str r2 :: .bs Ty.str r2 :: .lit (.int .i64 (r2.length : Int)) :: .lit (.bool (decide ((r2.length : Int) < 2))) :: .any :: .bs Ty.str r2 :: .bp Ty.str (ixD r2 0) 0 :: .lit (.string (ixD r2 0)) :: .any :: .any :: .any :: .any :: .any :: .any :: .any :: .any :: .any :: .any :: .any :: .any :: .any :: .any :: .any :: .any :: .any :: .any :: .any :: .any :: .any :: .any :: .any :: .any :: .any :: .any :: .any :: .any :: .any :: .any :: .any :: .any :: .any :: .any :: .any :: .any :: .any :: .any :: .any :: .any :: .any :: .any :: .any :: .any :: .any :: .any :: .any :: .any :: .any :: .any :: .any :: .any :: .any :: .any :: .any :: .any :: .any :: .any :: .any :: .any :: .any :: .any :: .any :: .any :: .any :: .any :: .any :: .any :: .any :: []) (fun g6 => (by (repeat (first | exact OpnB.nil | refine OpnB.ptr ?_ | refine OpnB.any ?_ | refine OpnB.keep rfl ?_)))) fun g6 => ?_
    refine wR (hx := by (refine sA (hq := Quiet.mkFn rfl) (ht := (setS8 (setS8 (setS8 set0)))) (hk := ?_); refine sA (hq := Quiet.assign rfl (getS8 (getS8 (getS8 get0)))) (ht := set6) (hk := ?_); exact wEnd rfl)) (hk := ?_)
    refine wR (hx := by ((refine aSeq_t rfl (AOp.alI 2 rfl rfl ?_); refine sNtM (ht := set7) (hk := ?_)); exact wEnd rfl)) (hk := ?_)
    obtain ⟨r7, k7, H⟩ := M.to_bnd.1 H
    have k7 := image_next_l (g := g6) k7
    refine wR (hx := by (refine sA (hq := Quiet.move rfl get6) (ht := (setS8 (setS8 (setS8 set1)))) (hk := ?_); (refine aSeq_t rfl (AOp.callTurnVG (i := 1) hC hG rfl rfl (getS8 (getS8 (getS8 get1))) k7 (fun _ => rfl) rfl rfl fun _ => ?_); refine sNtM (ht := (setS8 (setS8 (setS8 set2)))) (hk := ?_)); exact wEnd rfl)) (hk := ?_)
    refine Awp.seq fun Khs8 hs8 => ?_
    refine wR (hx := by (refine sA (hq := Quiet.fa_ptr rfl get7 rfl) (ht := (setS8 (setS8 (setS8 set3)))) (hk := ?_); refine sA (hq := Quiet.fa_ptr rfl get7 rfl) (ht := (setS8 (setS8 (setS8 set4)))) (hk := ?_); refine sA (hq := Quiet.fa_ptr rfl get7 rfl) (ht := (setS8 (setS8 (setS8 set5)))) (hk := ?_); refine sA (hq := Quiet.fa_ptr rfl get7 rfl) (ht := (setS8 (setS8 (setS8 set6)))) (hk := ?_); refine sA (hq := Quiet.fa_ptr rfl get7 rfl) (ht := (setS8 (setS8 (setS8 set7)))) (hk := ?_); refine sA (hq := Quiet.bldQ (zs := [.pointer none, .pointer none, .pointer none, .pointer none, .pointer none]) (n := 5) (rs := [.ptr 2 0, .ptr 2 2, .ptr 2 3, .ptr 2 4, .ptr 2 6]) rfl (by kernel_rfl) (by kernel_rfl) rfl rfl) (ht := (setS32 set0)) (hk := ?_); refine sA (hq := Quiet.move rfl getC) (ht := (setS32 set1)) (hk := ?_); exact wEnd rfl)) (hk := ?_)
    refine Awp.block ?_
    refine Awp.loopU ?_
    refine AwpL.step ?_
    refine wR (hx := by (refine sA (hq := Quiet.bin rfl (getS32 get1) getC rfl) (ht := (setS32 set2)) (hk := ?_); exact wEnd rfl)) (hk := ?_)
    refine Awp.seq fun Khs9 hs9 => ?_
    refine Awp.condB (by kernel_rfl) rfl ?_
    refine Awp.skip ?_
    refine hs9 _ ?_
    refine nT (hk := ?_)
    refine Awp.seq fun Khs10 hs10 => ?_
    refine Awp.block ?_
    refine wR (hx := by (refine sA (hq := Quiet.ixPtr (k := 0) (n := 5) rfl (by kernel_rfl) rfl (by kernel_rfl) (getS32 get0) (getS32 get1) rfl) (ht := (setS32 set3)) (hk := ?_); refine sA (hq := Quiet.assign rfl (getS32 get3)) (ht := (setS8 set1)) (hk := ?_); exact wEnd rfl)) (hk := ?_)
    obtain ⟨r11, k11, H⟩ := M.to_bnd.1 H
    have k11 := image_next_l (g := g6) k11
    obtain ⟨r12, k12, H⟩ := M.to_bnd.1 H
    have k12 := image_value_l k12
    refine wRE (hx := by (refine sA (hq := Quiet.move rfl (getS8 get1)) (ht := (setS32 set4)) (hk := ?_); refine sA (hq := Quiet.move rfl get6) (ht := (setS32 set5)) (hk := ?_); (refine aSeq_t rfl (AOp.callTurnVG (i := 1) hC hG rfl rfl (getS32 get5) k11 (fun _ => rfl) rfl rfl fun _ => ?_); refine sNtM (ht := (setS32 set6)) (hk := ?_)); refine sA (hq := Quiet.callA rfl rfl k12 rfl rfl) (ht := (setS32 set7)) (hk := ?_); refine sA (hq := Quiet.cv rfl (getS32 get7) rfl) (ht := (setS32 (setS8 set0))) (hk := ?_); refine sA (hq := Quiet.nilP rfl (getS32 get4) rfl) (ht := (setS32 (setS8 set1))) (hk := ?_); (refine aSeq_t rfl (AOp.stBox (new := [_]) rfl rfl rfl (Parts.one (One.lit rfl)) rfl (Nat.le_of_ble_eq_true rfl) ?_); refine sNtM (ht := setN) (hk := ?_)); exact wEnd rfl)) (hk := ?_)
    refine hs10 _ ?_
    refine nT (hk := ?_)
    refine wRE (hx := by (refine sA (hq := Quiet.bin rfl (getS32 get1) getC rfl) (ht := (setS32 (setS8 set2))) (hk := ?_); refine sA (hq := Quiet.move rfl (getS32 (getS8 get2))) (ht := (setS32 set1)) (hk := ?_); exact wEnd rfl)) (hk := ?_)
    repeat (first | refine abN ?_ | refine asN ?_)
    refine athen_n ?_
    refine AwpL.step ?_
    refine wR (hx := by (refine sA (hq := Quiet.bin rfl (getS32 get1) getC rfl) (ht := (setS32 set2)) (hk := ?_); exact wEnd rfl)) (hk := ?_)
    refine Awp.seq fun Khs13 hs13 => ?_
    refine Awp.condB (by kernel_rfl) rfl ?_
    refine Awp.skip ?_
    refine hs13 _ ?_
    refine nT (hk := ?_)
    refine Awp.seq fun Khs14 hs14 => ?_
    refine Awp.block ?_
    refine wR (hx := by (refine sA (hq := Quiet.ixPtr (k := 1) (n := 5) rfl (by kernel_rfl) rfl (by kernel_rfl) (getS32 get0) (getS32 get1) rfl) (ht := (setS32 set3)) (hk := ?_); refine sA (hq := Quiet.assign rfl (getS32 get3)) (ht := (setS8 set1)) (hk := ?_); exact wEnd rfl)) (hk := ?_)
    obtain ⟨r15, k15, H⟩ := M.to_bnd.1 H
    have k15 := image_next_l (g := g6) k15
    obtain ⟨r16, k16, H⟩ := M.to_bnd.1 H
    have k16 := image_value_l k16
    refine wRE (hx := by (refine sA (hq := Quiet.move rfl (getS8 get1)) (ht := (setS32 set4)) (hk := ?_); refine sA (hq := Quiet.move rfl get6) (ht := (setS32 set5)) (hk := ?_); (refine aSeq_t rfl (AOp.callTurnVG (i := 1) hC hG rfl rfl (getS32 get5) k15 (fun _ => rfl) rfl rfl fun _ => ?_); refine sNtM (ht := (setS32 set6)) (hk := ?_)); refine sA (hq := Quiet.callA rfl rfl k16 rfl rfl) (ht := (setS32 set7)) (hk := ?_); refine sA (hq := Quiet.cv rfl (getS32 get7) rfl) (ht := (setS32 (setS8 set0))) (hk := ?_); refine sA (hq := Quiet.nilP rfl (getS32 get4) rfl) (ht := (setS32 (setS8 set1))) (hk := ?_); (refine aSeq_t rfl (AOp.stBox (new := [_]) rfl rfl rfl (Parts.one (One.lit rfl)) rfl (Nat.le_of_ble_eq_true rfl) ?_); refine sNtM (ht := setN) (hk := ?_)); exact wEnd rfl)) (hk := ?_)
    refine hs14 _ ?_
    refine nT (hk := ?_)
    refine wRE (hx := by (refine sA (hq := Quiet.bin rfl (getS32 get1) getC rfl) (ht := (setS32 (setS8 set2))) (hk := ?_); refine sA (hq := Quiet.move rfl (getS32 (getS8 get2))) (ht := (setS32 set1)) (hk := ?_); exact wEnd rfl)) (hk := ?_)
    repeat (first | refine abN ?_ | refine asN ?_)
    refine athen_n ?_
    refine AwpL.step ?_
    refine wR (hx := by (refine sA (hq := Quiet.bin rfl (getS32 get1) getC rfl) (ht := (setS32 set2)) (hk := ?_); exact wEnd rfl)) (hk := ?_)
    refine Awp.seq fun Khs17 hs17 => ?_
    refine Awp.condB (by kernel_rfl) rfl ?_
    refine Awp.skip ?_
    refine hs17 _ ?_
    refine nT (hk := ?_)
    refine Awp.seq fun Khs18 hs18 => ?_
    refine Awp.block ?_
    refine wR (hx := by (refine sA (hq := Quiet.ixPtr (k := 2) (n := 5) rfl (by kernel_rfl) rfl (by kernel_rfl) (getS32 get0) (getS32 get1) rfl) (ht := (setS32 set3)) (hk := ?_); refine sA (hq := Quiet.assign rfl (getS32 get3)) (ht := (setS8 set1)) (hk := ?_); exact wEnd rfl)) (hk := ?_)
    obtain ⟨r19, k19, H⟩ := M.to_bnd.1 H
    have k19 := image_next_l (g := g6) k19
    obtain ⟨r20, k20, H⟩ := M.to_bnd.1 H
    have k20 := image_value_l k20
    refine wRE (hx := by (refine sA (hq := Quiet.move rfl (getS8 get1)) (ht := (setS32 set4)) (hk := ?_); refine sA (hq := Quiet.move rfl get6) (ht := (setS32 set5)) (hk := ?_); (refine aSeq_t rfl (AOp.callTurnVG (i := 1) hC hG rfl rfl (getS32 get5) k19 (fun _ => rfl) rfl rfl fun _ => ?_); refine sNtM (ht := (setS32 set6)) (hk := ?_)); refine sA (hq := Quiet.callA rfl rfl k20 rfl rfl) (ht := (setS32 set7)) (hk := ?_); refine sA (hq := Quiet.cv rfl (getS32 get7) rfl) (ht := (setS32 (setS8 set0))) (hk := ?_); refine sA (hq := Quiet.nilP rfl (getS32 get4) rfl) (ht := (setS32 (setS8 set1))) (hk := ?_); (refine aSeq_t rfl (AOp.stBox (new := [_]) rfl rfl rfl (Parts.one (One.lit rfl)) rfl (Nat.le_of_ble_eq_true rfl) ?_); refine sNtM (ht := setN) (hk := ?_)); exact wEnd rfl)) (hk := ?_)
    refine hs18 _ ?_
    refine nT (hk := ?_)
    refine wRE (hx := by (refine sA (hq := Quiet.bin rfl (getS32 get1) getC rfl) (ht := (setS32 (setS8 set2))) (hk := ?_); refine sA (hq := Quiet.move rfl (getS32 (getS8 get2))) (ht := (setS32 set1)) (hk := ?_); exact wEnd rfl)) (hk := ?_)
    repeat (first | refine abN ?_ | refine asN ?_)
    refine athen_n ?_
    refine AwpL.step ?_
    refine wR (hx := by (refine sA (hq := Quiet.bin rfl (getS32 get1) getC rfl) (ht := (setS32 set2)) (hk := ?_); exact wEnd rfl)) (hk := ?_)
    refine Awp.seq fun Khs21 hs21 => ?_
    refine Awp.condB (by kernel_rfl) rfl ?_
    refine Awp.skip ?_
    refine hs21 _ ?_
    refine nT (hk := ?_)
    refine Awp.seq fun Khs22 hs22 => ?_
    refine Awp.block ?_
    refine wR (hx := by (refine sA (hq := Quiet.ixPtr (k := 3) (n := 5) rfl (by kernel_rfl) rfl (by kernel_rfl) (getS32 get0) (getS32 get1) rfl) (ht := (setS32 set3)) (hk := ?_); refine sA (hq := Quiet.assign rfl (getS32 get3)) (ht := (setS8 set1)) (hk := ?_); exact wEnd rfl)) (hk := ?_)
    obtain ⟨r23, k23, H⟩ := M.to_bnd.1 H
    have k23 := image_next_l (g := g6) k23
    obtain ⟨r24, k24, H⟩ := M.to_bnd.1 H
    have k24 := image_value_l k24
    refine wRE (hx := by (refine sA (hq := Quiet.move rfl (getS8 get1)) (ht := (setS32 set4)) (hk := ?_); refine sA (hq := Quiet.move rfl get6) (ht := (setS32 set5)) (hk := ?_); (refine aSeq_t rfl (AOp.callTurnVG (i := 1) hC hG rfl rfl (getS32 get5) k23 (fun _ => rfl) rfl rfl fun _ => ?_); refine sNtM (ht := (setS32 set6)) (hk := ?_)); refine sA (hq := Quiet.callA rfl rfl k24 rfl rfl) (ht := (setS32 set7)) (hk := ?_); refine sA (hq := Quiet.cv rfl (getS32 get7) rfl) (ht := (setS32 (setS8 set0))) (hk := ?_); refine sA (hq := Quiet.nilP rfl (getS32 get4) rfl) (ht := (setS32 (setS8 set1))) (hk := ?_); (refine aSeq_t rfl (AOp.stBox (new := [_]) rfl rfl rfl (Parts.one (One.lit rfl)) rfl (Nat.le_of_ble_eq_true rfl) ?_); refine sNtM (ht := setN) (hk := ?_)); exact wEnd rfl)) (hk := ?_)
    refine hs22 _ ?_
    refine nT (hk := ?_)
    refine wRE (hx := by (refine sA (hq := Quiet.bin rfl (getS32 get1) getC rfl) (ht := (setS32 (setS8 set2))) (hk := ?_); refine sA (hq := Quiet.move rfl (getS32 (getS8 get2))) (ht := (setS32 set1)) (hk := ?_); exact wEnd rfl)) (hk := ?_)
    repeat (first | refine abN ?_ | refine asN ?_)
    refine athen_n ?_
    refine AwpL.step ?_
    refine wR (hx := by (refine sA (hq := Quiet.bin rfl (getS32 get1) getC rfl) (ht := (setS32 set2)) (hk := ?_); exact wEnd rfl)) (hk := ?_)
    refine Awp.seq fun Khs25 hs25 => ?_
    refine Awp.condB (by kernel_rfl) rfl ?_
    refine Awp.skip ?_
    refine hs25 _ ?_
    refine nT (hk := ?_)
    refine Awp.seq fun Khs26 hs26 => ?_
    refine Awp.block ?_
    refine wR (hx := by (refine sA (hq := Quiet.ixPtr (k := 4) (n := 5) rfl (by kernel_rfl) rfl (by kernel_rfl) (getS32 get0) (getS32 get1) rfl) (ht := (setS32 set3)) (hk := ?_); refine sA (hq := Quiet.assign rfl (getS32 get3)) (ht := (setS8 set1)) (hk := ?_); exact wEnd rfl)) (hk := ?_)
    obtain ⟨r27, k27, H⟩ := M.to_bnd.1 H
    have k27 := image_next_l (g := g6) k27
    obtain ⟨r28, k28, H⟩ := M.to_bnd.1 H
    have k28 := image_value_l k28
    refine wRE (hx := by (refine sA (hq := Quiet.move rfl (getS8 get1)) (ht := (setS32 set4)) (hk := ?_); refine sA (hq := Quiet.move rfl get6) (ht := (setS32 set5)) (hk := ?_); (refine aSeq_t rfl (AOp.callTurnVG (i := 1) hC hG rfl rfl (getS32 get5) k27 (fun _ => rfl) rfl rfl fun _ => ?_); refine sNtM (ht := (setS32 set6)) (hk := ?_)); refine sA (hq := Quiet.callA rfl rfl k28 rfl rfl) (ht := (setS32 set7)) (hk := ?_); refine sA (hq := Quiet.cv rfl (getS32 get7) rfl) (ht := (setS32 (setS8 set0))) (hk := ?_); refine sA (hq := Quiet.nilP rfl (getS32 get4) rfl) (ht := (setS32 (setS8 set1))) (hk := ?_); (refine aSeq_t rfl (AOp.stBox (new := [_]) rfl rfl rfl (Parts.one (One.lit rfl)) rfl (Nat.le_of_ble_eq_true rfl) ?_); refine sNtM (ht := setN) (hk := ?_)); exact wEnd rfl)) (hk := ?_)
    refine hs26 _ ?_
    refine nT (hk := ?_)
    refine wRE (hx := by (refine sA (hq := Quiet.bin rfl (getS32 get1) getC rfl) (ht := (setS32 (setS8 set2))) (hk := ?_); refine sA (hq := Quiet.move rfl (getS32 (getS8 get2))) (ht := (setS32 set1)) (hk := ?_); exact wEnd rfl)) (hk := ?_)
    repeat (first | refine abN ?_ | refine asN ?_)
    refine athen_n ?_
    refine AwpL.step ?_
    refine wR (hx := by (refine sA (hq := Quiet.bin rfl (getS32 get1) getC rfl) (ht := (setS32 set2)) (hk := ?_); exact wEnd rfl)) (hk := ?_)
    refine Awp.seq fun Khs29 hs29 => ?_
    refine Awp.condN (by kernel_rfl) rfl ?_
    refine Awp.exit ?_
    repeat (first | refine athen_e ?_ | refine exO (by decide) ?_ | refine asE ?_)
    refine exN ?_
    refine hs8 _ ?_
    refine nT (hk := ?_)
    obtain ⟨c30, H⟩ := M.to_chk.1 H
    refine wR (hx := by (refine sA (hq := Quiet.move rfl get4) (ht := (setS32 (setS8 set3))) (hk := ?_); refine sA (hq := Quiet.ixM rfl (getS32 (getS8 get3)) getC rfl c30) (ht := (setS32 (setS8 set4))) (hk := ?_); refine sA (hq := Quiet.load_bp rfl (getS32 (getS8 get4)) rfl) (ht := (setS32 (setS8 set5))) (hk := ?_); (refine aSeq_t rfl (AOp.stL (i := 1) (g := g6) (new := [_]) rfl get5 rfl (Parts.one (One.lit rfl)) rfl rfl (Nat.le_of_ble_eq_true rfl) ?_); refine sNtM (ht := setN) (hk := ?_)); exact wEnd rfl)) (hk := ?_)
    refine Awp.via _ (St.le_nilB 2 5 39 (Ty.int .u32) rfl rfl (by decide)) ?_
    obtain ⟨r33, k33, H⟩ := M.to_bnd.1 H
    have k33 := image_next_l (g := g6) k33
    obtain ⟨z37, HX37, Hl37⟩ := M.to_bnd.1 H
    refine Awp.seqJ (β := (ByteArray × (List Int)) × (Nat)) (fun q37 => z37 = q37.1) (fun q37 => ⟨.lit (.string s) :: .any :: .ptr 0 0 :: .any :: .bs Ty.str r2 :: .lit (.pointer (some ⟨g6, 0, none⟩)) :: .fn 28 [.lit (.pointer (some ⟨g6, 0, none⟩))] :: .ptr 2 0 :: .any :: .any :: .any :: .any :: .any :: .any :: .any :: .any :: .any :: .any :: .any :: .any :: .any :: .any :: .any :: .any :: .any :: .fn 28 [.lit (.pointer (some ⟨g6, 0, none⟩))] :: .any :: .any :: .any :: .any :: .any :: .any :: .any :: .any :: .any :: .any :: .any :: .any :: .any :: .any :: .any :: .any :: .any :: .any :: .any :: .any :: .any :: .any :: .any :: .any :: .any :: .any :: .any :: .any :: .any :: .any :: .any :: .any :: .any :: .any :: .any :: .any :: .any :: .any :: .any :: .any :: .any :: .any :: .any :: .any :: .any :: .any :: .any :: .any :: .any :: .any :: .any :: .any :: .any :: .any :: .any :: .any :: .any :: .any :: .any :: .any :: .any :: .any :: .any :: .any :: .any :: .any :: .any :: [], [.box [.lit (.int .i64 0), .lit (.slice none 0 0), .lit (.int .i64 0), .lit (.int .i64 0), .lit (.int .i64 0), .lit (.slice none 0 0), .lit (.int .i64 0)], .res (boxR g6 [.lit (.string q37.1.1)]), .box [.lit (.int .i64 (IntKind.i64.wrap r12)), .lit (.slice none 0 0), .lit (.int .i64 (IntKind.i64.wrap r16)), .lit (.int .i64 (IntKind.i64.wrap r20)), .lit (.int .i64 (IntKind.i64.wrap r24)), .own 3 q37.2, .lit (.int .i64 (IntKind.i64.wrap r28))], .row q37.2 39 (Ty.int .u32) q37.1.2]⟩) ?_ ?_
    · refine wR (hx := by (refine sA (hq := Quiet.move rfl get6) (ht := (setS32 (setS8 set6))) (hk := ?_); (refine aSeq_t rfl (AOp.callTurnVG (i := 1) hC hG rfl rfl (getS32 (getS8 get6)) k33 (fun _ => rfl) rfl rfl fun _ => ?_); refine sNtM (ht := (setS32 (setS8 set7))) (hk := ?_)); exact wEnd rfl)) (hk := ?_)
      refine Awp.block ?_
      refine Awp.loopM HX37 (fun s37 b37 => ⟨.lit (.string s) :: .any :: .ptr 0 0 :: .any :: .bs Ty.str r2 :: .lit (.pointer (some ⟨g6, 0, none⟩)) :: .fn 28 [.lit (.pointer (some ⟨g6, 0, none⟩))] :: .ptr 2 0 :: .any :: .any :: .any :: .any :: .any :: .any :: .any :: .any :: .any :: .any :: .any :: .any :: .any :: .any :: .any :: .any :: .any :: .fn 28 [.lit (.pointer (some ⟨g6, 0, none⟩))] :: .any :: .any :: .any :: .any :: .any :: .any :: .any :: .any :: .any :: .any :: .any :: .any :: .any :: .any :: .any :: .any :: .any :: .any :: .any :: .any :: .any :: .any :: .any :: .any :: .any :: .any :: .any :: .any :: .any :: .any :: .any :: .any :: .any :: .any :: .any :: .any :: .any :: .any :: .any :: .any :: .any :: .any :: .any :: .any :: .any :: .any :: .any :: .any :: .any :: .any :: .any :: .any :: .any :: .any :: .any :: .any :: .any :: .any :: .any :: .any :: .any :: .any :: .any :: .any :: .any :: .any :: .any :: [], [.box [.lit (.int .i64 0), .lit (.slice none 0 0), .lit (.int .i64 0), .lit (.int .i64 0), .lit (.int .i64 0), .lit (.slice none 0 0), .lit (.int .i64 0)], .res (boxR g6 [.lit (.string s37.1)]), .box [.lit (.int .i64 (IntKind.i64.wrap r12)), .lit (.slice none 0 0), .lit (.int .i64 (IntKind.i64.wrap r16)), .lit (.int .i64 (IntKind.i64.wrap r20)), .lit (.int .i64 (IntKind.i64.wrap r24)), .own 3 b37, .lit (.int .i64 (IntKind.i64.wrap r28))], .row b37 39 (Ty.int .u32) s37.2]⟩) 0 (?_) ?_
      · try dsimp only
        exact le_TA
      · rintro ⟨c1_034, l36⟩ v35 x37 H Hr37
        try dsimp only
        dsimp only [image_ReadM_L25] at H
        refine Awp.seq fun Khs41 hs41 => ?_
        refine wR (hx := by (refine sA (hq := Quiet.ldL (i := 1) (g := g6) rfl get5 rfl rfl rfl) (ht := (setS32 (setS8 (setS8 set0)))) (hk := ?_); refine sA (hq := Quiet.neS rfl (getS32 (getS8 (getS8 get0))) getC) (ht := (setS32 (setS8 (setS8 set1)))) (hk := ?_); exact wEnd rfl)) (hk := ?_)
        refine Awp.cond rfl (fun hb42 => ?_) (fun hb42 => ?_)
        · have H := M.to_t hb42 H
          refine Awp.skip ?_
          refine hs41 _ ?_
          refine nT (hk := ?_)
          refine Awp.block ?_
          obtain ⟨r43, k43, H⟩ := M.to_bnd.1 H
          have k43 := image_next_l (g := g6) k43
          obtain ⟨r44, k44, H⟩ := M.to_bnd.1 H
          have k44 := image_value_l k44
          obtain ⟨c45, H⟩ := M.to_chk.1 H
          obtain ⟨c46, H⟩ := M.to_chk.1 H
          refine Awp.via ⟨.lit (.string s) :: .any :: .ptr 0 0 :: .any :: .bs Ty.str r2 :: .lit (.pointer (some ⟨g6, 0, none⟩)) :: .fn 28 [.lit (.pointer (some ⟨g6, 0, none⟩))] :: .ptr 2 0 :: .any :: .any :: .any :: .any :: .any :: .any :: .any :: .any :: .any :: .any :: .any :: .any :: .any :: .any :: .any :: .any :: .any :: .fn 28 [.lit (.pointer (some ⟨g6, 0, none⟩))] :: .any :: .any :: .any :: .any :: .any :: .any :: .any :: .any :: .any :: .any :: .any :: .any :: .any :: .any :: .any :: .any :: .any :: .any :: .any :: .any :: .any :: .any :: .lit (.string c1_034) :: .lit (.bool (c1_034 != ⟨#[]⟩)) :: .any :: .any :: .any :: .any :: .any :: .any :: .any :: .any :: .any :: .any :: .any :: .any :: .any :: .any :: .any :: .any :: .any :: .any :: .any :: .any :: .any :: .any :: .any :: .any :: .any :: .any :: .any :: .any :: .any :: .any :: .any :: .any :: .any :: .any :: .any :: .any :: .any :: .any :: .any :: .any :: .any :: .any :: .any :: [], [.box [.lit (.int .i64 0), .lit (.slice none 0 0), .lit (.int .i64 0), .lit (.int .i64 0), .lit (.int .i64 0), .lit (.slice none 0 0), .lit (.int .i64 0)], .res (boxR g6 [.lit (.string c1_034)]), .box [.lit (.int .i64 (IntKind.i64.wrap r12)), .lit (.slice none 0 0), .lit (.int .i64 (IntKind.i64.wrap r16)), .lit (.int .i64 (IntKind.i64.wrap r20)), .lit (.int .i64 (IntKind.i64.wrap r24)), .own 3 v35, .lit (.int .i64 (IntKind.i64.wrap r28))], .row v35 39 (Ty.int .u32) l36]⟩ (St.le.trans le_TA (St.le_deads 0 rfl)) ?_
          refine Awp.drawG (n := 10) (fun b => ⟨.lit (.string s) :: .any :: .ptr 0 0 :: .any :: .bs Ty.str r2 :: .lit (.pointer (some ⟨g6, 0, none⟩)) :: .fn 28 [.lit (.pointer (some ⟨g6, 0, none⟩))] :: .ptr 2 0 :: .any :: .any :: .any :: .any :: .any :: .any :: .any :: .any :: .any :: .any :: .any :: .any :: .any :: .any :: .any :: .any :: .any :: .fn 28 [.lit (.pointer (some ⟨g6, 0, none⟩))] :: .any :: .any :: .any :: .any :: .any :: .any :: .any :: .any :: .any :: .any :: .any :: .any :: .any :: .any :: .any :: .any :: .any :: .any :: .any :: .any :: .any :: .any :: .lit (.string c1_034) :: .lit (.bool (c1_034 != ⟨#[]⟩)) :: (bif b 0 then .ptr 2 5 else .any) :: (bif b 1 then .own 3 v35 else .any) :: (bif b 2 then .fn 28 [.lit (.pointer (some ⟨g6, 0, none⟩))] else .any) :: (bif b 3 then .lit (.string r43.2) else .any) :: (bif b 4 then .lit (.int .u64 r44) else .any) :: (bif b 5 then .lit (.int .u32 (IntKind.u32.wrap r44)) else .any) :: (bif b 6 then .bs (Ty.int .u32) [IntKind.u32.wrap r44] else .any) :: (bif b 7 then .own 3 (v35 + 1) else .any) :: (bif b 8 then .ptr 2 5 else .any) :: .any :: .any :: .any :: .any :: .any :: .any :: .any :: .any :: .any :: .any :: .any :: .any :: .any :: .any :: .any :: .any :: .any :: .any :: .any :: .any :: .any :: .any :: .any :: .any :: .any :: .any :: .any :: .any :: .any :: .any :: .any :: .any :: .any :: .any :: [], [.box [.lit (.int .i64 0), .lit (.slice none 0 0), .lit (.int .i64 0), .lit (.int .i64 0), .lit (.int .i64 0), .lit (.slice none 0 0), .lit (.int .i64 0)], (bif b 3 then .res (boxR g6 [.lit (.string r43.1)]) else .res (boxR g6 [.lit (.string c1_034)])), (bif b 9 then .box [.lit (.int .i64 (IntKind.i64.wrap r12)), .lit (.slice none 0 0), .lit (.int .i64 (IntKind.i64.wrap r16)), .lit (.int .i64 (IntKind.i64.wrap r20)), .lit (.int .i64 (IntKind.i64.wrap r24)), .own 3 (v35 + 1), .lit (.int .i64 (IntKind.i64.wrap r28))] else .box [.lit (.int .i64 (IntKind.i64.wrap r12)), .lit (.slice none 0 0), .lit (.int .i64 (IntKind.i64.wrap r16)), .lit (.int .i64 (IntKind.i64.wrap r20)), .lit (.int .i64 (IntKind.i64.wrap r24)), .own 3 v35, .lit (.int .i64 (IntKind.i64.wrap r28))]), (bif b 7 then .row (v35 + 1) 39 (Ty.int .u32) (l36 ++ [IntKind.u32.wrap r44]) else .row v35 39 (Ty.int .u32) l36)]⟩) rfl (by kernel_rfl) (by kernel_rfl) ?_ ?_
          · refine gS_cons (fun b hb ha hc => ?_) ?_
            · have h9 : b 9 = false := not_before hc (i := 0) (j := 9) (k := 3) rfl rfl rfl rfl hb
              try dsimp only
              refine AOp.q (Quiet.fa_ptr rfl get7 (congrArg some (cndBF h9 _ _))) ?_
              exact St.le.refl
            refine gS_cons (fun b hb ha hc => ?_) ?_
            · have h0 : b 0 = true := ha 0 _ rfl rfl
              have h9 : b 9 = false := not_before hc (i := 1) (j := 9) (k := 4) rfl rfl rfl rfl hb
              try dsimp only
              refine AOp.q (Quiet.load_ptr rfl ((getS32 (getS8 (getS8 get2))).trans (cndT h0 _ _)) (congrArg some (cndBF h9 _ _)) rfl) ?_
              exact St.le.refl
            refine gS_cons (fun b hb ha hc => ?_) ?_
            · try dsimp only
              refine AOp.q (Quiet.move rfl get6) ?_
              exact St.le.refl
            refine gS_cons (fun b hb ha hc => ?_) ?_
            · have h2 : b 2 = true := ha 0 _ rfl rfl
              try dsimp only
              refine AOp.callTurnVG (i := 1) hC hG (congrArg some (cndBF hb _ _)) rfl ((getS32 (getS8 (getS8 get4))).trans (cndT h2 _ _)) k43 (fun _ => rfl) rfl rfl fun _ => ?_
              exact St.le.refl
            refine gS_cons (fun b hb ha hc => ?_) ?_
            · have h3 : b 3 = true := ha 0 _ rfl rfl
              try dsimp only
              refine AOp.q (Quiet.callA rfl (mapc ((getS32 (getS8 (getS8 get5))).trans (cndT h3 _ _)) (mapc getC rfl)) k44 rfl rfl) ?_
              exact St.le.refl
            refine gS_cons (fun b hb ha hc => ?_) ?_
            · have h4 : b 4 = true := ha 0 _ rfl rfl
              try dsimp only
              refine AOp.q (Quiet.cv rfl ((getS32 (getS8 (getS8 get6))).trans (cndT h4 _ _)) rfl) ?_
              exact St.le.refl
            refine gS_cons (fun b hb ha hc => ?_) ?_
            · have h5 : b 5 = true := ha 0 _ rfl rfl
              try dsimp only
              refine AOp.q (Quiet.lt (xs := [.tmp 55]) (T := (Ty.int .u32)) (ds := [IntKind.u32.wrap r44]) rfl rfl rfl (by rfl) (by decide) (.cons (Fit.of_eq ((getS32 (getS8 (getS8 get7))).trans (cndT h5 _ _)) (Fit.int c45)) .nil)) ?_
              exact St.le.refl
            refine gS_cons (fun b hb ha hc => ?_) ?_
            · have h1 : b 1 = true := ha 0 _ rfl rfl
              have h6 : b 6 = true := ha 1 _ rfl rfl
              try dsimp only
              refine AOp.appQ rfl ((getS32 (getS8 (getS8 get3))).trans (cndT h1 _ _)) (congrArg some (cndBF hb _ _)) ((getS32 (getS8 (getS8 (getS8 get0)))).trans (cndT h6 _ _)) rfl c46 ?_
              exact St.le.refl
            refine gS_cons (fun b hb ha hc => ?_) ?_
            · have h9 : b 9 = false := not_before hc (i := 8) (j := 9) (k := 0) rfl rfl rfl rfl hb
              try dsimp only
              refine AOp.q (Quiet.fa_ptr rfl get7 (congrArg some (cndBF h9 _ _))) ?_
              exact St.le.refl
            refine gS_cons (fun b hb ha hc => ?_) ?_
            · have h7 : b 7 = true := ha 1 _ rfl rfl
              have h8 : b 8 = true := ha 0 _ rfl rfl
              try dsimp only
              refine AOp.stBoxV rfl ((getS32 (getS8 (getS8 (getS8 get2)))).trans (cndT h8 _ _)) (congrArg some (cndBF hb _ _)) ((getS32 (getS8 (getS8 (getS8 get1)))).trans (cndT h7 _ _)) (Parts.one (One.own (congrArg some (cndBT h7 _ _)))) rfl (Nat.le_of_ble_eq_true rfl) ?_
              exact St.le.refl
            exact gS_nil
          · refine qVia ⟨.lit (.string s) :: .any :: .ptr 0 0 :: .any :: .bs Ty.str r2 :: .lit (.pointer (some ⟨g6, 0, none⟩)) :: .fn 28 [.lit (.pointer (some ⟨g6, 0, none⟩))] :: .ptr 2 0 :: .any :: .any :: .any :: .any :: .any :: .any :: .any :: .any :: .any :: .any :: .any :: .any :: .any :: .any :: .any :: .any :: .any :: .fn 28 [.lit (.pointer (some ⟨g6, 0, none⟩))] :: .any :: .any :: .any :: .any :: .any :: .any :: .any :: .any :: .any :: .any :: .any :: .any :: .any :: .any :: .any :: .any :: .any :: .any :: .any :: .any :: .any :: .any :: .lit (.string c1_034) :: .lit (.bool (c1_034 != ⟨#[]⟩)) :: .ptr 2 5 :: .own 3 v35 :: .fn 28 [.lit (.pointer (some ⟨g6, 0, none⟩))] :: .lit (.string r43.2) :: .lit (.int .u64 r44) :: .lit (.int .u32 (IntKind.u32.wrap r44)) :: .bs (Ty.int .u32) [IntKind.u32.wrap r44] :: .own 3 (v35 + 1) :: .ptr 2 5 :: .any :: .any :: .any :: .any :: .any :: .any :: .any :: .any :: .any :: .any :: .any :: .any :: .any :: .any :: .any :: .any :: .any :: .any :: .any :: .any :: .any :: .any :: .any :: .any :: .any :: .any :: .any :: .any :: .any :: .any :: .any :: .any :: .any :: .any :: [], [.box [.lit (.int .i64 0), .lit (.slice none 0 0), .lit (.int .i64 0), .lit (.int .i64 0), .lit (.int .i64 0), .lit (.slice none 0 0), .lit (.int .i64 0)], .res (boxR g6 [.lit (.string r43.1)]), .box [.lit (.int .i64 (IntKind.i64.wrap r12)), .lit (.slice none 0 0), .lit (.int .i64 (IntKind.i64.wrap r16)), .lit (.int .i64 (IntKind.i64.wrap r20)), .lit (.int .i64 (IntKind.i64.wrap r24)), .own 3 (v35 + 1), .lit (.int .i64 (IntKind.i64.wrap r28))], .row (v35 + 1) 39 (Ty.int .u32) (l36 ++ [IntKind.u32.wrap r44])]⟩ rfl ?_
            have e37 := M.to_ok.1 H
            repeat (first | refine abN ?_ | refine asN ?_)
            refine athen_n ⟨_, v35 + 1, e37.symm, ?_⟩
            try dsimp only
            exact le_TA
        · have H := M.to_f hb42 H
          refine Awp.exit ?_
          repeat (first | refine athen_e ?_ | refine exO (by decide) ?_ | refine asE ?_)
          refine exN ?_
          have e37 := Hr37 _ (M.to_ok.1 H).symm
          repeat (first | refine abN ?_ | refine asN ?_)
          refine athen_n ⟨(_, v35), e37.symm, ?_⟩
          try dsimp only
          exact le_TA
    · rintro ⟨⟨c1_038, l40⟩, v39⟩ hz37
      try dsimp only at hz37
      have H := Hl37
      rw [hz37] at H
      try dsimp only at H
      try dsimp only
      refine Awp.via _ (St.le_nilB 2 1 39 (Ty.int .u32) rfl rfl (by decide)) ?_
      obtain ⟨c51, H⟩ := M.to_chk.1 H
      obtain ⟨z57, HX57, Hl57⟩ := M.to_bnd.1 H
      refine Awp.seqJ (β := (ByteArray × (List Int)) × (Nat × Nat)) (fun q57 => z57 = q57.1) (fun q57 => ⟨.lit (.string s) :: .any :: .ptr 0 0 :: .any :: .any :: .any :: .any :: .ptr 2 0 :: .any :: .any :: .any :: .any :: .any :: .any :: .any :: .any :: .any :: .any :: .any :: .any :: .any :: .any :: .any :: .any :: .any :: .fn 28 [.lit (.pointer (some ⟨g6, 0, none⟩))] :: .any :: .any :: .any :: .any :: .any :: .any :: .any :: .any :: .any :: .any :: .any :: .any :: .any :: .any :: .any :: .any :: .any :: .any :: .any :: .any :: .any :: .any :: .any :: .any :: .any :: .any :: .any :: .any :: .any :: .any :: .any :: .any :: .any :: .any :: .any :: .any :: .any :: .any :: .any :: .any :: .any :: .any :: .any :: .any :: .any :: .any :: .any :: .any :: .any :: .any :: .any :: .any :: .any :: .any :: .any :: .any :: .any :: .any :: .any :: .any :: .any :: .any :: .any :: .any :: .any :: .any :: .any :: [], [.box [.lit (.int .i64 0), .lit (.slice none 0 0), .lit (.int .i64 0), .lit (.int .i64 0), .lit (.int .i64 0), .lit (.slice none 0 0), .lit (.int .i64 0)], .res (boxR g6 [.lit (.string q57.1.1)]), .box [.lit (.int .i64 (IntKind.i64.wrap r12)), .own 4 q57.2.2, .lit (.int .i64 (IntKind.i64.wrap r16)), .lit (.int .i64 (IntKind.i64.wrap r20)), .lit (.int .i64 (IntKind.i64.wrap r24)), .own 3 q57.2.1, .lit (.int .i64 (IntKind.i64.wrap r28))], .row q57.2.1 39 (Ty.int .u32) l40, .row q57.2.2 39 (Ty.int .u32) q57.1.2]⟩) ?_ ?_
      · refine wR (hx := by (refine sA (hq := Quiet.move rfl get4) (ht := (setS32 (setS8 (setS8 (setS8 set3))))) (hk := ?_); refine sA (hq := Quiet.slLM rfl rfl rfl rfl c51) (ht := (setS32 (setS8 (setS8 (setS8 set4))))) (hk := ?_); refine sA (hq := Quiet.ln rfl (getS32 (getS8 (getS8 (getS8 get4))))) (ht := (setS32 (setS8 (setS8 (setS8 set5))))) (hk := ?_); refine sA (hq := Quiet.move rfl getC) (ht := (setS32 (setS8 (setS8 (setS8 set6))))) (hk := ?_); exact wEnd rfl)) (hk := ?_)
        refine Awp.block ?_
        refine Awp.loopM HX57 (fun s57 b57 => ⟨.lit (.string s) :: .any :: .ptr 0 0 :: .any :: .any :: .lit (.pointer (some ⟨g6, 0, none⟩)) :: .fn 28 [.lit (.pointer (some ⟨g6, 0, none⟩))] :: .ptr 2 0 :: .any :: .any :: .any :: .any :: .any :: .any :: .any :: .any :: .any :: .any :: .any :: .any :: .any :: .any :: .any :: .any :: .any :: .fn 28 [.lit (.pointer (some ⟨g6, 0, none⟩))] :: .any :: .any :: .any :: .any :: .any :: .any :: .any :: .any :: .any :: .any :: .any :: .any :: .any :: .any :: .any :: .any :: .any :: .any :: .any :: .any :: .any :: .any :: .any :: .any :: .any :: .any :: .any :: .any :: .any :: .any :: .any :: .any :: .any :: .any :: .bs Ty.str (slD r2 2 (r2.length : Int)) :: .lit (.int .i64 ((slD r2 2 (r2.length : Int)).length : Int)) :: .lit (.int .i64 s57.1) :: .any :: .any :: .any :: .any :: .any :: .any :: .any :: .any :: .any :: .any :: .any :: .any :: .any :: .any :: .any :: .any :: .any :: .any :: .any :: .any :: .any :: .any :: .any :: .any :: .any :: .any :: .any :: .any :: .any :: .any :: [], [.box [.lit (.int .i64 0), .lit (.slice none 0 0), .lit (.int .i64 0), .lit (.int .i64 0), .lit (.int .i64 0), .lit (.slice none 0 0), .lit (.int .i64 0)], .res (boxR g6 [.lit (.string s57.2.1)]), .box [.lit (.int .i64 (IntKind.i64.wrap r12)), .own 4 b57.2, .lit (.int .i64 (IntKind.i64.wrap r16)), .lit (.int .i64 (IntKind.i64.wrap r20)), .lit (.int .i64 (IntKind.i64.wrap r24)), .own 3 b57.1, .lit (.int .i64 (IntKind.i64.wrap r28))], .row b57.1 39 (Ty.int .u32) l40, .row b57.2 39 (Ty.int .u32) s57.2.2]⟩) (v39, 0) (?_) ?_
        · try dsimp only
          exact le_TA
        · rintro ⟨x52, c1_053, l56⟩ ⟨v54, v55⟩ x57 H Hr57
          try dsimp only
          dsimp only [image_ReadM_L32] at H
          refine wR (hx := by (refine sA (hq := Quiet.bin rfl (getS32 (getS8 (getS8 (getS8 get6)))) (getS32 (getS8 (getS8 (getS8 get5)))) rfl) (ht := (setS32 (setS8 (setS8 (setS8 set7))))) (hk := ?_); exact wEnd rfl)) (hk := ?_)
          refine Awp.seq fun Khs62 hs62 => ?_
          refine Awp.cond rfl (fun hb63 => ?_) (fun hb63 => ?_)
          · have H := M.to_t hb63 H
            refine Awp.skip ?_
            refine hs62 _ ?_
            refine nT (hk := ?_)
            refine Awp.seq fun Khs64 hs64 => ?_
            refine Awp.block ?_
            obtain ⟨c65, H⟩ := M.to_chk.1 H
            refine wR (hx := by (refine sA (hq := Quiet.ixM rfl (getS32 (getS8 (getS8 (getS8 get4)))) (getS32 (getS8 (getS8 (getS8 get6)))) rfl c65) (ht := (setS32 (setS32 set0))) (hk := ?_); refine sA (hq := Quiet.load_bp rfl (getS32 (getS32 get0)) rfl) (ht := (setS32 (setS32 set1))) (hk := ?_); refine sA (hq := Quiet.assign rfl (getS32 (getS32 get1))) (ht := (setS8 set3)) (hk := ?_); exact wEnd rfl)) (hk := ?_)
            refine wR (hx := by (refine sA (hq := Quiet.move rfl (getS8 get3)) (ht := (setS32 (setS32 set2))) (hk := ?_); (refine aSeq_t rfl (AOp.stL (i := 1) (g := g6) (new := [_]) rfl get5 rfl (Parts.one (One.lit rfl)) rfl rfl (Nat.le_of_ble_eq_true rfl) ?_); refine sNtM (ht := setN) (hk := ?_)); exact wEnd rfl)) (hk := ?_)
            obtain ⟨r66, k66, H⟩ := M.to_bnd.1 H
            have k66 := image_next_l (g := g6) k66
            refine wR (hx := by (refine sA (hq := Quiet.move rfl get6) (ht := (setS32 (setS32 set3))) (hk := ?_); (refine aSeq_t rfl (AOp.callTurnVG (i := 1) hC hG rfl rfl (getS32 (getS32 get3)) k66 (fun _ => rfl) rfl rfl fun _ => ?_); refine sNtM (ht := (setS32 (setS32 set4))) (hk := ?_)); exact wEnd rfl)) (hk := ?_)
            obtain ⟨r67, k67, H⟩ := M.to_bnd.1 H
            have k67 := image_next_l (g := g6) k67
            obtain ⟨r68, k68, H⟩ := M.to_bnd.1 H
            have k68 := image_value_l k68
            obtain ⟨c69, H⟩ := M.to_chk.1 H
            obtain ⟨c70, H⟩ := M.to_chk.1 H
            refine Awp.via ⟨.lit (.string s) :: .any :: .ptr 0 0 :: .any :: .any :: .lit (.pointer (some ⟨g6, 0, none⟩)) :: .fn 28 [.lit (.pointer (some ⟨g6, 0, none⟩))] :: .ptr 2 0 :: .any :: .any :: .any :: .lit (.string (ixD (slD r2 2 (r2.length : Int)) x52)) :: .any :: .any :: .any :: .any :: .any :: .any :: .any :: .any :: .any :: .any :: .any :: .any :: .any :: .fn 28 [.lit (.pointer (some ⟨g6, 0, none⟩))] :: .any :: .any :: .any :: .any :: .any :: .any :: .any :: .any :: .any :: .any :: .any :: .any :: .any :: .any :: .any :: .any :: .any :: .any :: .any :: .any :: .any :: .any :: .any :: .any :: .any :: .any :: .any :: .any :: .any :: .any :: .any :: .any :: .any :: .any :: .bs Ty.str (slD r2 2 (r2.length : Int)) :: .lit (.int .i64 ((slD r2 2 (r2.length : Int)).length : Int)) :: .lit (.int .i64 x52) :: .lit (.bool (decide (x52 < ((slD r2 2 (r2.length : Int)).length : Int)))) :: .bp Ty.str (ixD (slD r2 2 (r2.length : Int)) x52) 0 :: .lit (.string (ixD (slD r2 2 (r2.length : Int)) x52)) :: .lit (.string (ixD (slD r2 2 (r2.length : Int)) x52)) :: .fn 28 [.lit (.pointer (some ⟨g6, 0, none⟩))] :: .lit (.string r66.2) :: .any :: .any :: .any :: .any :: .any :: .any :: .any :: .any :: .any :: .any :: .any :: .any :: .any :: .any :: .any :: .any :: .any :: .any :: .any :: .any :: .any :: .any :: .any :: .any :: [], [.box [.lit (.int .i64 0), .lit (.slice none 0 0), .lit (.int .i64 0), .lit (.int .i64 0), .lit (.int .i64 0), .lit (.slice none 0 0), .lit (.int .i64 0)], .res (boxR g6 [.lit (.string r66.1)]), .box [.lit (.int .i64 (IntKind.i64.wrap r12)), .own 4 v55, .lit (.int .i64 (IntKind.i64.wrap r16)), .lit (.int .i64 (IntKind.i64.wrap r20)), .lit (.int .i64 (IntKind.i64.wrap r24)), .own 3 v54, .lit (.int .i64 (IntKind.i64.wrap r28))], .row v54 39 (Ty.int .u32) l40, .row v55 39 (Ty.int .u32) l56]⟩ (St.le.trans le_TA (St.le_deads 0 rfl)) ?_
            refine Awp.drawG (n := 10) (fun b => ⟨.lit (.string s) :: .any :: .ptr 0 0 :: .any :: .any :: .lit (.pointer (some ⟨g6, 0, none⟩)) :: .fn 28 [.lit (.pointer (some ⟨g6, 0, none⟩))] :: .ptr 2 0 :: .any :: .any :: .any :: .lit (.string (ixD (slD r2 2 (r2.length : Int)) x52)) :: .any :: .any :: .any :: .any :: .any :: .any :: .any :: .any :: .any :: .any :: .any :: .any :: .any :: .fn 28 [.lit (.pointer (some ⟨g6, 0, none⟩))] :: .any :: .any :: .any :: .any :: .any :: .any :: .any :: .any :: .any :: .any :: .any :: .any :: .any :: .any :: .any :: .any :: .any :: .any :: .any :: .any :: .any :: .any :: .any :: .any :: .any :: .any :: .any :: .any :: .any :: .any :: .any :: .any :: .any :: .any :: .bs Ty.str (slD r2 2 (r2.length : Int)) :: .lit (.int .i64 ((slD r2 2 (r2.length : Int)).length : Int)) :: .lit (.int .i64 x52) :: .lit (.bool (decide (x52 < ((slD r2 2 (r2.length : Int)).length : Int)))) :: .bp Ty.str (ixD (slD r2 2 (r2.length : Int)) x52) 0 :: .lit (.string (ixD (slD r2 2 (r2.length : Int)) x52)) :: .lit (.string (ixD (slD r2 2 (r2.length : Int)) x52)) :: .fn 28 [.lit (.pointer (some ⟨g6, 0, none⟩))] :: .lit (.string r66.2) :: (bif b 0 then .ptr 2 1 else .any) :: (bif b 1 then .own 4 v55 else .any) :: (bif b 2 then .fn 28 [.lit (.pointer (some ⟨g6, 0, none⟩))] else .any) :: (bif b 3 then .lit (.string r67.2) else .any) :: (bif b 4 then .lit (.int .u64 r68) else .any) :: (bif b 5 then .lit (.int .u32 (IntKind.u32.wrap r68)) else .any) :: (bif b 6 then .bs (Ty.int .u32) [IntKind.u32.wrap r68] else .any) :: (bif b 7 then .own 4 (v55 + 1) else .any) :: (bif b 8 then .ptr 2 1 else .any) :: .any :: .any :: .any :: .any :: .any :: .any :: .any :: .any :: .any :: .any :: .any :: .any :: .any :: .any :: .any :: [], [.box [.lit (.int .i64 0), .lit (.slice none 0 0), .lit (.int .i64 0), .lit (.int .i64 0), .lit (.int .i64 0), .lit (.slice none 0 0), .lit (.int .i64 0)], (bif b 3 then .res (boxR g6 [.lit (.string r67.1)]) else .res (boxR g6 [.lit (.string r66.1)])), (bif b 9 then .box [.lit (.int .i64 (IntKind.i64.wrap r12)), .own 4 (v55 + 1), .lit (.int .i64 (IntKind.i64.wrap r16)), .lit (.int .i64 (IntKind.i64.wrap r20)), .lit (.int .i64 (IntKind.i64.wrap r24)), .own 3 v54, .lit (.int .i64 (IntKind.i64.wrap r28))] else .box [.lit (.int .i64 (IntKind.i64.wrap r12)), .own 4 v55, .lit (.int .i64 (IntKind.i64.wrap r16)), .lit (.int .i64 (IntKind.i64.wrap r20)), .lit (.int .i64 (IntKind.i64.wrap r24)), .own 3 v54, .lit (.int .i64 (IntKind.i64.wrap r28))]), .row v54 39 (Ty.int .u32) l40, (bif b 7 then .row (v55 + 1) 39 (Ty.int .u32) (l56 ++ [IntKind.u32.wrap r68]) else .row v55 39 (Ty.int .u32) l56)]⟩) rfl (by kernel_rfl) (by kernel_rfl) ?_ ?_
            · refine gS_cons (fun b hb ha hc => ?_) ?_
              · have h9 : b 9 = false := not_before hc (i := 0) (j := 9) (k := 3) rfl rfl rfl rfl hb
                try dsimp only
                refine AOp.q (Quiet.fa_ptr rfl get7 (congrArg some (cndBF h9 _ _))) ?_
                exact St.le.refl
              refine gS_cons (fun b hb ha hc => ?_) ?_
              · have h0 : b 0 = true := ha 0 _ rfl rfl
                have h9 : b 9 = false := not_before hc (i := 1) (j := 9) (k := 4) rfl rfl rfl rfl hb
                try dsimp only
                refine AOp.q (Quiet.load_ptr rfl ((getS32 (getS32 get5)).trans (cndT h0 _ _)) (congrArg some (cndBF h9 _ _)) rfl) ?_
                exact St.le.refl
              refine gS_cons (fun b hb ha hc => ?_) ?_
              · try dsimp only
                refine AOp.q (Quiet.move rfl get6) ?_
                exact St.le.refl
              refine gS_cons (fun b hb ha hc => ?_) ?_
              · have h2 : b 2 = true := ha 0 _ rfl rfl
                try dsimp only
                refine AOp.callTurnVG (i := 1) hC hG (congrArg some (cndBF hb _ _)) rfl ((getS32 (getS32 get7)).trans (cndT h2 _ _)) k67 (fun _ => rfl) rfl rfl fun _ => ?_
                exact St.le.refl
              refine gS_cons (fun b hb ha hc => ?_) ?_
              · have h3 : b 3 = true := ha 0 _ rfl rfl
                try dsimp only
                refine AOp.q (Quiet.callA rfl (mapc ((getS32 (getS32 (getS8 get0))).trans (cndT h3 _ _)) (mapc getC rfl)) k68 rfl rfl) ?_
                exact St.le.refl
              refine gS_cons (fun b hb ha hc => ?_) ?_
              · have h4 : b 4 = true := ha 0 _ rfl rfl
                try dsimp only
                refine AOp.q (Quiet.cv rfl ((getS32 (getS32 (getS8 get1))).trans (cndT h4 _ _)) rfl) ?_
                exact St.le.refl
              refine gS_cons (fun b hb ha hc => ?_) ?_
              · have h5 : b 5 = true := ha 0 _ rfl rfl
                try dsimp only
                refine AOp.q (Quiet.lt (xs := [.tmp 74]) (T := (Ty.int .u32)) (ds := [IntKind.u32.wrap r68]) rfl rfl rfl (by rfl) (by decide) (.cons (Fit.of_eq ((getS32 (getS32 (getS8 get2))).trans (cndT h5 _ _)) (Fit.int c69)) .nil)) ?_
                exact St.le.refl
              refine gS_cons (fun b hb ha hc => ?_) ?_
              · have h1 : b 1 = true := ha 0 _ rfl rfl
                have h6 : b 6 = true := ha 1 _ rfl rfl
                try dsimp only
                refine AOp.appQ rfl ((getS32 (getS32 get6)).trans (cndT h1 _ _)) (congrArg some (cndBF hb _ _)) ((getS32 (getS32 (getS8 get3))).trans (cndT h6 _ _)) rfl c70 ?_
                exact St.le.refl
              refine gS_cons (fun b hb ha hc => ?_) ?_
              · have h9 : b 9 = false := not_before hc (i := 8) (j := 9) (k := 0) rfl rfl rfl rfl hb
                try dsimp only
                refine AOp.q (Quiet.fa_ptr rfl get7 (congrArg some (cndBF h9 _ _))) ?_
                exact St.le.refl
              refine gS_cons (fun b hb ha hc => ?_) ?_
              · have h7 : b 7 = true := ha 1 _ rfl rfl
                have h8 : b 8 = true := ha 0 _ rfl rfl
                try dsimp only
                refine AOp.stBoxV rfl ((getS32 (getS32 (getS8 get5))).trans (cndT h8 _ _)) (congrArg some (cndBF hb _ _)) ((getS32 (getS32 (getS8 get4))).trans (cndT h7 _ _)) (Parts.one (One.own (congrArg some (cndBT h7 _ _)))) rfl (Nat.le_of_ble_eq_true rfl) ?_
                exact St.le.refl
              exact gS_nil
            · refine qVia ⟨.lit (.string s) :: .any :: .ptr 0 0 :: .any :: .any :: .lit (.pointer (some ⟨g6, 0, none⟩)) :: .fn 28 [.lit (.pointer (some ⟨g6, 0, none⟩))] :: .ptr 2 0 :: .any :: .any :: .any :: .lit (.string (ixD (slD r2 2 (r2.length : Int)) x52)) :: .any :: .any :: .any :: .any :: .any :: .any :: .any :: .any :: .any :: .any :: .any :: .any :: .any :: .fn 28 [.lit (.pointer (some ⟨g6, 0, none⟩))] :: .any :: .any :: .any :: .any :: .any :: .any :: .any :: .any :: .any :: .any :: .any :: .any :: .any :: .any :: .any :: .any :: .any :: .any :: .any :: .any :: .any :: .any :: .any :: .any :: .any :: .any :: .any :: .any :: .any :: .any :: .any :: .any :: .any :: .any :: .bs Ty.str (slD r2 2 (r2.length : Int)) :: .lit (.int .i64 ((slD r2 2 (r2.length : Int)).length : Int)) :: .lit (.int .i64 x52) :: .lit (.bool (decide (x52 < ((slD r2 2 (r2.length : Int)).length : Int)))) :: .bp Ty.str (ixD (slD r2 2 (r2.length : Int)) x52) 0 :: .lit (.string (ixD (slD r2 2 (r2.length : Int)) x52)) :: .lit (.string (ixD (slD r2 2 (r2.length : Int)) x52)) :: .fn 28 [.lit (.pointer (some ⟨g6, 0, none⟩))] :: .lit (.string r66.2) :: .ptr 2 1 :: .own 4 v55 :: .fn 28 [.lit (.pointer (some ⟨g6, 0, none⟩))] :: .lit (.string r67.2) :: .lit (.int .u64 r68) :: .lit (.int .u32 (IntKind.u32.wrap r68)) :: .bs (Ty.int .u32) [IntKind.u32.wrap r68] :: .own 4 (v55 + 1) :: .ptr 2 1 :: .any :: .any :: .any :: .any :: .any :: .any :: .any :: .any :: .any :: .any :: .any :: .any :: .any :: .any :: .any :: [], [.box [.lit (.int .i64 0), .lit (.slice none 0 0), .lit (.int .i64 0), .lit (.int .i64 0), .lit (.int .i64 0), .lit (.slice none 0 0), .lit (.int .i64 0)], .res (boxR g6 [.lit (.string r67.1)]), .box [.lit (.int .i64 (IntKind.i64.wrap r12)), .own 4 (v55 + 1), .lit (.int .i64 (IntKind.i64.wrap r16)), .lit (.int .i64 (IntKind.i64.wrap r20)), .lit (.int .i64 (IntKind.i64.wrap r24)), .own 3 v54, .lit (.int .i64 (IntKind.i64.wrap r28))], .row v54 39 (Ty.int .u32) l40, .row (v55 + 1) 39 (Ty.int .u32) (l56 ++ [IntKind.u32.wrap r68])]⟩ rfl ?_
              refine hs64 _ ?_
              refine nT (hk := ?_)
              refine wRE (hx := by (refine sA (hq := Quiet.bin rfl (getS32 (getS8 (getS8 (getS8 get6)))) getC rfl) (ht := (setS32 (setS32 (setS8 set6)))) (hk := ?_); refine sA (hq := Quiet.move rfl (getS32 (getS32 (getS8 get6)))) (ht := (setS32 (setS8 (setS8 (setS8 set6))))) (hk := ?_); exact wEnd rfl)) (hk := ?_)
              have e57 := M.to_ok.1 H
              repeat (first | refine abN ?_ | refine asN ?_)
              refine athen_n ⟨_, (v54, v55 + 1), e57.symm, ?_⟩
              try dsimp only
              exact le_TA
          · have H := M.to_f hb63 H
            refine Awp.exit ?_
            repeat (first | refine athen_e ?_ | refine exO (by decide) ?_ | refine asE ?_)
            refine exN ?_
            have e57 := Hr57 _ (M.to_ok.1 H).symm
            repeat (first | refine abN ?_ | refine asN ?_)
            refine athen_n ⟨(_, (v54, v55)), e57.symm, ?_⟩
            try dsimp only
            exact le_TA
      · rintro ⟨⟨c1_058, l61⟩, ⟨v59, v60⟩⟩ hz57
        try dsimp only at hz57
        have H := Hl57
        rw [hz57] at H
        try dsimp only at H
        try dsimp only
        refine Awp.seq fun Khs72 hs72 => ?_
        obtain ⟨r73, k73, H⟩ := M.to_bnd.1 H
        have k73 := image_List_l k73
        refine wR (hx := by (refine sA (hq := Quiet.loadA_ptr rfl get7 rfl rfl) (ht := (setS32 (setS32 (setS8 (setS8 set0))))) (hk := ?_); refine aSeq_via rfl (St.fzT hC 4 rfl (by (simp only [AV.fzL, AV.fz, List.drop_zero, List.take_succ_cons, List.take_zero, and_self, if_true, Nat.reduceEqDiff, false_and, if_false]; first | done | exact rfl)) (by (simp only [fzH, AV.fzL, AV.fz, ABlk.fz, List.map_cons, List.map_nil, List.set_cons_succ, List.set_cons_zero, and_self, if_true, Nat.reduceEqDiff, false_and, if_false]; first | done | exact rfl))) ?_; refine aSeq_via rfl (St.fzT hC 3 rfl (by (simp only [AV.fzL, AV.fz, and_self, if_true]; first | done | exact rfl)) (by (simp only [fzH, AV.fzL, AV.fz, ABlk.fz, List.map_cons, List.map_nil, List.set_cons_succ, List.set_cons_zero, and_self, if_true]; first | done | exact rfl))) ?_; refine sA (hq := Quiet.callTA rfl rfl hC hL hG k73 rfl rfl) (ht := (setS32 (setS32 (setS8 (setS8 set1))))) (hk := ?_); refine sA (hq := Quiet.move rfl (getS32 (getS32 (getS8 (getS8 get1))))) (ht := (setS32 (setS32 (setS8 set7)))) (hk := ?_); refine sA (hq := Quiet.extract rfl (getS32 (getS32 (getS8 get7))) rfl) (ht := (setS32 (setS32 (setS8 (setS8 set2))))) (hk := ?_); refine sA (hq := Quiet.extract rfl (getS32 (getS32 (getS8 get7))) rfl) (ht := (setS32 (setS32 (setS8 (setS8 set3))))) (hk := ?_); refine sA (hq := Quiet.assign rfl (getS32 (getS32 (getS8 (getS8 get2))))) (ht := (setS8 set4)) (hk := ?_); refine sA (hq := Quiet.assign rfl (getS32 (getS32 (getS8 (getS8 get3))))) (ht := (setS8 set5)) (hk := ?_); exact wEnd rfl)) (hk := ?_)
        refine wR (hx := by (refine sA (hq := Quiet.move rfl (getS8 get5)) (ht := (setS32 (setS32 (setS8 (setS8 set4))))) (hk := ?_); refine sA (hq := Quiet.bin rfl (getS32 (getS32 (getS8 (getS8 get4)))) getC rfl) (ht := (setS32 (setS32 (setS8 (setS8 set5))))) (hk := ?_); refine sA (hq := Quiet.move rfl (getS32 (getS32 (getS8 (getS8 get5))))) (ht := (setS32 (setS32 (setS8 (setS8 set6))))) (hk := ?_); refine sG (g := (!(r73.2 != 0))) (hg := gA_f rfl) (hq := fun hg => Quiet.move rfl (getS8 get4)) (ht := (setS32 (setS32 (setS8 (setS8 set7))))) (hk := ?_); refine sG (g := (!(r73.2 != 0))) (hg := gA_f rfl) (hq := fun hg => Quiet.move rfl get0) (ht := (setS32 (setS32 (setS8 (setS8 (setS8 set0)))))) (hk := ?_); refine sG (g := (!(r73.2 != 0))) (hg := gA_f rfl) (hq := fun hg => Quiet.neS rfl ((getS32 (getS32 (getS8 (getS8 get7)))).trans (cndT hg _ _)) ((getS32 (getS32 (getS8 (getS8 (getS8 get0))))).trans (cndT hg _ _))) (ht := (setS32 (setS32 (setS8 (setS8 (setS8 set1)))))) (hk := ?_); refine sA (hq := Quiet.pickOrB rfl (getS32 (getS32 (getS8 (getS8 get6)))) getC (getS32 (getS32 (getS8 (getS8 (getS8 get1)))))) (ht := (setS32 (setS32 (setS8 (setS8 (setS8 set2)))))) (hk := ?_); exact wEnd rfl)) (hk := ?_)
        refine Awp.cond rfl (fun hb74 => ?_) (fun hb74 => ?_)
        · have H := M.to_t hb74 H
          refine wR (hx := by (refine sA (hq := Quiet.bldP (rs := [.lit (.int .i64 0), .lit (.slice none 0 0), .lit (.int .i64 0), .lit (.int .i64 0), .lit (.int .i64 0), .lit (.slice none 0 0), .lit (.int .i64 0)]) rfl plImg rfl rfl) (ht := (setS32 (setS32 (setS8 (setS8 (setS8 set3)))))) (hk := ?_); (refine aSeq_t rfl (AOp.stBox rfl rfl rfl (Parts.aggB rfl) rfl (Nat.le_of_ble_eq_true rfl) ?_); refine sNtM (ht := setN) (hk := ?_)); refine sA (hq := Quiet.assign rfl getC) (ht := set3) (hk := ?_); exact wEnd rfl)) (hk := ?_)
          obtain rfl := M.to_ok.1 H
          exact Awp.ret ⟨.inr rfl, 0, _, rfl, rfl, rfl, Fin.weak rfl (fun _ _ _ H => Up.rel (Up.tp (.cons (Up.ag (.cons (.refl _) (.cons (.nil _) (.cons (.refl _) (.cons (.refl _) (.cons (.refl _) (.cons (.nil _) (.cons (.refl _) .nil)))))))) (.cons (.refl _) .nil))) H)⟩
        · have H := M.to_f hb74 H
          refine Awp.skip ?_
          refine hs72 _ ?_
          refine nT (hk := ?_)
          refine wR (hx := by (refine sA (hq := Quiet.loadA_ptr rfl get7 rfl rfl) (ht := (setS32 (setS32 (setS8 (setS8 (setS8 set4)))))) (hk := ?_); (refine aSeq_t rfl (AOp.stBox rfl rfl rfl (Parts.aggB rfl) rfl (Nat.le_of_ble_eq_true rfl) ?_); refine sNtM (ht := setN) (hk := ?_)); refine sA (hq := Quiet.assign rfl getC) (ht := set3) (hk := ?_); exact wEnd rfl)) (hk := ?_)
          obtain rfl := M.to_ok.1 H
          exact Awp.ret ⟨.inr rfl, 0, _, rfl, rfl, rfl, Fin.cl rfl⟩
end Mu
end
section
/-
  Numbers as digits, and back: what muntinref31.dec and hex, image.hex and image.value compute.
  Conditions: none.
-/
namespace Mu
open Go Go.RowKit Go.Proofs

/-! ### texts as lists of bytes -/
def bl (l : List UInt8) : ByteArray := ⟨l.toArray⟩
theorem bl_size (l : List UInt8) : (bl l).size = l.length := by show (List.toArray l).size = _; simp
theorem bl_list (l : List UInt8) : (bl l).data.toList = l := rfl
theorem bl_append (a b : List UInt8) : bl a ++ bl b = bl (a ++ b) := by
  have h : (bl a ++ bl b).data = (bl (a ++ b)).data := by
    rw [ByteArray.data_append]
    show a.toArray ++ b.toArray = (a ++ b).toArray
    simp
  exact ByteArray.ext h
theorem bl_inj {a b : List UInt8} (h : bl a = bl b) : a = b := by
  have : (bl a).data.toList = (bl b).data.toList := by rw [h]
  exact this

/-! ### digits -/
def dgt (d : Nat) : UInt8 := UInt8.ofNat (if d < 10 then 48 + d else 87 + d)
def tabS : ByteArray := ⟨#[48, 49, 50, 51, 52, 53, 54, 55, 56, 57, 97, 98, 99, 100, 101, 102]⟩
theorem dgt_cut {n : Nat} (h : n < 16) : cutB tabS (n : Int) (IntKind.u64.wrap ((n : Int) + 1)) = true ∧ cutD tabS (n : Int) (IntKind.u64.wrap ((n : Int) + 1)) = bl [dgt n] :=
  (by decide +kernel : ∀ k : _root_.Fin 16, cutB tabS (k.val : Int) (IntKind.u64.wrap ((k.val : Int) + 1)) = true ∧ cutD tabS (k.val : Int) (IntKind.u64.wrap ((k.val : Int) + 1)) = bl [dgt k.val]) ⟨n, h⟩
theorem dgt_ch {n : Nat} (h : n < 16) : inSt tabS (n : Int) = true ∧ chD tabS (n : Int) = ((dgt n).toNat : Int) :=
  (by decide +kernel : ∀ k : _root_.Fin 16, inSt tabS (k.val : Int) = true ∧ chD tabS (k.val : Int) = ((dgt k.val).toNat : Int)) ⟨n, h⟩
theorem dgt_index {n : Nat} (h : n < 16) : Lib.indexByte tabS.data.toList (dgt n) = (n : Int) :=
  (by decide +kernel : ∀ k : _root_.Fin 16, Lib.indexByte tabS.data.toList (dgt k.val) = (k.val : Int)) ⟨n, h⟩
theorem dgt_ne {n : Nat} (h : n < 16) : dgt n ≠ 10 ∧ dgt n ≠ 32 :=
  (by decide +kernel : ∀ k : _root_.Fin 16, dgt k.val ≠ 10 ∧ dgt k.val ≠ 32) ⟨n, h⟩
def digsF (b : Nat) : Nat → Nat → List Nat
  | 0, _ => []
  | k + 1, u => if u < b then [u] else digsF b k (u / b) ++ [u % b]
/-- a number's digits -/
def digs (b u : Nat) : List Nat := digsF b (u + 1) u
theorem digsF_eq {b : Nat} (hb : 2 ≤ b) : ∀ (k u : Nat), u < k → digsF b k u = digs b u := by
  intro k
  induction k using Nat.strongRecOn with
  | _ k ih =>
    intro u hu
    cases k with
    | zero => omega
    | succ k =>
      unfold digs digsF
      split
      · rfl
      · rename_i h
        have hd : u / b < u := Nat.div_lt_self (by omega) hb
        rw [ih k (by omega) (u / b) (by omega)]
        by_cases hk : k = u
        · subst hk; rw [ih k (by omega) (k / b) (by omega)]
        · rw [ih u (by omega) (u / b) (by omega)]
theorem digs_one {b u : Nat} (h : u < b) : digs b u = [u] := by unfold digs digsF; rw [if_pos h]
theorem digs_more {b u : Nat} (hb : 2 ≤ b) (h : ¬ u < b) : digs b u = digs b (u / b) ++ [u % b] := by
  have hd : u / b < u := Nat.div_lt_self (by omega) hb
  have e : digs b u = digsF b u (u / b) ++ [u % b] := by show (if u < b then [u] else digsF b u (u / b) ++ [u % b]) = _; exact if_neg h
  rw [e, digsF_eq hb _ _ hd]
theorem digs_lt {b : Nat} (hb : 2 ≤ b) (u : Nat) : ∀ d ∈ digs b u, d < b := by
  induction u using Nat.strongRecOn with
  | _ u ih =>
    intro d hd
    by_cases h : u < b
    · rw [digs_one h] at hd
      have : d = u := by simpa using hd
      omega
    · rw [digs_more hb h, List.mem_append] at hd
      rcases hd with hd | hd
      · exact ih _ (Nat.div_lt_self (by omega) hb) d hd
      · have : d = u % b := by simpa using hd
        rw [this]
        exact Nat.mod_lt _ (by omega)
theorem digs_len {b : Nat} (hb : 2 ≤ b) (u : Nat) : ∀ k, u < 2 ^ k → (digs b u).length ≤ k + 1 := by
  induction u using Nat.strongRecOn with
  | _ u ih =>
    intro k hk
    by_cases h : u < b
    · rw [digs_one h]; simp
    · rw [digs_more hb h, List.length_append, List.length_singleton]
      cases k with
      | zero => omega
      | succ k =>
        have h2 : u / b ≤ u / 2 := Nat.div_le_div_left hb (by omega)
        have := ih (u / b) (Nat.div_lt_self (by omega) hb) k (by rw [Nat.pow_succ] at hk; omega)
        omega
theorem digs_pos (b u : Nat) : digs b u ≠ [] := by
  unfold digs digsF
  split
  · simp
  · simp
theorem digs_sum {b : Nat} (hb : 2 ≤ b) (u : Nat) : (digs b u).foldl (fun n d => n * b + d) 0 = u := by
  induction u using Nat.strongRecOn with
  | _ u ih =>
    by_cases h : u < b
    · rw [digs_one h]; simp
    · rw [digs_more hb h, List.foldl_append, ih _ (Nat.div_lt_self (by omega) hb)]
      show u / b * b + u % b = u
      rw [Nat.mul_comm]
      exact Nat.div_add_mod u b
def numB (b u : Nat) : List UInt8 := (digs b u).map dgt
theorem numB_dec (u : Nat) : Lib.decDigits u = numB 10 u := by
  induction u using Nat.strongRecOn with
  | _ u ih =>
    unfold numB
    rw [Lib.decDigits]
    split
    · rename_i h
      rw [digs_one h]
      simp [dgt, h]
    · rename_i h
      rw [ih _ (Nat.div_lt_self (by omega) (by decide)), digs_more (by decide) h, List.map_append]
      unfold numB
      have : u % 10 < 10 := Nat.mod_lt _ (by decide)
      simp [dgt, this]
theorem wu64 {a : Int} (h : 0 ≤ a ∧ a < 18446744073709551616) : IntKind.u64.wrap a = a := by
  rw [IntKind.wrap_u64]
  omega
theorem tdivN (a b : Nat) : Int.tdiv (a : Int) (b : Int) = ((a / b : Nat) : Int) := by rw [Int.tdiv_eq_ediv_of_nonneg (by omega)]; rfl
theorem digits_fix {b : Nat} (hb : b = 10 ∨ b = 16) (u : Nat) (hu : u < 18446744073709551616) : ∃ n, (M.fixR r31_digitsF n ((u : Int), (b : Int))).to (bl (numB b u)) := by
  have hb2 : 2 ≤ b := by omega
  induction u using Nat.strongRecOn with
  | _ u ih =>
    by_cases h : u < b
    · refine ⟨1, ?_⟩
      obtain ⟨c1, c2⟩ := dgt_cut (n := u) (by omega)
      show (r31_digitsF (M.fixR r31_digitsF 0) ((u : Int), (b : Int))).to _
      unfold r31_digitsF
      refine M.t_to (decide_eq_true (by omega)) (M.chk_to c1 ?_)
      unfold numB
      rw [digs_one h]
      exact M.to_ok.2 c2
    · obtain ⟨n, hn⟩ := ih (u / b) (Nat.div_lt_self (by omega) hb2) (Nat.lt_of_le_of_lt (Nat.div_le_self _ _) hu)
      refine ⟨n + 1, ?_⟩
      show (r31_digitsF (M.fixR r31_digitsF n) ((u : Int), (b : Int))).to _
      unfold r31_digitsF
      have e1 : IntKind.u64.wrap (Int.tdiv (u : Int) (b : Int)) = ((u / b : Nat) : Int) := by
        rw [tdivN]
        have := Nat.div_le_self u b
        generalize u / b = q at this ⊢
        exact wu64 (by omega)
      obtain ⟨c1, c2⟩ := dgt_cut (n := u % b) (by have := Nat.mod_lt u (show 0 < b by omega); omega)
      have hlen := digs_len hb2 (u / b) 64 (Nat.lt_of_le_of_lt (Nat.div_le_self _ _) hu)
      refine M.f_to (decide_eq_false (by omega)) (M.chk_to (by rcases hb with rfl | rfl <;> rfl) ?_)
      dsimp only
      rw [e1, tmodN]
      refine M.bnd_to hn (M.chk_to c1 (M.chk_to (decide_eq_true ?_) (M.to_ok.2 ?_)))
      · show (bl _).size + (cutD tabS _ _).size ≤ _
        rw [c2, bl_size, bl_size]
        unfold numB
        rw [List.length_map]
        simp only [List.length_singleton]
        omega
      · show bl _ ++ cutD tabS _ _ = _
        rw [c2, bl_append]
        unfold numB
        rw [digs_more hb2 h, List.map_append]
        rfl
theorem digits_to {b : Nat} (hb : b = 10 ∨ b = 16) (u : Nat) (hu : u < 18446744073709551616) : (r31_digits (u : Int) (b : Int)).to (bl (numB b u)) := by
  obtain ⟨n, h⟩ := digits_fix hb u hu
  exact M.fix_of n h
theorem dec_to {n : Int} (h : 0 ≤ n) (h2 : n < 9223372036854775808) : (r31_dec n).to (bl (numB 10 n.toNat)) := by
  unfold r31_dec
  have e : IntKind.u64.wrap n = ((n.toNat : Nat) : Int) := by rw [wu64 (by omega)]; omega
  rw [e]
  exact M.bnd_to (digits_to (.inl rfl) _ (by omega)) (M.ok_to _)
theorem itoa_bl {n : Int} (h : 0 ≤ n) : itoaB n = bl (numB 10 n.toNat) := by
  unfold itoaB Lib.itoa
  rw [if_neg (by omega), numB_dec]
  rfl
theorem wf64 {n : Int} (h : -9223372036854775808 ≤ n ∧ n ≤ 9223372036854775807) : wfB .i64 n = true := by
  unfold wfB
  simp [Lit.wf, IntKind.min, IntKind.max, IntKind.signed, IntKind.bits]
  omega
theorem idig_to {n : Int} (h : 0 ≤ n) (h2 : n < 9223372036854775808) : (image_digits n).to (bl (numB 10 n.toNat)) := by
  unfold image_digits
  exact M.bnd_to (M.chk_to (wf64 (by omega)) (M.to_ok.2 (itoa_bl h))) (M.ok_to _)

/-! ### eight digits -/
def hexD (k w : Nat) : List Nat := (List.range k).map fun j => w / 16 ^ (k - 1 - j) % 16
theorem pad_hex : ∀ (k w : Nat), 0 < k → w < 16 ^ k → List.replicate (k - (digs 16 w).length) 0 ++ digs 16 w = hexD k w
  | 0, _, h, _ => by omega
  | k + 1, w, _, hw => by
    unfold hexD
    rw [List.range_succ, List.map_append]
    by_cases h : w < 16
    · rw [digs_one h]
      congr 1
      · have : k + 1 - [w].length = k := by simp
        rw [this]
        refine List.ext_getElem (by simp) fun i h1 h2 => ?_
        simp only [List.getElem_replicate, List.getElem_map, List.getElem_range]
        have hi : i < k := by simpa using h1
        have : w / 16 ^ (k + 1 - 1 - i) = 0 := Nat.div_eq_of_lt (Nat.lt_of_lt_of_le h (by
          have : 16 ^ 1 ≤ 16 ^ (k + 1 - 1 - i) := Nat.pow_le_pow_right (by decide) (by omega)
          simpa using this))
        rw [this]
      · simp [Nat.mod_eq_of_lt h]
    · have hk : 0 < k := by
        rcases Nat.eq_zero_or_pos k with e | e
        · subst e; simp at hw; omega
        · exact e
      rw [digs_more (by decide) h]
      have ih := pad_hex k (w / 16) hk (by rw [Nat.pow_succ] at hw; omega)
      have e1 : k + 1 - (digs 16 (w / 16) ++ [w % 16]).length = k - (digs 16 (w / 16)).length := by simp
      rw [e1, ← List.append_assoc, ih]
      unfold hexD
      congr 1
      · refine List.map_congr_left fun j hj => ?_
        have hj := List.mem_range.1 hj
        rw [show k + 1 - 1 - j = (k - 1 - j) + 1 by omega, Nat.pow_succ, Nat.mul_comm, Nat.div_div_eq_div_mul]
      · simp
theorem hexD_len (k w : Nat) : (hexD k w).length = k := by simp [hexD]
theorem hexD_lt (k w : Nat) : ∀ d ∈ hexD k w, d < 16 := fun d hd => by
  obtain ⟨j, _, rfl⟩ := List.mem_map.1 hd
  exact Nat.mod_lt _ (by decide)
theorem hexD_sum : ∀ (k w : Nat), (hexD k w).foldl (fun n d => n * 16 + d) 0 = w % 16 ^ k
  | 0, w => by simp [hexD, Nat.mod_one]
  | k + 1, w => by
    have e : hexD (k + 1) w = hexD k (w / 16) ++ [w % 16] := by
      unfold hexD
      rw [List.range_succ, List.map_append]
      congr 1
      · refine List.map_congr_left fun j hj => ?_
        have hj := List.mem_range.1 hj
        rw [show k + 1 - 1 - j = (k - 1 - j) + 1 by omega, Nat.pow_succ, Nat.mul_comm, Nat.div_div_eq_div_mul]
      · simp
    rw [e, List.foldl_append, hexD_sum k (w / 16)]
    show w / 16 % 16 ^ k * 16 + w % 16 = w % 16 ^ (k + 1)
    rw [Nat.pow_succ, Nat.mul_comm (16 ^ k) 16, Nat.mod_mul]
    omega
def hexB (w : Nat) : List UInt8 := (hexD 8 w).map dgt
theorem rhex_to {w : Nat} (hw : w < 4294967296) : (r31_hex (w : Int)).to (bl (hexB w)) := by
  unfold r31_hex
  rw [wu64 (by omega)]
  refine M.bnd_to (digits_to (.inr rfl) w (by omega)) (M.bnd_to (a := bl (hexB w)) ?_ (M.ok_to _))
  have hlen : (digs 16 w).length ≤ 8 := by
    have h1 := congrArg List.length (pad_hex 8 w (by decide) (by simpa using hw))
    rw [List.length_append, List.length_replicate, hexD_len] at h1
    omega
  have hF : bl (hexB w) = bl (List.replicate (8 - (digs 16 w).length) 48 ++ numB 16 w) := by
    unfold hexB numB
    rw [← pad_hex 8 w (by decide) (by simpa using hw), List.map_append, List.map_replicate]
    rfl
  have := M.loop_for (step := r31_hex_L4) (fun k => bl (List.replicate k 48 ++ numB 16 w)) (8 - (digs 16 w).length) (r := bl (hexB w)) (fun k hk => ?_) ?_ (Nat.zero_le _)
  · simpa using this
  · unfold r31_hex_L4
    have hs : (bl (List.replicate k 48 ++ numB 16 w)).size = k + (digs 16 w).length := by rw [bl_size]; simp [numB]
    refine M.t_to (decide_eq_true (by rw [hs]; omega)) (M.chk_to (decide_eq_true ?_) (M.to_ok.2 ?_))
    · rw [hs]
      show 1 + _ ≤ _
      omega
    · show Sum.inl (bl [48] ++ _) = _
      rw [bl_append]
      rfl
  · unfold r31_hex_L4
    have hs : (bl (List.replicate (8 - (digs 16 w).length) 48 ++ numB 16 w)).size = 8 := by rw [bl_size]; simp [numB]; omega
    exact M.f_to (decide_eq_false (by rw [hs]; decide)) (M.to_ok.2 (by rw [hF]))
theorem and15 (a : Nat) (ha : a < 4294967296) : bits .and .u32 (a : Int) 15 = ((a % 16 : Nat) : Int) := by
  have := and_u32 4 a (by decide) ha
  rwa [show (((2 : Nat) ^ 4 - 1 : Nat) : Int) = 15 from rfl] at this
theorem dgt_u8 (n : Nat) : wfB .u8 ((dgt n).toNat : Int) = true := by
  have := (dgt n).toNat_lt
  unfold wfB
  simp [Lit.wf, IntKind.min, IntKind.max, IntKind.signed, IntKind.bits]
  omega
theorem ihex_to {w : Nat} (hw : w < 4294967296) : (image_hex (w : Int)).to (bl (hexB w)) := by
  unfold image_hex
  let F : Nat → Int × List Int := fun k => (28 - 4 * (k : Int), ((hexD 8 w).take k).map fun d => ((dgt d).toNat : Int))
  have hl : (M.loop (image_hex_L5 (w : Int)) (28, [])).to (((hexD 8 w).map fun d => ((dgt d).toNat : Int))) := by
    have := M.loop_for (step := image_hex_L5 (w : Int)) F 8 (r := (hexD 8 w).map fun d => ((dgt d).toNat : Int)) (fun k hk => ?_) ?_ (Nat.zero_le _)
    · exact this
    · have hget : (hexD 8 w)[k]? = some (w / 16 ^ (7 - k) % 16) := by
        unfold hexD
        rw [List.getElem?_map, List.getElem?_range hk]
        rfl
      have e1 : shrV .u32 (w : Int) (28 - 4 * (k : Int)) = ((w / 16 ^ (7 - k) : Nat) : Int) := by
        rw [show (28 - 4 * (k : Int)) = ((4 * (7 - k) : Nat) : Int) by omega, shr32 w _ (by omega), Nat.pow_mul]
      have e2 : bits .and .u32 (shrV .u32 (w : Int) (28 - 4 * (k : Int))) 15 = ((w / 16 ^ (7 - k) % 16 : Nat) : Int) := by
        rw [e1]
        exact and15 _ (Nat.lt_of_le_of_lt (Nat.div_le_self _ _) hw)
      obtain ⟨c1, c2⟩ := dgt_ch (n := w / 16 ^ (7 - k) % 16) (Nat.mod_lt _ (by decide))
      have e3 : chD ⟨#[48, 49, 50, 51, 52, 53, 54, 55, 56, 57, 97, 98, 99, 100, 101, 102]⟩ (bits .and .u32 (shrV .u32 (w : Int) (28 - 4 * (k : Int))) 15) = ((dgt (w / 16 ^ (7 - k) % 16)).toNat : Int) := by rw [e2]; exact c2
      show (image_hex_L5 (w : Int) (28 - 4 * (k : Int), ((hexD 8 w).take k).map fun d => ((dgt d).toNat : Int))).to _
      unfold image_hex_L5
      refine M.t_to (decide_eq_true (by omega)) (M.chk_to (decide_eq_true (by omega)) ?_)
      rw [e3, e2]
      refine M.chk_to c1 (M.chk_to (dgt_u8 _) (M.chk_to ?_ (M.to_ok.2 ?_)))
      · unfold rowB
        simp only [List.length_map, List.length_take, hexD_len, List.length_singleton, Bool.and_eq_true, decide_eq_true_eq]
        have : maxLen = 140737488355328 ∨ 16 ≤ maxLen := by unfold maxLen; omega
        unfold maxLen
        omega
      · show Sum.inl (_, _) = Sum.inl (F (k + 1))
        congr 2
        · rw [wi64 (by omega)]; push_cast; omega
        · rw [List.take_add_one, hget, List.map_append]
          rfl
    · show (image_hex_L5 (w : Int) (28 - 4 * ((8 : Nat) : Int), ((hexD 8 w).take 8).map fun d => ((dgt d).toNat : Int))).to _
      unfold image_hex_L5
      refine M.f_to (by decide) (M.to_ok.2 ?_)
      rw [List.take_of_length_le (by rw [hexD_len]; decide)]
  refine M.bnd_to hl (M.to_ok.2 ?_)
  unfold bytesOf bl hexB
  rw [List.map_map]
  congr 2
  refine List.map_congr_left fun d _ => ?_
  simp
end Mu
end
section
/-
  Listings of images in plain words: what image.List and muntinref31.List compute.
  Conditions: numbers that images have.
-/
namespace Mu
open Go Go.RowKit Go.Proofs

def r31_ListW_L10 (x : Img) : (ByteArray × Int) → M ((ByteArray × Int) ⊕ ByteArray) := fun (s19, i20) => M.cnd (decide (i20 < (x.starts.length : Int))) (M.chk (catB s19 ⟨#[32]⟩) (M.chk (inBd x.starts i20) (M.bnd (r31_dec (IntKind.i64.wrap (ixD x.starts i20))) fun r28 => M.chk (catB (s19 ++ ⟨#[32]⟩) r28) (M.ok (.inl ((s19 ++ ⟨#[32]⟩) ++ r28, IntKind.i64.wrap (i20 + 1))))))) (M.ok (.inr s19))
def r31_ListW_L20 (x : Img) : (ByteArray × Int) → M ((ByteArray × Int) ⊕ ByteArray) := fun (s31, i32) => M.cnd (decide (i32 < (x.words.length : Int))) (M.chk (inBd x.words i32) (M.bnd (r31_Line (IntKind.i64.wrap (4 * i32)) (ixD x.words i32)) fun r39 => M.chk (catB s31 r39) (M.ok (.inl (s31 ++ r39, IntKind.i64.wrap (i32 + 1)))))) (M.ok (.inr s31))
def r31_ListW (x : Img) : M (ByteArray × Int) := M.bnd (ref31_May x) fun r2 => M.cnd (!r2) (M.ok (⟨#[]⟩, 5)) (M.bnd (r31_dec x.nw) fun r4 => M.chk (catB ⟨#[105, 109, 97, 103, 101, 32]⟩ r4) (M.chk (catB (⟨#[105, 109, 97, 103, 101, 32]⟩ ++ r4) ⟨#[32]⟩) (M.bnd (r31_dec x.heap) fun r7 => M.chk (catB ((⟨#[105, 109, 97, 103, 101, 32]⟩ ++ r4) ++ ⟨#[32]⟩) r7) (M.chk (catB (((⟨#[105, 109, 97, 103, 101, 32]⟩ ++ r4) ++ ⟨#[32]⟩) ++ r7) ⟨#[32]⟩) (M.bnd (r31_dec x.many) fun r10 => M.chk (catB ((((⟨#[105, 109, 97, 103, 101, 32]⟩ ++ r4) ++ ⟨#[32]⟩) ++ r7) ++ ⟨#[32]⟩) r10) (M.chk (catB (((((⟨#[105, 109, 97, 103, 101, 32]⟩ ++ r4) ++ ⟨#[32]⟩) ++ r7) ++ ⟨#[32]⟩) ++ r10) ⟨#[32]⟩) (M.bnd (r31_dec x.entry) fun r13 => M.chk (catB ((((((⟨#[105, 109, 97, 103, 101, 32]⟩ ++ r4) ++ ⟨#[32]⟩) ++ r7) ++ ⟨#[32]⟩) ++ r10) ++ ⟨#[32]⟩) r13) (M.chk (catB (((((((⟨#[105, 109, 97, 103, 101, 32]⟩ ++ r4) ++ ⟨#[32]⟩) ++ r7) ++ ⟨#[32]⟩) ++ r10) ++ ⟨#[32]⟩) ++ r13) ⟨#[32]⟩) (M.bnd (r31_dec x.stacks) fun r16 => M.chk (catB ((((((((⟨#[105, 109, 97, 103, 101, 32]⟩ ++ r4) ++ ⟨#[32]⟩) ++ r7) ++ ⟨#[32]⟩) ++ r10) ++ ⟨#[32]⟩) ++ r13) ++ ⟨#[32]⟩) r16) (M.chk (catB (((((((((⟨#[105, 109, 97, 103, 101, 32]⟩ ++ r4) ++ ⟨#[32]⟩) ++ r7) ++ ⟨#[32]⟩) ++ r10) ++ ⟨#[32]⟩) ++ r13) ++ ⟨#[32]⟩) ++ r16) ⟨#[10, 115, 116, 97, 114, 116, 115]⟩) (M.bnd (M.loop (r31_ListW_L10 x) ((((((((((⟨#[105, 109, 97, 103, 101, 32]⟩ ++ r4) ++ ⟨#[32]⟩) ++ r7) ++ ⟨#[32]⟩) ++ r10) ++ ⟨#[32]⟩) ++ r13) ++ ⟨#[32]⟩) ++ r16) ++ ⟨#[10, 115, 116, 97, 114, 116, 115]⟩, 0)) fun s22 => M.chk (catB s22 ⟨#[10]⟩) (M.bnd (M.loop (r31_ListW_L20 x) (s22 ++ ⟨#[10]⟩, 0)) fun s34 => M.ok (s34, 0)))))))))))))
set_option maxRecDepth 100000 in
set_option maxHeartbeats 4000000 in
theorem r31_ListW_l {x : Img} {r : ByteArray × Int} (H : (r31_ListW x).to r) : Fn Tryd.prog 14 [.agg (encImg x)] (.tup [.lit (.string r.1), .lit (.int .i64 r.2)]) := by
  delta r31_ListW at H
  try dsimp only at H
  refine Fn.of_awp2 Tryd.func14 rfl (by kernel_rfl) rfl Tryd.ntmps14 fun C hC => ?_
  simp only [List.length_cons, List.length_nil, Nat.reduceAdd, Nat.reduceSub, List.replicate_succ, List.replicate_zero, List.cons_append, List.nil_append]
  refine wR (hx := by ((refine aSeq_t rfl (AOp.boxI 0 rfl rfl Parts0.agg ?_); refine sNtM (ht := set1) (hk := ?_)); refine sA (hq := Quiet.assign rfl getC) (ht := set2) (hk := ?_); refine sA (hq := Quiet.assign rfl getC) (ht := set3) (hk := ?_); exact wEnd rfl)) (hk := ?_)
  refine Awp.seq fun Khs1 hs1 => ?_
  obtain ⟨r2, k2, H⟩ := M.to_bnd.1 H
  have k2 := ref31_May_l k2
  refine wR (hx := by (refine sA (hq := Quiet.loadA_ptr rfl get1 rfl rfl) (ht := set7) (hk := ?_); refine sA (hq := Quiet.callA rfl rfl k2 rfl rfl) (ht := (setS8 set0)) (hk := ?_); refine sA (hq := Quiet.bnot rfl (getS8 get0)) (ht := (setS8 set1)) (hk := ?_); exact wEnd rfl)) (hk := ?_)
  refine Awp.cond rfl (fun hb3 => ?_) (fun hb3 => ?_)
  · have H := M.to_t hb3 H
    refine wR (hx := by (refine sA (hq := Quiet.assign rfl getC) (ht := set2) (hk := ?_); refine sA (hq := Quiet.assign rfl getC) (ht := set3) (hk := ?_); exact wEnd rfl)) (hk := ?_)
    obtain rfl := M.to_ok.1 H
    exact Awp.ret ⟨.inr rfl, _, _, Fin.cl rfl, rfl, rfl⟩
  · have H := M.to_f hb3 H
    refine Awp.skip ?_
    refine hs1 _ ?_
    refine nT (hk := ?_)
    obtain ⟨r4, k4, H⟩ := M.to_bnd.1 H
    have k4 := r31_dec_l k4
    obtain ⟨c5, H⟩ := M.to_chk.1 H
    obtain ⟨c6, H⟩ := M.to_chk.1 H
    obtain ⟨r7, k7, H⟩ := M.to_bnd.1 H
    have k7 := r31_dec_l k7
    obtain ⟨c8, H⟩ := M.to_chk.1 H
    obtain ⟨c9, H⟩ := M.to_chk.1 H
    obtain ⟨r10, k10, H⟩ := M.to_bnd.1 H
    have k10 := r31_dec_l k10
    obtain ⟨c11, H⟩ := M.to_chk.1 H
    obtain ⟨c12, H⟩ := M.to_chk.1 H
    obtain ⟨r13, k13, H⟩ := M.to_bnd.1 H
    have k13 := r31_dec_l k13
    obtain ⟨c14, H⟩ := M.to_chk.1 H
    obtain ⟨c15, H⟩ := M.to_chk.1 H
    obtain ⟨r16, k16, H⟩ := M.to_bnd.1 H
    have k16 := r31_dec_l k16
    obtain ⟨c17, H⟩ := M.to_chk.1 H
    obtain ⟨c18, H⟩ := M.to_chk.1 H
    refine wD 26 (hq := by (refine qA (hq := Quiet.fa_ptr rfl get1 rfl) (ht := (setS8 set2)) (hk := ?_); refine qA (hq := Quiet.load_ptr rfl (getS8 get2) rfl rfl) (ht := (setS8 set3)) (hk := ?_); refine qA (hq := Quiet.callA rfl rfl k4 rfl rfl) (ht := (setS8 set4)) (hk := ?_); refine qA (hq := Quiet.cat rfl getC (getS8 get4) (catB_le c5)) (ht := (setS8 set5)) (hk := ?_); refine qA (hq := Quiet.cat rfl (getS8 get5) getC (catB_le c6)) (ht := (setS8 set6)) (hk := ?_); refine qA (hq := Quiet.fa_ptr rfl get1 rfl) (ht := (setS8 set7)) (hk := ?_); refine qA (hq := Quiet.load_ptr rfl (getS8 get7) rfl rfl) (ht := (setS8 (setS8 set0))) (hk := ?_); refine qA (hq := Quiet.callA rfl rfl k7 rfl rfl) (ht := (setS8 (setS8 set1))) (hk := ?_); refine qA (hq := Quiet.cat rfl (getS8 get6) (getS8 (getS8 get1)) (catB_le c8)) (ht := (setS8 (setS8 set2))) (hk := ?_); refine qA (hq := Quiet.cat rfl (getS8 (getS8 get2)) getC (catB_le c9)) (ht := (setS8 (setS8 set3))) (hk := ?_); refine qA (hq := Quiet.fa_ptr rfl get1 rfl) (ht := (setS8 (setS8 set4))) (hk := ?_); refine qA (hq := Quiet.load_ptr rfl (getS8 (getS8 get4)) rfl rfl) (ht := (setS8 (setS8 set5))) (hk := ?_); refine qA (hq := Quiet.callA rfl rfl k10 rfl rfl) (ht := (setS8 (setS8 set6))) (hk := ?_); refine qA (hq := Quiet.cat rfl (getS8 (getS8 get3)) (getS8 (getS8 get6)) (catB_le c11)) (ht := (setS8 (setS8 set7))) (hk := ?_); refine qA (hq := Quiet.cat rfl (getS8 (getS8 get7)) getC (catB_le c12)) (ht := (setS8 (setS8 (setS8 set0)))) (hk := ?_); refine qA (hq := Quiet.fa_ptr rfl get1 rfl) (ht := (setS8 (setS8 (setS8 set1)))) (hk := ?_); refine qA (hq := Quiet.load_ptr rfl (getS8 (getS8 (getS8 get1))) rfl rfl) (ht := (setS8 (setS8 (setS8 set2)))) (hk := ?_); refine qA (hq := Quiet.callA rfl rfl k13 rfl rfl) (ht := (setS8 (setS8 (setS8 set3)))) (hk := ?_); refine qA (hq := Quiet.cat rfl (getS8 (getS8 (getS8 get0))) (getS8 (getS8 (getS8 get3))) (catB_le c14)) (ht := (setS8 (setS8 (setS8 set4)))) (hk := ?_); refine qA (hq := Quiet.cat rfl (getS8 (getS8 (getS8 get4))) getC (catB_le c15)) (ht := (setS8 (setS8 (setS8 set5)))) (hk := ?_); refine qA (hq := Quiet.fa_ptr rfl get1 rfl) (ht := (setS8 (setS8 (setS8 set6)))) (hk := ?_); refine qA (hq := Quiet.load_ptr rfl (getS8 (getS8 (getS8 get6))) rfl rfl) (ht := (setS8 (setS8 (setS8 set7)))) (hk := ?_); refine qA (hq := Quiet.callA rfl rfl k16 rfl rfl) (ht := (setS32 set0)) (hk := ?_); refine qA (hq := Quiet.cat rfl (getS8 (getS8 (getS8 get5))) (getS32 get0) (catB_le c17)) (ht := (setS32 set1)) (hk := ?_); refine qA (hq := Quiet.cat rfl (getS32 get1) getC (catB_le c18)) (ht := (setS32 set2)) (hk := ?_); refine qA (hq := Quiet.assign rfl (getS32 get2)) (ht := set4) (hk := ?_); exact qEnd rfl)) (hx := by (exact wEnd rfl)) (hk := ?_)
    obtain ⟨z21, HX21, Hl21⟩ := M.to_bnd.1 H
    refine Awp.seqJ (β := (ByteArray) × (Unit)) (fun q21 => z21 = q21.1) (fun q21 => ⟨.any :: .ptr 0 0 :: .any :: .any :: .lit (.string q21.1) :: .any :: .any :: .any :: .any :: .any :: .any :: .any :: .any :: .any :: .any :: .any :: .any :: .any :: .any :: .any :: .any :: .any :: .any :: .any :: .any :: .any :: .any :: .any :: .any :: .any :: .any :: .any :: .any :: .any :: .any :: .any :: .any :: .any :: .any :: .any :: .any :: .any :: .any :: .any :: .any :: .any :: .any :: .any :: .any :: .any :: .any :: .any :: .any :: .any :: .any :: .any :: .any :: .any :: .any :: .any :: .any :: .any :: .any :: .any :: .any :: .any :: .any :: .any :: .any :: .any :: .any :: .any :: [], [.box (encImg x)]⟩) ?_ ?_
    · refine wR (hx := by (refine sA (hq := Quiet.assign rfl getC) (ht := set5) (hk := ?_); exact wEnd rfl)) (hk := ?_)
      refine Awp.block ?_
      refine Awp.loopM HX21 (fun s21 b21 => ⟨.any :: .ptr 0 0 :: .any :: .any :: .lit (.string s21.1) :: .lit (.int .i64 s21.2) :: .any :: .any :: .any :: .any :: .any :: .any :: .any :: .any :: .any :: .any :: .any :: .any :: .any :: .any :: .any :: .any :: .any :: .any :: .any :: .any :: .any :: .any :: .any :: .any :: .any :: .any :: .any :: .any :: .any :: .any :: .any :: .any :: .any :: .any :: .any :: .any :: .any :: .any :: .any :: .any :: .any :: .any :: .any :: .any :: .any :: .any :: .any :: .any :: .any :: .any :: .any :: .any :: .any :: .any :: .any :: .any :: .any :: .any :: .any :: .any :: .any :: .any :: .any :: .any :: .any :: .any :: [], [.box (encImg x)]⟩) () (?_) ?_
      · try dsimp only
        exact le_TA
      · rintro ⟨s19, i20⟩ _ x21 H Hr21
        try dsimp only
        dsimp only [r31_ListW_L10] at H
        refine Awp.seq fun Khs23 hs23 => ?_
        refine wR (hx := by (refine sA (hq := Quiet.move rfl get5) (ht := (setS32 set3)) (hk := ?_); refine sA (hq := Quiet.fa_ptr rfl get1 rfl) (ht := (setS32 set4)) (hk := ?_); refine sA (hq := Quiet.load_ptr rfl (getS32 get4) rfl rfl) (ht := (setS32 set5)) (hk := ?_); refine sA (hq := Quiet.ln rfl (getS32 get5)) (ht := (setS32 set6)) (hk := ?_); refine sA (hq := Quiet.bin rfl (getS32 get3) (getS32 get6) rfl) (ht := (setS32 set7)) (hk := ?_); exact wEnd rfl)) (hk := ?_)
        refine Awp.cond rfl (fun hb24 => ?_) (fun hb24 => ?_)
        · have H := M.to_t hb24 H
          refine Awp.skip ?_
          refine hs23 _ ?_
          refine nT (hk := ?_)
          refine Awp.seq fun Khs25 hs25 => ?_
          refine Awp.block ?_
          obtain ⟨c26, H⟩ := M.to_chk.1 H
          obtain ⟨c27, H⟩ := M.to_chk.1 H
          obtain ⟨r28, k28, H⟩ := M.to_bnd.1 H
          have k28 := r31_dec_l k28
          obtain ⟨c29, H⟩ := M.to_chk.1 H
          refine wRE (hx := by (refine sA (hq := Quiet.move rfl get4) (ht := (setS32 (setS8 set2))) (hk := ?_); refine sA (hq := Quiet.cat rfl (getS32 (getS8 get2)) getC (catB_le c26)) (ht := (setS32 (setS8 set3))) (hk := ?_); refine sA (hq := Quiet.fa_ptr rfl get1 rfl) (ht := (setS32 (setS8 set4))) (hk := ?_); refine sA (hq := Quiet.load_ptr rfl (getS32 (getS8 get4)) rfl rfl) (ht := (setS32 (setS8 set5))) (hk := ?_); refine sA (hq := Quiet.move rfl get5) (ht := (setS32 (setS8 set6))) (hk := ?_); refine sA (hq := Quiet.ixM rfl (getS32 (getS8 get5)) (getS32 (getS8 get6)) rfl c27) (ht := (setS32 (setS8 set7))) (hk := ?_); refine sA (hq := Quiet.load_bp rfl (getS32 (getS8 get7)) rfl) (ht := (setS32 (setS8 (setS8 set0)))) (hk := ?_); refine sA (hq := Quiet.cv rfl (getS32 (getS8 (getS8 get0))) rfl) (ht := (setS32 (setS8 (setS8 set1)))) (hk := ?_); refine sA (hq := Quiet.callA rfl rfl k28 rfl rfl) (ht := (setS32 (setS8 (setS8 set2)))) (hk := ?_); refine sA (hq := Quiet.cat rfl (getS32 (getS8 get3)) (getS32 (getS8 (getS8 get2))) (catB_le c29)) (ht := (setS32 (setS8 (setS8 set3)))) (hk := ?_); refine sA (hq := Quiet.assign rfl (getS32 (getS8 (getS8 get3)))) (ht := set4) (hk := ?_); exact wEnd rfl)) (hk := ?_)
          refine hs25 _ ?_
          refine nT (hk := ?_)
          refine wRE (hx := by (refine sA (hq := Quiet.move rfl get5) (ht := (setS32 (setS8 set0))) (hk := ?_); refine sA (hq := Quiet.bin rfl (getS32 (getS8 get0)) getC rfl) (ht := (setS32 (setS8 set1))) (hk := ?_); refine sA (hq := Quiet.assign rfl (getS32 (getS8 get1))) (ht := set5) (hk := ?_); exact wEnd rfl)) (hk := ?_)
          have e21 := M.to_ok.1 H
          repeat (first | refine abN ?_ | refine asN ?_)
          refine athen_n ⟨_, (), e21.symm, ?_⟩
          try dsimp only
          exact le_TA
        · have H := M.to_f hb24 H
          refine Awp.exit ?_
          repeat (first | refine athen_e ?_ | refine exO (by decide) ?_ | refine asE ?_)
          refine exN ?_
          have e21 := Hr21 _ (M.to_ok.1 H).symm
          repeat (first | refine abN ?_ | refine asN ?_)
          refine athen_n ⟨(_, ()), e21.symm, ?_⟩
          try dsimp only
          exact le_TA
    · rintro ⟨s22, _⟩ hz21
      try dsimp only at hz21
      have H := Hl21
      rw [hz21] at H
      try dsimp only
      obtain ⟨c30, H⟩ := M.to_chk.1 H
      refine wR (hx := by (refine sA (hq := Quiet.move rfl get4) (ht := (setS32 (setS8 (setS8 set4)))) (hk := ?_); refine sA (hq := Quiet.cat rfl (getS32 (getS8 (getS8 get4))) getC (catB_le c30)) (ht := (setS32 (setS8 (setS8 set5)))) (hk := ?_); refine sA (hq := Quiet.assign rfl (getS32 (getS8 (getS8 get5)))) (ht := set4) (hk := ?_); exact wEnd rfl)) (hk := ?_)
      obtain ⟨z33, HX33, Hl33⟩ := M.to_bnd.1 H
      refine Awp.seqJ (β := (ByteArray) × (Unit)) (fun q33 => z33 = q33.1) (fun q33 => ⟨.any :: .any :: .any :: .any :: .lit (.string q33.1) :: .any :: .any :: .any :: .any :: .any :: .any :: .any :: .any :: .any :: .any :: .any :: .any :: .any :: .any :: .any :: .any :: .any :: .any :: .any :: .any :: .any :: .any :: .any :: .any :: .any :: .any :: .any :: .any :: .any :: .any :: .any :: .any :: .any :: .any :: .any :: .any :: .any :: .any :: .any :: .any :: .any :: .any :: .any :: .any :: .any :: .any :: .any :: .any :: .any :: .any :: .any :: .any :: .any :: .any :: .any :: .any :: .any :: .any :: .any :: .any :: .any :: .any :: .any :: .any :: .any :: .any :: .any :: [], [.dead]⟩) ?_ ?_
      · refine wR (hx := by (refine sA (hq := Quiet.assign rfl getC) (ht := set6) (hk := ?_); exact wEnd rfl)) (hk := ?_)
        refine Awp.block ?_
        refine Awp.loopM HX33 (fun s33 b33 => ⟨.any :: .ptr 0 0 :: .any :: .any :: .lit (.string s33.1) :: .any :: .lit (.int .i64 s33.2) :: .any :: .any :: .any :: .any :: .any :: .any :: .any :: .any :: .any :: .any :: .any :: .any :: .any :: .any :: .any :: .any :: .any :: .any :: .any :: .any :: .any :: .any :: .any :: .any :: .any :: .any :: .any :: .any :: .any :: .any :: .any :: .any :: .any :: .any :: .any :: .any :: .any :: .any :: .any :: .any :: .any :: .any :: .any :: .any :: .any :: .any :: .any :: .any :: .any :: .any :: .any :: .any :: .any :: .any :: .any :: .any :: .any :: .any :: .any :: .any :: .any :: .any :: .any :: .any :: .any :: [], [.box (encImg x)]⟩) () (?_) ?_
        · try dsimp only
          exact le_TA
        · rintro ⟨s31, i32⟩ _ x33 H Hr33
          try dsimp only
          dsimp only [r31_ListW_L20] at H
          refine Awp.seq fun Khs35 hs35 => ?_
          refine wR (hx := by (refine sA (hq := Quiet.move rfl get6) (ht := (setS32 (setS8 (setS8 set6)))) (hk := ?_); refine sA (hq := Quiet.fa_ptr rfl get1 rfl) (ht := (setS32 (setS8 (setS8 set7)))) (hk := ?_); refine sA (hq := Quiet.load_ptr rfl (getS32 (getS8 (getS8 get7))) rfl rfl) (ht := (setS32 (setS8 (setS8 (setS8 set0))))) (hk := ?_); refine sA (hq := Quiet.ln rfl (getS32 (getS8 (getS8 (getS8 get0))))) (ht := (setS32 (setS8 (setS8 (setS8 set1))))) (hk := ?_); refine sA (hq := Quiet.bin rfl (getS32 (getS8 (getS8 get6))) (getS32 (getS8 (getS8 (getS8 get1)))) rfl) (ht := (setS32 (setS8 (setS8 (setS8 set2))))) (hk := ?_); exact wEnd rfl)) (hk := ?_)
          refine Awp.cond rfl (fun hb36 => ?_) (fun hb36 => ?_)
          · have H := M.to_t hb36 H
            refine Awp.skip ?_
            refine hs35 _ ?_
            refine nT (hk := ?_)
            refine Awp.seq fun Khs37 hs37 => ?_
            refine Awp.block ?_
            obtain ⟨c38, H⟩ := M.to_chk.1 H
            obtain ⟨r39, k39, H⟩ := M.to_bnd.1 H
            have k39 := r31_Line_l k39
            obtain ⟨c40, H⟩ := M.to_chk.1 H
            refine wRE (hx := by (refine sA (hq := Quiet.move rfl get4) (ht := (setS32 (setS8 (setS8 (setS8 set5))))) (hk := ?_); refine sA (hq := Quiet.move rfl get6) (ht := (setS32 (setS8 (setS8 (setS8 set6))))) (hk := ?_); refine sA (hq := Quiet.bin rfl getC (getS32 (getS8 (getS8 (getS8 get6)))) rfl) (ht := (setS32 (setS8 (setS8 (setS8 set7))))) (hk := ?_); refine sA (hq := Quiet.fa_ptr rfl get1 rfl) (ht := (setS32 (setS32 set0))) (hk := ?_); refine sA (hq := Quiet.load_ptr rfl (getS32 (getS32 get0)) rfl rfl) (ht := (setS32 (setS32 set1))) (hk := ?_); refine sA (hq := Quiet.move rfl get6) (ht := (setS32 (setS32 set2))) (hk := ?_); refine sA (hq := Quiet.ixM rfl (getS32 (getS32 get1)) (getS32 (getS32 get2)) rfl c38) (ht := (setS32 (setS32 set3))) (hk := ?_); refine sA (hq := Quiet.load_bp rfl (getS32 (getS32 get3)) rfl) (ht := (setS32 (setS32 set4))) (hk := ?_); refine sA (hq := Quiet.callA rfl rfl k39 rfl rfl) (ht := (setS32 (setS32 set5))) (hk := ?_); refine sA (hq := Quiet.cat rfl (getS32 (getS8 (getS8 (getS8 get5)))) (getS32 (getS32 get5)) (catB_le c40)) (ht := (setS32 (setS32 set6))) (hk := ?_); refine sA (hq := Quiet.assign rfl (getS32 (getS32 get6))) (ht := set4) (hk := ?_); exact wEnd rfl)) (hk := ?_)
            refine hs37 _ ?_
            refine nT (hk := ?_)
            refine wRE (hx := by (refine sA (hq := Quiet.move rfl get6) (ht := (setS32 (setS8 (setS8 (setS8 set3))))) (hk := ?_); refine sA (hq := Quiet.bin rfl (getS32 (getS8 (getS8 (getS8 get3)))) getC rfl) (ht := (setS32 (setS8 (setS8 (setS8 set4))))) (hk := ?_); refine sA (hq := Quiet.assign rfl (getS32 (getS8 (getS8 (getS8 get4))))) (ht := set6) (hk := ?_); exact wEnd rfl)) (hk := ?_)
            have e33 := M.to_ok.1 H
            repeat (first | refine abN ?_ | refine asN ?_)
            refine athen_n ⟨_, (), e33.symm, ?_⟩
            try dsimp only
            exact le_TA
          · have H := M.to_f hb36 H
            refine Awp.exit ?_
            repeat (first | refine athen_e ?_ | refine exO (by decide) ?_ | refine asE ?_)
            refine exN ?_
            have e33 := Hr33 _ (M.to_ok.1 H).symm
            repeat (first | refine abN ?_ | refine asN ?_)
            refine athen_n ⟨(_, ()), e33.symm, ?_⟩
            try dsimp only
            exact leC (Cut.dead (Cut.nil _))
      · rintro ⟨s34, _⟩ hz33
        try dsimp only at hz33
        have H := Hl33
        rw [hz33] at H
        try dsimp only
        refine wR (hx := by (refine sA (hq := Quiet.move rfl get4) (ht := (setS32 (setS32 set7))) (hk := ?_); refine sA (hq := Quiet.assign rfl (getS32 (getS32 get7))) (ht := set2) (hk := ?_); refine sA (hq := Quiet.assign rfl getC) (ht := set3) (hk := ?_); exact wEnd rfl)) (hk := ?_)
        obtain rfl := M.to_ok.1 H
        exact Awp.ret ⟨.inr rfl, _, _, Fin.cl rfl, rfl, rfl⟩

/-! ### lengths -/
theorem cat_le {a b : List UInt8} (h : a.length + b.length ≤ 1000000000000) : catB (bl a) (bl b) = true := by
  unfold catB
  rw [bl_size, bl_size]
  exact decide_eq_true h
theorem str_le {a : List UInt8} (h : a.length ≤ 1000000000000) : strB (bl a) = true := by
  unfold strB
  rw [bl_size]
  refine decide_eq_true ?_
  unfold maxLen
  omega
theorem numB_len (u : Nat) (h : u < 18446744073709551616) : (numB 10 u).length ≤ 65 := by
  unfold numB
  rw [List.length_map]
  exact digs_len (by decide) u 64 h
theorem hexB_len (w : Nat) : (hexB w).length = 8 := by unfold hexB; rw [List.length_map, hexD_len]
theorem u8_rng {a : Int} (h : wfI .u8 a) : 0 ≤ a ∧ a ≤ 255 := by
  simp [wfI, Lit.wf, IntKind.min, IntKind.max, IntKind.signed, IntKind.bits] at h
  omega
theorem i32_rng {a : Int} (h : wfI .i32 a) : -2147483648 ≤ a ∧ a ≤ 2147483647 := by
  simp [wfI, Lit.wf, IntKind.min, IntKind.max, IntKind.signed, IntKind.bits] at h
  omega
theorem decX_ok {w : Nat} (hw : w < 4294967296) : okInstM (decX w) := by
  unfold decX
  split
  · exact cand_ok hw
  · unfold zeroI
    exact ⟨u8_in (by decide), u8_in (by decide), u8_in (by decide), u8_in (by decide), i32_wf (by decide)⟩

/-! ### a line -/
def immS (n : Int) : List UInt8 := if n < 0 then 45 :: numB 10 (-n).toNat else numB 10 n.toNat
def fieldsX (x : InstM) : List (List UInt8) := [numB 10 x.op.toNat, numB 10 x.rd.toNat, numB 10 x.rs1.toNat, numB 10 x.rs2.toNat] ++ if x.is_ = true then [35 :: immS x.imm] else []
def wordsX (at1 : Int) (w : Nat) : List (List UInt8) := numB 10 at1.toNat :: hexB w :: if decOK w = true then fieldsX (decX w) else []
def textX (l : List (List UInt8)) : List UInt8 := Lib.join l [32] ++ [10]
def lineX (at1 : Int) (w : Nat) : List UInt8 := textX (wordsX at1 w)
theorem join_more (a b : List UInt8) (r : List (List UInt8)) : Lib.join (a :: b :: r) [32] = a ++ ([32] ++ Lib.join (b :: r) [32]) := by
  rw [Lib.join_cons, Lib.join_cons]
  unfold Lib.joinTail
  simp
theorem join_one32 (a : List UInt8) : Lib.join [a] [32] = a := Lib.join_one _ _
theorem join_len : ∀ (l : List (List UInt8)) (m : Nat), (∀ x ∈ l, x.length ≤ m) → (Lib.join l [32]).length ≤ l.length * (m + 1)
  | [], m, _ => by rw [Lib.join_nil]; simp
  | [a], m, h => by rw [join_one32]; have := h a (by simp); simp; omega
  | a :: b :: r, m, h => by
    rw [join_more, List.length_append, List.length_append]
    have h1 := h a (by simp)
    have h2 := join_len (b :: r) m fun x hx => h x (by simp [hx])
    simp only [List.length_cons, List.length_nil] at h2 ⊢
    have e : (r.length + 1 + 1) * (m + 1) = (r.length + 1) * (m + 1) + (m + 1) := by rw [Nat.add_mul (r.length + 1) 1, Nat.one_mul]
    omega
theorem immS_len {n : Int} (h : -2147483648 ≤ n ∧ n ≤ 2147483647) : (immS n).length ≤ 66 := by
  unfold immS
  split
  · have := numB_len (-n).toNat (by omega)
    simp only [List.length_cons]
    omega
  · have := numB_len n.toNat (by omega)
    omega
theorem fieldsX_len {x : InstM} (h : okInstM x) : ∀ y ∈ fieldsX x, y.length ≤ 67 := fun y hy => by
  have h1 := u8_rng h.op
  have h2 := u8_rng h.rd
  have h3 := u8_rng h.rs1
  have h4 := u8_rng h.rs2
  have h5 := immS_len (i32_rng h.imm)
  have g1 := numB_len x.op.toNat (by omega)
  have g2 := numB_len x.rd.toNat (by omega)
  have g3 := numB_len x.rs1.toNat (by omega)
  have g4 := numB_len x.rs2.toNat (by omega)
  unfold fieldsX at hy
  split at hy
  · simp only [List.cons_append, List.nil_append, List.mem_cons, List.not_mem_nil, or_false] at hy
    rcases hy with rfl | rfl | rfl | rfl | rfl
    · omega
    · omega
    · omega
    · omega
    · simp only [List.length_cons]; omega
  · simp only [List.append_nil, List.mem_cons, List.not_mem_nil, or_false] at hy
    rcases hy with rfl | rfl | rfl | rfl <;> omega
theorem fieldsX_num (x : InstM) : (fieldsX x).length ≤ 5 := by unfold fieldsX; split <;> simp
theorem wordsX_len {at1 : Int} {w : Nat} (ha : at1 < 9223372036854775808) (hw : w < 4294967296) : (∀ y ∈ wordsX at1 w, y.length ≤ 67) ∧ (wordsX at1 w).length ≤ 7 := by
  have h1 := numB_len at1.toNat (by omega)
  have h2 := hexB_len w
  unfold wordsX
  constructor
  · intro y hy
    simp only [List.mem_cons] at hy
    rcases hy with rfl | rfl | hy
    · omega
    · omega
    · split at hy
      · exact fieldsX_len (decX_ok hw) y hy
      · cases hy
  · have := fieldsX_num (decX w)
    simp only [List.length_cons]
    split
    · omega
    · simp
theorem lineX_len {at1 : Int} {w : Nat} (ha : at1 < 9223372036854775808) (hw : w < 4294967296) : (lineX at1 w).length ≤ 500 := by
  obtain ⟨h1, h2⟩ := wordsX_len ha hw
  have := join_len (wordsX at1 w) 67 h1
  unfold lineX textX
  rw [List.length_append, List.length_singleton]
  have : (wordsX at1 w).length * (67 + 1) ≤ 7 * (67 + 1) := Nat.mul_le_mul_right _ h2
  omega
theorem bl32 : (⟨#[32]⟩ : ByteArray) = bl [32] := rfl
theorem bl10 : (⟨#[10]⟩ : ByteArray) = bl [10] := rfl
theorem bl35 : (⟨#[35]⟩ : ByteArray) = bl [35] := rfl
theorem bl3235 : (⟨#[32, 35]⟩ : ByteArray) = bl [32, 35] := rfl
theorem bl323545 : (⟨#[32, 35, 45]⟩ : ByteArray) = bl [32, 35, 45] := rfl
theorem rline_to {at1 : Int} {w : Nat} (ha : 0 ≤ at1 ∧ at1 < 9223372036854775808) (hw : w < 4294967296) : (r31_Line at1 (w : Int)).to (bl (lineX at1 w)) := by
  have hok := decX_ok hw
  have h1 := u8_rng hok.op
  have h2 := u8_rng hok.rd
  have h3 := u8_rng hok.rs1
  have h4 := u8_rng hok.rs2
  have h5 := i32_rng hok.imm
  have g0 := numB_len at1.toNat (by omega)
  have g1 := numB_len (decX w).op.toNat (by omega)
  have g2 := numB_len (decX w).rd.toNat (by omega)
  have g3 := numB_len (decX w).rs1.toNat (by omega)
  have g4 := numB_len (decX w).rs2.toNat (by omega)
  have g5 := numB_len (decX w).imm.toNat (by omega)
  have g6 := numB_len (-(decX w).imm).toNat (by omega)
  have g7 := hexB_len w
  unfold r31_Line
  simp only [bl32, bl10, bl3235, bl323545]
  refine M.bnd_to (dec_to ha.1 ha.2) (M.chk_to (cat_le (by simp only [List.length_singleton]; omega)) (M.bnd_to (rhex_to hw) ?_))
  simp only [bl_append]
  refine M.chk_to (cat_le (by simp only [List.length_append, List.length_singleton]; omega)) (M.bnd_to (dec02_run w hw |> fun h => ⟨0, h⟩) ?_)
  dsimp only
  unfold lineX textX wordsX
  cases hd : decOK w with
  | false =>
    refine M.t_to rfl (M.chk_to (cat_le (by simp only [List.length_append, List.length_singleton]; omega)) (M.to_ok.2 (congrArg bl ?_)))
    simp [join_more, join_one32]
  | true =>
    refine M.f_to rfl (M.chk_to (cat_le (by simp only [List.length_append, List.length_singleton]; omega)) ?_)
    rw [wi64 (a := (decX w).op) (by omega), wi64 (a := (decX w).rd) (by omega), wi64 (a := (decX w).rs1) (by omega), wi64 (a := (decX w).rs2) (by omega)]
    refine M.bnd_to (dec_to (by omega) (by omega)) ?_
    simp only [bl_append]
    refine M.chk_to (cat_le (by simp only [List.length_append, List.length_singleton]; omega)) (M.chk_to (cat_le (by simp only [List.length_append, List.length_singleton]; omega)) (M.bnd_to (dec_to (by omega) (by omega)) ?_))
    simp only [bl_append]
    refine M.chk_to (cat_le (by simp only [List.length_append, List.length_singleton]; omega)) (M.chk_to (cat_le (by simp only [List.length_append, List.length_singleton]; omega)) (M.bnd_to (dec_to (by omega) (by omega)) ?_))
    simp only [bl_append]
    refine M.chk_to (cat_le (by simp only [List.length_append, List.length_singleton]; omega)) (M.chk_to (cat_le (by simp only [List.length_append, List.length_singleton]; omega)) (M.bnd_to (dec_to (by omega) (by omega)) ?_))
    simp only [bl_append]
    refine M.chk_to (cat_le (by simp only [List.length_append, List.length_singleton]; omega)) ?_
    rw [wi64 (a := (decX w).imm) (by omega), wi64 (a := 0 - (decX w).imm) (by omega), show 0 - (decX w).imm = -(decX w).imm by omega]
    unfold fieldsX
    cases hs : (decX w).is_ with
    | false =>
      refine M.bnd_to (M.f_to rfl (M.f_to rfl (M.ok_to _))) ?_
      simp only [bl_append]
      refine M.chk_to (cat_le (by simp only [List.length_append, List.length_singleton]; omega)) (M.to_ok.2 (congrArg bl ?_))
      simp [join_more, join_one32]
    | true =>
      by_cases hn : (decX w).imm < 0
      · refine M.bnd_to (a := bl ((((((((((numB 10 at1.toNat ++ [32]) ++ hexB w) ++ [32]) ++ numB 10 (decX w).op.toNat) ++ [32]) ++ numB 10 (decX w).rd.toNat) ++ [32]) ++ numB 10 (decX w).rs1.toNat) ++ [32]) ++ numB 10 (decX w).rs2.toNat ++ [32, 35, 45] ++ numB 10 (-(decX w).imm).toNat)) (M.t_to (by rw [decide_eq_true hn]; rfl) (M.chk_to (cat_le (by simp only [List.length_append, List.length_cons, List.length_nil]; omega)) (M.bnd_to (dec_to (by omega) (by omega)) ?_))) ?_
        · simp only [bl_append]
          exact M.chk_to (cat_le (by simp only [List.length_append, List.length_cons, List.length_nil]; omega)) (M.ok_to _)
        · simp only [bl_append]
          refine M.chk_to (cat_le (by simp only [List.length_append, List.length_cons, List.length_nil]; omega)) (M.to_ok.2 (congrArg bl ?_))
          unfold immS
          simp [join_more, join_one32, hn]
      · refine M.bnd_to (a := bl ((((((((((numB 10 at1.toNat ++ [32]) ++ hexB w) ++ [32]) ++ numB 10 (decX w).op.toNat) ++ [32]) ++ numB 10 (decX w).rd.toNat) ++ [32]) ++ numB 10 (decX w).rs1.toNat) ++ [32]) ++ numB 10 (decX w).rs2.toNat ++ [32, 35] ++ numB 10 (decX w).imm.toNat)) (M.f_to (by rw [decide_eq_false hn]; rfl) (M.t_to rfl (M.chk_to (cat_le (by simp only [List.length_append, List.length_cons, List.length_nil]; omega)) (M.bnd_to (dec_to (by omega) (by omega)) ?_)))) ?_
        · simp only [bl_append]
          exact M.chk_to (cat_le (by simp only [List.length_append, List.length_cons, List.length_nil]; omega)) (M.ok_to _)
        · simp only [bl_append]
          refine M.chk_to (cat_le (by simp only [List.length_append, List.length_cons, List.length_nil]; omega)) (M.to_ok.2 (congrArg bl ?_))
          unfold immS
          simp [join_more, join_one32, hn]

/-! ### a line, as the program has it -/
theorem joinD_bl (l : List (List UInt8)) (s : List UInt8) : joinD (l.map bl) (bl s) = bl (Lib.join l s) := by
  unfold joinD
  rw [List.map_map]
  have : (fun x : ByteArray => x.data.toList) ∘ bl = id := rfl
  rw [this, List.map_id]
  rfl
theorem text_to {l : List (List UInt8)} (h1 : l.length ≤ 2097152) (h2 : ∀ x ∈ l, x.length ≤ 100) : (image_text (l.map bl)).to (bl (textX l)) := by
  have hj := join_len l 100 h2
  have hm : l.length * (100 + 1) ≤ 2097152 * (100 + 1) := Nat.mul_le_mul_right _ h1
  unfold image_text strings_Join
  rw [bl32, bl10]
  refine M.bnd_to (M.chk_to ?_ (M.to_ok.2 (joinD_bl l [32]))) (M.chk_to (cat_le (by simp only [List.length_singleton]; omega)) (M.to_ok.2 (bl_append _ _)))
  rw [Bool.and_eq_true, List.length_map]
  refine ⟨decide_eq_true (by omega), decide_eq_true ?_⟩
  rw [List.map_map]
  have : (fun x : ByteArray => x.data.toList) ∘ bl = id := rfl
  rw [this, List.map_id]
  show (Lib.join l [32]).length ≤ _
  omega
theorem row_le {n b : Nat} (h : n ≤ 4194304) (hb : b ≤ 24) : rowB n b = true := by
  unfold rowB
  rw [Bool.and_eq_true]
  have : n * b ≤ 4194304 * 24 := Nat.mul_le_mul h hb
  refine ⟨decide_eq_true (by unfold maxLen; omega), decide_eq_true (by omega)⟩
theorem iline_to {at1 : Int} {w : Nat} (ha : 0 ≤ at1 ∧ at1 < 9223372036854775808) (hw : w < 4294967296) : (image_line at1 (w : Int)).to (bl (lineX at1 w)) := by
  have hok := decX_ok hw
  have h1 := u8_rng hok.op
  have h2 := u8_rng hok.rd
  have h3 := u8_rng hok.rs1
  have h4 := u8_rng hok.rs2
  have h5 := i32_rng hok.imm
  have g0 := numB_len at1.toNat (by omega)
  have g7 := hexB_len w
  have hi := immS_len h5
  unfold image_line
  refine M.bnd_to (idig_to ha.1 ha.2) (M.bnd_to (ihex_to hw) (M.chk_to (str_le (by omega)) (M.chk_to (str_le (by omega)) ?_)))
  obtain ⟨l1, l2⟩ := wordsX_len ha.2 hw
  refine M.bnd_to (a := (wordsX at1 w).map bl) ?_ (M.bnd_to (text_to (by omega) fun x hx => by have := l1 x hx; omega) (M.ok_to _))
  have hdec : (inst_Decode (w : Int)).to (decX w, decOK w) := by
    unfold inst_Decode
    refine M.chk_to ?_ (M.to_ok.2 ?_)
    · rw [Bool.and_eq_true]; exact ⟨decide_eq_true (by omega), decide_eq_true (by omega)⟩
    · rw [Int.toNat_natCast]
  refine M.bnd_to hdec ?_
  dsimp only
  unfold wordsX
  cases hd : decOK w with
  | false => exact M.f_to rfl (M.ok_to _)
  | true =>
    refine M.t_to rfl ?_
    let L : List Int := [(decX w).op, (decX w).rd, (decX w).rs1, (decX w).rs2]
    have hloop : (M.loop (image_line_L9 (decX w, true)) (0, [bl (numB 10 at1.toNat), bl (hexB w)])).to ([bl (numB 10 at1.toNat), bl (hexB w)] ++ L.map fun n => bl (numB 10 n.toNat)) := by
      have := M.loop_for (step := image_line_L9 (decX w, true)) (fun k => ((k : Int), [bl (numB 10 at1.toNat), bl (hexB w)] ++ (L.take k).map fun n => bl (numB 10 n.toNat))) 4 (r := [bl (numB 10 at1.toNat), bl (hexB w)] ++ L.map fun n => bl (numB 10 n.toNat)) (fun k hk => ?_) ?_ (Nat.zero_le _)
      · exact this
      · have hL : L.length = 4 := rfl
        have hg : L[k]? = some (L.getD k 0) := by rw [List.getD_eq_getElem?_getD, List.getElem?_eq_getElem (by omega)]; rfl
        have hx : ixD L (k : Int) = L.getD k 0 := ixD_of hg
        have hr : 0 ≤ L.getD k 0 ∧ L.getD k 0 ≤ 255 := by
          have hm : L.getD k 0 ∈ L := List.mem_of_getElem? hg
          have : ∀ z ∈ L, 0 ≤ z ∧ z ≤ 255 := fun z hz => by
            simp only [L, List.mem_cons, List.not_mem_nil, or_false] at hz
            rcases hz with rfl | rfl | rfl | rfl <;> assumption
          exact this _ hm
        have hn := numB_len (L.getD k 0).toNat (by omega)
        unfold image_line_L9
        dsimp only
        refine M.t_to (decide_eq_true (by omega)) (M.chk_to (inB_of (l := L) (by omega)) ?_)
        show (M.bnd (image_digits (IntKind.i64.wrap (ixD L (k : Int)))) _).to _
        rw [hx, wi64 (a := L.getD k 0) (by omega)]
        refine M.bnd_to (idig_to hr.1 (by omega)) (M.chk_to (str_le (by omega)) (M.chk_to (row_le (by simp only [List.length_append, List.length_map, List.length_take, List.length_cons, List.length_nil]; omega) (by decide)) (M.to_ok.2 ?_)))
        rw [wi64 (by omega)]
        refine congrArg Sum.inl (Prod.ext (by push_cast; rfl) ?_)
        show _ = [bl (numB 10 at1.toNat), bl (hexB w)] ++ (L.take (k + 1)).map fun n => bl (numB 10 n.toNat)
        rw [List.take_add_one, hg, List.map_append, ← List.append_assoc]
        rfl
      · unfold image_line_L9
        exact M.f_to (by decide) (M.to_ok.2 rfl)
    refine M.bnd_to hloop ?_
    unfold fieldsX
    cases hs : (decX w).is_ with
    | false => exact M.f_to rfl (M.to_ok.2 (by simp [L]))
    | true =>
      refine M.t_to rfl ?_
      rw [wi64 (a := (decX w).imm) (by omega)]
      have hd2 : (image_digits (decX w).imm).to (bl (immS (decX w).imm)) := by
        unfold image_digits
        refine M.bnd_to (M.chk_to (wf64 (by omega)) (M.ok_to _)) (M.to_ok.2 ?_)
        unfold itoaB Lib.itoa immS
        split
        · rw [numB_dec, show (decX w).imm.natAbs = (-(decX w).imm).toNat by omega]; rfl
        · rw [numB_dec]; rfl
      refine M.bnd_to hd2 ?_
      rw [bl35]
      refine M.chk_to (cat_le (by simp only [List.length_singleton]; omega)) ?_
      rw [bl_append]
      refine M.chk_to (str_le (by simp only [List.length_append, List.length_singleton]; omega)) (M.chk_to (row_le (by simp [L]) (by decide)) (M.to_ok.2 ?_))
      simp [L]
end Mu
end
