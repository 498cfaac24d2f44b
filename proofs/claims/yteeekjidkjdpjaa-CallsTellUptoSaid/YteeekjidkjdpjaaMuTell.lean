/-
  muntinlaw20.CallsTell, walked: it is true.
  Conditions: the program's bulk is at most 2^21.
-/
import Derived.Test.YteeekjidkjdpjaaMuBx
import Derived.StillTailTactics
import Derived.Deep.RegionHeld3
import Derived.BigQuiet
namespace Mu
open Go Go.RowKit Go.Proofs

set_option maxRecDepth 100000 in
set_option maxHeartbeats 4000000 in
theorem callsTell_any (p : Prog) (f : Int) (w : World) (cs : List Value) (hR : tProg.R w w.heap.size cs p) (hsm : tProg.bulk p ≤ 2097152) :
    Calls Try.prog 3 #[.agg cs.toArray, .int .i64 f] w fun e w' => e = .returned (.bool true) ∧ Below w.heap.size w w' := by
  obtain ⟨A, c, A', c', rfl, _, _, hF⟩ := tProg_R.1 hR
  have hpl := prog_funcs_le p
  have HR := Lib.hid hR
  have HF := Lib.hid hF
  clear hR hF
  obtain ⟨cs, hcs⟩ : ∃ cs : List Value, cs = [.int .i64 p.heap, .slice A' p.threads.length c', .slice A p.funcs.length c] := ⟨_, rfl⟩
  have q0 : ∀ w', Bx w cs 25 w' → w'.cell? ⟨w.heap.size, 0, none⟩ = some (.int .i64 p.heap) := fun w' h => h.cell (by rw [hcs]; rfl)
  have q1 : ∀ w', Bx w cs 25 w' → w'.cell? ⟨w.heap.size, 1, none⟩ = some (.slice A' p.threads.length c') := fun w' h => h.cell (by rw [hcs]; rfl)
  have q2 : ∀ w', Bx w cs 25 w' → w'.cell? ⟨w.heap.size, 2, none⟩ = some (.slice A p.funcs.length c) := fun w' h => h.cell (by rw [hcs]; rfl)
  have hstart : Hid (Bx w cs 25 (w.alloc (.cells [.int .i64 p.heap, .slice A' p.threads.length c', .slice A p.funcs.length c].toArray 25))) := by rw [← hcs]; exact Bx.refl
  clear hcs
  have H17 := Lib.hid fun w' (h : Bx w cs 25 w') => bx_calls f h HR.out hsm
  have H18 := Lib.hid fun w' (h : Bx w cs 25 w') => bx_refCalls f h HR.out hsm
  have H19 := Lib.hid fun w' (h : Bx w cs 25 w') => bx_reach f h HR.out hsm
  have H20 := Lib.hid fun w' (h : Bx w cs 25 w') => bx_refReach f h HR.out hsm
  have H21 := Lib.hid fun w' (h : Bx w cs 25 w') => bx_depth f h HR.out hsm
  have H22 := Lib.hid fun w' (h : Bx w cs 25 w') => bx_refDepth f h HR.out hsm
  have H13 := Lib.hid fun w' (h : Bx w cs 25 w') => bx_head h
  have L1 := callsC_len (p := p) (f := f) hsm
  have L2 := reachAll_len (p := p) (f := f) hsm
  go_enter Try.func3, Try.ntmps3
  go_wp2_with fail
  refine (bx_great hstart.out HR.out hsm).mono ?_
  rintro e w1 ⟨b, rfl, hx⟩
  clear hstart
  cases b
  · by_cases hn : p.funcs.length ≤ 20
    · have dn : decide (20 < p.funcs.length) = false := decide_eq_false (by omega)
      by_cases hin : 0 ≤ f ∧ f < p.funcs.length
      · obtain ⟨h0, h1⟩ := hin
        obtain ⟨fn, b, o, Aq, cq, rfl, hbl, hfn, hfs, k0, k1, k2, k3, hRf⟩ := func_fact HF.out (k := f.toNat) (by omega) hsm
        have r0 : ∀ w', Bx w cs 25 w' → w'.cell? ⟨b, o + f.toNat * 4, none⟩ = some (.string fn.name) := fun w' h => (h.far hbl).trans k0
        have r1 : ∀ w', Bx w cs 25 w' → w'.cell? ⟨b, o + f.toNat * 4 + 1, none⟩ = some (.int .i64 fn.args) := fun w' h => (h.far hbl).trans k1
        have r2 : ∀ w', Bx w cs 25 w' → w'.cell? ⟨b, o + f.toNat * 4 + 2, none⟩ = some (.int .i64 fn.regs) := fun w' h => (h.far hbl).trans k2
        have r3 : ∀ w', Bx w cs 25 w' → w'.cell? ⟨b, o + f.toNat * 4 + 3, none⟩ = some (.slice Aq fn.blocks.length cq) := fun w' h => (h.far hbl).trans k3
        have H14 := Lib.hid fun w' (h : Bx w cs 25 w') => bx_leaf h hRf hfs
        have H15 := Lib.hid fun w' (h : Bx w cs 25 w') => bx_refLeaf h hRf hfs
        clear hfn hfs k0 k1 k2 k3 hRf
        go_wp2_with fail
        go_region_held3 (fun w' => Bx w cs 25 w')
          (first | assumption | exact Bx.drew (by assumption) | exact Bx.drew (Bx.drewN (by assumption) _))
          (first
            | (go_at_call 14; refine (H14.out _ (by assumption)).mono ?_; rintro e w2 ⟨rfl, hx2⟩)
            | (go_at_call 15; refine (H15.out _ (by assumption)).mono ?_; rintro e w3 ⟨rfl, hx3⟩))
        all_goals
          clear H14 H15 r0 r1 r2 r3
          go_wp2_with fail
          go_region_held3 (fun w' => Bx w cs 25 w')
            (first | assumption | exact Bx.drew (by assumption) | exact Bx.drew (Bx.drewN (by assumption) _))
            (first
              | (go_at_call 17; refine (H17.out _ (by assumption)).mono ?_; rintro e w4 ⟨v4, rfl, hx4, hg4, hb4⟩)
              | (go_at_call 18; refine (H18.out _ (by assumption)).mono ?_; rintro e w5 ⟨v5, rfl, hx5, hg5, hb5⟩)
              | (go_at_call 19; refine (H19.out _ (by assumption)).mono ?_; rintro e w6 ⟨v6, rfl, hx6, hg6, hb6⟩)
              | (go_at_call 20; refine (H20.out _ (by assumption)).mono ?_; rintro e w7 ⟨v7, rfl, hx7, hg7, hb7⟩)
              | (go_at_call 21; refine (H21.out _ (by assumption)).mono ?_; rintro e w8 ⟨rfl, hx8⟩)
              | (go_at_call 22; refine (H22.out _ (by assumption)).mono ?_; rintro e w9 ⟨rfl, hx9⟩)
              | (go_at_call 13; refine (H13.out _ (by assumption)).mono ?_; rintro e w10 ⟨rfl, hx10⟩)
              | (go_at_call 16; refine (bx_same_self (u := v6) (v := v7) (by assumption) (by first | assumption | exact Got.keep hg6 (by assumption)) (by first | assumption | exact Got.keep hg7 (by assumption)) L2).mono ?_; rintro e w11 ⟨rfl, hx11⟩)
              | (go_at_call 16; refine (bx_same_self (u := v4) (v := v5) (by assumption) (by first | assumption | exact Got.keep hg4 (by assumption)) (by first | assumption | exact Got.keep hg5 (by assumption)) L1).mono ?_; rintro e w12 ⟨rfl, hx12⟩; clear hg4 hg5 hb4 hb5))
          all_goals
            go_wp2_with fail
            go_ret
            exact ⟨rfl, Bx.below (by assumption)⟩
      · by_cases h0 : f < 0
        · have d0 : decide (0 ≤ f) = false := decide_eq_false (by omega)
          go_wp2_with fail
          go_quiet (fail)
          go_wp2_with fail
          go_region_held3 (fun w' => Bx w cs 25 w')
            (first | assumption | exact Bx.drew (by assumption) | exact Bx.drew (Bx.drewN (by assumption) _))
            (first
              | (go_at_call 17; refine (H17.out _ (by assumption)).mono ?_; rintro e w4 ⟨v4, rfl, hx4, hg4, hb4⟩)
              | (go_at_call 18; refine (H18.out _ (by assumption)).mono ?_; rintro e w5 ⟨v5, rfl, hx5, hg5, hb5⟩)
              | (go_at_call 19; refine (H19.out _ (by assumption)).mono ?_; rintro e w6 ⟨v6, rfl, hx6, hg6, hb6⟩)
              | (go_at_call 20; refine (H20.out _ (by assumption)).mono ?_; rintro e w7 ⟨v7, rfl, hx7, hg7, hb7⟩)
              | (go_at_call 21; refine (H21.out _ (by assumption)).mono ?_; rintro e w8 ⟨rfl, hx8⟩)
              | (go_at_call 22; refine (H22.out _ (by assumption)).mono ?_; rintro e w9 ⟨rfl, hx9⟩)
              | (go_at_call 13; refine (H13.out _ (by assumption)).mono ?_; rintro e w10 ⟨rfl, hx10⟩)
              | (go_at_call 16; refine (bx_same_self (u := v6) (v := v7) (by assumption) (by first | assumption | exact Got.keep hg6 (by assumption)) (by first | assumption | exact Got.keep hg7 (by assumption)) L2).mono ?_; rintro e w11 ⟨rfl, hx11⟩)
              | (go_at_call 16; refine (bx_same_self (u := v4) (v := v5) (by assumption) (by first | assumption | exact Got.keep hg4 (by assumption)) (by first | assumption | exact Got.keep hg5 (by assumption)) L1).mono ?_; rintro e w12 ⟨rfl, hx12⟩; clear hg4 hg5 hb4 hb5))
          all_goals
            go_wp2_with fail
            go_ret
            exact ⟨rfl, Bx.below (by assumption)⟩
        · have d0 : decide (0 ≤ f) = true := decide_eq_true (by omega)
          have d1 : decide (f < (p.funcs.length : Int)) = false := decide_eq_false (by omega)
          go_wp2_with fail
          go_quiet (fail)
          go_wp2_with fail
          go_region_held3 (fun w' => Bx w cs 25 w')
            (first | assumption | exact Bx.drew (by assumption) | exact Bx.drew (Bx.drewN (by assumption) _))
            (first
              | (go_at_call 17; refine (H17.out _ (by assumption)).mono ?_; rintro e w4 ⟨v4, rfl, hx4, hg4, hb4⟩)
              | (go_at_call 18; refine (H18.out _ (by assumption)).mono ?_; rintro e w5 ⟨v5, rfl, hx5, hg5, hb5⟩)
              | (go_at_call 19; refine (H19.out _ (by assumption)).mono ?_; rintro e w6 ⟨v6, rfl, hx6, hg6, hb6⟩)
              | (go_at_call 20; refine (H20.out _ (by assumption)).mono ?_; rintro e w7 ⟨v7, rfl, hx7, hg7, hb7⟩)
              | (go_at_call 21; refine (H21.out _ (by assumption)).mono ?_; rintro e w8 ⟨rfl, hx8⟩)
              | (go_at_call 22; refine (H22.out _ (by assumption)).mono ?_; rintro e w9 ⟨rfl, hx9⟩)
              | (go_at_call 13; refine (H13.out _ (by assumption)).mono ?_; rintro e w10 ⟨rfl, hx10⟩)
              | (go_at_call 16; refine (bx_same_self (u := v6) (v := v7) (by assumption) (by first | assumption | exact Got.keep hg6 (by assumption)) (by first | assumption | exact Got.keep hg7 (by assumption)) L2).mono ?_; rintro e w11 ⟨rfl, hx11⟩)
              | (go_at_call 16; refine (bx_same_self (u := v4) (v := v5) (by assumption) (by first | assumption | exact Got.keep hg4 (by assumption)) (by first | assumption | exact Got.keep hg5 (by assumption)) L1).mono ?_; rintro e w12 ⟨rfl, hx12⟩; clear hg4 hg5 hb4 hb5))
          all_goals
            go_wp2_with fail
            go_ret
            exact ⟨rfl, Bx.below (by assumption)⟩
    · have dn : decide (20 < p.funcs.length) = true := decide_eq_true (by omega)
      go_wp2_with fail
      refine (H13.out _ hx).mono ?_
      rintro e w2 ⟨rfl, hx2⟩
      go_wp2_with fail
      go_ret
      exact ⟨rfl, hx2.below⟩
  · go_wp2_with fail
    refine (H13.out _ hx).mono ?_
    rintro e w2 ⟨rfl, hx2⟩
    go_wp2_with fail
    go_ret
    exact ⟨rfl, hx2.below⟩
end Mu
