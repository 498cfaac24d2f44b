/-
  The depths, at any number: the program's and the document's are one.
  Conditions: the program's bulk is at most 2^21.
-/
import Derived.Test.YteeekjidkjdpjaaMuDepthTop
namespace Mu
open Go Go.RowKit Go.Proofs Go.Maps

theorem depth_eq (p : Prog) (f : Int) : depthC' p f = depthC p f := by
  unfold depthC depthC'
  by_cases h : 0 ≤ f ∧ f < p.funcs.length ∧ turnsB p f.toNat = false
  · rw [if_pos h, if_pos h, relaxR_end (succ_lt p) (by omega) ((turnsB_iff (by omega)).1 h.2.2)]
  · rw [if_neg h, if_neg h]

set_option maxRecDepth 100000 in
set_option maxHeartbeats 2000000 in
theorem Depth_any (p : Prog) (f : Int) (w : World) (cs : List Value) (hR : tProg.R w w.heap.size cs p) (hsm : tProg.bulk p ≤ 2097152) :
    Calls Try.prog 21 #[.agg cs.toArray, .int .i64 f] w fun e w' => e = .returned (.int .i64 (depthC p f)) ∧ Below w.heap.size w w' := by
  rw [← depth_eq]
  by_cases hin : 0 ≤ f ∧ f < p.funcs.length
  · obtain ⟨k, rfl⟩ := Int.eq_ofNat_of_zero_le hin.1
    exact Depth_in p k w cs (by omega) hR hsm
  · rw [depthC', if_neg (fun h => hin ⟨h.1, h.2.1⟩)]
    obtain ⟨A, c, A', c', rfl, _, _, hF⟩ := tProg_R.1 hR
    have hpl := prog_funcs_le p
    have hb : Hid (Below w.heap.size w (w.alloc (.cells [.int .i64 p.heap, .slice A' p.threads.length c', .slice A p.funcs.length c].toArray 25))) := (Below.refl _ _).alloc (Nat.le_refl _) _
    clear hR hF
    by_cases h0 : f < 0
    · have d0 : decide (f < 0) = true := decide_eq_true h0
      go_enter Try.func21, Try.ntmps21
      go_wp2_with fail
      go_ret
      exact ⟨rfl, hb.out⟩
    · have d0 : decide (f < 0) = false := decide_eq_false h0
      have d1 : decide ((p.funcs.length : Int) ≤ f) = true := decide_eq_true (by omega)
      go_enter Try.func21, Try.ntmps21
      go_wp2_with fail
      go_ret
      exact ⟨rfl, hb.out⟩

set_option maxRecDepth 100000 in
set_option maxHeartbeats 2000000 in
theorem refDepth_any (p : Prog) (f : Int) (w : World) (cs : List Value) (hR : tProg.R w w.heap.size cs p) (hsm : tProg.bulk p ≤ 2097152) :
    Calls Try.prog 22 #[.agg cs.toArray, .int .i64 f] w fun e w' => e = .returned (.int .i64 (depthC p f)) ∧ Below w.heap.size w w' := by
  by_cases hin : 0 ≤ f ∧ f < p.funcs.length
  · obtain ⟨k, rfl⟩ := Int.eq_ofNat_of_zero_le hin.1
    have hk : k < p.funcs.length := by omega
    by_cases ht : turnsB p k = false
    · rw [depthC, if_pos ⟨hin.1, hin.2, by simpa using ht⟩]
      exact refDepth_in p k w cs hk ht hR hsm
    · rw [depthC, if_neg (fun h => ht (by simpa using h.2.2))]
      have ht' : turnsB p k = true := by simpa using ht
      have HT := Lib.hid ht'
      clear ht ht'
      obtain ⟨A, c, A', c', rfl, _, _, hF⟩ := tProg_R.1 hR
      have hpl := prog_funcs_le p
      have hb : Hid (Below w.heap.size w (w.alloc (.cells [.int .i64 p.heap, .slice A' p.threads.length c', .slice A p.funcs.length c].toArray 25))) := (Below.refl _ _).alloc (Nat.le_refl _) _
      have d0 : decide ((k : Int) < 0) = false := decide_eq_false (by omega)
      have d1 : decide ((p.funcs.length : Int) ≤ (k : Int)) = false := decide_eq_false (by omega)
      have d2 : decide (p.funcs.length ≤ k) = false := decide_eq_false (by omega)
      have HR1 := Lib.hid (Ty.below hR hb.out hb.out.size)
      clear hR hF hin
      go_enter Try.func22, Try.ntmps22
      go_wp2_with fail
      refine (turns_any p k _ _ hk HR1.out hsm).mono ?_
      rintro e wt ⟨rfl, hbt⟩
      rw [HT.out]
      have HB := Lib.hid (hb.out.trans (hbt.mono hb.out.size))
      clear hbt
      go_wp2_with fail
      go_ret
      exact ⟨rfl, HB.out⟩
  · rw [depthC, if_neg (fun h => hin ⟨h.1, h.2.1⟩)]
    obtain ⟨A, c, A', c', rfl, _, _, hF⟩ := tProg_R.1 hR
    have hpl := prog_funcs_le p
    have hb : Hid (Below w.heap.size w (w.alloc (.cells [.int .i64 p.heap, .slice A' p.threads.length c', .slice A p.funcs.length c].toArray 25))) := (Below.refl _ _).alloc (Nat.le_refl _) _
    clear hR hF
    by_cases h0 : f < 0
    · have d0 : decide (f < 0) = true := decide_eq_true h0
      go_enter Try.func22, Try.ntmps22
      go_wp2_with fail
      go_ret
      exact ⟨rfl, hb.out⟩
    · have d0 : decide (f < 0) = false := decide_eq_false h0
      have d1 : decide ((p.funcs.length : Int) ≤ f) = true := decide_eq_true (by omega)
      go_enter Try.func22, Try.ntmps22
      go_wp2_with fail
      go_ret
      exact ⟨rfl, hb.out⟩
end Mu
