/-
  calls.Calls: at any number.
  Conditions: the program's bulk is at most 2^21.
-/
import Derived.Test.YteeekjidkjdpjaaMuCallsA
import Derived.Test.YteeekjidkjdpjaaMuRows
namespace Mu
open Go Go.RowKit Go.Proofs

theorem callsC_wf {p : Prog} {f : Int} (hsm : tProg.bulk p ≤ 2097152) : ∀ x ∈ callsC p f, wfI .i64 x := by
  intro x hx
  unfold callsC at hx
  split at hx
  · obtain ⟨k, hk, rfl⟩ := List.mem_map.1 hx
    have h1 := succ_lt _ _ _ hk
    have h2 := prog_funcs_le p
    simp [wfI, Lit.wf, IntKind.min, IntKind.max, IntKind.signed, IntKind.bits]
    omega
  · cases hx
theorem callsC_len {p : Prog} {f : Int} (hsm : tProg.bulk p ≤ 2097152) : (callsC p f).length ≤ 2097152 := by
  unfold callsC
  split
  · have h1 := succ_length p f.toNat
    have h2 := prog_funcs_le p
    simp [ofN]
    omega
  · simp

set_option maxRecDepth 100000 in
set_option maxHeartbeats 1000000 in
theorem calls_any (p : Prog) (f : Int) (w : World) (cs : List Value) (hR : tProg.R w w.heap.size cs p) (hsm : tProg.bulk p ≤ 2097152) :
    Calls Try.prog 17 #[.agg cs.toArray, .int .i64 f] w fun e w' => ∃ v, e = .returned v ∧ OwnI w' w.heap.size v (callsC p f) ∧ Below w.heap.size w w' := by
  obtain ⟨A, c, A', c', rfl, _, _, hF⟩ := tProg_R.1 hR
  have hpl := prog_funcs_le p
  by_cases hin : 0 ≤ f ∧ f < p.funcs.length
  · obtain ⟨fn, hfn⟩ : ∃ fn, p.funcs[f.toNat]? = some fn := ⟨_, List.getElem?_eq_getElem (by omega)⟩
    have hm := List.mem_of_getElem? hfn
    have hfb := prog_func_le hm
    have hbl := func_blocks_le fn
    rw [callsC, if_pos hin, ← calls_eq hfn]
    exact calls_in p f fn w A A' c c' hin.1 hfn (by omega) hF (by omega) (fun b hb => by have h1 := block_ins_le b; have h2 := func_block_le hb; omega) (by have := raw_le p.funcs.length fn; omega)
  · rw [callsC, if_neg hin]
    have hb : Hid (Below w.heap.size w (w.alloc (.cells [.int .i64 p.heap, .slice A' p.threads.length c', .slice A p.funcs.length c].toArray 25))) := (Below.refl _ _).alloc (Nat.le_refl _) _
    clear hR hF
    by_cases h0 : f < 0
    · have d0 : decide (f < 0) = true := decide_eq_true h0
      go_enter Try.func17, Try.ntmps17
      go_wp2_with fail
      go_ret
      exact ⟨_, rfl, OwnI.nil _ _, hb.out⟩
    · have d0 : decide (f < 0) = false := decide_eq_false h0
      have d1 : decide ((p.funcs.length : Int) ≤ f) = true := decide_eq_true (by omega)
      go_enter Try.func17, Try.ntmps17
      go_wp2_with fail
      go_ret
      exact ⟨_, rfl, OwnI.nil _ _, hb.out⟩
end Mu
