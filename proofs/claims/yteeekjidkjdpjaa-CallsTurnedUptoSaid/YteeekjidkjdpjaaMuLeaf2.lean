/-
  calls.Leaf, walked.
  Conditions: the function's bulk is at most 2^21.
-/
import Derived.Test.YteeekjidkjdpjaaMuLeaf
namespace Mu
open Go Go.RowKit Go.Proofs

set_option maxRecDepth 100000 in
set_option maxHeartbeats 1000000 in
theorem leaf_any_ins (l : List Ins) (va : Value) (w : World) (hR : tIns.slice.R w w.heap.size [va] l) (hl : l.length ≤ 2097152) :
    Calls Try.prog 38 #[va, .func (.func 39) #[] #[]] w fun e w' => e = .returned (.bool (loudIns l)) ∧ Below w.heap.size w w' := by
  have HR := Lib.hid hR
  clear hR
  go_enter Try.func38, Try.ntmps38
  go_wp2_with fail
  refine (leaf_index l va _ HR.out hl).mono ?_
  rintro e w1 ⟨z, rfl, hz, hb1⟩
  have HZ := Lib.hid hz
  have HB1 := Lib.hid hb1
  clear hz hb1
  go_wp2_with fail
  go_ret
  exact ⟨ret_bool HZ.out, HB1.out⟩

set_option maxRecDepth 100000 in
set_option maxHeartbeats 1000000 in
theorem leaf_any (fn : Func) (w : World) (cs : List Value) (hR : tFunc.R w w.heap.size cs fn) (hsm : tFunc.bulk fn ≤ 2097152) :
    Calls Try.prog 14 #[.agg cs.toArray] w fun e w' => e = .returned (.bool (leaf fn.blocks)) ∧ Below w.heap.size w w' := by
  obtain ⟨A, c, rfl, _, _, _, hBR⟩ := tFunc_R.1 hR
  have hbl := func_blocks_le fn
  have HBR := Lib.hid hBR
  clear hR hBR
  go_enter Try.func14, Try.ntmps14
  go_wp2_with fail
  go_loopw [8] (fun i wr => ∃ q : Nat, q ≤ fn.blocks.length ∧ i = .int .i64 q ∧ Hid (leaf (fn.blocks.take q) = true) ∧ Below w.heap.size w wr) (fun i _ => fn.blocks.length - (RowKit.intOf i).toNat)
  case atStart => exact ⟨0, Nat.zero_le _, rfl, rfl, (Below.refl _ _).alloc (Nat.le_refl _) _⟩
  case round =>
    obtain ⟨q, hq, rfl, hno, hbe⟩ := hrel
    have hfar := far hbe
    have HBE := Lib.hid hbe
    clear hbe
    by_cases hlt : q < fn.blocks.length
    · obtain ⟨x, hx⟩ : ∃ x, fn.blocks[q]? = some x := ⟨_, List.getElem?_eq_getElem hlt⟩
      obtain ⟨bb, bo, Ai, ci, rfl, hbb, hc0, hc1, _, hIR⟩ := block_at HBR.out hx
      have hil := block_ins_le x
      have hxb := func_block_le (List.mem_of_getElem? hx)
      have HX := Lib.hid hx
      have HIR := Lib.hid hIR
      clear hx hIR
      have hal : ∀ o, Hid (Below w.heap.size w (wr.alloc o)) := fun o => HBE.out.alloc HBE.out.size o
      by_cases hL : loudIns x.ins = true
      · have HL := Lib.hid hL
        have HAL := Lib.hid hal
        clear hL hal
        go_wp2_with fail
        refine (leaf_any_ins x.ins _ _ (Ty.below HIR.out (HAL.out _).out (HAL.out _).out.size) (by omega)).mono ?_
        rintro e w1 ⟨rfl, hb1⟩
        rw [HL.out]
        have HB1 := Lib.hid hb1
        clear hb1
        go_wp2_with fail
        go_ret
        exact ⟨ret_bool (leaf_no HX.out HL.out).symm, (HAL.out _).out.trans (HB1.out.mono (HAL.out _).out.size)⟩
      · have hL' : loudIns x.ins = false := by simpa using hL
        have HL := Lib.hid hL'
        have HAL := Lib.hid hal
        clear hL hL' hal
        go_wp2_with fail
        refine (leaf_any_ins x.ins _ _ (Ty.below HIR.out (HAL.out _).out (HAL.out _).out.size) (by omega)).mono ?_
        rintro e w1 ⟨rfl, hb1⟩
        rw [HL.out]
        have HB1 := Lib.hid hb1
        clear hb1
        go_wp2_with fail
        go_roundw
        case rel => exact ⟨q + 1, by omega, by go_num, leaf_next HX.out hno.out HL.out, (HAL.out _).out.trans (HB1.out.mono (HAL.out _).out.size)⟩
        case measure => simp [RowKit.intOf]; omega
    · obtain rfl : q = fn.blocks.length := by omega
      go_wp2_with fail
      go_ret
      have hno' := hno.out
      rw [List.take_length] at hno'
      exact ⟨ret_bool hno'.symm, HBE.out⟩
end Mu
