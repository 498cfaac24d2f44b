/-
  muntinref14.Great, walked: it returns a bool; memory is as it was.
  Conditions: the program's bulk is at most 2^21.
-/
import Derived.Test.YteeekjidkjdpjaaMuSame
namespace Mu
open Go Go.RowKit Go.Proofs

/-- some bool comes back -/
def SomeBool (w : World) (e : Ending) (w' : World) : Prop := ∃ b, e = .returned (.bool b) ∧ Below w.heap.size w w'
/-- a slot holds some int -/
def IsInt (v : Value) : Prop := ∃ n : Int, v = .int .i64 n
theorem IsInt.mk (n : Int) : IsInt (.int .i64 n) := ⟨n, rfl⟩

set_option maxRecDepth 100000 in
set_option maxHeartbeats 4000000 in
theorem great_any (p : Prog) (w : World) (cs : List Value) (hR : tProg.R w w.heap.size cs p) (_ : tProg.bulk p ≤ 2097152) :
    Calls Try.prog 12 #[.agg cs.toArray] w (SomeBool w) := by
  obtain ⟨A, c, A', c', rfl, _, _, hF⟩ := tProg_R.1 hR
  have hpl := prog_funcs_le p
  have HF := Lib.hid hF
  have hb : Hid (Below (w.heap.size + 1) (w.alloc (.cells [.int .i64 p.heap, .slice A' p.threads.length c', .slice A p.funcs.length c].toArray 25)) (w.alloc (.cells [.int .i64 p.heap, .slice A' p.threads.length c', .slice A p.funcs.length c].toArray 25))) := Below.refl _ _
  have hbx := (boxed hb.out).2.1 2 _ rfl
  have hfar := (boxed hb.out).1
  have hfin := Lib.hid (boxed hb.out).2.2.2
  clear hR hF
  go_enter Try.func12, Try.ntmps12
  go_wp2
  go_loop [3, 4] (fun nv i => IsInt nv ∧ ∃ q : Nat, q ≤ p.funcs.length ∧ i = .int .i64 q) (fun _ i => p.funcs.length - (RowKit.intOf i).toNat)
  case atStart => exact ⟨IsInt.mk _, 0, Nat.zero_le _, rfl⟩
  case round =>
    obtain ⟨⟨nz, rfl⟩, q, hq, rfl⟩ := hrel
    by_cases hlt : q < p.funcs.length
    · by_cases h70 : q < 70
      · obtain ⟨fn, hfn⟩ : ∃ fn, p.funcs[q]? = some fn := ⟨_, List.getElem?_eq_getElem hlt⟩
        obtain ⟨b, o, Ab, cb, rfl, hbl, c0, c1, c2, c3, _, _, hwr, hBR⟩ := func_at HF.out hfn
        have hfb := prog_func_le (List.mem_of_getElem? hfn)
        have hbl' := func_blocks_le fn
        have HBR := Lib.hid hBR
        clear hfn hBR
        go_wp2_with fail
        all_goals try (go_ret; exact ⟨_, rfl, hfin.out⟩)
        go_loop [3, 5] (fun nv i => IsInt nv ∧ ∃ k : Nat, k ≤ fn.blocks.length ∧ i = .int .i64 k) (fun _ i => fn.blocks.length - (RowKit.intOf i).toNat)
        case atStart => exact ⟨IsInt.mk _, 0, Nat.zero_le _, rfl⟩
        case round =>
          obtain ⟨⟨nz2, rfl⟩, k, hk, rfl⟩ := hrel
          by_cases hlt2 : k < fn.blocks.length
          · by_cases h300 : k < 300
            · obtain ⟨x, hx⟩ : ∃ x, fn.blocks[k]? = some x := ⟨_, List.getElem?_eq_getElem hlt2⟩
              obtain ⟨bb, bo, Ai, ci, rfl, hbb, e0, e1, hnm, hIR⟩ := block_at HBR.out hx
              have hil := block_ins_le x
              have hxb := func_block_le (List.mem_of_getElem? hx)
              have HIR := Lib.hid hIR
              clear hx hIR
              go_wp2_with fail
              all_goals try (go_ret; exact ⟨_, rfl, hfin.out⟩)
              go_loop [3, 6] (fun nv i => IsInt nv ∧ ∃ j : Nat, j ≤ x.ins.length ∧ i = .int .i64 j) (fun _ i => x.ins.length - (RowKit.intOf i).toNat)
              case atStart => exact ⟨IsInt.mk _, 0, Nat.zero_le _, rfl⟩
              case round =>
                obtain ⟨⟨nz3, rfl⟩, j, hj, rfl⟩ := hrel
                by_cases hlt3 : j < x.ins.length
                · by_cases h300' : j < 300
                  · obtain ⟨y, hy⟩ : ∃ y, x.ins[j]? = some y := ⟨_, List.getElem?_eq_getElem hlt3⟩
                    obtain ⟨ib, io, Aa, ca, rfl, hib, _, _, _, _, _, _, c6, _, _, _⟩ := ins_at (HIR.out) hy
                    clear hy
                    go_wp2_with fail
                    go_round
                    case rel => exact ⟨IsInt.mk _, j + 1, by omega, by go_num⟩
                    case measure => simp [RowKit.intOf]; omega
                  · go_wp2_with fail
                    go_round
                    case rel => exact ⟨IsInt.mk _, k + 1, by omega, by go_num⟩
                    case measure => simp [RowKit.intOf]; omega
                · obtain rfl : j = x.ins.length := by omega
                  go_wp2_with fail
                  go_round
                  case rel => exact ⟨IsInt.mk _, k + 1, by omega, by go_num⟩
                  case measure => simp [RowKit.intOf]; omega
            · go_wp2_with fail
              all_goals try (go_ret; exact ⟨_, rfl, hfin.out⟩)
              all_goals
                go_round
                case rel => exact ⟨IsInt.mk _, q + 1, by omega, by go_num⟩
                case measure => simp [RowKit.intOf]; omega
          · obtain rfl : k = fn.blocks.length := by omega
            go_wp2_with fail
            all_goals try (go_ret; exact ⟨_, rfl, hfin.out⟩)
            all_goals
              go_round
              case rel => exact ⟨IsInt.mk _, q + 1, by omega, by go_num⟩
              case measure => simp [RowKit.intOf]; omega
      · go_wp2_with fail
        all_goals try (go_ret; exact ⟨_, rfl, hfin.out⟩)
    · go_wp2_with fail
      all_goals try (go_ret; exact ⟨_, rfl, hfin.out⟩)
end Mu
