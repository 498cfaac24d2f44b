/-
  muntinref20.has, walked: does a function call another one?
  Conditions: the program's bulk is at most 2^21.
-/
import Derived.Test.YteeekjidkjdpjaaMuBulk
import Derived.Test.YteeekjidkjdpjaaMuLib
import Derived.BigQuiet
import Derived.WalkSpells
namespace Mu
open Go Go.RowKit Go.Proofs

theorem has_yes {bs : List Block} {q j : Nat} {x : Block} {y : Ins} {k : Int} (hx : bs[q]? = some x) (hy : x.ins[j]? = some y) (h5 : y.op = 5) (hf : y.f = k) (hk : 0 ≤ k) : hasCall bs k.toNat = true := by
  simp only [hasCall, hasIns, List.any_eq_true, Bool.and_eq_true, beq_iff_eq]
  exact ⟨x, List.mem_of_getElem? hx, y, List.mem_of_getElem? hy, h5, by omega⟩
theorem has_skip {l : List Ins} {j : Nat} {y : Ins} {k : Int} (hy : l[j]? = some y) (h : hasIns k.toNat (l.take j) = false) (hn : y.op ≠ 5 ∨ (0 ≤ k ∧ y.f ≠ k)) : Hid (hasIns k.toNat (l.take (j + 1)) = false) := by
  show hasIns _ _ = _
  unfold hasIns at h ⊢
  rw [List.take_add_one, hy, List.any_append, h]
  simp only [Option.toList_some, List.any_cons, List.any_nil, Bool.or_false, Bool.false_or, Bool.and_eq_false_iff, beq_eq_false_iff_ne]
  rcases hn with h | ⟨h0, h⟩
  · exact .inl h
  · exact .inr (by omega)
theorem has_next {bs : List Block} {q : Nat} {x : Block} {k : Nat} (hx : bs[q]? = some x) (h : hasCall (bs.take q) k = false) (hn : hasIns k x.ins = false) : Hid (hasCall (bs.take (q + 1)) k = false) := by
  show hasCall _ _ = _
  unfold hasCall at h ⊢
  rw [List.take_add_one, hx, List.any_append, h]
  simp [hn]

set_option maxRecDepth 100000 in
set_option maxHeartbeats 1000000 in
theorem ref_has (p : Prog) (f k : Int) (fn : Func) (w : World) (cs : List Value) (hf : 0 ≤ f) (hk : 0 ≤ k) (hfn : p.funcs[f.toNat]? = some fn) (hR : tProg.R w w.heap.size cs p) (hsm : tProg.bulk p ≤ 2097152) :
    Calls Try.prog 42 #[.agg cs.toArray, .int .i64 f, .int .i64 k] w fun e w' => e = .returned (.bool (hasCall fn.blocks k.toNat)) ∧ Below w.heap.size w w' := by
  obtain ⟨A, c, A', c', rfl, _, _, hF⟩ := tProg_R.1 hR
  have hfl : f.toNat < p.funcs.length := (List.getElem?_eq_some_iff.1 hfn).1
  have hfb := prog_func_le (List.mem_of_getElem? hfn)
  have hpl := prog_funcs_le p
  have hbl := func_blocks_le fn
  obtain ⟨b, o, Ab, cb, rfl, hb, _, _, _, hcb, _, _, _, hBR⟩ := func_at hF hfn
  have hflt : f < (p.funcs.length : Int) := by omega
  have HBR := Lib.hid hBR
  have HFN := Lib.hid hfn
  clear hR hF hfn hBR
  go_enter Try.func42, Try.ntmps42
  go_wp2
  go_loopw [7] (fun i wr => ∃ q : Nat, q ≤ fn.blocks.length ∧ i = .int .i64 q ∧ Hid (hasCall (fn.blocks.take q) k.toNat = false) ∧ Below (w.heap.size + 1) (w.alloc (.cells [.int .i64 p.heap, .slice A' p.threads.length c', .slice (some ⟨b, o, none⟩) p.funcs.length c].toArray 25)) wr) (fun i _ => fn.blocks.length - (RowKit.intOf i).toNat)
  case atStart => exact ⟨0, Nat.zero_le _, rfl, rfl, Below.refl _ _⟩
  case round =>
    obtain ⟨q, hq, rfl, hno, hbe⟩ := hrel
    obtain ⟨hfar, hbox, hlt, _⟩ := boxed hbe
    have hb2 := hbox 2 _ rfl
    have HBE := Lib.hid hbe
    clear hbe hbox
    by_cases hlt : q < fn.blocks.length
    · obtain ⟨x, hx⟩ : ∃ x, fn.blocks[q]? = some x := ⟨_, List.getElem?_eq_getElem hlt⟩
      obtain ⟨bb, bo, Ai, ci, rfl, hbb, _, hc1, _, hIR⟩ := block_at HBR.out hx
      have hil := block_ins_le x
      have hxb := func_block_le (List.mem_of_getElem? hx)
      have HX := Lib.hid hx
      have HIR := Lib.hid hIR
      clear hx hIR
      go_wp2
      obtain ⟨wo, rfl⟩ : ∃ wo : World, wo = wr := ⟨_, rfl⟩
      clear hfar hb2
      go_loopw [8] (fun i wr => ∃ j : Nat, j ≤ x.ins.length ∧ i = .int .i64 j ∧ Hid (hasIns k.toNat (x.ins.take j) = false) ∧ Below (w.heap.size + 1) (w.alloc (.cells [.int .i64 p.heap, .slice A' p.threads.length c', .slice (some ⟨b, o, none⟩) p.funcs.length c].toArray 25)) wr) (fun i _ => x.ins.length - (RowKit.intOf i).toNat)
      case atStart => exact ⟨0, Nat.zero_le _, rfl, rfl, HBE.out⟩
      case round =>
        obtain ⟨j, hj, rfl, hno2, hbe⟩ := hrel
        obtain ⟨hfar, hbox, hlt0, _⟩ := boxed hbe
        have hb2 := hbox 2 _ rfl
        have HBE2 := Lib.hid hbe
        clear hbe hbox
        by_cases hlt2 : j < x.ins.length
        · obtain ⟨y, hy⟩ : ∃ y, x.ins[j]? = some y := ⟨_, List.getElem?_eq_getElem hlt2⟩
          obtain ⟨ib, io, Aa, ca, rfl, hib, e0, e1, e2, e3, e4, e5, e6, e7, e8, _⟩ := ins_at (HIR.out) hy
          have HY := Lib.hid hy
          clear hy
          by_cases h5 : y.op = 5
          · by_cases hfk : y.f = k
            · have d5 : (y.op == 5) = true := by simp [h5]
              have dk : (y.f == k) = true := by simp [hfk]
              have HFK := Lib.hid hfk
              have H5 := Lib.hid h5
              clear h5 hfk
              go_wp2
              go_ret
              exact ⟨ret_bool (has_yes HX.out HY.out H5.out HFK.out hk).symm, ((boxed HBE2.out).2.2.2).alloc (by omega) _⟩
            · have d5 : (y.op == 5) = true := by simp [h5]
              have dk : (y.f == k) = false := by simp [hfk]
              have HFK := Lib.hid hfk
              clear h5 hfk
              go_wp2
              go_roundw
              case rel => exact ⟨j + 1, by omega, by go_num, has_skip HY.out hno2.out (.inr ⟨hk, HFK.out⟩), HBE2.out.alloc (by omega) _⟩
              case measure => simp [RowKit.intOf]; omega
          · have d5 : (y.op == 5) = false := by simp [h5]
            have H5 := Lib.hid h5
            clear h5
            go_wp2
            go_roundw
            case rel => exact ⟨j + 1, by omega, by go_num, has_skip HY.out hno2.out (.inl H5.out), HBE2.out.alloc (by omega) _⟩
            case measure => simp [RowKit.intOf]; omega
        · obtain rfl : j = x.ins.length := by omega
          go_wp2
          go_roundw
          case rel => exact ⟨q + 1, by omega, by go_num, has_next HX.out hno.out (by have := hno2.out; rwa [List.take_length] at this), HBE2.out⟩
          case measure => simp [RowKit.intOf]; omega
    · obtain rfl : q = fn.blocks.length := by omega
      go_wp2
      go_ret
      have hno' := hno.out
      rw [List.take_length] at hno'
      exact ⟨ret_bool hno'.symm, (boxed HBE.out).2.2.2⟩
end Mu
