/-
  calls.Leaf and muntinref20.Leaf, walked.
  Conditions: the function's bulk is at most 2^21.
-/
import Derived.Test.YteeekjidkjdpjaaMuSame
import Derived.Test.YteeekjidkjdpjaaMuHas
namespace Mu
open Go Go.RowKit Go.Proofs

def loud (x : Ins) : Bool := x.op == 5 || x.op == 7
def loudIns (l : List Ins) : Bool := l.any loud
def leaf (bs : List Block) : Bool := !(bs.any fun b => loudIns b.ins)

theorem loud_skip {l : List Ins} {j : Nat} {y : Ins} (hy : l[j]? = some y) (h : loudIns (l.take j) = false) (hn : loud y = false) : Hid (loudIns (l.take (j + 1)) = false) := by
  show loudIns _ = _
  unfold loudIns at h ⊢
  rw [List.take_add_one, hy, List.any_append, h]
  simp [hn]
theorem loud_yes {l : List Ins} {j : Nat} {y : Ins} (hy : l[j]? = some y) (hn : loud y = true) : loudIns l = true := by
  unfold loudIns
  rw [List.any_eq_true]
  exact ⟨y, List.mem_of_getElem? hy, hn⟩
theorem leaf_next {bs : List Block} {q : Nat} {x : Block} (hx : bs[q]? = some x) (h : leaf (bs.take q) = true) (hn : loudIns x.ins = false) : Hid (leaf (bs.take (q + 1)) = true) := by
  show leaf _ = _
  unfold leaf at h ⊢
  rw [List.take_add_one, hx, List.any_append]
  simp only [Bool.not_eq_true'] at h ⊢
  rw [h]
  simp [hn]
theorem leaf_no {bs : List Block} {q : Nat} {x : Block} (hx : bs[q]? = some x) (hn : loudIns x.ins = true) : leaf bs = false := by
  unfold leaf
  simp only [Bool.not_eq_false', List.any_eq_true]
  exact ⟨x, List.mem_of_getElem? hx, hn⟩

set_option maxRecDepth 100000 in
set_option maxHeartbeats 1000000 in
theorem ref_leaf (fn : Func) (w : World) (cs : List Value) (hR : tFunc.R w w.heap.size cs fn) (hsm : tFunc.bulk fn ≤ 2097152) :
    Calls Try.prog 15 #[.agg cs.toArray] w fun e w' => e = .returned (.bool (leaf fn.blocks)) ∧ Below w.heap.size w w' := by
  obtain ⟨A, c, rfl, _, _, _, hBR⟩ := tFunc_R.1 hR
  have hbl := func_blocks_le fn
  have HBR := Lib.hid hBR
  clear hR hBR
  go_enter Try.func15, Try.ntmps15
  go_wp2
  go_loopw [3] (fun i wr => ∃ q : Nat, q ≤ fn.blocks.length ∧ i = .int .i64 q ∧ Hid (leaf (fn.blocks.take q) = true) ∧ Below (w.heap.size + 1) (w.alloc (.cells [.string fn.name, .int .i64 fn.args, .int .i64 fn.regs, .slice A fn.blocks.length c].toArray 31)) wr) (fun i _ => fn.blocks.length - (RowKit.intOf i).toNat)
  case atStart => exact ⟨0, Nat.zero_le _, rfl, rfl, Below.refl _ _⟩
  case round =>
    obtain ⟨q, hq, rfl, hno, hbe⟩ := hrel
    obtain ⟨hfar, hbox, _, _⟩ := boxed hbe
    have hb3 := hbox 3 _ rfl
    have HBE := Lib.hid hbe
    clear hbe hbox
    by_cases hlt : q < fn.blocks.length
    · obtain ⟨x, hx⟩ : ∃ x, fn.blocks[q]? = some x := ⟨_, List.getElem?_eq_getElem hlt⟩
      obtain ⟨bb, bo, Ai, ci, rfl, hbb, _, hc1, _, hIR⟩ := block_at HBR.out hx
      have hil := block_ins_le x
      have hxb := func_block_le (List.mem_of_getElem? hx)
      have HX := Lib.hid hx
      have HIR := Lib.hid hIR
      clear hx hIR
      go_wp2
      obtain ⟨wo, rfl⟩ : ∃ wo : World, wo = wr := ⟨_, rfl⟩
      clear hfar hb3
      go_loopw [4] (fun i wr => ∃ j : Nat, j ≤ x.ins.length ∧ i = .int .i64 j ∧ Hid (loudIns (x.ins.take j) = false) ∧ Below (w.heap.size + 1) (w.alloc (.cells [.string fn.name, .int .i64 fn.args, .int .i64 fn.regs, .slice (some ⟨bb, bo, none⟩) fn.blocks.length c].toArray 31)) wr) (fun i _ => x.ins.length - (RowKit.intOf i).toNat)
      case atStart => exact ⟨0, Nat.zero_le _, rfl, rfl, HBE.out⟩
      case round =>
        obtain ⟨j, hj, rfl, hno2, hbe⟩ := hrel
        obtain ⟨hfar, hbox, hlt0, _⟩ := boxed hbe
        have hb3 := hbox 3 _ rfl
        have HBE2 := Lib.hid hbe
        clear hbe hbox
        by_cases hlt2 : j < x.ins.length
        · obtain ⟨y, hy⟩ : ∃ y, x.ins[j]? = some y := ⟨_, List.getElem?_eq_getElem hlt2⟩
          obtain ⟨ib, io, Aa, ca, rfl, hib, e0, _⟩ := ins_at (HIR.out) hy
          have HY := Lib.hid hy
          clear hy
          by_cases h5 : y.op = 5
          · have d5 : (y.op == 5) = true := by simp [h5]
            have HL : Hid (loud y = true) := by simp [Hid, loud, h5]
            clear h5
            go_wp2
            go_ret
            exact ⟨ret_bool (leaf_no HX.out (loud_yes HY.out HL.out)).symm, (boxed HBE2.out).2.2.2⟩
          · have d5 : (y.op == 5) = false := by simp [h5]
            by_cases h7 : y.op = 7
            · have d7 : (y.op == 7) = true := by simp [h7]
              have HL : Hid (loud y = true) := by simp [Hid, loud, h7]
              clear h5 h7
              go_wp2
              go_ret
              exact ⟨ret_bool (leaf_no HX.out (loud_yes HY.out HL.out)).symm, (boxed HBE2.out).2.2.2⟩
            · have d7 : (y.op == 7) = false := by simp [h7]
              have HL : Hid (loud y = false) := by simp [Hid, loud, h5, h7]
              clear h5 h7
              go_wp2
              go_roundw
              case rel => exact ⟨j + 1, by omega, by go_num, loud_skip HY.out hno2.out HL.out, HBE2.out⟩
              case measure => simp [RowKit.intOf]; omega
        · obtain rfl : j = x.ins.length := by omega
          go_wp2
          go_roundw
          case rel => exact ⟨q + 1, by omega, by go_num, leaf_next HX.out hno.out (by have := hno2.out; rwa [List.take_length] at this), HBE2.out⟩
          case measure => simp [RowKit.intOf]; omega
    · obtain rfl : q = fn.blocks.length := by omega
      go_wp2
      go_ret
      have hno' := hno.out
      rw [List.take_length] at hno'
      exact ⟨ret_bool hno'.symm, (boxed HBE.out).2.2.2⟩

/-! ### the program's own -/
set_option maxRecDepth 100000 in
set_option maxHeartbeats 1000000 in
theorem leaf_test (y : Ins) (w : World) (cs : List Value) (hR : tIns.R w w.heap.size cs y) :
    Calls Try.prog 39 #[.agg cs.toArray] w fun e w' => e = .returned (.bool (loud y)) ∧ Below w.heap.size w w' := by
  obtain ⟨A, c, hI⟩ := tIns_R.1 hR
  obtain rfl := hI.cs
  clear hR hI
  have hB : Hid (Below w.heap.size w (w.alloc (.cells [.int .u8 y.op, .int .i64 y.d, .int .i64 y.a, .int .i64 y.b, .int .u32 y.n, .int .i64 y.f, .slice A y.args.length c, .int .i64 y.l1, .int .i64 y.l2].toArray 39))) := (Below.refl _ _).alloc (Nat.le_refl _) _
  by_cases h5 : y.op = 5
  · have d5 : (y.op == 5) = true := by simp [h5]
    have HL : Hid (loud y = true) := by simp [Hid, loud, h5]
    clear h5
    go_enter Try.func39, Try.ntmps39
    go_wp2
    go_ret
    exact ⟨ret_bool HL.out.symm, hB.out⟩
  · have d5 : (y.op == 5) = false := by simp [h5]
    by_cases h7 : y.op = 7
    · have d7 : (y.op == 7) = true := by simp [h7]
      have HL : Hid (loud y = true) := by simp [Hid, loud, h7]
      clear h5 h7
      go_enter Try.func39, Try.ntmps39
      go_wp2
      go_ret
      exact ⟨ret_bool HL.out.symm, hB.out⟩
    · have d7 : (y.op == 7) = false := by simp [h7]
      have HL : Hid (loud y = false) := by simp [Hid, loud, h5, h7]
      clear h5 h7
      go_enter Try.func39, Try.ntmps39
      go_wp2
      go_ret
      exact ⟨ret_bool HL.out.symm, hB.out⟩

/-- where the search ends -/
def IdxPost (w : World) (b : Bool) (e : Ending) (w' : World) : Prop := ∃ z : Int, e = .returned (.int .i64 z) ∧ decide (0 ≤ z) = b ∧ Below w.heap.size w w'

set_option maxRecDepth 100000 in
set_option maxHeartbeats 1000000 in
theorem leaf_index (l : List Ins) (va : Value) (w : World) (hR : tIns.slice.R w w.heap.size [va] l) (hl : l.length ≤ 2097152) :
    Calls Try.prog 64 #[va, .func (.func 39) #[] #[]] w (IdxPost w (loudIns l)) := by
  obtain ⟨A, c, rfl⟩ := slice_form hR
  have HR := Lib.hid hR
  clear hR
  go_enter Try.func64, Try.ntmps64
  go_wp2_with fail
  go_loopw [8] (fun i wr => ∃ j : Nat, j ≤ l.length ∧ i = .int .i64 j ∧ Hid (loudIns (l.take j) = false) ∧ Below w.heap.size w wr) (fun i _ => l.length - (RowKit.intOf i).toNat)
  case atStart => exact ⟨0, Nat.zero_le _, rfl, rfl, Below.refl _ _⟩
  case round =>
    obtain ⟨j, hj, rfl, hno, hbe⟩ := hrel
    have hfar := far hbe
    have HBE := Lib.hid hbe
    clear hbe
    by_cases hlt : j < l.length
    · obtain ⟨y, hy⟩ : ∃ y, l[j]? = some y := ⟨_, List.getElem?_eq_getElem hlt⟩
      obtain ⟨ib, io, Aa, ca, rfl, hib, e0, e1, e2, e3, e4, e5, e6, e7, e8, hraw⟩ := ins_at (HR.out) hy
      have hRw : tIns.R wr wr.heap.size [.int .u8 y.op, .int .i64 y.d, .int .i64 y.a, .int .i64 y.b, .int .u32 y.n, .int .i64 y.f, .slice Aa y.args.length ca, .int .i64 y.l1, .int .i64 y.l2] y :=
        Ty.below (tIns_R.2 ⟨_, _, hraw⟩) HBE.out HBE.out.size
      have HY := Lib.hid hy
      have HRW := Lib.hid hRw
      clear hy hraw hRw
      by_cases hL : loud y = true
      · have HL := Lib.hid hL
        clear hL
        go_wp2_with fail
        refine (leaf_test y _ _ HRW.out).mono ?_
        rintro e w1 ⟨rfl, hb1⟩
        rw [HL.out]
        have HB1 := Lib.hid hb1
        clear hb1
        go_wp2_with fail
        go_ret
        exact ⟨_, rfl, by rw [loud_yes HY.out HL.out]; simp, HBE.out.trans (HB1.out.mono HBE.out.size)⟩
      · have hL' : loud y = false := by simpa using hL
        have HL := Lib.hid hL'
        clear hL hL'
        go_wp2_with fail
        refine (leaf_test y _ _ HRW.out).mono ?_
        rintro e w1 ⟨rfl, hb1⟩
        rw [HL.out]
        have HB1 := Lib.hid hb1
        clear hb1
        go_wp2_with fail
        go_roundw
        case rel => exact ⟨j + 1, by omega, by go_num, loud_skip HY.out hno.out HL.out, HBE.out.trans (HB1.out.mono HBE.out.size)⟩
        case measure => simp [RowKit.intOf]; omega
    · obtain rfl : j = l.length := by omega
      go_wp2_with fail
      go_ret
      have hno' := hno.out
      rw [List.take_length] at hno'
      exact ⟨_, rfl, by rw [hno']; simp, HBE.out⟩
end Mu
