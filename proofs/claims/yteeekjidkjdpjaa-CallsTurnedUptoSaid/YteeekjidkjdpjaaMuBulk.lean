/-
  How much there may be of each part, by the whole's bulk; and what a world keeps of what was boxed.
  Conditions: none.
-/
import Derived.Test.YteeekjidkjdpjaaMuAt
import Derived.Test.YteeekjidkjdpjaaMuCallsP
import Derived.Deep.Draws
namespace Mu
open Go Go.RowKit

theorem one_int (x : Int) : 1 ≤ tInt.bulk x := Nat.le_refl _
theorem one_ins (x : Ins) : 1 ≤ tIns.bulk x := by simp only [tIns, Ty.via]; omega
theorem one_block (x : Block) : 1 ≤ tBlock.bulk x := by simp only [tBlock, Ty.via]; omega
theorem one_func (x : Func) : 1 ≤ tFunc.bulk x := by simp only [tFunc, Ty.via]; omega

theorem bulk_prog (p : Prog) : tProg.bulk p = bulkL tInt.bulk p.threads + bulkL tFunc.bulk p.funcs + 4 := by
  simp only [tProg, Ty.via, Ty.cons, Ty.slice, tInt, Ty.int, Ty.none_]; omega
theorem bulk_func (p : Func) : tFunc.bulk p = p.name.size + bulkL tBlock.bulk p.blocks + 5 := by
  simp only [tFunc, Ty.via, Ty.cons, Ty.slice, tInt, Ty.int, Ty.none_, Ty.str]; omega
theorem bulk_block (p : Block) : tBlock.bulk p = p.name.size + bulkL tIns.bulk p.ins + 3 := by
  simp only [tBlock, Ty.via, Ty.cons, Ty.slice, Ty.none_, Ty.str]; omega
theorem bulk_ins (p : Ins) : tIns.bulk p = bulkL tInt.bulk p.args + 10 := by
  simp only [tIns, Ty.via, Ty.cons, Ty.slice, tInt, Ty.int, Ty.none_]; omega

theorem prog_funcs_le (p : Prog) : p.funcs.length ≤ tProg.bulk p := by
  have := bulkL_length one_func p.funcs
  rw [bulk_prog]; omega
theorem prog_threads_le (p : Prog) : p.threads.length ≤ tProg.bulk p := by
  have := bulkL_length one_int p.threads
  rw [bulk_prog]; omega
theorem prog_func_le {p : Prog} {fn : Func} (h : fn ∈ p.funcs) : tFunc.bulk fn ≤ tProg.bulk p := by
  have := bulkL_mem (f := tFunc.bulk) h
  rw [bulk_prog]; omega
theorem func_blocks_le (p : Func) : p.blocks.length ≤ tFunc.bulk p := by
  have := bulkL_length one_block p.blocks
  rw [bulk_func]; omega
theorem func_block_le {p : Func} {b : Block} (h : b ∈ p.blocks) : tBlock.bulk b ≤ tFunc.bulk p := by
  have := bulkL_mem (f := tBlock.bulk) h
  rw [bulk_func]; omega
theorem block_ins_le (p : Block) : p.ins.length ≤ tBlock.bulk p := by
  have := bulkL_length one_ins p.ins
  rw [bulk_block]; omega
theorem block_in_le {p : Block} {x : Ins} (h : x ∈ p.ins) : tIns.bulk x ≤ tBlock.bulk p := by
  have := bulkL_mem (f := tIns.bulk) h
  rw [bulk_block]; omega
theorem ins_args_le (p : Ins) : p.args.length ≤ tIns.bulk p := by
  have := bulkL_length one_int p.args
  rw [bulk_ins]; omega
theorem rawIns_le (n : Nat) (l : List Ins) : (rawIns n l).length ≤ l.length := by
  unfold rawIns
  rw [List.length_map]
  exact List.length_filter_le _ _
theorem raw_le_bulk (n : Nat) (bs : List Block) : (raw n bs).length ≤ bulkL tBlock.bulk bs := by
  induction bs with
  | nil => simp [raw, bulkL]
  | cons b bs ih =>
    have h1 := rawIns_le n b.ins
    have h2 := block_ins_le b
    simp only [raw, List.flatMap_cons, List.length_append, bulkL] at ih ⊢
    omega
theorem raw_le (n : Nat) (p : Func) : (raw n p.blocks).length ≤ tFunc.bulk p := by
  have := raw_le_bulk n p.blocks
  rw [bulk_func]; omega

theorem bdrew {B : Nat} {a w : World} (h : Below B a w) (n : Nat) : Below B a (w.drewN n) := ⟨h.os, h.tape, h.output, h.size, h.block⟩
theorem ret_bool {a b : Bool} (h : a = b) : Ending.returned (.bool a) = .returned (.bool b) := by rw [h]
theorem ret_int {k : IntKind} {a b : Int} (h : a = b) : Ending.returned (.int k a) = .returned (.int k b) := by rw [h]

/-- what stays readable behind a box -/
theorem boxed {w wr : World} {cs : List Value} {T : TypeId} (h : Below (w.heap.size + 1) (w.alloc (.cells cs.toArray T)) wr) :
    (∀ a : Addr, a.block < w.heap.size → wr.cell? a = w.cell? a) ∧ (∀ j v, cs[j]? = some v → wr.cell? ⟨w.heap.size, j, none⟩ = some v) ∧ w.heap.size < wr.heap.size ∧ Below w.heap.size w wr := by
  have h0 : Below w.heap.size w (w.alloc (.cells cs.toArray T)) := (Below.refl _ _).alloc (Nat.le_refl _) _
  have hb : Below w.heap.size w wr := h0.trans (h.mono (by omega))
  refine ⟨fun a ha => hb.cell ha, fun j v hv => ?_, ?_, hb⟩
  · rw [h.cell (p := ⟨w.heap.size, j, none⟩) (by show w.heap.size < _; omega)]
    have e := cell_of_row _ _ j _ _ _ (heap_alloc_new w (.cells cs.toArray T))
    rw [e]
    simpa using hv
  · have h1 : (w.alloc (.cells cs.toArray T)).heap.size = w.heap.size + 1 := by simp
    have := h.size
    omega
end Mu
